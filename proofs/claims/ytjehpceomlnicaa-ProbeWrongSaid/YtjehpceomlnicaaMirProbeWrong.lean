/-
Plain functions that the functions of the program are shown to come to, printed by a program of the prover; each with its proof.
Conditions: none.
-/
import Derived.Test.YtjehpceomlnicaaProg
import Derived.Test.YtjehpceomlnicaaEngX
import Derived.KernelRfl
set_option linter.unusedVariables false
namespace Go.Proofs.Ytjehpceomlnicaa.Eng
def TT : Types := [(22, ⟨.slice 27, 1, 24, .nils, some (.sl (.stru (.fcons (.str) (.fcons (.str) (.fcons (.str) (.fnil)))))), false⟩),
  (4, ⟨.bool, 1, 1, .bool false, some (.bool), false⟩),
  (28, ⟨.stru [(9, 0), (9, 1), (9, 2)], 3, 48, .node (.fcons (.str ⟨#[]⟩) (.fcons (.str ⟨#[]⟩) (.fcons (.str ⟨#[]⟩) (.fnil)))), some (.stru (.fcons (.str) (.fcons (.str) (.fcons (.str) (.fnil))))), true⟩),
  (9, ⟨.str, 1, 16, .str ⟨#[]⟩, some (.str), false⟩),
  (24, ⟨.slice 28, 1, 24, .nils, some (.sl (.stru (.fcons (.str) (.fcons (.str) (.fcons (.str) (.fnil)))))), false⟩),
  (25, ⟨.slice 9, 1, 24, .nils, some (.sl (.str)), false⟩),
  (3, ⟨.int .i64, 1, 8, .int .i64 0, some (.int .i64), false⟩),
  (27, ⟨.stru [(9, 0), (9, 1), (9, 2)], 3, 48, .node (.fcons (.str ⟨#[]⟩) (.fcons (.str ⟨#[]⟩) (.fcons (.str ⟨#[]⟩) (.fnil)))), some (.stru (.fcons (.str) (.fcons (.str) (.fcons (.str) (.fnil))))), true⟩)]
theorem tyok : TyOk Try.prog TT := TyOk.of (by kernel_rfl)
theorem mixed : Try.prog.follows .mixedOrders = true := by kernel_rfl
def E0 {R : Type} (N : Nat) : Env R := Env.base (fun f => memN [20] f)
theorem eok0 {R : Type} (N : Nat) : EOK Try.prog (E0 (R := R) N) := EOK.base _
def ap_20 : List Pat := [.node (.fcons (.str) (.fcons (.str) (.fcons (.str) (.fnil))))]
def hp_20 : List (Option (Pat × Nat)) := []
def p_20 {R : Type} (N : Nat) (x : aden ap_20 × hden hp_20) (κ0 : (Pat.den (.bool)) → Option R) : Option R :=
let s8 : ByteArray := x.1.1.1
let s9 : ByteArray := x.1.1.2.1
let s10 : ByteArray := x.1.1.2.2.1
κ0 ((eqS s9 s10))

def L_20 {R : Type} (N : Nat) : Loops R := Loops.none
theorem lok_20 {R : Type} (N : Nat) : LOK 0 TT (E0 (R := R) N) (drawOk TT (E0 (R := R) N).q) (L_20 N) (bodyOf Try.f20) := loops_nil (by kernel_rfl)
theorem run_20 {R : Type} (N : Nat) (x : aden ap_20 × hden hp_20) (k : KF R) : fnrun TT (E0 (R := R) N) (drawOk TT (E0 (R := R) N).q) (L_20 N) true Try.f20 (instA ap_20 x.1) (instH hp_20 x.2) k = p_20 N x (fun y => k (Pat.inst (.bool) y) (instH hp_20 x.2)) := by kernel_rfl
theorem good_20 {R : Type} (N : Nat) : Good (X := R) Try.prog (E0 (R := R) N).q 20 ap_20 hp_20 (fun x k => p_20 N x (fun y => k (Pat.inst (.bool) y) (instH hp_20 x.2))) :=
  good_quiet (p := fun x κ => p_20 N x (fun y => κ (Pat.inst (.bool) y))) mixed tyok (eok0 N) Try.func20 (by kernel_rfl) (by kernel_rfl) (lok_20 N) (fun x k => run_20 N x k)
def E1 {R : Type} (N : Nat) : Env R := (E0 N).add 20 ap_20 hp_20 (fun x k => p_20 N x (fun y => k (Pat.inst (.bool) y) (instH hp_20 x.2)))
theorem eok1 {R : Type} (N : Nat) : EOK Try.prog (E1 (R := R) N) := EOK.add (eok0 N) (good_20 N)

def lv_21_3 : Live := [(3, some (.str, 9)), (6, none), (7, none), (8, none)]
def pt_21_3 : SPat := ⟨[(3, .sl 1), (6, .sl 0), (7, .int .i64), (8, .int .i64)], [some (.lst (.stru (.fcons (.str) (.fcons (.str) (.fcons (.str) (.fnil))))), 28), some (.lst (.str), 9)]⟩
def px_21_3_0 : SPat := ⟨[(3, .sl 1)], [some (.lst (.stru (.fcons (.str) (.fcons (.str) (.fcons (.str) (.fnil))))), 28), some (.lst (.str), 9)]⟩
def lo_21_3 : Exit → Live
  | .exit 0 => [(3, none)]
  | _ => []
def B_21_3 {R : Type} (N : Nat) (rec : pt_21_3.den → Option R) (x : pt_21_3.den) (κ0 : px_21_3_0.den → Option R) : Option R :=
let i17 : Int := x.1.2.2.1
let i18 : Int := x.1.2.2.2.1
let l19 : (List (Sch.den (.stru (.fcons (.str) (.fcons (.str) (.fcons (.str) (.fnil))))))) := x.2.1
let l20 : (List (Sch.den (.str))) := x.2.2.1
bif (decide (i18 < i17)) then (
bif decide (0 ≤ i18) then (
bif decide (i18 < ((List.length l19) : Int)) then (
p_20 N ((((List.getD l19 ((Int.toNat i18)) (Sch.zero (.stru (.fcons (.str) (.fcons (.str) (.fcons (.str) (.fnil))))))).1, ((List.getD l19 ((Int.toNat i18)) (Sch.zero (.stru (.fcons (.str) (.fcons (.str) (.fcons (.str) (.fnil))))))).2.1, ((List.getD l19 ((Int.toNat i18)) (Sch.zero (.stru (.fcons (.str) (.fcons (.str) (.fcons (.str) (.fnil))))))).2.2.1, ()))), ()), ()) (fun y21 =>
let b22 : Bool := y21
bif (!b22) then (
let s23 : ByteArray := (List.getD l19 ((Int.toNat i18)) (Sch.zero (.stru (.fcons (.str) (.fcons (.str) (.fcons (.str) (.fnil))))))).1
let l24 : (List (Sch.den (.str))) := [s23]
bif (decide ((List.length l20 + List.length l24) * 16 ≤ 140737488355328) && true) then (
let l25 : (List (Sch.den (.str))) := (l20 ++ l24)
let i26 : Int := addA .i64 i18 1
rec (((), (), i17, i26, ()), (l19, l25, ()))) else none) else (
let i27 : Int := addA .i64 i18 1
rec (((), (), i17, i27, ()), (l19, l20, ()))))) else none) else none) else (
κ0 (((), ()), (l19, l20, ())))
def l_21_3 {R : Type} (N : Nat) : Nat → pt_21_3.den → (px_21_3_0.den → Option R) → Option R
  | 0, _, _ => none
  | n + 1, x, κ0 => B_21_3 N (fun y => l_21_3 N n y κ0) x κ0
def ap_21 : List Pat := [.sl 0]
def hp_21 : List (Option (Pat × Nat)) := [some (.lst (.stru (.fcons (.str) (.fcons (.str) (.fcons (.str) (.fnil))))), 28)]
def p_21 {R : Type} (N : Nat) (x : aden ap_21 × hden hp_21) (κ0 : (Pat.den (.ros (.str)) × hden [some (.lst (.stru (.fcons (.str) (.fcons (.str) (.fcons (.str) (.fnil))))), 28)]) → Option R) : Option R :=
let l3 : (List (Sch.den (.stru (.fcons (.str) (.fcons (.str) (.fcons (.str) (.fnil))))))) := x.2.1
let i4 : Int := (((List.length l3) : Nat) : Int)
l_21_3 N N (((), (), i4, 0, ()), (l3, [], ())) (fun y28 =>
let l29 : (List (Sch.den (.stru (.fcons (.str) (.fcons (.str) (.fcons (.str) (.fnil))))))) := y28.2.1
let l30 : (List (Sch.den (.str))) := y28.2.2.1
κ0 (l30, (l29, ())))

def L_21 {R : Type} (N : Nat) : Loops R := (Loops.none).add 3 (loopBy 1 lv_21_3 pt_21_3 (fun x k => l_21_3 N N x (fun y => k (.exit 0) (px_21_3_0.inst y))))
theorem step_21_3 {R : Type} (N n : Nat) (x : pt_21_3.den) (k : Exit → St → Option R) : iter 1 lv_21_3 lo_21_3 (aexec TT (E1 (R := R) N) (drawOk TT (E1 (R := R) N).q) (L_21 N) (loopAt 3 (bodyOf Try.f21))) (n + 1) (pt_21_3.inst x) k = B_21_3 N (fun y => iter 1 lv_21_3 lo_21_3 (aexec TT (E1 (R := R) N) (drawOk TT (E1 (R := R) N).q) (L_21 N) (loopAt 3 (bodyOf Try.f21))) n (pt_21_3.inst y) k) x (fun y => k (.exit 0) (px_21_3_0.inst y)) := by kernel_rfl
theorem eq_21_3 {R : Type} (N : Nat) : ∀ (n : Nat) (x : pt_21_3.den) (k : Exit → St → Option R), iter 1 lv_21_3 lo_21_3 (aexec TT (E1 (R := R) N) (drawOk TT (E1 (R := R) N).q) (L_21 N) (loopAt 3 (bodyOf Try.f21))) n (pt_21_3.inst x) k = l_21_3 N n x (fun y => k (.exit 0) (px_21_3_0.inst y)) :=
  iter_eq (K := Exit → St → Option R) (ks := fun k => k) (l := fun n x k => l_21_3 N n x (fun y => k (.exit 0) (px_21_3_0.inst y))) (B := fun rec x k => B_21_3 N rec x (fun y => k (.exit 0) (px_21_3_0.inst y))) (fun _ _ => rfl) (fun _ _ _ => rfl) (fun n x k => step_21_3 N n x k)
theorem rounds_21_3 {R : Type} (N : Nat) : Rounds 1 TT (E1 (R := R) N) (drawOk TT (E1 (R := R) N).q) (L_21 N) 3 (loopAt 3 (bodyOf Try.f21)) :=
  rounds_of (p := pt_21_3) (l := fun x k => l_21_3 N N x (fun y => k (.exit 0) (px_21_3_0.inst y))) (fun s k => rfl) (fun x k => eq_21_3 N N x k)
theorem loops_21 : loopsIn (bodyOf Try.f21) = [(3, loopAt 3 (bodyOf Try.f21))] := by kernel_rfl
theorem lok_21 {R : Type} (N : Nat) : LOK 1 TT (E1 (R := R) N) (drawOk TT (E1 (R := R) N).q) (L_21 N) (bodyOf Try.f21) := loops_all loops_21 (by
  simp only [List.forall_mem_cons, List.not_mem_nil, false_implies, implies_true, and_true]
  exact rounds_21_3 N)
theorem run_21 {R : Type} (N : Nat) (x : aden ap_21 × hden hp_21) (k : KF R) : fnrun TT (E1 (R := R) N) (drawOk TT (E1 (R := R) N).q) (L_21 N) true Try.f21 (instA ap_21 x.1) (instH hp_21 x.2) k = p_21 N x (fun y => k (Pat.inst (.ros (.str)) y.1) (instH [some (.lst (.stru (.fcons (.str) (.fcons (.str) (.fcons (.str) (.fnil))))), 28)] y.2)) := by kernel_rfl
theorem good_21 {R : Type} (N : Nat) : Good (X := R) Try.prog (E1 (R := R) N).q 21 ap_21 hp_21 (fun x k => p_21 N x (fun y => k (Pat.inst (.ros (.str)) y.1) (instH [some (.lst (.stru (.fcons (.str) (.fcons (.str) (.fcons (.str) (.fnil))))), 28)] y.2))) :=
  good_loud (p := fun x k => p_21 N x (fun y => k (Pat.inst (.ros (.str)) y.1) (instH [some (.lst (.stru (.fcons (.str) (.fcons (.str) (.fcons (.str) (.fnil))))), 28)] y.2))) mixed tyok (eok1 N) Try.func21 (by kernel_rfl) (by kernel_rfl) (by kernel_rfl) (lok_21 N) (fun x k => run_21 N x k)
def E2 {R : Type} (N : Nat) : Env R := (E1 N).add 21 ap_21 hp_21 (fun x k => p_21 N x (fun y => k (Pat.inst (.ros (.str)) y.1) (instH [some (.lst (.stru (.fcons (.str) (.fcons (.str) (.fcons (.str) (.fnil))))), 28)] y.2)))
theorem eok2 {R : Type} (N : Nat) : EOK Try.prog (E2 (R := R) N) := EOK.add (eok1 N) (good_21 N)

def ap_19 : List Pat := []
def hp_19 : List (Option (Pat × Nat)) := []
def p_19 {R : Type} (N : Nat) (x : aden ap_19 × hden hp_19) (κ0 : (Pat.den (.bool) × hden []) → Option R) : Option R :=
let l2 : (List (Sch.den (.stru (.fcons (.str) (.fcons (.str) (.fcons (.str) (.fnil))))))) := [(⟨#[120]⟩, (⟨#[97]⟩, (⟨#[98]⟩, ()))), (⟨#[121]⟩, (⟨#[97]⟩, (⟨#[97]⟩, ())))]
p_21 N (((), ()), (l2, ())) (fun y31 =>
let l32 : (List (Sch.den (.str))) := y31.1
let l33 : (List (Sch.den (.stru (.fcons (.str) (.fcons (.str) (.fcons (.str) (.fnil))))))) := y31.2.1
let i34 : Int := (((List.length l32) : Nat) : Int)
bif (i34 == 1) then (
bif decide (0 < ((List.length l32) : Int)) then (
let p35 : (Sch.den (.str)) := (List.getD l32 0 (Sch.zero (.str)))
κ0 ((eqS p35 (⟨#[120]⟩)), ())) else none) else (
κ0 (false, ())))

def L_19 {R : Type} (N : Nat) : Loops R := Loops.none
theorem lok_19 {R : Type} (N : Nat) : LOK 0 TT (E2 (R := R) N) (drawOk TT (E2 (R := R) N).q) (L_19 N) (bodyOf Try.f19) := loops_nil (by kernel_rfl)
theorem run_19 {R : Type} (N : Nat) (x : aden ap_19 × hden hp_19) (k : KF R) : fnrun TT (E2 (R := R) N) (drawOk TT (E2 (R := R) N).q) (L_19 N) true Try.f19 (instA ap_19 x.1) (instH hp_19 x.2) k = p_19 N x (fun y => k (Pat.inst (.bool) y.1) (instH [] y.2)) := by kernel_rfl
theorem good_19 {R : Type} (N : Nat) : Good (X := R) Try.prog (E2 (R := R) N).q 19 ap_19 hp_19 (fun x k => p_19 N x (fun y => k (Pat.inst (.bool) y.1) (instH [] y.2))) :=
  good_loud (p := fun x k => p_19 N x (fun y => k (Pat.inst (.bool) y.1) (instH [] y.2))) mixed tyok (eok2 N) Try.func19 (by kernel_rfl) (by kernel_rfl) (by kernel_rfl) (lok_19 N) (fun x k => run_19 N x k)
def E3 {R : Type} (N : Nat) : Env R := (E2 N).add 19 ap_19 hp_19 (fun x k => p_19 N x (fun y => k (Pat.inst (.bool) y.1) (instH [] y.2)))
theorem eok3 {R : Type} (N : Nat) : EOK Try.prog (E3 (R := R) N) := EOK.add (eok2 N) (good_19 N)

def lv_3_8 : Live := [(3, some (.stru (.fcons (.str) (.fcons (.str) (.fcons (.str) (.fnil)))), 28)), (4, some (.str, 9)), (15, none), (16, none), (17, none)]
def pt_3_8 : SPat := ⟨[(3, .sl 0), (4, .sl 1), (15, .ros (.stru (.fcons (.str) (.fcons (.str) (.fcons (.str) (.fnil)))))), (16, .int .i64), (17, .int .i64)], [some (.lst (.stru (.fcons (.str) (.fcons (.str) (.fcons (.str) (.fnil))))), 28), some (.lst (.str), 9)]⟩
def px_3_8_0 : SPat := ⟨[(2, .bool)], []⟩
def px_3_8_1 : SPat := ⟨[(3, .sl 0), (4, .sl 1)], [some (.lst (.stru (.fcons (.str) (.fcons (.str) (.fcons (.str) (.fnil))))), 28), some (.lst (.str), 9)]⟩
def lo_3_8 : Exit → Live
  | .ret => [(2, none)]
  | .exit 0 => [(3, none), (4, none)]
  | _ => []
def B_3_8 {R : Type} (N : Nat) (rec : pt_3_8.den → Option R) (x : pt_3_8.den) (κ0 : px_3_8_0.den → Option R) (κ1 : px_3_8_1.den → Option R) : Option R :=
let l50 : (List (Sch.den (.stru (.fcons (.str) (.fcons (.str) (.fcons (.str) (.fnil))))))) := x.1.2.2.1
let i51 : Int := x.1.2.2.2.1
let i52 : Int := x.1.2.2.2.2.1
let l53 : (List (Sch.den (.stru (.fcons (.str) (.fcons (.str) (.fcons (.str) (.fnil))))))) := x.2.1
let l54 : (List (Sch.den (.str))) := x.2.2.1
bif (decide (i52 < i51)) then (
bif decide (0 ≤ i52) then (
bif decide (i52 < ((List.length l50) : Int)) then (
let p55 : (Sch.den (.stru (.fcons (.str) (.fcons (.str) (.fcons (.str) (.fnil)))))) := (List.getD l50 ((Int.toNat i52)) (Sch.zero (.stru (.fcons (.str) (.fcons (.str) (.fcons (.str) (.fnil)))))))
let l56 : (List (Sch.den (.stru (.fcons (.str) (.fcons (.str) (.fcons (.str) (.fnil))))))) := [(p55.1, (p55.2.1, (p55.2.2.1, ())))]
bif (decide ((List.length l53 + List.length l56) * 48 ≤ 140737488355328) && true) then (
let l57 : (List (Sch.den (.stru (.fcons (.str) (.fcons (.str) (.fcons (.str) (.fnil))))))) := (l53 ++ l56)
p_20 N (((p55.1, (p55.2.1, (p55.2.2.1, ()))), ()), ()) (fun y58 =>
let b59 : Bool := y58
bif (!(b59 == (eqS p55.2.1 p55.2.2.1))) then (
κ0 ((false, ()), ())) else (
bif (!eqS p55.2.1 p55.2.2.1) then (
let l60 : (List (Sch.den (.str))) := [p55.1]
bif (decide ((List.length l54 + List.length l60) * 16 ≤ 140737488355328) && true) then (
let l61 : (List (Sch.den (.str))) := (l54 ++ l60)
let i62 : Int := addA .i64 i52 1
rec (((), (), l50, i51, i62, ()), (l57, l61, ()))) else none) else (
let i63 : Int := addA .i64 i52 1
rec (((), (), l50, i51, i63, ()), (l57, l54, ())))))) else none) else none) else none) else (
κ1 (((), (), ()), (l53, l54, ())))
def l_3_8 {R : Type} (N : Nat) : Nat → pt_3_8.den → (px_3_8_0.den → Option R) → (px_3_8_1.den → Option R) → Option R
  | 0, _, _, _ => none
  | n + 1, x, κ0, κ1 => B_3_8 N (fun y => l_3_8 N n y κ0 κ1) x κ0 κ1
def lv_3_21 : Live := [(4, none), (8, none), (53, none), (54, none)]
def pt_3_21 : SPat := ⟨[(4, .sl 0), (8, .ros (.str)), (53, .int .i64), (54, .int .i64)], [some (.lst (.str), 9)]⟩
def px_3_21_0 : SPat := ⟨[(2, .bool)], []⟩
def px_3_21_1 : SPat := ⟨[], []⟩
def lo_3_21 : Exit → Live
  | .ret => [(2, none)]
  | .exit 2 => []
  | _ => []
def B_3_21 {R : Type} (N : Nat) (rec : pt_3_21.den → Option R) (x : pt_3_21.den) (κ0 : px_3_21_0.den → Option R) (κ1 : px_3_21_1.den → Option R) : Option R :=
let l75 : (List (Sch.den (.str))) := x.1.2.1
let i76 : Int := x.1.2.2.1
let i77 : Int := x.1.2.2.2.1
let l78 : (List (Sch.den (.str))) := x.2.1
bif (decide (i77 < i76)) then (
bif decide (0 ≤ i77) then (
bif decide (i77 < ((List.length l75) : Int)) then (
let p79 : (Sch.den (.str)) := (List.getD l75 ((Int.toNat i77)) (Sch.zero (.str)))
bif decide (0 ≤ i77) then (
bif decide (i77 < ((List.length l78) : Int)) then (
let s80 : ByteArray := (List.getD l78 ((Int.toNat i77)) (Sch.zero (.str)))
bif (!eqS p79 s80) then (
κ0 ((false, ()), ())) else (
let i81 : Int := addA .i64 i77 1
rec (((), l75, i76, i81, ()), (l78, ())))) else none) else none) else none) else none) else (
κ1 ((), ()))
def l_3_21 {R : Type} (N : Nat) : Nat → pt_3_21.den → (px_3_21_0.den → Option R) → (px_3_21_1.den → Option R) → Option R
  | 0, _, _, _ => none
  | n + 1, x, κ0, κ1 => B_3_21 N (fun y => l_3_21 N n y κ0 κ1) x κ0 κ1
def ap_3 : List Pat := [.ros (.stru (.fcons (.str) (.fcons (.str) (.fcons (.str) (.fnil)))))]
def hp_3 : List (Option (Pat × Nat)) := []
def p_3 {R : Type} (N : Nat) (x : aden ap_3 × hden hp_3) (κ0 : (Pat.den (.bool) × hden []) → Option R) : Option R :=
let l1 : (List (Sch.den (.stru (.fcons (.str) (.fcons (.str) (.fcons (.str) (.fnil))))))) := x.1.1
p_19 N ((), ()) (fun y36 =>
let b37 : Bool := y36.1
bif (!b37) then (
κ0 (false, ())) else (
let i38 : Int := (((List.length l1) : Nat) : Int)
bif (decide (i38 > 100)) then (
κ0 (true, ())) else (
let i39 : Int := (((List.length l1) : Nat) : Int)
l_3_8 N N (((), (), l1, i39, 0, ()), ([], [], ())) (fun y64 =>
let b65 : Bool := y64.1.1
κ0 (b65, ())) (fun y66 =>
let l67 : (List (Sch.den (.stru (.fcons (.str) (.fcons (.str) (.fcons (.str) (.fnil))))))) := y66.2.1
let l68 : (List (Sch.den (.str))) := y66.2.2.1
p_21 N (((), ()), (l67, ())) (fun y69 =>
let l70 : (List (Sch.den (.str))) := y69.1
let l71 : (List (Sch.den (.stru (.fcons (.str) (.fcons (.str) (.fcons (.str) (.fnil))))))) := y69.2.1
let i72 : Int := (((List.length l70) : Nat) : Int)
let i73 : Int := (((List.length l68) : Nat) : Int)
bif (i72 != i73) then (
κ0 (false, ())) else (
let i74 : Int := (((List.length l70) : Nat) : Int)
l_3_21 N N (((), l70, i74, 0, ()), (l68, ())) (fun y82 =>
let b83 : Bool := y82.1.1
κ0 (b83, ())) (fun _ =>
κ0 (true, ()))))))))

def L_3 {R : Type} (N : Nat) : Loops R := ((Loops.none).add 8 (loopBy 0 lv_3_8 pt_3_8 (fun x k => l_3_8 N N x (fun y => k .ret (px_3_8_0.inst y)) (fun y => k (.exit 0) (px_3_8_1.inst y))))).add 21 (loopBy 0 lv_3_21 pt_3_21 (fun x k => l_3_21 N N x (fun y => k .ret (px_3_21_0.inst y)) (fun y => k (.exit 2) (px_3_21_1.inst y))))
theorem step_3_8 {R : Type} (N n : Nat) (x : pt_3_8.den) (k : Exit → St → Option R) : iter 0 lv_3_8 lo_3_8 (aexec TT (E3 (R := R) N) (drawOk TT (E3 (R := R) N).q) (L_3 N) (loopAt 8 (bodyOf Try.f3))) (n + 1) (pt_3_8.inst x) k = B_3_8 N (fun y => iter 0 lv_3_8 lo_3_8 (aexec TT (E3 (R := R) N) (drawOk TT (E3 (R := R) N).q) (L_3 N) (loopAt 8 (bodyOf Try.f3))) n (pt_3_8.inst y) k) x (fun y => k .ret (px_3_8_0.inst y)) (fun y => k (.exit 0) (px_3_8_1.inst y)) := by kernel_rfl
theorem eq_3_8 {R : Type} (N : Nat) : ∀ (n : Nat) (x : pt_3_8.den) (k : Exit → St → Option R), iter 0 lv_3_8 lo_3_8 (aexec TT (E3 (R := R) N) (drawOk TT (E3 (R := R) N).q) (L_3 N) (loopAt 8 (bodyOf Try.f3))) n (pt_3_8.inst x) k = l_3_8 N n x (fun y => k .ret (px_3_8_0.inst y)) (fun y => k (.exit 0) (px_3_8_1.inst y)) :=
  iter_eq (K := Exit → St → Option R) (ks := fun k => k) (l := fun n x k => l_3_8 N n x (fun y => k .ret (px_3_8_0.inst y)) (fun y => k (.exit 0) (px_3_8_1.inst y))) (B := fun rec x k => B_3_8 N rec x (fun y => k .ret (px_3_8_0.inst y)) (fun y => k (.exit 0) (px_3_8_1.inst y))) (fun _ _ => rfl) (fun _ _ _ => rfl) (fun n x k => step_3_8 N n x k)
theorem rounds_3_8 {R : Type} (N : Nat) : Rounds 0 TT (E3 (R := R) N) (drawOk TT (E3 (R := R) N).q) (L_3 N) 8 (loopAt 8 (bodyOf Try.f3)) :=
  rounds_of (p := pt_3_8) (l := fun x k => l_3_8 N N x (fun y => k .ret (px_3_8_0.inst y)) (fun y => k (.exit 0) (px_3_8_1.inst y))) (fun s k => rfl) (fun x k => eq_3_8 N N x k)
theorem step_3_21 {R : Type} (N n : Nat) (x : pt_3_21.den) (k : Exit → St → Option R) : iter 0 lv_3_21 lo_3_21 (aexec TT (E3 (R := R) N) (drawOk TT (E3 (R := R) N).q) (L_3 N) (loopAt 21 (bodyOf Try.f3))) (n + 1) (pt_3_21.inst x) k = B_3_21 N (fun y => iter 0 lv_3_21 lo_3_21 (aexec TT (E3 (R := R) N) (drawOk TT (E3 (R := R) N).q) (L_3 N) (loopAt 21 (bodyOf Try.f3))) n (pt_3_21.inst y) k) x (fun y => k .ret (px_3_21_0.inst y)) (fun y => k (.exit 2) (px_3_21_1.inst y)) := by kernel_rfl
theorem eq_3_21 {R : Type} (N : Nat) : ∀ (n : Nat) (x : pt_3_21.den) (k : Exit → St → Option R), iter 0 lv_3_21 lo_3_21 (aexec TT (E3 (R := R) N) (drawOk TT (E3 (R := R) N).q) (L_3 N) (loopAt 21 (bodyOf Try.f3))) n (pt_3_21.inst x) k = l_3_21 N n x (fun y => k .ret (px_3_21_0.inst y)) (fun y => k (.exit 2) (px_3_21_1.inst y)) :=
  iter_eq (K := Exit → St → Option R) (ks := fun k => k) (l := fun n x k => l_3_21 N n x (fun y => k .ret (px_3_21_0.inst y)) (fun y => k (.exit 2) (px_3_21_1.inst y))) (B := fun rec x k => B_3_21 N rec x (fun y => k .ret (px_3_21_0.inst y)) (fun y => k (.exit 2) (px_3_21_1.inst y))) (fun _ _ => rfl) (fun _ _ _ => rfl) (fun n x k => step_3_21 N n x k)
theorem rounds_3_21 {R : Type} (N : Nat) : Rounds 0 TT (E3 (R := R) N) (drawOk TT (E3 (R := R) N).q) (L_3 N) 21 (loopAt 21 (bodyOf Try.f3)) :=
  rounds_of (p := pt_3_21) (l := fun x k => l_3_21 N N x (fun y => k .ret (px_3_21_0.inst y)) (fun y => k (.exit 2) (px_3_21_1.inst y))) (fun s k => rfl) (fun x k => eq_3_21 N N x k)
theorem loops_3 : loopsIn (bodyOf Try.f3) = [(8, loopAt 8 (bodyOf Try.f3)), (21, loopAt 21 (bodyOf Try.f3))] := by kernel_rfl
theorem lok_3 {R : Type} (N : Nat) : LOK 0 TT (E3 (R := R) N) (drawOk TT (E3 (R := R) N).q) (L_3 N) (bodyOf Try.f3) := loops_all loops_3 (by
  simp only [List.forall_mem_cons, List.not_mem_nil, false_implies, implies_true, and_true]
  exact ⟨rounds_3_8 N, rounds_3_21 N⟩)
theorem run_3 {R : Type} (N : Nat) (x : aden ap_3 × hden hp_3) (k : KF R) : fnrun TT (E3 (R := R) N) (drawOk TT (E3 (R := R) N).q) (L_3 N) true Try.f3 (instA ap_3 x.1) (instH hp_3 x.2) k = p_3 N x (fun y => k (Pat.inst (.bool) y.1) (instH [] y.2)) := by kernel_rfl
theorem good_3 {R : Type} (N : Nat) : Good (X := R) Try.prog (E3 (R := R) N).q 3 ap_3 hp_3 (fun x k => p_3 N x (fun y => k (Pat.inst (.bool) y.1) (instH [] y.2))) :=
  good_loud (p := fun x k => p_3 N x (fun y => k (Pat.inst (.bool) y.1) (instH [] y.2))) mixed tyok (eok3 N) Try.func3 (by kernel_rfl) (by kernel_rfl) (by kernel_rfl) (lok_3 N) (fun x k => run_3 N x k)
def E4 {R : Type} (N : Nat) : Env R := (E3 N).add 3 ap_3 hp_3 (fun x k => p_3 N x (fun y => k (Pat.inst (.bool) y.1) (instH [] y.2)))
theorem eok4 {R : Type} (N : Nat) : EOK Try.prog (E4 (R := R) N) := EOK.add (eok3 N) (good_3 N)

def wrongs (l : List (ByteArray × ByteArray × ByteArray × Unit)) : List ByteArray := (l.filter fun a => !eqS a.2.1 a.2.2.1).map (·.1)
theorem add1 {i : Int} (h : 0 ≤ i) (h2 : i ≤ 1000000) : addA .i64 i 1 = i + 1 := by
  simp [addA, IntKind.wrap, IntKind.signed, IntKind.bits]; omega
theorem l21 {R : Type} (N : Nat) (l : List (ByteArray × ByteArray × ByteArray × Unit)) (hl : l.length ≤ 100) (κ : px_21_3_0.den → Option R) : ∀ (n i : Nat) (acc : List ByteArray), i ≤ l.length → l.length - i < n → acc.length ≤ i →
    l_21_3 N n (((), (), (l.length : Int), (i : Int), ()), (l, acc, ())) κ = κ (((), ()), (l, acc ++ wrongs (l.drop i), ()))
  | 0, i, acc, h1, h2, h3 => by omega
  | n + 1, i, acc, h1, h2, h3 => by
    unfold l_21_3 B_21_3
    by_cases hi : i < l.length
    · have e1 : decide ((i : Int) < (l.length : Int)) = true := by simp; exact hi
      have e2 : decide ((0 : Int) ≤ (i : Int)) = true := by simp
      have e3 : addA .i64 (i : Int) 1 = ((i + 1 : Nat) : Int) := by rw [add1 (by omega) (by omega)]; simp
      have hd : l.drop i = l[i] :: l.drop (i + 1) := List.drop_eq_getElem_cons hi
      have hg : List.getD l i (Sch.zero (.stru (.fcons .str (.fcons .str (.fcons .str .fnil))))) = l[i] := by simp [hi]
      simp only [e1, e2, cond_true, Int.toNat_natCast, hg, p_20, e3]
      cases hq : eqS l[i].2.1 l[i].2.2.1 with
      | true =>
        simp only [Bool.not_true, cond_false]
        rw [l21 N l hl κ n (i + 1) acc (by omega) (by omega) (by omega), hd]
        unfold wrongs
        rw [List.filter_cons_of_neg (by simp [hq])]
      | false =>
        have e4 : decide ((acc.length + [l[i].1].length) * 16 ≤ 140737488355328) = true := by simp; omega
        simp only [Bool.not_false, cond_true, e4, Bool.and_true]
        rw [l21 N l hl κ n (i + 1) (acc ++ [l[i].1]) (by omega) (by omega) (by simp; omega), hd]
        unfold wrongs
        rw [List.filter_cons_of_pos (by simp [hq]), List.map_cons, List.append_assoc]
        rfl
    · have e1 : decide ((i : Int) < (l.length : Int)) = false := by simp; omega
      simp only [e1, cond_false]
      rw [List.drop_eq_nil_of_le (by omega)]
      simp [wrongs]
theorem p21 {R : Type} (N : Nat) (l : List (ByteArray × ByteArray × ByteArray × Unit)) (hl : l.length ≤ 100) (hN : 100 < N) (κ : _ → Option R) : p_21 N (((), ()), (l, ())) κ = κ (wrongs l, (l, ())) := by
  unfold p_21
  refine (l21 N l hl _ N 0 [] (by omega) (by omega) (by simp)).trans ?_
  simp
theorem eqS_iff {a b : ByteArray} : eqS a b = decide (a.data.toList = b.data.toList) := by
  unfold eqS
  rw [ByteArray.toList_eq, ByteArray.toList_eq]
  by_cases h : a.data.toList = b.data.toList
  · simp [h]
  · rw [decide_eq_false h]; exact beq_eq_false_iff_ne.2 h
theorem p19 {R : Type} (N : Nat) (hN : 100 < N) (κ : _ → Option R) : p_19 N ((), ()) κ = κ (true, ()) := by
  unfold p_19
  dsimp only
  rw [p21 N _ (by simp) hN]
  have hw : wrongs [(⟨#[120]⟩, (⟨#[97]⟩, (⟨#[98]⟩, ()))), (⟨#[121]⟩, (⟨#[97]⟩, (⟨#[97]⟩, ())))] = [⟨#[120]⟩] := by
    simp [wrongs, eqS_iff]
  simp only [hw]
  simp [eqS_iff]
theorem l38 {R : Type} (N : Nat) (l : List (ByteArray × ByteArray × ByteArray × Unit)) (hl : l.length ≤ 100) (κ0 : px_3_8_0.den → Option R) (κ1 : px_3_8_1.den → Option R) : ∀ (n i : Nat) (own : List (ByteArray × ByteArray × ByteArray × Unit)) (want : List ByteArray), i ≤ l.length → l.length - i < n → own.length ≤ i → want.length ≤ i →
    l_3_8 N n (((), (), l, (l.length : Int), (i : Int), ()), (own, want, ())) κ0 κ1 = κ1 (((), (), ()), (own ++ l.drop i, want ++ wrongs (l.drop i), ()))
  | 0, i, own, want, h1, h2, h3, h4 => by omega
  | n + 1, i, own, want, h1, h2, h3, h4 => by
    unfold l_3_8 B_3_8
    by_cases hi : i < l.length
    · have e1 : decide ((i : Int) < (l.length : Int)) = true := by simp; exact hi
      have e2 : decide ((0 : Int) ≤ (i : Int)) = true := by simp
      have e3 : addA .i64 (i : Int) 1 = ((i + 1 : Nat) : Int) := by rw [add1 (by omega) (by omega)]; simp
      have hd : l.drop i = l[i] :: l.drop (i + 1) := List.drop_eq_getElem_cons hi
      have hg : List.getD l i (Sch.zero (.stru (.fcons .str (.fcons .str (.fcons .str .fnil))))) = l[i] := by simp [hi]
      have e5 : decide ((own.length + [(l[i].1, l[i].2.1, l[i].2.2.1, ())].length) * 48 ≤ 140737488355328) = true := by simp; omega
      simp only [e1, e2, cond_true, Int.toNat_natCast, hg, p_20, e3, e5, Bool.and_true, beq_self_eq_true, Bool.not_true, cond_false]
      cases hq : eqS l[i].2.1 l[i].2.2.1 with
      | true =>
        simp only [Bool.not_true, cond_false]
        rw [l38 N l hl κ0 κ1 n (i + 1) _ want (by omega) (by omega) (by simp; omega) (by omega), hd]
        unfold wrongs
        rw [List.filter_cons_of_neg (by simp [hq]), List.append_assoc]
        rfl
      | false =>
        have e4 : decide ((want.length + [l[i].1].length) * 16 ≤ 140737488355328) = true := by simp; omega
        simp only [Bool.not_false, cond_true, e4]
        rw [l38 N l hl κ0 κ1 n (i + 1) _ (want ++ [l[i].1]) (by omega) (by omega) (by simp; omega) (by simp; omega), hd]
        unfold wrongs
        rw [List.filter_cons_of_pos (by simp [hq]), List.map_cons, List.append_assoc, List.append_assoc]
        rfl
    · have e1 : decide ((i : Int) < (l.length : Int)) = false := by simp; omega
      simp only [e1, cond_false]
      rw [List.drop_eq_nil_of_le (by omega)]
      simp [wrongs]
theorem l321 {R : Type} (N : Nat) (g : List ByteArray) (hl : g.length ≤ 100) (κ0 : px_3_21_0.den → Option R) (κ1 : px_3_21_1.den → Option R) : ∀ (n i : Nat), i ≤ g.length → g.length - i < n →
    l_3_21 N n (((), g, (g.length : Int), (i : Int), ()), (g, ())) κ0 κ1 = κ1 ((), ())
  | 0, i, h1, h2 => by omega
  | n + 1, i, h1, h2 => by
    unfold l_3_21 B_3_21
    by_cases hi : i < g.length
    · have e1 : decide ((i : Int) < (g.length : Int)) = true := by simp; exact hi
      have e2 : decide ((0 : Int) ≤ (i : Int)) = true := by simp
      have e3 : addA .i64 (i : Int) 1 = ((i + 1 : Nat) : Int) := by rw [add1 (by omega) (by omega)]; simp
      have e4 : ∀ b : ByteArray, eqS b b = true := fun b => by rw [eqS_iff]; simp
      simp only [e1, e2, cond_true, e3, e4, Bool.not_true, cond_false]
      exact l321 N g hl κ0 κ1 n (i + 1) (by omega) (by omega)
    · have e1 : decide ((i : Int) < (g.length : Int)) = false := by simp; omega
      simp only [e1, cond_false]
theorem law3 {R : Type} (N : Nat) (hN : 100 < N) (l : List (ByteArray × ByteArray × ByteArray × Unit)) (κ : _ → Option R) : p_3 N ((l, ()), ()) κ = κ (true, ()) := by
  unfold p_3
  rw [p19 N hN]
  simp only [Bool.not_true, cond_false]
  by_cases h : ((l.length : Nat) : Int) > 100
  · simp only [h, decide_true, cond_true]
  · simp only [h, decide_false, cond_false]
    have hl : l.length ≤ 100 := by omega
    refine (l38 N l hl _ _ N 0 [] [] (by omega) (by omega) (by simp) (by simp)).trans ?_
    simp only [List.drop_zero, List.nil_append]
    rw [p21 N l hl hN]
    have hw : (wrongs l).length ≤ 100 := by
      unfold wrongs
      rw [List.length_map]
      exact Nat.le_trans (List.length_filter_le _ _) hl
    simp only [bne_self_eq_false, cond_false]
    exact l321 N (wrongs l) hw _ _ N 0 (by omega) (by omega)
end Go.Proofs.Ytjehpceomlnicaa.Eng
