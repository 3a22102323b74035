/-
Plain functions that the functions of the program are shown to come to, printed by a program of the prover; each with its proof.
Conditions: none.
-/
import Derived.Test.YtnfhngcdddjilaaProg
import Derived.Test.YtnfhngcdddjilaaEngY
import Derived.KernelRfl
set_option linter.unusedVariables false
namespace Go.Proofs.Ytnfhngcdddjilaa.Eng
def TT : Types := [(3, ⟨.int .i64, 1, 8, .int .i64 0, some (.int .i64), false, false⟩),
  (9, ⟨.str, 1, 16, .str ⟨#[]⟩, some (.str), false, false⟩),
  (42, ⟨.slice 9, 1, 24, .nils, some (.sl (.str)), false, false⟩),
  (4, ⟨.bool, 1, 1, .bool false, some (.bool), false, false⟩),
  (26, ⟨.int .i64, 1, 8, .int .i64 0, some (.int .i64), false, false⟩),
  (49, ⟨.ptr 115, 1, 8, .nilp, none, false, false⟩),
  (113, ⟨.ptr 151, 1, 8, .nilp, none, false, false⟩),
  (151, ⟨.stru [(3, 0), (4, 1), (24, 2), (3, 3)], 4, 48, .node (.fcons (.int .i64 0) (.fcons (.bool false) (.fcons (.nils) (.fcons (.int .i64 0) (.fnil))))), some (.stru (.fcons (.int .i64) (.fcons (.bool) (.fcons (.sl (.int .u8)) (.fcons (.int .i64) (.fnil)))))), false, true⟩),
  (24, ⟨.slice 5, 1, 24, .nils, some (.sl (.int .u8)), false, false⟩),
  (23, ⟨.arr 8 22, 8, 64, .vec (.int .u64) 8 (Sch.zero (.arr 8 (.int .u64))), some (.arr 8 (.int .u64)), true, false⟩),
  (115, ⟨.stru [(113, 0), (23, 1), (3, 9), (22, 10)], 11, 88, .node (.fcons (.nilp) (.fcons (.vec (.int .u64) 8 (Sch.zero (.arr 8 (.int .u64)))) (.fcons (.int .i64 0) (.fcons (.int .u64 0) (.fnil))))), none, false, false⟩),
  (22, ⟨.int .u64, 1, 8, .int .u64 0, some (.int .u64), false, false⟩),
  (5, ⟨.int .u8, 1, 1, .int .u8 0, some (.int .u8), false, false⟩),
  (117, ⟨.slice 24, 1, 24, .nils, some (.sl (.sl (.int .u8))), false, false⟩),
  (94, ⟨.slice 22, 1, 24, .nils, some (.sl (.int .u64)), false, false⟩),
  (97, ⟨.arr 16 22, 16, 128, .vec (.int .u64) 16 (Sch.zero (.arr 16 (.int .u64))), some (.arr 16 (.int .u64)), true, false⟩),
  (99, ⟨.arr 8 98, 32, 256, .vec (.arr 4 (.int .i64)) 8 (Sch.zero (.arr 8 (.arr 4 (.int .i64)))), some (.arr 8 (.arr 4 (.int .i64))), true, false⟩),
  (98, ⟨.arr 4 3, 4, 32, .vec (.int .i64) 4 (Sch.zero (.arr 4 (.int .i64))), some (.arr 4 (.int .i64)), true, false⟩),
  (38, ⟨.arr 16 3, 16, 128, .vec (.int .i64) 16 (Sch.zero (.arr 16 (.int .i64))), some (.arr 16 (.int .i64)), true, false⟩),
  (109, ⟨.arr 10 9, 10, 160, .vec (.str) 10 (Sch.zero (.arr 10 (.str))), some (.arr 10 (.str)), true, false⟩),
  (121, ⟨.int .u64, 1, 8, .int .u64 0, some (.int .u64), false, false⟩),
  (29, ⟨.arr 8 22, 8, 64, .vec (.int .u64) 8 (Sch.zero (.arr 8 (.int .u64))), some (.arr 8 (.int .u64)), true, false⟩),
  (36, ⟨.arr 4 22, 4, 32, .vec (.int .u64) 4 (Sch.zero (.arr 4 (.int .u64))), some (.arr 4 (.int .u64)), true, false⟩)]
theorem tyok : TyOk Try.prog TT := TyOk.of (by kernel_rfl)
theorem mixed : Try.prog.follows .mixedOrders = true := by kernel_rfl
def QQ : FuncId → Bool := fun f => memN [11, 12, 14, 15, 16, 17, 18, 19, 20, 21, 23, 24, 46, 50, 51, 52, 53, 54, 82] f
def LN : FuncId → Bool := fun f => memN [12, 56] f
def WW : FuncId → Bool := fun f => QQ f || LN f
def ap_58 : List Pat := [.int .i64, .bool]
def hp_58 : List (Option (Pat × Nat)) := []
def p_58 {R : Type} (N : Nat) (x : (Int × Bool × Unit) × (Unit)) (κ0 : ((Unit × (Int × Unit)) × (Unit)) → Option R) (κ1 : ((Unit × (Int × Unit)) × ((Int × (Bool × (Unit × (Int × Unit)))) × (List Int) × Unit)) → Option R) : Option R :=
let i11 : Int := x.1.1
let b12 : Bool := x.1.2.1
bif (decide (i11 < 1)) then (
κ0 (((), (1, ())), ())) else (
bif (decide (i11 > 65536)) then (
κ0 (((), (1, ())), ())) else (
κ1 (((), (0, ())), ((i11, (b12, ((), (0, ())))), ([] : List Int), ()))))

abbrev Tp_58 (R : Type) : Type := (Int × Bool × Unit) × (Unit) → (((Unit × (Int × Unit)) × (Unit)) → Option R) → (((Unit × (Int × Unit)) × ((Int × (Bool × (Unit × (Int × Unit)))) × (List Int) × Unit)) → Option R) → Option R
def Q_58 {R : Type} (x : (Int × Bool × Unit) × (Unit)) (κ0 : ((Unit × (Int × Unit)) × (Unit)) → Option R) (κ1 : ((Unit × (Int × Unit)) × ((Int × (Bool × (Unit × (Int × Unit)))) × (List Int) × Unit)) → Option R) : Option R :=
let i11 : Int := x.1.1
let b12 : Bool := x.1.2.1
bif (decide (i11 < 1)) then (
κ0 (((), (1, ())), ())) else (
bif (decide (i11 > 65536)) then (
κ0 (((), (1, ())), ())) else (
κ1 (((), (0, ())), ((i11, (b12, ((), (0, ())))), ([] : List Int), ()))))
def EG_58 {R : Type} : Env R := Env.base QQ LN
def LG_58 {R : Type} : Loops R := Loops.none
def E_58 {R : Type} (N : Nat) : Env R := EG_58
theorem eok_58 {R : Type} (N : Nat) : EK Try.prog (E_58 (R := R) N) := ek_base _ _
def L_58 {R : Type} (N : Nat) : Loops R := LG_58
theorem lok_58 {R : Type} (N : Nat) : LOK 0 TT (E_58 (R := R) N) (drawAny TT WW) (L_58 N) (bodyOf Try.f58) := loops_nil (by kernel_rfl)
theorem grun_58 {R : Type} (x : aden ap_58 × hden hp_58) (k : KF R) : fnrun TT (EG_58) (drawAny TT WW) (LG_58) true Try.f58 (instA ap_58 x.1) (instH hp_58 x.2) k = Q_58 x (fun y => k (Pat.inst (.tup (.fcons (.nilp) (.fcons (.int .i64) (.fnil)))) y.1) (instH [] y.2)) (fun y => k (Pat.inst (.tup (.fcons (.ptr 0 []) (.fcons (.int .i64) (.fnil)))) y.1) (instH [some (.node (.fcons (.int .i64) (.fcons (.bool) (.fcons (.sl 1) (.fcons (.int .i64) (.fnil))))), 151), some (.lst (.int .u8), 5)] y.2)) := by kernel_rfl
theorem run_58 {R : Type} (N : Nat) (x : aden ap_58 × hden hp_58) (k : KF R) : fnrun TT (E_58 (R := R) N) (drawAny TT WW) (L_58 N) true Try.f58 (instA ap_58 x.1) (instH hp_58 x.2) k = p_58 N x (fun y => k (Pat.inst (.tup (.fcons (.nilp) (.fcons (.int .i64) (.fnil)))) y.1) (instH [] y.2)) (fun y => k (Pat.inst (.tup (.fcons (.ptr 0 []) (.fcons (.int .i64) (.fnil)))) y.1) (instH [some (.node (.fcons (.int .i64) (.fcons (.bool) (.fcons (.sl 1) (.fcons (.int .i64) (.fnil))))), 151), some (.lst (.int .u8), 5)] y.2)) := (grun_58 x k).trans (by kernel_rfl)
theorem good_58 {R : Type} (N : Nat) : GD (X := R) Try.prog QQ 58 ap_58 hp_58 (fun (x : aden ap_58 × hden hp_58) k => p_58 N x (fun y => k (Pat.inst (.tup (.fcons (.nilp) (.fcons (.int .i64) (.fnil)))) y.1) (instH [] y.2)) (fun y => k (Pat.inst (.tup (.fcons (.ptr 0 []) (.fcons (.int .i64) (.fnil)))) y.1) (instH [some (.node (.fcons (.int .i64) (.fcons (.bool) (.fcons (.sl 1) (.fcons (.int .i64) (.fnil))))), 151), some (.lst (.int .u8), 5)] y.2))) :=
  gd_loud (E := E_58 N) (p := fun (x : aden ap_58 × hden hp_58) k => p_58 N x (fun y => k (Pat.inst (.tup (.fcons (.nilp) (.fcons (.int .i64) (.fnil)))) y.1) (instH [] y.2)) (fun y => k (Pat.inst (.tup (.fcons (.ptr 0 []) (.fcons (.int .i64) (.fnil)))) y.1) (instH [some (.node (.fcons (.int .i64) (.fcons (.bool) (.fcons (.sl 1) (.fcons (.int .i64) (.fnil))))), 151), some (.lst (.int .u8), 5)] y.2))) mixed tyok (eok_58 N) Try.func58 (by kernel_rfl) (by kernel_rfl) (by kernel_rfl) (lok_58 N) (fun x k => run_58 N x k)

def ap_15 : List Pat := []
def hp_15 : List (Option (Pat × Nat)) := []
def p_15 {R : Type} (N : Nat) (x : (Unit) × (Unit)) (κ0 : (Nat → Int) → Option R) : Option R :=
let a15 : (Nat → Int) := (upd ((upd ((upd ((upd ((upd ((upd ((upd ((upd ((Sch.zero (.arr 8 (.int .u64)))) 0 7640891576956012808)) 1 13503953896175478587)) 2 4354685564936845355)) 3 11912009170470909681)) 4 5840696475078001361)) 5 11170449401992604703)) 6 2270897969802886507)) 7 6620516959819538809)
κ0 a15

abbrev Tp_15 (R : Type) : Type := (Unit) × (Unit) → ((Nat → Int) → Option R) → Option R
def Q_15 {R : Type} (x : (Unit) × (Unit)) (κ0 : (Nat → Int) → Option R) : Option R :=
let a15 : (Nat → Int) := (upd ((upd ((upd ((upd ((upd ((upd ((upd ((upd ((Sch.zero (.arr 8 (.int .u64)))) 0 7640891576956012808)) 1 13503953896175478587)) 2 4354685564936845355)) 3 11912009170470909681)) 4 5840696475078001361)) 5 11170449401992604703)) 6 2270897969802886507)) 7 6620516959819538809)
κ0 a15
def EG_15 {R : Type} : Env R := Env.base QQ LN
def LG_15 {R : Type} : Loops R := Loops.none
def E_15 {R : Type} (N : Nat) : Env R := EG_15
theorem eok_15 {R : Type} (N : Nat) : EK Try.prog (E_15 (R := R) N) := ek_base _ _
def L_15 {R : Type} (N : Nat) : Loops R := LG_15
theorem lok_15 {R : Type} (N : Nat) : LOK 0 TT (E_15 (R := R) N) (drawAny TT WW) (L_15 N) (bodyOf Try.f15) := loops_nil (by kernel_rfl)
theorem grun_15 {R : Type} (x : aden ap_15 × hden hp_15) (k : KF R) : fnrun TT (EG_15) (drawAny TT WW) (LG_15) true Try.f15 (instA ap_15 x.1) (instH hp_15 x.2) k = Q_15 x (fun y => k (Pat.inst (.vec (.int .u64) 8) y) (instH hp_15 x.2)) := by kernel_rfl
theorem run_15 {R : Type} (N : Nat) (x : aden ap_15 × hden hp_15) (k : KF R) : fnrun TT (E_15 (R := R) N) (drawAny TT WW) (L_15 N) true Try.f15 (instA ap_15 x.1) (instH hp_15 x.2) k = p_15 N x (fun y => k (Pat.inst (.vec (.int .u64) 8) y) (instH hp_15 x.2)) := (grun_15 x k).trans (by kernel_rfl)
theorem good_15 {R : Type} (N : Nat) : GD (X := R) Try.prog QQ 15 ap_15 hp_15 (fun (x : aden ap_15 × hden hp_15) k => p_15 N x (fun y => k (Pat.inst (.vec (.int .u64) 8) y) (instH hp_15 x.2))) :=
  gd_quiet (E := E_15 N) (p := fun (x : aden ap_15 × hden hp_15) κ => p_15 N x (fun y => κ (Pat.inst (.vec (.int .u64) 8) y))) mixed tyok (eok_15 N) Try.func15 (by kernel_rfl) (by kernel_rfl) (lok_15 N) (fun x k => run_15 N x k)

def ap_57 : List Pat := [.nilp, .sl 0]
def hp_57 : List (Option (Pat × Nat)) := [some (.lst (.str), 9)]
def p_57 {R : Type} (N : Nat) (x : (Unit × Unit × Unit) × ((List ByteArray) × Unit)) (κ0 : ((List (List Int)) × ((List ByteArray) × Unit)) → Option R) : Option R :=
let l36 : (List ByteArray) := x.2.1
κ0 ([], (l36, ()))

abbrev Tp_57 (R : Type) : Type := (Unit × Unit × Unit) × ((List ByteArray) × Unit) → (((List (List Int)) × ((List ByteArray) × Unit)) → Option R) → Option R
def Q_57 {R : Type} (x : (Unit × Unit × Unit) × ((List ByteArray) × Unit)) (κ0 : ((List (List Int)) × ((List ByteArray) × Unit)) → Option R) : Option R :=
let l36 : (List ByteArray) := x.2.1
κ0 ([], (l36, ()))
def EG_57 {R : Type} : Env R := Env.base QQ LN
def LG_57 {R : Type} : Loops R := Loops.none
def E_57 {R : Type} (N : Nat) : Env R := EG_57
theorem eok_57 {R : Type} (N : Nat) : EK Try.prog (E_57 (R := R) N) := ek_base _ _
def L_57 {R : Type} (N : Nat) : Loops R := LG_57
theorem loops_57 : loopsIn (bodyOf Try.f57) = [(5, loopAt 5 (bodyOf Try.f57)), (9, loopAt 9 (bodyOf Try.f57))] := by kernel_rfl
theorem lok_57 {R : Type} (N : Nat) : LOK 1 TT (E_57 (R := R) N) (drawAny TT WW) (L_57 N) (bodyOf Try.f57) := loops_all loops_57 (by
  simp only [List.forall_mem_cons, List.not_mem_nil, false_implies, implies_true, and_true]
  exact ⟨rounds_none (fun _ _ => rfl), rounds_none (fun _ _ => rfl)⟩)
theorem grun_57 {R : Type} (x : aden ap_57 × hden hp_57) (k : KF R) : fnrun TT (EG_57) (drawAny TT WW) (LG_57) true Try.f57 (instA ap_57 x.1) (instH hp_57 x.2) k = Q_57 x (fun y => k (Pat.inst (.ros (.sl (.int .u8))) y.1) (instH [some (.lst (.str), 9)] y.2)) := by kernel_rfl
theorem run_57 {R : Type} (N : Nat) (x : aden ap_57 × hden hp_57) (k : KF R) : fnrun TT (E_57 (R := R) N) (drawAny TT WW) (L_57 N) true Try.f57 (instA ap_57 x.1) (instH hp_57 x.2) k = p_57 N x (fun y => k (Pat.inst (.ros (.sl (.int .u8))) y.1) (instH [some (.lst (.str), 9)] y.2)) := (grun_57 x k).trans (by kernel_rfl)
theorem good_57 {R : Type} (N : Nat) : GD (X := R) Try.prog QQ 57 ap_57 hp_57 (fun (x : aden ap_57 × hden hp_57) k => p_57 N x (fun y => k (Pat.inst (.ros (.sl (.int .u8))) y.1) (instH [some (.lst (.str), 9)] y.2))) :=
  gd_loud (E := E_57 N) (p := fun (x : aden ap_57 × hden hp_57) k => p_57 N x (fun y => k (Pat.inst (.ros (.sl (.int .u8))) y.1) (instH [some (.lst (.str), 9)] y.2))) mixed tyok (eok_57 N) Try.func57 (by kernel_rfl) (by kernel_rfl) (by kernel_rfl) (lok_57 N) (fun x k => run_57 N x k)

def lv_45_5 : Live := [(4, none), (15, none), (16, none), (17, none)]
def pt_45_5 : SPat := ⟨[(4, .sl 0), (15, .ros (.int .u8)), (16, .int .i64), (17, .int .i64)], [some (.lst (.int .u64), 22)]⟩
def px_45_5_0 : SPat := ⟨[(4, .sl 0)], [some (.lst (.int .u64), 22)]⟩
def lo_45_5 : Exit → Live
  | .exit 0 => [(4, none)]
  | _ => []
def B_45_5 {R : Type} (N : Nat) (rec : ((Unit × (List Int) × Int × Int × Unit) × ((List Int) × Unit)) → Option R) (x : ((Unit × (List Int) × Int × Int × Unit) × ((List Int) × Unit))) (κ0 : ((Unit × Unit) × ((List Int) × Unit)) → Option R) : Option R :=
let l63 : (List Int) := x.1.2.1
let i64 : Int := x.1.2.2.1
let i65 : Int := x.1.2.2.2.1
let l66 : (List Int) := x.2.1
bif (decide (i65 < i64)) then (
bif decide (0 ≤ i65) then (
bif decide (i65 < ((List.length l63) : Int)) then (
let p67 : Int := (List.getD l63 ((Int.toNat i65)) (Sch.zero (.int .u8)))
let i68 : Int := quoA .i64 i65 8
bif decide (0 ≤ i68) then (
bif decide (i68 < ((List.length l66) : Int)) then (
let i69 : Int := (List.getD l66 ((Int.toNat i68)) (Sch.zero (.int .u64)))
let i70 : Int := IntKind.wrap .u64 p67
let i71 : Int := remA .i64 i65 8
let i72 : Int := mulA .i64 8 i71
bif decide (i72 < 0) then none else (
let i73 : Int := shlA .u64 i70 i72
let i74 : Int := orA .u64 i69 i73
bif decide (0 ≤ i68) then (
bif decide (i68 < ((List.length l66) : Int)) then (
let l75 : (List Int) := (List.set l66 ((Int.toNat i68)) i74)
let i76 : Int := addA .i64 i65 1
rec (((), l63, i64, i76, ()), (l75, ()))) else none) else none)) else none) else none) else none) else none) else (
κ0 (((), ()), (l66, ())))
def l_45_5 {R : Type} (N : Nat) : Nat → ((Unit × (List Int) × Int × Int × Unit) × ((List Int) × Unit)) → (((Unit × Unit) × ((List Int) × Unit)) → Option R) → Option R
  | 0, _, _ => none
  | n + 1, x, κ0 => B_45_5 N (fun y => l_45_5 N n y κ0) x κ0
def ap_45 : List Pat := [.ros (.int .u8)]
def hp_45 : List (Option (Pat × Nat)) := []
def p_45 {R : Type} (N : Nat) (x : ((List Int) × Unit) × (Unit)) (κ0 : (((List Int) × (Int × Unit)) × (Unit)) → Option R) : Option R :=
let l56 : (List Int) := x.1.1
let i57 : Int := (((List.length l56) : Nat) : Int)
let i58 : Int := remA .i64 i57 8
bif (i58 != 0) then (
κ0 (([], (9, ())), ())) else (
let i59 : Int := (((List.length l56) : Nat) : Int)
let i60 : Int := quoA .i64 i59 8
bif decide (0 ≤ i60) then (
bif decide (i60 ≤ i60) then (
bif decide (((8 : Nat) : Int) * i60 ≤ 281474976710656) then (
bif decide (i60 ≤ 9223372036854775807) then (
let l61 : (List Int) := List.replicate ((Int.toNat i60)) (Sch.zero (.int .u64))
let i62 : Int := (((List.length l56) : Nat) : Int)
l_45_5 N N (((), l56, i62, 0, ()), (l61, ())) (fun y77 =>
let l78 : (List Int) := y77.2.1
κ0 ((l78, (0, ())), ()))) else none) else none) else none) else none)

abbrev Tl_45_5 (R : Type) : Type := ((Unit × (List Int) × Int × Int × Unit) × ((List Int) × Unit)) → (((Unit × Unit) × ((List Int) × Unit)) → Option R) → Option R
abbrev Tp_45 (R : Type) : Type := ((List Int) × Unit) × (Unit) → ((((List Int) × (Int × Unit)) × (Unit)) → Option R) → Option R
def Q_45 {R : Type} (m_45_5 : Tl_45_5 R) (x : ((List Int) × Unit) × (Unit)) (κ0 : (((List Int) × (Int × Unit)) × (Unit)) → Option R) : Option R :=
let l56 : (List Int) := x.1.1
let i57 : Int := (((List.length l56) : Nat) : Int)
let i58 : Int := remA .i64 i57 8
bif (i58 != 0) then (
κ0 (([], (9, ())), ())) else (
let i59 : Int := (((List.length l56) : Nat) : Int)
let i60 : Int := quoA .i64 i59 8
bif decide (0 ≤ i60) then (
bif decide (i60 ≤ i60) then (
bif decide (((8 : Nat) : Int) * i60 ≤ 281474976710656) then (
bif decide (i60 ≤ 9223372036854775807) then (
let l61 : (List Int) := List.replicate ((Int.toNat i60)) (Sch.zero (.int .u64))
let i62 : Int := (((List.length l56) : Nat) : Int)
m_45_5 (((), l56, i62, 0, ()), (l61, ())) (fun y77 =>
let l78 : (List Int) := y77.2.1
κ0 ((l78, (0, ())), ()))) else none) else none) else none) else none)
def C_45_5 {R : Type} (m_45_5 : Tl_45_5 R) (rec : ((Unit × (List Int) × Int × Int × Unit) × ((List Int) × Unit)) → Option R) (x : ((Unit × (List Int) × Int × Int × Unit) × ((List Int) × Unit))) (κ0 : ((Unit × Unit) × ((List Int) × Unit)) → Option R) : Option R :=
let l63 : (List Int) := x.1.2.1
let i64 : Int := x.1.2.2.1
let i65 : Int := x.1.2.2.2.1
let l66 : (List Int) := x.2.1
bif (decide (i65 < i64)) then (
bif decide (0 ≤ i65) then (
bif decide (i65 < ((List.length l63) : Int)) then (
let p67 : Int := (List.getD l63 ((Int.toNat i65)) (Sch.zero (.int .u8)))
let i68 : Int := quoA .i64 i65 8
bif decide (0 ≤ i68) then (
bif decide (i68 < ((List.length l66) : Int)) then (
let i69 : Int := (List.getD l66 ((Int.toNat i68)) (Sch.zero (.int .u64)))
let i70 : Int := IntKind.wrap .u64 p67
let i71 : Int := remA .i64 i65 8
let i72 : Int := mulA .i64 8 i71
bif decide (i72 < 0) then none else (
let i73 : Int := shlA .u64 i70 i72
let i74 : Int := orA .u64 i69 i73
bif decide (0 ≤ i68) then (
bif decide (i68 < ((List.length l66) : Int)) then (
let l75 : (List Int) := (List.set l66 ((Int.toNat i68)) i74)
let i76 : Int := addA .i64 i65 1
rec (((), l63, i64, i76, ()), (l75, ()))) else none) else none)) else none) else none) else none) else none) else (
κ0 (((), ()), (l66, ())))
def EG_45 {R : Type} : Env R := Env.base QQ LN
def LG_45 {R : Type} (m_45_5 : Tl_45_5 R) : Loops R := (Loops.none).add 5 (loopBy 0 lv_45_5 pt_45_5 (fun x k => m_45_5 x (fun y => k (.exit 0) (px_45_5_0.inst y))))
def E_45 {R : Type} (N : Nat) : Env R := EG_45
theorem eok_45 {R : Type} (N : Nat) : EK Try.prog (E_45 (R := R) N) := ek_base _ _
def L_45 {R : Type} (N : Nat) : Loops R := LG_45 (l_45_5 N N)
theorem gstep_45_5 {R : Type} (m_45_5 : Tl_45_5 R) (n : Nat) (x : pt_45_5.den) (k : Exit → St → Option R) : iter 0 lv_45_5 lo_45_5 (aexec TT (EG_45) (drawAny TT WW) (LG_45 m_45_5) (loopAt 5 (bodyOf Try.f45))) (n + 1) (pt_45_5.inst x) k = C_45_5 m_45_5 (fun y => iter 0 lv_45_5 lo_45_5 (aexec TT (EG_45) (drawAny TT WW) (LG_45 m_45_5) (loopAt 5 (bodyOf Try.f45))) n (pt_45_5.inst y) k) x (fun y => k (.exit 0) (px_45_5_0.inst y)) := by kernel_rfl
theorem step_45_5 {R : Type} (N n : Nat) (x : pt_45_5.den) (k : Exit → St → Option R) : iter 0 lv_45_5 lo_45_5 (aexec TT (E_45 (R := R) N) (drawAny TT WW) (L_45 N) (loopAt 5 (bodyOf Try.f45))) (n + 1) (pt_45_5.inst x) k = B_45_5 N (fun y => iter 0 lv_45_5 lo_45_5 (aexec TT (E_45 (R := R) N) (drawAny TT WW) (L_45 N) (loopAt 5 (bodyOf Try.f45))) n (pt_45_5.inst y) k) x (fun y => k (.exit 0) (px_45_5_0.inst y)) := (gstep_45_5 (l_45_5 N N) n x k).trans (by kernel_rfl)
theorem eq_45_5 {R : Type} (N : Nat) : ∀ (n : Nat) (x : pt_45_5.den) (k : Exit → St → Option R), iter 0 lv_45_5 lo_45_5 (aexec TT (E_45 (R := R) N) (drawAny TT WW) (L_45 N) (loopAt 5 (bodyOf Try.f45))) n (pt_45_5.inst x) k = l_45_5 N n x (fun y => k (.exit 0) (px_45_5_0.inst y)) :=
  iter_eq (K := Exit → St → Option R) (ks := fun k => k) (l := fun n (x : pt_45_5.den) k => l_45_5 N n x (fun y => k (.exit 0) (px_45_5_0.inst y))) (B := fun (rec : pt_45_5.den → Option R) (x : pt_45_5.den) k => B_45_5 N rec x (fun y => k (.exit 0) (px_45_5_0.inst y))) (fun _ _ => rfl) (fun _ _ _ => rfl) (fun n x k => step_45_5 N n x k)
theorem rounds_45_5 {R : Type} (N : Nat) : Rounds 0 TT (E_45 (R := R) N) (drawAny TT WW) (L_45 N) 5 (loopAt 5 (bodyOf Try.f45)) :=
  rounds_of (p := pt_45_5) (l := fun (x : pt_45_5.den) k => l_45_5 N N x (fun y => k (.exit 0) (px_45_5_0.inst y))) (fun s k => rfl) (fun x k => eq_45_5 N N x k)
theorem loops_45 : loopsIn (bodyOf Try.f45) = [(5, loopAt 5 (bodyOf Try.f45))] := by kernel_rfl
theorem lok_45 {R : Type} (N : Nat) : LOK 0 TT (E_45 (R := R) N) (drawAny TT WW) (L_45 N) (bodyOf Try.f45) := loops_all loops_45 (by
  simp only [List.forall_mem_cons, List.not_mem_nil, false_implies, implies_true, and_true]
  exact rounds_45_5 N)
theorem grun_45 {R : Type} (m_45_5 : Tl_45_5 R) (x : aden ap_45 × hden hp_45) (k : KF R) : fnrun TT (EG_45) (drawAny TT WW) (LG_45 m_45_5) true Try.f45 (instA ap_45 x.1) (instH hp_45 x.2) k = Q_45 m_45_5 x (fun y => k (Pat.inst (.tup (.fcons (.ros (.int .u64)) (.fcons (.int .i64) (.fnil)))) y.1) (instH [] y.2)) := by kernel_rfl
theorem run_45 {R : Type} (N : Nat) (x : aden ap_45 × hden hp_45) (k : KF R) : fnrun TT (E_45 (R := R) N) (drawAny TT WW) (L_45 N) true Try.f45 (instA ap_45 x.1) (instH hp_45 x.2) k = p_45 N x (fun y => k (Pat.inst (.tup (.fcons (.ros (.int .u64)) (.fcons (.int .i64) (.fnil)))) y.1) (instH [] y.2)) := (grun_45 (l_45_5 N N) x k).trans (by kernel_rfl)
theorem good_45 {R : Type} (N : Nat) : GD (X := R) Try.prog QQ 45 ap_45 hp_45 (fun (x : aden ap_45 × hden hp_45) k => p_45 N x (fun y => k (Pat.inst (.tup (.fcons (.ros (.int .u64)) (.fcons (.int .i64) (.fnil)))) y.1) (instH [] y.2))) :=
  gd_loud (E := E_45 N) (p := fun (x : aden ap_45 × hden hp_45) k => p_45 N x (fun y => k (Pat.inst (.tup (.fcons (.ros (.int .u64)) (.fcons (.int .i64) (.fnil)))) y.1) (instH [] y.2))) mixed tyok (eok_45 N) Try.func45 (by kernel_rfl) (by kernel_rfl) (by kernel_rfl) (lok_45 N) (fun x k => run_45 N x k)

def ap_46 : List Pat := []
def hp_46 : List (Option (Pat × Nat)) := []
def p_46 {R : Type} (N : Nat) (x : (Unit) × (Unit)) (κ0 : (Nat → (Nat → Int)) → Option R) : Option R :=
let a94 : (Nat → Int) := (upd ((upd ((upd ((upd ((Sch.zero (.arr 4 (.int .i64)))) 0 0)) 1 4)) 2 8)) 3 12)
let a95 : (Nat → Int) := (upd ((upd ((upd ((upd ((Sch.zero (.arr 4 (.int .i64)))) 0 1)) 1 5)) 2 9)) 3 13)
let a96 : (Nat → Int) := (upd ((upd ((upd ((upd ((Sch.zero (.arr 4 (.int .i64)))) 0 2)) 1 6)) 2 10)) 3 14)
let a97 : (Nat → Int) := (upd ((upd ((upd ((upd ((Sch.zero (.arr 4 (.int .i64)))) 0 3)) 1 7)) 2 11)) 3 15)
let a98 : (Nat → Int) := (upd ((upd ((upd ((upd ((Sch.zero (.arr 4 (.int .i64)))) 0 0)) 1 5)) 2 10)) 3 15)
let a99 : (Nat → Int) := (upd ((upd ((upd ((upd ((Sch.zero (.arr 4 (.int .i64)))) 0 1)) 1 6)) 2 11)) 3 12)
let a100 : (Nat → Int) := (upd ((upd ((upd ((upd ((Sch.zero (.arr 4 (.int .i64)))) 0 2)) 1 7)) 2 8)) 3 13)
let a101 : (Nat → Int) := (upd ((upd ((upd ((upd ((Sch.zero (.arr 4 (.int .i64)))) 0 3)) 1 4)) 2 9)) 3 14)
let a102 : (Nat → (Nat → Int)) := (upd ((upd ((upd ((upd ((upd ((upd ((upd ((upd ((Sch.zero (.arr 8 (.arr 4 (.int .i64))))) 0 a94)) 1 a95)) 2 a96)) 3 a97)) 4 a98)) 5 a99)) 6 a100)) 7 a101)
κ0 a102

abbrev Tp_46 (R : Type) : Type := (Unit) × (Unit) → ((Nat → (Nat → Int)) → Option R) → Option R
def Q_46 {R : Type} (x : (Unit) × (Unit)) (κ0 : (Nat → (Nat → Int)) → Option R) : Option R :=
let a94 : (Nat → Int) := (upd ((upd ((upd ((upd ((Sch.zero (.arr 4 (.int .i64)))) 0 0)) 1 4)) 2 8)) 3 12)
let a95 : (Nat → Int) := (upd ((upd ((upd ((upd ((Sch.zero (.arr 4 (.int .i64)))) 0 1)) 1 5)) 2 9)) 3 13)
let a96 : (Nat → Int) := (upd ((upd ((upd ((upd ((Sch.zero (.arr 4 (.int .i64)))) 0 2)) 1 6)) 2 10)) 3 14)
let a97 : (Nat → Int) := (upd ((upd ((upd ((upd ((Sch.zero (.arr 4 (.int .i64)))) 0 3)) 1 7)) 2 11)) 3 15)
let a98 : (Nat → Int) := (upd ((upd ((upd ((upd ((Sch.zero (.arr 4 (.int .i64)))) 0 0)) 1 5)) 2 10)) 3 15)
let a99 : (Nat → Int) := (upd ((upd ((upd ((upd ((Sch.zero (.arr 4 (.int .i64)))) 0 1)) 1 6)) 2 11)) 3 12)
let a100 : (Nat → Int) := (upd ((upd ((upd ((upd ((Sch.zero (.arr 4 (.int .i64)))) 0 2)) 1 7)) 2 8)) 3 13)
let a101 : (Nat → Int) := (upd ((upd ((upd ((upd ((Sch.zero (.arr 4 (.int .i64)))) 0 3)) 1 4)) 2 9)) 3 14)
let a102 : (Nat → (Nat → Int)) := (upd ((upd ((upd ((upd ((upd ((upd ((upd ((upd ((Sch.zero (.arr 8 (.arr 4 (.int .i64))))) 0 a94)) 1 a95)) 2 a96)) 3 a97)) 4 a98)) 5 a99)) 6 a100)) 7 a101)
κ0 a102
def EG_46 {R : Type} : Env R := Env.base QQ LN
def LG_46 {R : Type} : Loops R := Loops.none
def E_46 {R : Type} (N : Nat) : Env R := EG_46
theorem eok_46 {R : Type} (N : Nat) : EK Try.prog (E_46 (R := R) N) := ek_base _ _
def L_46 {R : Type} (N : Nat) : Loops R := LG_46
theorem lok_46 {R : Type} (N : Nat) : LOK 0 TT (E_46 (R := R) N) (drawAny TT WW) (L_46 N) (bodyOf Try.f46) := loops_nil (by kernel_rfl)
theorem grun_46 {R : Type} (x : aden ap_46 × hden hp_46) (k : KF R) : fnrun TT (EG_46) (drawAny TT WW) (LG_46) true Try.f46 (instA ap_46 x.1) (instH hp_46 x.2) k = Q_46 x (fun y => k (Pat.inst (.vec (.arr 4 (.int .i64)) 8) y) (instH hp_46 x.2)) := by kernel_rfl
theorem run_46 {R : Type} (N : Nat) (x : aden ap_46 × hden hp_46) (k : KF R) : fnrun TT (E_46 (R := R) N) (drawAny TT WW) (L_46 N) true Try.f46 (instA ap_46 x.1) (instH hp_46 x.2) k = p_46 N x (fun y => k (Pat.inst (.vec (.arr 4 (.int .i64)) 8) y) (instH hp_46 x.2)) := (grun_46 x k).trans (by kernel_rfl)
theorem good_46 {R : Type} (N : Nat) : GD (X := R) Try.prog QQ 46 ap_46 hp_46 (fun (x : aden ap_46 × hden hp_46) k => p_46 N x (fun y => k (Pat.inst (.vec (.arr 4 (.int .i64)) 8) y) (instH hp_46 x.2))) :=
  gd_quiet (E := E_46 N) (p := fun (x : aden ap_46 × hden hp_46) κ => p_46 N x (fun y => κ (Pat.inst (.vec (.arr 4 (.int .i64)) 8) y))) mixed tyok (eok_46 N) Try.func46 (by kernel_rfl) (by kernel_rfl) (lok_46 N) (fun x k => run_46 N x k)

def lv_19_7 : Live := [(2, none), (4, none), (5, none), (16, none)]
def pt_19_7 : SPat := ⟨[(2, .ptr 0 []), (4, .ptr 1 []), (5, .str), (16, .int .i64)], [some (.vec (.int .i64) 16, 38), some (.vec (.int .i64) 16, 38)]⟩
def px_19_7_0 : SPat := ⟨[(2, .ptr 0 []), (4, .ptr 1 [])], [some (.vec (.int .i64) 16, 38), some (.vec (.int .i64) 16, 38)]⟩
def lo_19_7 : Exit → Live
  | .exit 0 => [(2, none), (4, none)]
  | _ => []
def B_19_7 {R : Type} (N : Nat) (rec : ((Unit × Unit × ByteArray × Int × Unit) × ((Nat → Int) × (Nat → Int) × Unit)) → Option R) (x : ((Unit × Unit × ByteArray × Int × Unit) × ((Nat → Int) × (Nat → Int) × Unit))) (κ0 : ((Unit × Unit × Unit) × ((Nat → Int) × (Nat → Int) × Unit)) → Option R) : Option R :=
let s116 : ByteArray := x.1.2.2.1
let i117 : Int := x.1.2.2.2.1
let a118 : (Nat → Int) := x.2.1
let a119 : (Nat → Int) := x.2.2.1
bif (decide (i117 < 16)) then (
bif decide (0 ≤ i117) then (
bif decide (i117 < (ByteArray.size s116 : Int)) then (
let i120 : Int := byteAt s116 ((Int.toNat i117))
let i121 : Int := IntKind.wrap .i64 i120
bif (decide (i121 ≥ 97)) then (
let i122 : Int := subA .i64 i121 97
let i123 : Int := addA .i64 i122 10
bif decide (0 ≤ i117) then (
bif decide (i117 < (16 : Int)) then (
let a124 : (Nat → Int) := (upd a119 ((Int.toNat i117)) i123)
let i125 : Int := addA .i64 i117 1
rec (((), (), s116, i125, ()), (a118, a124, ()))) else none) else none) else (
let i126 : Int := subA .i64 i121 48
bif decide (0 ≤ i117) then (
bif decide (i117 < (16 : Int)) then (
let a127 : (Nat → Int) := (upd a119 ((Int.toNat i117)) i126)
let i128 : Int := addA .i64 i117 1
rec (((), (), s116, i128, ()), (a118, a127, ()))) else none) else none)) else none) else none) else (
κ0 (((), (), ()), (a118, a119, ())))
def l_19_7 {R : Type} (N : Nat) : Nat → ((Unit × Unit × ByteArray × Int × Unit) × ((Nat → Int) × (Nat → Int) × Unit)) → (((Unit × Unit × Unit) × ((Nat → Int) × (Nat → Int) × Unit)) → Option R) → Option R
  | 0, _, _ => none
  | n + 1, x, κ0 => B_19_7 N (fun y => l_19_7 N n y κ0) x κ0
def ap_19 : List Pat := [.int .i64]
def hp_19 : List (Option (Pat × Nat)) := []
def p_19 {R : Type} (N : Nat) (x : (Int × Unit) × (Unit)) (κ0 : (Nat → Int) → Option R) : Option R :=
let i111 : Int := x.1.1
let a112 : (Nat → ByteArray) := (upd ((upd ((upd ((upd ((upd ((upd ((upd ((upd ((upd ((upd ((Sch.zero (.arr 10 (.str)))) 0 (⟨#[48, 49, 50, 51, 52, 53, 54, 55, 56, 57, 97, 98, 99, 100, 101, 102]⟩))) 1 (⟨#[101, 97, 52, 56, 57, 102, 100, 54, 49, 99, 48, 50, 98, 55, 53, 51]⟩))) 2 (⟨#[98, 56, 99, 48, 53, 50, 102, 100, 97, 101, 51, 54, 55, 49, 57, 52]⟩))) 3 (⟨#[55, 57, 51, 49, 100, 99, 98, 101, 50, 54, 53, 97, 52, 48, 102, 56]⟩))) 4 (⟨#[57, 48, 53, 55, 50, 52, 97, 102, 101, 49, 98, 99, 54, 56, 51, 100]⟩))) 5 (⟨#[50, 99, 54, 97, 48, 98, 56, 51, 52, 100, 55, 53, 102, 101, 49, 57]⟩))) 6 (⟨#[99, 53, 49, 102, 101, 100, 52, 97, 48, 55, 54, 51, 57, 50, 56, 98]⟩))) 7 (⟨#[100, 98, 55, 101, 99, 49, 51, 57, 53, 48, 102, 52, 56, 54, 50, 97]⟩))) 8 (⟨#[54, 102, 101, 57, 98, 51, 48, 56, 99, 50, 100, 55, 49, 52, 97, 53]⟩))) 9 (⟨#[97, 50, 56, 52, 55, 54, 49, 53, 102, 98, 57, 101, 51, 99, 100, 48]⟩))
bif (decide (i111 < 0)) then (
let a113 : (Nat → Int) := (Sch.zero (.arr 16 (.int .i64)))
κ0 a113) else (
let i114 : Int := remA .i64 i111 10
bif decide (0 ≤ i114) then (
bif decide (i114 < (10 : Int)) then (
let s115 : ByteArray := (a112 ((Int.toNat i114)))
l_19_7 N N (((), (), s115, 0, ()), ((Sch.zero (.arr 16 (.int .i64))), (Sch.zero (.arr 16 (.int .i64))), ())) (fun y129 =>
let a130 : (Nat → Int) := y129.2.1
let a131 : (Nat → Int) := y129.2.2.1
κ0 a131)) else none) else none)

abbrev Tl_19_7 (R : Type) : Type := ((Unit × Unit × ByteArray × Int × Unit) × ((Nat → Int) × (Nat → Int) × Unit)) → (((Unit × Unit × Unit) × ((Nat → Int) × (Nat → Int) × Unit)) → Option R) → Option R
abbrev Tp_19 (R : Type) : Type := (Int × Unit) × (Unit) → ((Nat → Int) → Option R) → Option R
def Q_19 {R : Type} (m_19_7 : Tl_19_7 R) (x : (Int × Unit) × (Unit)) (κ0 : (Nat → Int) → Option R) : Option R :=
let i111 : Int := x.1.1
let a112 : (Nat → ByteArray) := (upd ((upd ((upd ((upd ((upd ((upd ((upd ((upd ((upd ((upd ((Sch.zero (.arr 10 (.str)))) 0 (⟨#[48, 49, 50, 51, 52, 53, 54, 55, 56, 57, 97, 98, 99, 100, 101, 102]⟩))) 1 (⟨#[101, 97, 52, 56, 57, 102, 100, 54, 49, 99, 48, 50, 98, 55, 53, 51]⟩))) 2 (⟨#[98, 56, 99, 48, 53, 50, 102, 100, 97, 101, 51, 54, 55, 49, 57, 52]⟩))) 3 (⟨#[55, 57, 51, 49, 100, 99, 98, 101, 50, 54, 53, 97, 52, 48, 102, 56]⟩))) 4 (⟨#[57, 48, 53, 55, 50, 52, 97, 102, 101, 49, 98, 99, 54, 56, 51, 100]⟩))) 5 (⟨#[50, 99, 54, 97, 48, 98, 56, 51, 52, 100, 55, 53, 102, 101, 49, 57]⟩))) 6 (⟨#[99, 53, 49, 102, 101, 100, 52, 97, 48, 55, 54, 51, 57, 50, 56, 98]⟩))) 7 (⟨#[100, 98, 55, 101, 99, 49, 51, 57, 53, 48, 102, 52, 56, 54, 50, 97]⟩))) 8 (⟨#[54, 102, 101, 57, 98, 51, 48, 56, 99, 50, 100, 55, 49, 52, 97, 53]⟩))) 9 (⟨#[97, 50, 56, 52, 55, 54, 49, 53, 102, 98, 57, 101, 51, 99, 100, 48]⟩))
bif (decide (i111 < 0)) then (
let a113 : (Nat → Int) := (Sch.zero (.arr 16 (.int .i64)))
κ0 a113) else (
let i114 : Int := remA .i64 i111 10
bif decide (0 ≤ i114) then (
bif decide (i114 < (10 : Int)) then (
let s115 : ByteArray := (a112 ((Int.toNat i114)))
m_19_7 (((), (), s115, 0, ()), ((Sch.zero (.arr 16 (.int .i64))), (Sch.zero (.arr 16 (.int .i64))), ())) (fun y129 =>
let a130 : (Nat → Int) := y129.2.1
let a131 : (Nat → Int) := y129.2.2.1
κ0 a131)) else none) else none)
def C_19_7 {R : Type} (m_19_7 : Tl_19_7 R) (rec : ((Unit × Unit × ByteArray × Int × Unit) × ((Nat → Int) × (Nat → Int) × Unit)) → Option R) (x : ((Unit × Unit × ByteArray × Int × Unit) × ((Nat → Int) × (Nat → Int) × Unit))) (κ0 : ((Unit × Unit × Unit) × ((Nat → Int) × (Nat → Int) × Unit)) → Option R) : Option R :=
let s116 : ByteArray := x.1.2.2.1
let i117 : Int := x.1.2.2.2.1
let a118 : (Nat → Int) := x.2.1
let a119 : (Nat → Int) := x.2.2.1
bif (decide (i117 < 16)) then (
bif decide (0 ≤ i117) then (
bif decide (i117 < (ByteArray.size s116 : Int)) then (
let i120 : Int := byteAt s116 ((Int.toNat i117))
let i121 : Int := IntKind.wrap .i64 i120
bif (decide (i121 ≥ 97)) then (
let i122 : Int := subA .i64 i121 97
let i123 : Int := addA .i64 i122 10
bif decide (0 ≤ i117) then (
bif decide (i117 < (16 : Int)) then (
let a124 : (Nat → Int) := (upd a119 ((Int.toNat i117)) i123)
let i125 : Int := addA .i64 i117 1
rec (((), (), s116, i125, ()), (a118, a124, ()))) else none) else none) else (
let i126 : Int := subA .i64 i121 48
bif decide (0 ≤ i117) then (
bif decide (i117 < (16 : Int)) then (
let a127 : (Nat → Int) := (upd a119 ((Int.toNat i117)) i126)
let i128 : Int := addA .i64 i117 1
rec (((), (), s116, i128, ()), (a118, a127, ()))) else none) else none)) else none) else none) else (
κ0 (((), (), ()), (a118, a119, ())))
def EG_19 {R : Type} : Env R := Env.base QQ LN
def LG_19 {R : Type} (m_19_7 : Tl_19_7 R) : Loops R := (Loops.none).add 7 (loopBy 0 lv_19_7 pt_19_7 (fun x k => m_19_7 x (fun y => k (.exit 0) (px_19_7_0.inst y))))
def E_19 {R : Type} (N : Nat) : Env R := EG_19
theorem eok_19 {R : Type} (N : Nat) : EK Try.prog (E_19 (R := R) N) := ek_base _ _
def L_19 {R : Type} (N : Nat) : Loops R := LG_19 (l_19_7 N N)
theorem gstep_19_7 {R : Type} (m_19_7 : Tl_19_7 R) (n : Nat) (x : pt_19_7.den) (k : Exit → St → Option R) : iter 0 lv_19_7 lo_19_7 (aexec TT (EG_19) (drawAny TT WW) (LG_19 m_19_7) (loopAt 7 (bodyOf Try.f19))) (n + 1) (pt_19_7.inst x) k = C_19_7 m_19_7 (fun y => iter 0 lv_19_7 lo_19_7 (aexec TT (EG_19) (drawAny TT WW) (LG_19 m_19_7) (loopAt 7 (bodyOf Try.f19))) n (pt_19_7.inst y) k) x (fun y => k (.exit 0) (px_19_7_0.inst y)) := by kernel_rfl
theorem step_19_7 {R : Type} (N n : Nat) (x : pt_19_7.den) (k : Exit → St → Option R) : iter 0 lv_19_7 lo_19_7 (aexec TT (E_19 (R := R) N) (drawAny TT WW) (L_19 N) (loopAt 7 (bodyOf Try.f19))) (n + 1) (pt_19_7.inst x) k = B_19_7 N (fun y => iter 0 lv_19_7 lo_19_7 (aexec TT (E_19 (R := R) N) (drawAny TT WW) (L_19 N) (loopAt 7 (bodyOf Try.f19))) n (pt_19_7.inst y) k) x (fun y => k (.exit 0) (px_19_7_0.inst y)) := (gstep_19_7 (l_19_7 N N) n x k).trans (by kernel_rfl)
theorem eq_19_7 {R : Type} (N : Nat) : ∀ (n : Nat) (x : pt_19_7.den) (k : Exit → St → Option R), iter 0 lv_19_7 lo_19_7 (aexec TT (E_19 (R := R) N) (drawAny TT WW) (L_19 N) (loopAt 7 (bodyOf Try.f19))) n (pt_19_7.inst x) k = l_19_7 N n x (fun y => k (.exit 0) (px_19_7_0.inst y)) :=
  iter_eq (K := Exit → St → Option R) (ks := fun k => k) (l := fun n (x : pt_19_7.den) k => l_19_7 N n x (fun y => k (.exit 0) (px_19_7_0.inst y))) (B := fun (rec : pt_19_7.den → Option R) (x : pt_19_7.den) k => B_19_7 N rec x (fun y => k (.exit 0) (px_19_7_0.inst y))) (fun _ _ => rfl) (fun _ _ _ => rfl) (fun n x k => step_19_7 N n x k)
theorem rounds_19_7 {R : Type} (N : Nat) : Rounds 0 TT (E_19 (R := R) N) (drawAny TT WW) (L_19 N) 7 (loopAt 7 (bodyOf Try.f19)) :=
  rounds_of (p := pt_19_7) (l := fun (x : pt_19_7.den) k => l_19_7 N N x (fun y => k (.exit 0) (px_19_7_0.inst y))) (fun s k => rfl) (fun x k => eq_19_7 N N x k)
theorem loops_19 : loopsIn (bodyOf Try.f19) = [(7, loopAt 7 (bodyOf Try.f19))] := by kernel_rfl
theorem lok_19 {R : Type} (N : Nat) : LOK 0 TT (E_19 (R := R) N) (drawAny TT WW) (L_19 N) (bodyOf Try.f19) := loops_all loops_19 (by
  simp only [List.forall_mem_cons, List.not_mem_nil, false_implies, implies_true, and_true]
  exact rounds_19_7 N)
theorem grun_19 {R : Type} (m_19_7 : Tl_19_7 R) (x : aden ap_19 × hden hp_19) (k : KF R) : fnrun TT (EG_19) (drawAny TT WW) (LG_19 m_19_7) true Try.f19 (instA ap_19 x.1) (instH hp_19 x.2) k = Q_19 m_19_7 x (fun y => k (Pat.inst (.vec (.int .i64) 16) y) (instH hp_19 x.2)) := by kernel_rfl
theorem run_19 {R : Type} (N : Nat) (x : aden ap_19 × hden hp_19) (k : KF R) : fnrun TT (E_19 (R := R) N) (drawAny TT WW) (L_19 N) true Try.f19 (instA ap_19 x.1) (instH hp_19 x.2) k = p_19 N x (fun y => k (Pat.inst (.vec (.int .i64) 16) y) (instH hp_19 x.2)) := (grun_19 (l_19_7 N N) x k).trans (by kernel_rfl)
theorem good_19 {R : Type} (N : Nat) : GD (X := R) Try.prog QQ 19 ap_19 hp_19 (fun (x : aden ap_19 × hden hp_19) k => p_19 N x (fun y => k (Pat.inst (.vec (.int .i64) 16) y) (instH hp_19 x.2))) :=
  gd_quiet (E := E_19 N) (p := fun (x : aden ap_19 × hden hp_19) κ => p_19 N x (fun y => κ (Pat.inst (.vec (.int .i64) 16) y))) mixed tyok (eok_19 N) Try.func19 (by kernel_rfl) (by kernel_rfl) (lok_19 N) (fun x k => run_19 N x k)

def ap_51 : List Pat := [.int .u64, .int .i64]
def hp_51 : List (Option (Pat × Nat)) := []
def p_51 {R : Type} (N : Nat) (x : (Int × Int × Unit) × (Unit)) (κ0 : Int → Option R) : Option R :=
let i168 : Int := x.1.1
let i169 : Int := x.1.2.1
let i170 : Int := IntKind.wrap .u64 i169
let i171 : Int := remA .u64 i170 64
bif decide (i171 < 0) then none else (
let i172 : Int := shrA .u64 i168 i171
let i173 : Int := subA .u64 64 i171
bif decide (i173 < 0) then none else (
let i174 : Int := shlA .u64 i168 i173
let i175 : Int := orA .u64 i172 i174
κ0 i175))

abbrev Tp_51 (R : Type) : Type := (Int × Int × Unit) × (Unit) → (Int → Option R) → Option R
def Q_51 {R : Type} (x : (Int × Int × Unit) × (Unit)) (κ0 : Int → Option R) : Option R :=
let i168 : Int := x.1.1
let i169 : Int := x.1.2.1
let i170 : Int := IntKind.wrap .u64 i169
let i171 : Int := remA .u64 i170 64
bif decide (i171 < 0) then none else (
let i172 : Int := shrA .u64 i168 i171
let i173 : Int := subA .u64 64 i171
bif decide (i173 < 0) then none else (
let i174 : Int := shlA .u64 i168 i173
let i175 : Int := orA .u64 i172 i174
κ0 i175))
def EG_51 {R : Type} : Env R := Env.base QQ LN
def LG_51 {R : Type} : Loops R := Loops.none
def E_51 {R : Type} (N : Nat) : Env R := EG_51
theorem eok_51 {R : Type} (N : Nat) : EK Try.prog (E_51 (R := R) N) := ek_base _ _
def L_51 {R : Type} (N : Nat) : Loops R := LG_51
theorem lok_51 {R : Type} (N : Nat) : LOK 0 TT (E_51 (R := R) N) (drawAny TT WW) (L_51 N) (bodyOf Try.f51) := loops_nil (by kernel_rfl)
theorem grun_51 {R : Type} (x : aden ap_51 × hden hp_51) (k : KF R) : fnrun TT (EG_51) (drawAny TT WW) (LG_51) true Try.f51 (instA ap_51 x.1) (instH hp_51 x.2) k = Q_51 x (fun y => k (Pat.inst (.int .u64) y) (instH hp_51 x.2)) := by kernel_rfl
theorem run_51 {R : Type} (N : Nat) (x : aden ap_51 × hden hp_51) (k : KF R) : fnrun TT (E_51 (R := R) N) (drawAny TT WW) (L_51 N) true Try.f51 (instA ap_51 x.1) (instH hp_51 x.2) k = p_51 N x (fun y => k (Pat.inst (.int .u64) y) (instH hp_51 x.2)) := (grun_51 x k).trans (by kernel_rfl)
theorem good_51 {R : Type} (N : Nat) : GD (X := R) Try.prog QQ 51 ap_51 hp_51 (fun (x : aden ap_51 × hden hp_51) k => p_51 N x (fun y => k (Pat.inst (.int .u64) y) (instH hp_51 x.2))) :=
  gd_quiet (E := E_51 N) (p := fun (x : aden ap_51 × hden hp_51) κ => p_51 N x (fun y => κ (Pat.inst (.int .u64) y))) mixed tyok (eok_51 N) Try.func51 (by kernel_rfl) (by kernel_rfl) (lok_51 N) (fun x k => run_51 N x k)

def ap_17 : List Pat := [.int .u64, .int .u64, .int .u64, .int .u64, .int .u64, .int .u64]
def hp_17 : List (Option (Pat × Nat)) := []
def p_17 {R : Type} (N : Nat) (x : (Int × Int × Int × Int × Int × Int × Unit) × (Unit)) (κ0 : (Int × (Int × (Int × (Int × Unit)))) → Option R) : Option R :=
let i159 : Int := x.1.1
let i160 : Int := x.1.2.1
let i161 : Int := x.1.2.2.1
let i162 : Int := x.1.2.2.2.1
let i163 : Int := x.1.2.2.2.2.1
let i164 : Int := x.1.2.2.2.2.2.1
let i165 : Int := addA .u64 i160 i163
let i166 : Int := addA .u64 i159 i165
let i167 : Int := xorA .u64 i162 i166
p_51 N ((i167, 32, ()), ()) (fun y176 =>
let i177 : Int := y176
let i178 : Int := addA .u64 i161 i177
let i179 : Int := xorA .u64 i160 i178
p_51 N ((i179, 24, ()), ()) (fun y180 =>
let i181 : Int := y180
let i182 : Int := addA .u64 i181 i164
let i183 : Int := addA .u64 i166 i182
let i184 : Int := xorA .u64 i177 i183
p_51 N ((i184, 16, ()), ()) (fun y185 =>
let i186 : Int := y185
let i187 : Int := addA .u64 i178 i186
let i188 : Int := xorA .u64 i181 i187
p_51 N ((i188, 63, ()), ()) (fun y189 =>
let i190 : Int := y189
κ0 ((i183, (i190, (i187, (i186, ())))))))))

abbrev Tp_17 (R : Type) : Type := (Int × Int × Int × Int × Int × Int × Unit) × (Unit) → ((Int × (Int × (Int × (Int × Unit)))) → Option R) → Option R
def Q_17 {R : Type} (q_51 : Tp_51 R) (x : (Int × Int × Int × Int × Int × Int × Unit) × (Unit)) (κ0 : (Int × (Int × (Int × (Int × Unit)))) → Option R) : Option R :=
let i159 : Int := x.1.1
let i160 : Int := x.1.2.1
let i161 : Int := x.1.2.2.1
let i162 : Int := x.1.2.2.2.1
let i163 : Int := x.1.2.2.2.2.1
let i164 : Int := x.1.2.2.2.2.2.1
let i165 : Int := addA .u64 i160 i163
let i166 : Int := addA .u64 i159 i165
let i167 : Int := xorA .u64 i162 i166
q_51 ((i167, 32, ()), ()) (fun y176 =>
let i177 : Int := y176
let i178 : Int := addA .u64 i161 i177
let i179 : Int := xorA .u64 i160 i178
q_51 ((i179, 24, ()), ()) (fun y180 =>
let i181 : Int := y180
let i182 : Int := addA .u64 i181 i164
let i183 : Int := addA .u64 i166 i182
let i184 : Int := xorA .u64 i177 i183
q_51 ((i184, 16, ()), ()) (fun y185 =>
let i186 : Int := y185
let i187 : Int := addA .u64 i178 i186
let i188 : Int := xorA .u64 i181 i187
q_51 ((i188, 63, ()), ()) (fun y189 =>
let i190 : Int := y189
κ0 ((i183, (i190, (i187, (i186, ())))))))))
def EG_17 {R : Type} (q_51 : Tp_51 R) : Env R := (Env.base QQ LN).add 51 ap_51 hp_51 (fun (x : aden ap_51 × hden hp_51) k => q_51 x (fun y => k (Pat.inst (.int .u64) y) (instH hp_51 x.2)))
def LG_17 {R : Type} : Loops R := Loops.none
def E_17 {R : Type} (N : Nat) : Env R := EG_17 (p_51 N)
theorem eok_17 {R : Type} (N : Nat) : EK Try.prog (E_17 (R := R) N) := ek_add (ek_base _ _) (good_51 N)
def L_17 {R : Type} (N : Nat) : Loops R := LG_17
theorem lok_17 {R : Type} (N : Nat) : LOK 0 TT (E_17 (R := R) N) (drawAny TT WW) (L_17 N) (bodyOf Try.f17) := loops_nil (by kernel_rfl)
theorem grun_17 {R : Type} (q_51 : Tp_51 R) (x : aden ap_17 × hden hp_17) (k : KF R) : fnrun TT (EG_17 q_51) (drawAny TT WW) (LG_17) true Try.f17 (instA ap_17 x.1) (instH hp_17 x.2) k = Q_17 q_51 x (fun y => k (Pat.inst (.tup (.fcons (.int .u64) (.fcons (.int .u64) (.fcons (.int .u64) (.fcons (.int .u64) (.fnil)))))) y) (instH hp_17 x.2)) := by kernel_rfl
theorem run_17 {R : Type} (N : Nat) (x : aden ap_17 × hden hp_17) (k : KF R) : fnrun TT (E_17 (R := R) N) (drawAny TT WW) (L_17 N) true Try.f17 (instA ap_17 x.1) (instH hp_17 x.2) k = p_17 N x (fun y => k (Pat.inst (.tup (.fcons (.int .u64) (.fcons (.int .u64) (.fcons (.int .u64) (.fcons (.int .u64) (.fnil)))))) y) (instH hp_17 x.2)) := (grun_17 (p_51 N) x k).trans (by kernel_rfl)
theorem good_17 {R : Type} (N : Nat) : GD (X := R) Try.prog QQ 17 ap_17 hp_17 (fun (x : aden ap_17 × hden hp_17) k => p_17 N x (fun y => k (Pat.inst (.tup (.fcons (.int .u64) (.fcons (.int .u64) (.fcons (.int .u64) (.fcons (.int .u64) (.fnil)))))) y) (instH hp_17 x.2))) :=
  gd_quiet (E := E_17 N) (p := fun (x : aden ap_17 × hden hp_17) κ => p_17 N x (fun y => κ (Pat.inst (.tup (.fcons (.int .u64) (.fcons (.int .u64) (.fcons (.int .u64) (.fcons (.int .u64) (.fnil)))))) y))) mixed tyok (eok_17 N) Try.func17 (by kernel_rfl) (by kernel_rfl) (lok_17 N) (fun x k => run_17 N x k)

def lv_12_17 : Live := [(4, none), (8, none), (10, none), (12, none), (14, none), (16, none), (51, none), (56, none), (57, none)]
def pt_12_17 : SPat := ⟨[(4, .ptr 0 []), (8, .ptr 1 []), (10, .ros (.int .u64)), (12, .ptr 2 []), (14, .ptr 3 []), (16, .ptr 4 []), (51, .int .i64), (56, .vec (.arr 4 (.int .i64)) 8), (57, .int .i64)], [some (.vec (.int .u64) 8, 23), some (.vec (.int .u64) 8, 23), some (.vec (.int .u64) 16, 97), some (.vec (.arr 4 (.int .i64)) 8, 99), some (.vec (.int .i64) 16, 38)]⟩
def px_12_17_0 : SPat := ⟨[(4, .ptr 0 []), (8, .ptr 1 []), (10, .ros (.int .u64)), (12, .ptr 2 []), (14, .ptr 3 []), (51, .int .i64)], [some (.vec (.int .u64) 8, 23), some (.vec (.int .u64) 8, 23), some (.vec (.int .u64) 16, 97), some (.vec (.arr 4 (.int .i64)) 8, 99)]⟩
def lo_12_17 : Exit → Live
  | .exit 2 => [(4, none), (8, none), (10, none), (12, none), (14, none), (51, none)]
  | _ => []
def B_12_17 {R : Type} (N : Nat) (rec : ((Unit × Unit × (List Int) × Unit × Unit × Unit × Int × (Nat → (Nat → Int)) × Int × Unit) × ((Nat → Int) × (Nat → Int) × (Nat → Int) × (Nat → (Nat → Int)) × (Nat → Int) × Unit)) → Option R) (x : ((Unit × Unit × (List Int) × Unit × Unit × Unit × Int × (Nat → (Nat → Int)) × Int × Unit) × ((Nat → Int) × (Nat → Int) × (Nat → Int) × (Nat → (Nat → Int)) × (Nat → Int) × Unit))) (κ0 : ((Unit × Unit × (List Int) × Unit × Unit × Int × Unit) × ((Nat → Int) × (Nat → Int) × (Nat → Int) × (Nat → (Nat → Int)) × Unit)) → Option R) : Option R :=
let l692 : (List Int) := x.1.2.2.1
let i693 : Int := x.1.2.2.2.2.2.2.1
let a694 : (Nat → (Nat → Int)) := x.1.2.2.2.2.2.2.2.1
let i695 : Int := x.1.2.2.2.2.2.2.2.2.1
let a696 : (Nat → Int) := x.2.1
let a697 : (Nat → Int) := x.2.2.1
let a698 : (Nat → Int) := x.2.2.2.1
let a699 : (Nat → (Nat → Int)) := x.2.2.2.2.1
let a700 : (Nat → Int) := x.2.2.2.2.2.1
bif (decide (i695 < 8)) then (
bif decide (0 ≤ i695) then (
bif decide (i695 < (8 : Int)) then (
let a701 : (Nat → Int) := (a694 ((Int.toNat i695)))
let i702 : Int := (a701 0)
let i703 : Int := (a701 1)
let i704 : Int := (a701 2)
let i705 : Int := (a701 3)
bif decide (0 ≤ i702) then (
bif decide (i702 < (16 : Int)) then (
let i706 : Int := (a698 ((Int.toNat i702)))
bif decide (0 ≤ i703) then (
bif decide (i703 < (16 : Int)) then (
let i707 : Int := (a698 ((Int.toNat i703)))
bif decide (0 ≤ i704) then (
bif decide (i704 < (16 : Int)) then (
let i708 : Int := (a698 ((Int.toNat i704)))
bif decide (0 ≤ i705) then (
bif decide (i705 < (16 : Int)) then (
let i709 : Int := (a698 ((Int.toNat i705)))
let i710 : Int := mulA .i64 2 i695
bif decide (0 ≤ i710) then (
bif decide (i710 < (16 : Int)) then (
let i711 : Int := (a700 ((Int.toNat i710)))
bif decide (0 ≤ i711) then (
bif decide (i711 < ((List.length l692) : Int)) then (
let p712 : Int := (List.getD l692 ((Int.toNat i711)) (Sch.zero (.int .u64)))
let i713 : Int := mulA .i64 2 i695
let i714 : Int := addA .i64 i713 1
bif decide (0 ≤ i714) then (
bif decide (i714 < (16 : Int)) then (
let i715 : Int := (a700 ((Int.toNat i714)))
bif decide (0 ≤ i715) then (
bif decide (i715 < ((List.length l692) : Int)) then (
let p716 : Int := (List.getD l692 ((Int.toNat i715)) (Sch.zero (.int .u64)))
p_17 N ((i706, i707, i708, i709, p712, p716, ()), ()) (fun y717 =>
let i718 : Int := y717.1
let i719 : Int := y717.2.1
let i720 : Int := y717.2.2.1
let i721 : Int := y717.2.2.2.1
bif decide (0 ≤ i702) then (
bif decide (i702 < (16 : Int)) then (
let a722 : (Nat → Int) := (upd a698 ((Int.toNat i702)) i718)
bif decide (0 ≤ i703) then (
bif decide (i703 < (16 : Int)) then (
let a723 : (Nat → Int) := (upd a722 ((Int.toNat i703)) i719)
bif decide (0 ≤ i704) then (
bif decide (i704 < (16 : Int)) then (
let a724 : (Nat → Int) := (upd a723 ((Int.toNat i704)) i720)
bif decide (0 ≤ i705) then (
bif decide (i705 < (16 : Int)) then (
let a725 : (Nat → Int) := (upd a724 ((Int.toNat i705)) i721)
let i726 : Int := addA .i64 i695 1
rec (((), (), l692, (), (), (), i693, a694, i726, ()), (a696, a697, a725, a699, a700, ()))) else none) else none) else none) else none) else none) else none) else none) else none)) else none) else none) else none) else none) else none) else none) else none) else none) else none) else none) else none) else none) else none) else none) else none) else none) else none) else none) else (
κ0 (((), (), l692, (), (), i693, ()), (a696, a697, a698, a699, ())))
def l_12_17 {R : Type} (N : Nat) : Nat → ((Unit × Unit × (List Int) × Unit × Unit × Unit × Int × (Nat → (Nat → Int)) × Int × Unit) × ((Nat → Int) × (Nat → Int) × (Nat → Int) × (Nat → (Nat → Int)) × (Nat → Int) × Unit)) → (((Unit × Unit × (List Int) × Unit × Unit × Int × Unit) × ((Nat → Int) × (Nat → Int) × (Nat → Int) × (Nat → (Nat → Int)) × Unit)) → Option R) → Option R
  | 0, _, _ => none
  | n + 1, x, κ0 => B_12_17 N (fun y => l_12_17 N n y κ0) x κ0
def lv_12_13 : Live := [(4, none), (8, none), (10, none), (12, none), (14, none), (51, none)]
def pt_12_13 : SPat := ⟨[(4, .ptr 0 []), (8, .ptr 1 []), (10, .ros (.int .u64)), (12, .ptr 2 []), (14, .ptr 3 []), (51, .int .i64)], [some (.vec (.int .u64) 8, 23), some (.vec (.int .u64) 8, 23), some (.vec (.int .u64) 16, 97), some (.vec (.arr 4 (.int .i64)) 8, 99)]⟩
def px_12_13_0 : SPat := ⟨[(4, .ptr 0 []), (8, .ptr 1 []), (12, .ptr 2 [])], [some (.vec (.int .u64) 8, 23), some (.vec (.int .u64) 8, 23), some (.vec (.int .u64) 16, 97)]⟩
def lo_12_13 : Exit → Live
  | .exit 0 => [(4, none), (8, none), (12, none)]
  | _ => []
def B_12_13 {R : Type} (N : Nat) (rec : ((Unit × Unit × (List Int) × Unit × Unit × Int × Unit) × ((Nat → Int) × (Nat → Int) × (Nat → Int) × (Nat → (Nat → Int)) × Unit)) → Option R) (x : ((Unit × Unit × (List Int) × Unit × Unit × Int × Unit) × ((Nat → Int) × (Nat → Int) × (Nat → Int) × (Nat → (Nat → Int)) × Unit))) (κ0 : ((Unit × Unit × Unit × Unit) × ((Nat → Int) × (Nat → Int) × (Nat → Int) × Unit)) → Option R) : Option R :=
let l684 : (List Int) := x.1.2.2.1
let i685 : Int := x.1.2.2.2.2.2.1
let a686 : (Nat → Int) := x.2.1
let a687 : (Nat → Int) := x.2.2.1
let a688 : (Nat → Int) := x.2.2.2.1
let a689 : (Nat → (Nat → Int)) := x.2.2.2.2.1
bif (decide (i685 < 12)) then (
p_19 N ((i685, ()), ()) (fun y690 =>
let a691 : (Nat → Int) := y690
l_12_17 N N (((), (), l684, (), (), (), i685, a689, 0, ()), (a686, a687, a688, a689, a691, ())) (fun y727 =>
let l728 : (List Int) := y727.1.2.2.1
let i729 : Int := y727.1.2.2.2.2.2.1
let a730 : (Nat → Int) := y727.2.1
let a731 : (Nat → Int) := y727.2.2.1
let a732 : (Nat → Int) := y727.2.2.2.1
let a733 : (Nat → (Nat → Int)) := y727.2.2.2.2.1
let i734 : Int := addA .i64 i729 1
rec (((), (), l728, (), (), i734, ()), (a730, a731, a732, a733, ()))))) else (
κ0 (((), (), (), ()), (a686, a687, a688, ())))
def l_12_13 {R : Type} (N : Nat) : Nat → ((Unit × Unit × (List Int) × Unit × Unit × Int × Unit) × ((Nat → Int) × (Nat → Int) × (Nat → Int) × (Nat → (Nat → Int)) × Unit)) → (((Unit × Unit × Unit × Unit) × ((Nat → Int) × (Nat → Int) × (Nat → Int) × Unit)) → Option R) → Option R
  | 0, _, _ => none
  | n + 1, x, κ0 => B_12_13 N (fun y => l_12_13 N n y κ0) x κ0
def lv_12_24 : Live := [(4, none), (8, none), (12, none), (112, none)]
def pt_12_24 : SPat := ⟨[(4, .ptr 0 []), (8, .ptr 1 []), (12, .ptr 2 []), (112, .int .i64)], [some (.vec (.int .u64) 8, 23), some (.vec (.int .u64) 8, 23), some (.vec (.int .u64) 16, 97)]⟩
def px_12_24_0 : SPat := ⟨[(4, .ptr 0 []), (8, .ptr 1 [])], [some (.vec (.int .u64) 8, 23), some (.vec (.int .u64) 8, 23)]⟩
def lo_12_24 : Exit → Live
  | .exit 4 => [(4, none), (8, none)]
  | _ => []
def B_12_24 {R : Type} (N : Nat) (rec : ((Unit × Unit × Unit × Int × Unit) × ((Nat → Int) × (Nat → Int) × (Nat → Int) × Unit)) → Option R) (x : ((Unit × Unit × Unit × Int × Unit) × ((Nat → Int) × (Nat → Int) × (Nat → Int) × Unit))) (κ0 : ((Unit × Unit × Unit) × ((Nat → Int) × (Nat → Int) × Unit)) → Option R) : Option R :=
let i739 : Int := x.1.2.2.2.1
let a740 : (Nat → Int) := x.2.1
let a741 : (Nat → Int) := x.2.2.1
let a742 : (Nat → Int) := x.2.2.2.1
bif (decide (i739 < 8)) then (
bif decide (0 ≤ i739) then (
bif decide (i739 < (8 : Int)) then (
let i743 : Int := (a740 ((Int.toNat i739)))
bif decide (0 ≤ i739) then (
bif decide (i739 < (16 : Int)) then (
let i744 : Int := (a742 ((Int.toNat i739)))
let i745 : Int := addA .i64 i739 8
bif decide (0 ≤ i745) then (
bif decide (i745 < (16 : Int)) then (
let i746 : Int := (a742 ((Int.toNat i745)))
let i747 : Int := xorA .u64 i744 i746
let i748 : Int := xorA .u64 i743 i747
bif decide (0 ≤ i739) then (
bif decide (i739 < (8 : Int)) then (
let a749 : (Nat → Int) := (upd a740 ((Int.toNat i739)) i748)
let i750 : Int := addA .i64 i739 1
rec (((), (), (), i750, ()), (a749, a741, a742, ()))) else none) else none) else none) else none) else none) else none) else none) else none) else (
κ0 (((), (), ()), (a740, a741, ())))
def l_12_24 {R : Type} (N : Nat) : Nat → ((Unit × Unit × Unit × Int × Unit) × ((Nat → Int) × (Nat → Int) × (Nat → Int) × Unit)) → (((Unit × Unit × Unit) × ((Nat → Int) × (Nat → Int) × Unit)) → Option R) → Option R
  | 0, _, _ => none
  | n + 1, x, κ0 => B_12_24 N (fun y => l_12_24 N n y κ0) x κ0
def ap_12 : List Pat := [.vec (.int .u64) 8, .ros (.int .u8), .int .u64, .bool]
def hp_12 : List (Option (Pat × Nat)) := []
def p_12 {R : Type} (N : Nat) (x : ((Nat → Int) × (List Int) × Int × Bool × Unit) × (Unit)) (κ0 : ((Nat → Int) × (Int × Unit)) → Option R) : Option R :=
let a50 : (Nat → Int) := x.1.1
let l51 : (List Int) := x.1.2.1
let i52 : Int := x.1.2.2.1
let b53 : Bool := x.1.2.2.2.1
let i54 : Int := (((List.length l51) : Nat) : Int)
bif (i54 != 128) then (
let a55 : (Nat → Int) := (Sch.zero (.arr 8 (.int .u64)))
κ0 ((a55, (9, ())))) else (
p_45 N ((l51, ()), ()) (fun y79 =>
let l80 : (List Int) := y79.1.1
let i81 : Int := y79.1.2.1
let l82 : (List Int) := ((List.range 8).map fun j => a50 (0 + j))
bif decide (0 < Nat.min (List.length l82) 8) then (
let a83 : (Nat → Int) := copyF ((Sch.zero (.arr 16 (.int .u64)))) 0 (Nat.min (List.length l82) 8) l82 (Sch.zero (.int .u64))
p_15 N ((), ()) (fun y84 =>
let a85 : (Nat → Int) := y84
let l86 : (List Int) := ((List.range 8).map fun j => a85 (0 + j))
bif decide (0 < Nat.min (List.length l86) 8) then (
let a87 : (Nat → Int) := copyF a83 8 (Nat.min (List.length l86) 8) l86 (Sch.zero (.int .u64))
let i88 : Int := (a87 12)
let i89 : Int := xorA .u64 i88 i52
let a90 : (Nat → Int) := (upd a87 12 i89)
bif b53 then (
let i91 : Int := (a90 14)
let i92 : Int := xorA .u64 18446744073709551615 i91
let a93 : (Nat → Int) := (upd a90 14 i92)
p_46 N ((), ()) (fun y103 =>
let a104 : (Nat → (Nat → Int)) := y103
l_12_13 N N (((), (), l80, (), (), 0, ()), (a50, (Sch.zero (.arr 8 (.int .u64))), a93, a104, ())) (fun y209 =>
let a210 : (Nat → Int) := y209.2.1
let a211 : (Nat → Int) := y209.2.2.1
let a212 : (Nat → Int) := y209.2.2.2.1
l_12_24 N N (((), (), (), 0, ()), (a210, a211, a212, ())) (fun y225 =>
let a226 : (Nat → Int) := y225.2.1
let a227 : (Nat → Int) := y225.2.2.1
κ0 ((a226, (0, ()))))))) else (
p_46 N ((), ()) (fun y228 =>
let a229 : (Nat → (Nat → Int)) := y228
l_12_13 N N (((), (), l80, (), (), 0, ()), (a50, (Sch.zero (.arr 8 (.int .u64))), a90, a229, ())) (fun y281 =>
let a282 : (Nat → Int) := y281.2.1
let a283 : (Nat → Int) := y281.2.2.1
let a284 : (Nat → Int) := y281.2.2.2.1
l_12_24 N N (((), (), (), 0, ()), (a282, a283, a284, ())) (fun y297 =>
let a298 : (Nat → Int) := y297.2.1
let a299 : (Nat → Int) := y297.2.2.1
κ0 ((a298, (0, ())))))))) else (
let i300 : Int := (a83 12)
let i301 : Int := xorA .u64 i300 i52
let a302 : (Nat → Int) := (upd a83 12 i301)
bif b53 then (
let i303 : Int := (a302 14)
let i304 : Int := xorA .u64 18446744073709551615 i303
let a305 : (Nat → Int) := (upd a302 14 i304)
p_46 N ((), ()) (fun y306 =>
let a307 : (Nat → (Nat → Int)) := y306
l_12_13 N N (((), (), l80, (), (), 0, ()), (a50, (Sch.zero (.arr 8 (.int .u64))), a305, a307, ())) (fun y359 =>
let a360 : (Nat → Int) := y359.2.1
let a361 : (Nat → Int) := y359.2.2.1
let a362 : (Nat → Int) := y359.2.2.2.1
l_12_24 N N (((), (), (), 0, ()), (a360, a361, a362, ())) (fun y375 =>
let a376 : (Nat → Int) := y375.2.1
let a377 : (Nat → Int) := y375.2.2.1
κ0 ((a376, (0, ()))))))) else (
p_46 N ((), ()) (fun y378 =>
let a379 : (Nat → (Nat → Int)) := y378
l_12_13 N N (((), (), l80, (), (), 0, ()), (a50, (Sch.zero (.arr 8 (.int .u64))), a302, a379, ())) (fun y431 =>
let a432 : (Nat → Int) := y431.2.1
let a433 : (Nat → Int) := y431.2.2.1
let a434 : (Nat → Int) := y431.2.2.2.1
l_12_24 N N (((), (), (), 0, ()), (a432, a433, a434, ())) (fun y447 =>
let a448 : (Nat → Int) := y447.2.1
let a449 : (Nat → Int) := y447.2.2.1
κ0 ((a448, (0, ())))))))))) else (
p_15 N ((), ()) (fun y450 =>
let a451 : (Nat → Int) := y450
let l452 : (List Int) := ((List.range 8).map fun j => a451 (0 + j))
bif decide (0 < Nat.min (List.length l452) 8) then (
let a453 : (Nat → Int) := copyF ((Sch.zero (.arr 16 (.int .u64)))) 8 (Nat.min (List.length l452) 8) l452 (Sch.zero (.int .u64))
let i454 : Int := (a453 12)
let i455 : Int := xorA .u64 i454 i52
let a456 : (Nat → Int) := (upd a453 12 i455)
bif b53 then (
let i457 : Int := (a456 14)
let i458 : Int := xorA .u64 18446744073709551615 i457
let a459 : (Nat → Int) := (upd a456 14 i458)
p_46 N ((), ()) (fun y460 =>
let a461 : (Nat → (Nat → Int)) := y460
l_12_13 N N (((), (), l80, (), (), 0, ()), (a50, (Sch.zero (.arr 8 (.int .u64))), a459, a461, ())) (fun y513 =>
let a514 : (Nat → Int) := y513.2.1
let a515 : (Nat → Int) := y513.2.2.1
let a516 : (Nat → Int) := y513.2.2.2.1
l_12_24 N N (((), (), (), 0, ()), (a514, a515, a516, ())) (fun y529 =>
let a530 : (Nat → Int) := y529.2.1
let a531 : (Nat → Int) := y529.2.2.1
κ0 ((a530, (0, ()))))))) else (
p_46 N ((), ()) (fun y532 =>
let a533 : (Nat → (Nat → Int)) := y532
l_12_13 N N (((), (), l80, (), (), 0, ()), (a50, (Sch.zero (.arr 8 (.int .u64))), a456, a533, ())) (fun y585 =>
let a586 : (Nat → Int) := y585.2.1
let a587 : (Nat → Int) := y585.2.2.1
let a588 : (Nat → Int) := y585.2.2.2.1
l_12_24 N N (((), (), (), 0, ()), (a586, a587, a588, ())) (fun y601 =>
let a602 : (Nat → Int) := y601.2.1
let a603 : (Nat → Int) := y601.2.2.1
κ0 ((a602, (0, ())))))))) else (
let i604 : Int := (((Sch.zero (.arr 16 (.int .u64)))) 12)
let i605 : Int := xorA .u64 i604 i52
let a606 : (Nat → Int) := (upd ((Sch.zero (.arr 16 (.int .u64)))) 12 i605)
bif b53 then (
let i607 : Int := (a606 14)
let i608 : Int := xorA .u64 18446744073709551615 i607
let a609 : (Nat → Int) := (upd a606 14 i608)
p_46 N ((), ()) (fun y610 =>
let a611 : (Nat → (Nat → Int)) := y610
l_12_13 N N (((), (), l80, (), (), 0, ()), (a50, (Sch.zero (.arr 8 (.int .u64))), a609, a611, ())) (fun y663 =>
let a664 : (Nat → Int) := y663.2.1
let a665 : (Nat → Int) := y663.2.2.1
let a666 : (Nat → Int) := y663.2.2.2.1
l_12_24 N N (((), (), (), 0, ()), (a664, a665, a666, ())) (fun y679 =>
let a680 : (Nat → Int) := y679.2.1
let a681 : (Nat → Int) := y679.2.2.1
κ0 ((a680, (0, ()))))))) else (
p_46 N ((), ()) (fun y682 =>
let a683 : (Nat → (Nat → Int)) := y682
l_12_13 N N (((), (), l80, (), (), 0, ()), (a50, (Sch.zero (.arr 8 (.int .u64))), a606, a683, ())) (fun y735 =>
let a736 : (Nat → Int) := y735.2.1
let a737 : (Nat → Int) := y735.2.2.1
let a738 : (Nat → Int) := y735.2.2.2.1
l_12_24 N N (((), (), (), 0, ()), (a736, a737, a738, ())) (fun y751 =>
let a752 : (Nat → Int) := y751.2.1
let a753 : (Nat → Int) := y751.2.2.1
κ0 ((a752, (0, ()))))))))))))

abbrev Tl_12_17 (R : Type) : Type := ((Unit × Unit × (List Int) × Unit × Unit × Unit × Int × (Nat → (Nat → Int)) × Int × Unit) × ((Nat → Int) × (Nat → Int) × (Nat → Int) × (Nat → (Nat → Int)) × (Nat → Int) × Unit)) → (((Unit × Unit × (List Int) × Unit × Unit × Int × Unit) × ((Nat → Int) × (Nat → Int) × (Nat → Int) × (Nat → (Nat → Int)) × Unit)) → Option R) → Option R
abbrev Tl_12_13 (R : Type) : Type := ((Unit × Unit × (List Int) × Unit × Unit × Int × Unit) × ((Nat → Int) × (Nat → Int) × (Nat → Int) × (Nat → (Nat → Int)) × Unit)) → (((Unit × Unit × Unit × Unit) × ((Nat → Int) × (Nat → Int) × (Nat → Int) × Unit)) → Option R) → Option R
abbrev Tl_12_24 (R : Type) : Type := ((Unit × Unit × Unit × Int × Unit) × ((Nat → Int) × (Nat → Int) × (Nat → Int) × Unit)) → (((Unit × Unit × Unit) × ((Nat → Int) × (Nat → Int) × Unit)) → Option R) → Option R
abbrev Tp_12 (R : Type) : Type := ((Nat → Int) × (List Int) × Int × Bool × Unit) × (Unit) → (((Nat → Int) × (Int × Unit)) → Option R) → Option R
def Q_12 {R : Type} (q_45 : Tp_45 R) (q_15 : Tp_15 R) (q_46 : Tp_46 R) (q_17 : Tp_17 R) (q_19 : Tp_19 R) (m_12_17 : Tl_12_17 R) (m_12_13 : Tl_12_13 R) (m_12_24 : Tl_12_24 R) (x : ((Nat → Int) × (List Int) × Int × Bool × Unit) × (Unit)) (κ0 : ((Nat → Int) × (Int × Unit)) → Option R) : Option R :=
let a50 : (Nat → Int) := x.1.1
let l51 : (List Int) := x.1.2.1
let i52 : Int := x.1.2.2.1
let b53 : Bool := x.1.2.2.2.1
let i54 : Int := (((List.length l51) : Nat) : Int)
bif (i54 != 128) then (
let a55 : (Nat → Int) := (Sch.zero (.arr 8 (.int .u64)))
κ0 ((a55, (9, ())))) else (
q_45 ((l51, ()), ()) (fun y79 =>
let l80 : (List Int) := y79.1.1
let i81 : Int := y79.1.2.1
let l82 : (List Int) := ((List.range 8).map fun j => a50 (0 + j))
bif decide (0 < Nat.min (List.length l82) 8) then (
let a83 : (Nat → Int) := copyF ((Sch.zero (.arr 16 (.int .u64)))) 0 (Nat.min (List.length l82) 8) l82 (Sch.zero (.int .u64))
q_15 ((), ()) (fun y84 =>
let a85 : (Nat → Int) := y84
let l86 : (List Int) := ((List.range 8).map fun j => a85 (0 + j))
bif decide (0 < Nat.min (List.length l86) 8) then (
let a87 : (Nat → Int) := copyF a83 8 (Nat.min (List.length l86) 8) l86 (Sch.zero (.int .u64))
let i88 : Int := (a87 12)
let i89 : Int := xorA .u64 i88 i52
let a90 : (Nat → Int) := (upd a87 12 i89)
bif b53 then (
let i91 : Int := (a90 14)
let i92 : Int := xorA .u64 18446744073709551615 i91
let a93 : (Nat → Int) := (upd a90 14 i92)
q_46 ((), ()) (fun y103 =>
let a104 : (Nat → (Nat → Int)) := y103
m_12_13 (((), (), l80, (), (), 0, ()), (a50, (Sch.zero (.arr 8 (.int .u64))), a93, a104, ())) (fun y209 =>
let a210 : (Nat → Int) := y209.2.1
let a211 : (Nat → Int) := y209.2.2.1
let a212 : (Nat → Int) := y209.2.2.2.1
m_12_24 (((), (), (), 0, ()), (a210, a211, a212, ())) (fun y225 =>
let a226 : (Nat → Int) := y225.2.1
let a227 : (Nat → Int) := y225.2.2.1
κ0 ((a226, (0, ()))))))) else (
q_46 ((), ()) (fun y228 =>
let a229 : (Nat → (Nat → Int)) := y228
m_12_13 (((), (), l80, (), (), 0, ()), (a50, (Sch.zero (.arr 8 (.int .u64))), a90, a229, ())) (fun y281 =>
let a282 : (Nat → Int) := y281.2.1
let a283 : (Nat → Int) := y281.2.2.1
let a284 : (Nat → Int) := y281.2.2.2.1
m_12_24 (((), (), (), 0, ()), (a282, a283, a284, ())) (fun y297 =>
let a298 : (Nat → Int) := y297.2.1
let a299 : (Nat → Int) := y297.2.2.1
κ0 ((a298, (0, ())))))))) else (
let i300 : Int := (a83 12)
let i301 : Int := xorA .u64 i300 i52
let a302 : (Nat → Int) := (upd a83 12 i301)
bif b53 then (
let i303 : Int := (a302 14)
let i304 : Int := xorA .u64 18446744073709551615 i303
let a305 : (Nat → Int) := (upd a302 14 i304)
q_46 ((), ()) (fun y306 =>
let a307 : (Nat → (Nat → Int)) := y306
m_12_13 (((), (), l80, (), (), 0, ()), (a50, (Sch.zero (.arr 8 (.int .u64))), a305, a307, ())) (fun y359 =>
let a360 : (Nat → Int) := y359.2.1
let a361 : (Nat → Int) := y359.2.2.1
let a362 : (Nat → Int) := y359.2.2.2.1
m_12_24 (((), (), (), 0, ()), (a360, a361, a362, ())) (fun y375 =>
let a376 : (Nat → Int) := y375.2.1
let a377 : (Nat → Int) := y375.2.2.1
κ0 ((a376, (0, ()))))))) else (
q_46 ((), ()) (fun y378 =>
let a379 : (Nat → (Nat → Int)) := y378
m_12_13 (((), (), l80, (), (), 0, ()), (a50, (Sch.zero (.arr 8 (.int .u64))), a302, a379, ())) (fun y431 =>
let a432 : (Nat → Int) := y431.2.1
let a433 : (Nat → Int) := y431.2.2.1
let a434 : (Nat → Int) := y431.2.2.2.1
m_12_24 (((), (), (), 0, ()), (a432, a433, a434, ())) (fun y447 =>
let a448 : (Nat → Int) := y447.2.1
let a449 : (Nat → Int) := y447.2.2.1
κ0 ((a448, (0, ())))))))))) else (
q_15 ((), ()) (fun y450 =>
let a451 : (Nat → Int) := y450
let l452 : (List Int) := ((List.range 8).map fun j => a451 (0 + j))
bif decide (0 < Nat.min (List.length l452) 8) then (
let a453 : (Nat → Int) := copyF ((Sch.zero (.arr 16 (.int .u64)))) 8 (Nat.min (List.length l452) 8) l452 (Sch.zero (.int .u64))
let i454 : Int := (a453 12)
let i455 : Int := xorA .u64 i454 i52
let a456 : (Nat → Int) := (upd a453 12 i455)
bif b53 then (
let i457 : Int := (a456 14)
let i458 : Int := xorA .u64 18446744073709551615 i457
let a459 : (Nat → Int) := (upd a456 14 i458)
q_46 ((), ()) (fun y460 =>
let a461 : (Nat → (Nat → Int)) := y460
m_12_13 (((), (), l80, (), (), 0, ()), (a50, (Sch.zero (.arr 8 (.int .u64))), a459, a461, ())) (fun y513 =>
let a514 : (Nat → Int) := y513.2.1
let a515 : (Nat → Int) := y513.2.2.1
let a516 : (Nat → Int) := y513.2.2.2.1
m_12_24 (((), (), (), 0, ()), (a514, a515, a516, ())) (fun y529 =>
let a530 : (Nat → Int) := y529.2.1
let a531 : (Nat → Int) := y529.2.2.1
κ0 ((a530, (0, ()))))))) else (
q_46 ((), ()) (fun y532 =>
let a533 : (Nat → (Nat → Int)) := y532
m_12_13 (((), (), l80, (), (), 0, ()), (a50, (Sch.zero (.arr 8 (.int .u64))), a456, a533, ())) (fun y585 =>
let a586 : (Nat → Int) := y585.2.1
let a587 : (Nat → Int) := y585.2.2.1
let a588 : (Nat → Int) := y585.2.2.2.1
m_12_24 (((), (), (), 0, ()), (a586, a587, a588, ())) (fun y601 =>
let a602 : (Nat → Int) := y601.2.1
let a603 : (Nat → Int) := y601.2.2.1
κ0 ((a602, (0, ())))))))) else (
let i604 : Int := (((Sch.zero (.arr 16 (.int .u64)))) 12)
let i605 : Int := xorA .u64 i604 i52
let a606 : (Nat → Int) := (upd ((Sch.zero (.arr 16 (.int .u64)))) 12 i605)
bif b53 then (
let i607 : Int := (a606 14)
let i608 : Int := xorA .u64 18446744073709551615 i607
let a609 : (Nat → Int) := (upd a606 14 i608)
q_46 ((), ()) (fun y610 =>
let a611 : (Nat → (Nat → Int)) := y610
m_12_13 (((), (), l80, (), (), 0, ()), (a50, (Sch.zero (.arr 8 (.int .u64))), a609, a611, ())) (fun y663 =>
let a664 : (Nat → Int) := y663.2.1
let a665 : (Nat → Int) := y663.2.2.1
let a666 : (Nat → Int) := y663.2.2.2.1
m_12_24 (((), (), (), 0, ()), (a664, a665, a666, ())) (fun y679 =>
let a680 : (Nat → Int) := y679.2.1
let a681 : (Nat → Int) := y679.2.2.1
κ0 ((a680, (0, ()))))))) else (
q_46 ((), ()) (fun y682 =>
let a683 : (Nat → (Nat → Int)) := y682
m_12_13 (((), (), l80, (), (), 0, ()), (a50, (Sch.zero (.arr 8 (.int .u64))), a606, a683, ())) (fun y735 =>
let a736 : (Nat → Int) := y735.2.1
let a737 : (Nat → Int) := y735.2.2.1
let a738 : (Nat → Int) := y735.2.2.2.1
m_12_24 (((), (), (), 0, ()), (a736, a737, a738, ())) (fun y751 =>
let a752 : (Nat → Int) := y751.2.1
let a753 : (Nat → Int) := y751.2.2.1
κ0 ((a752, (0, ()))))))))))))
def C_12_17 {R : Type} (q_45 : Tp_45 R) (q_15 : Tp_15 R) (q_46 : Tp_46 R) (q_17 : Tp_17 R) (q_19 : Tp_19 R) (m_12_17 : Tl_12_17 R) (m_12_13 : Tl_12_13 R) (m_12_24 : Tl_12_24 R) (rec : ((Unit × Unit × (List Int) × Unit × Unit × Unit × Int × (Nat → (Nat → Int)) × Int × Unit) × ((Nat → Int) × (Nat → Int) × (Nat → Int) × (Nat → (Nat → Int)) × (Nat → Int) × Unit)) → Option R) (x : ((Unit × Unit × (List Int) × Unit × Unit × Unit × Int × (Nat → (Nat → Int)) × Int × Unit) × ((Nat → Int) × (Nat → Int) × (Nat → Int) × (Nat → (Nat → Int)) × (Nat → Int) × Unit))) (κ0 : ((Unit × Unit × (List Int) × Unit × Unit × Int × Unit) × ((Nat → Int) × (Nat → Int) × (Nat → Int) × (Nat → (Nat → Int)) × Unit)) → Option R) : Option R :=
let l692 : (List Int) := x.1.2.2.1
let i693 : Int := x.1.2.2.2.2.2.2.1
let a694 : (Nat → (Nat → Int)) := x.1.2.2.2.2.2.2.2.1
let i695 : Int := x.1.2.2.2.2.2.2.2.2.1
let a696 : (Nat → Int) := x.2.1
let a697 : (Nat → Int) := x.2.2.1
let a698 : (Nat → Int) := x.2.2.2.1
let a699 : (Nat → (Nat → Int)) := x.2.2.2.2.1
let a700 : (Nat → Int) := x.2.2.2.2.2.1
bif (decide (i695 < 8)) then (
bif decide (0 ≤ i695) then (
bif decide (i695 < (8 : Int)) then (
let a701 : (Nat → Int) := (a694 ((Int.toNat i695)))
let i702 : Int := (a701 0)
let i703 : Int := (a701 1)
let i704 : Int := (a701 2)
let i705 : Int := (a701 3)
bif decide (0 ≤ i702) then (
bif decide (i702 < (16 : Int)) then (
let i706 : Int := (a698 ((Int.toNat i702)))
bif decide (0 ≤ i703) then (
bif decide (i703 < (16 : Int)) then (
let i707 : Int := (a698 ((Int.toNat i703)))
bif decide (0 ≤ i704) then (
bif decide (i704 < (16 : Int)) then (
let i708 : Int := (a698 ((Int.toNat i704)))
bif decide (0 ≤ i705) then (
bif decide (i705 < (16 : Int)) then (
let i709 : Int := (a698 ((Int.toNat i705)))
let i710 : Int := mulA .i64 2 i695
bif decide (0 ≤ i710) then (
bif decide (i710 < (16 : Int)) then (
let i711 : Int := (a700 ((Int.toNat i710)))
bif decide (0 ≤ i711) then (
bif decide (i711 < ((List.length l692) : Int)) then (
let p712 : Int := (List.getD l692 ((Int.toNat i711)) (Sch.zero (.int .u64)))
let i713 : Int := mulA .i64 2 i695
let i714 : Int := addA .i64 i713 1
bif decide (0 ≤ i714) then (
bif decide (i714 < (16 : Int)) then (
let i715 : Int := (a700 ((Int.toNat i714)))
bif decide (0 ≤ i715) then (
bif decide (i715 < ((List.length l692) : Int)) then (
let p716 : Int := (List.getD l692 ((Int.toNat i715)) (Sch.zero (.int .u64)))
q_17 ((i706, i707, i708, i709, p712, p716, ()), ()) (fun y717 =>
let i718 : Int := y717.1
let i719 : Int := y717.2.1
let i720 : Int := y717.2.2.1
let i721 : Int := y717.2.2.2.1
bif decide (0 ≤ i702) then (
bif decide (i702 < (16 : Int)) then (
let a722 : (Nat → Int) := (upd a698 ((Int.toNat i702)) i718)
bif decide (0 ≤ i703) then (
bif decide (i703 < (16 : Int)) then (
let a723 : (Nat → Int) := (upd a722 ((Int.toNat i703)) i719)
bif decide (0 ≤ i704) then (
bif decide (i704 < (16 : Int)) then (
let a724 : (Nat → Int) := (upd a723 ((Int.toNat i704)) i720)
bif decide (0 ≤ i705) then (
bif decide (i705 < (16 : Int)) then (
let a725 : (Nat → Int) := (upd a724 ((Int.toNat i705)) i721)
let i726 : Int := addA .i64 i695 1
rec (((), (), l692, (), (), (), i693, a694, i726, ()), (a696, a697, a725, a699, a700, ()))) else none) else none) else none) else none) else none) else none) else none) else none)) else none) else none) else none) else none) else none) else none) else none) else none) else none) else none) else none) else none) else none) else none) else none) else none) else none) else none) else (
κ0 (((), (), l692, (), (), i693, ()), (a696, a697, a698, a699, ())))
def C_12_13 {R : Type} (q_45 : Tp_45 R) (q_15 : Tp_15 R) (q_46 : Tp_46 R) (q_17 : Tp_17 R) (q_19 : Tp_19 R) (m_12_17 : Tl_12_17 R) (m_12_13 : Tl_12_13 R) (m_12_24 : Tl_12_24 R) (rec : ((Unit × Unit × (List Int) × Unit × Unit × Int × Unit) × ((Nat → Int) × (Nat → Int) × (Nat → Int) × (Nat → (Nat → Int)) × Unit)) → Option R) (x : ((Unit × Unit × (List Int) × Unit × Unit × Int × Unit) × ((Nat → Int) × (Nat → Int) × (Nat → Int) × (Nat → (Nat → Int)) × Unit))) (κ0 : ((Unit × Unit × Unit × Unit) × ((Nat → Int) × (Nat → Int) × (Nat → Int) × Unit)) → Option R) : Option R :=
let l684 : (List Int) := x.1.2.2.1
let i685 : Int := x.1.2.2.2.2.2.1
let a686 : (Nat → Int) := x.2.1
let a687 : (Nat → Int) := x.2.2.1
let a688 : (Nat → Int) := x.2.2.2.1
let a689 : (Nat → (Nat → Int)) := x.2.2.2.2.1
bif (decide (i685 < 12)) then (
q_19 ((i685, ()), ()) (fun y690 =>
let a691 : (Nat → Int) := y690
m_12_17 (((), (), l684, (), (), (), i685, a689, 0, ()), (a686, a687, a688, a689, a691, ())) (fun y727 =>
let l728 : (List Int) := y727.1.2.2.1
let i729 : Int := y727.1.2.2.2.2.2.1
let a730 : (Nat → Int) := y727.2.1
let a731 : (Nat → Int) := y727.2.2.1
let a732 : (Nat → Int) := y727.2.2.2.1
let a733 : (Nat → (Nat → Int)) := y727.2.2.2.2.1
let i734 : Int := addA .i64 i729 1
rec (((), (), l728, (), (), i734, ()), (a730, a731, a732, a733, ()))))) else (
κ0 (((), (), (), ()), (a686, a687, a688, ())))
def C_12_24 {R : Type} (q_45 : Tp_45 R) (q_15 : Tp_15 R) (q_46 : Tp_46 R) (q_17 : Tp_17 R) (q_19 : Tp_19 R) (m_12_17 : Tl_12_17 R) (m_12_13 : Tl_12_13 R) (m_12_24 : Tl_12_24 R) (rec : ((Unit × Unit × Unit × Int × Unit) × ((Nat → Int) × (Nat → Int) × (Nat → Int) × Unit)) → Option R) (x : ((Unit × Unit × Unit × Int × Unit) × ((Nat → Int) × (Nat → Int) × (Nat → Int) × Unit))) (κ0 : ((Unit × Unit × Unit) × ((Nat → Int) × (Nat → Int) × Unit)) → Option R) : Option R :=
let i739 : Int := x.1.2.2.2.1
let a740 : (Nat → Int) := x.2.1
let a741 : (Nat → Int) := x.2.2.1
let a742 : (Nat → Int) := x.2.2.2.1
bif (decide (i739 < 8)) then (
bif decide (0 ≤ i739) then (
bif decide (i739 < (8 : Int)) then (
let i743 : Int := (a740 ((Int.toNat i739)))
bif decide (0 ≤ i739) then (
bif decide (i739 < (16 : Int)) then (
let i744 : Int := (a742 ((Int.toNat i739)))
let i745 : Int := addA .i64 i739 8
bif decide (0 ≤ i745) then (
bif decide (i745 < (16 : Int)) then (
let i746 : Int := (a742 ((Int.toNat i745)))
let i747 : Int := xorA .u64 i744 i746
let i748 : Int := xorA .u64 i743 i747
bif decide (0 ≤ i739) then (
bif decide (i739 < (8 : Int)) then (
let a749 : (Nat → Int) := (upd a740 ((Int.toNat i739)) i748)
let i750 : Int := addA .i64 i739 1
rec (((), (), (), i750, ()), (a749, a741, a742, ()))) else none) else none) else none) else none) else none) else none) else none) else none) else (
κ0 (((), (), ()), (a740, a741, ())))
def EG_12 {R : Type} (q_45 : Tp_45 R) (q_15 : Tp_15 R) (q_46 : Tp_46 R) (q_17 : Tp_17 R) (q_19 : Tp_19 R) : Env R := (((((Env.base QQ LN).add 45 ap_45 hp_45 (fun (x : aden ap_45 × hden hp_45) k => q_45 x (fun y => k (Pat.inst (.tup (.fcons (.ros (.int .u64)) (.fcons (.int .i64) (.fnil)))) y.1) (instH [] y.2)))).add 15 ap_15 hp_15 (fun (x : aden ap_15 × hden hp_15) k => q_15 x (fun y => k (Pat.inst (.vec (.int .u64) 8) y) (instH hp_15 x.2)))).add 46 ap_46 hp_46 (fun (x : aden ap_46 × hden hp_46) k => q_46 x (fun y => k (Pat.inst (.vec (.arr 4 (.int .i64)) 8) y) (instH hp_46 x.2)))).add 17 ap_17 hp_17 (fun (x : aden ap_17 × hden hp_17) k => q_17 x (fun y => k (Pat.inst (.tup (.fcons (.int .u64) (.fcons (.int .u64) (.fcons (.int .u64) (.fcons (.int .u64) (.fnil)))))) y) (instH hp_17 x.2)))).add 19 ap_19 hp_19 (fun (x : aden ap_19 × hden hp_19) k => q_19 x (fun y => k (Pat.inst (.vec (.int .i64) 16) y) (instH hp_19 x.2)))
def LG_12 {R : Type} (m_12_17 : Tl_12_17 R) (m_12_13 : Tl_12_13 R) (m_12_24 : Tl_12_24 R) : Loops R := (((Loops.none).add 17 (loopBy 0 lv_12_17 pt_12_17 (fun x k => m_12_17 x (fun y => k (.exit 2) (px_12_17_0.inst y))))).add 13 (loopBy 0 lv_12_13 pt_12_13 (fun x k => m_12_13 x (fun y => k (.exit 0) (px_12_13_0.inst y))))).add 24 (loopBy 0 lv_12_24 pt_12_24 (fun x k => m_12_24 x (fun y => k (.exit 4) (px_12_24_0.inst y))))
def E_12 {R : Type} (N : Nat) : Env R := EG_12 (p_45 N) (p_15 N) (p_46 N) (p_17 N) (p_19 N)
theorem eok_12 {R : Type} (N : Nat) : EK Try.prog (E_12 (R := R) N) := ek_add (ek_add (ek_add (ek_add (ek_add (ek_base _ _) (good_45 N)) (good_15 N)) (good_46 N)) (good_17 N)) (good_19 N)
def L_12 {R : Type} (N : Nat) : Loops R := LG_12 (l_12_17 N N) (l_12_13 N N) (l_12_24 N N)
theorem gstep_12_17 {R : Type} (q_45 : Tp_45 R) (q_15 : Tp_15 R) (q_46 : Tp_46 R) (q_17 : Tp_17 R) (q_19 : Tp_19 R) (m_12_17 : Tl_12_17 R) (m_12_13 : Tl_12_13 R) (m_12_24 : Tl_12_24 R) (n : Nat) (x : pt_12_17.den) (k : Exit → St → Option R) : iter 0 lv_12_17 lo_12_17 (aexec TT (EG_12 q_45 q_15 q_46 q_17 q_19) (drawAny TT WW) (LG_12 m_12_17 m_12_13 m_12_24) (loopAt 17 (bodyOf Try.f12))) (n + 1) (pt_12_17.inst x) k = C_12_17 q_45 q_15 q_46 q_17 q_19 m_12_17 m_12_13 m_12_24 (fun y => iter 0 lv_12_17 lo_12_17 (aexec TT (EG_12 q_45 q_15 q_46 q_17 q_19) (drawAny TT WW) (LG_12 m_12_17 m_12_13 m_12_24) (loopAt 17 (bodyOf Try.f12))) n (pt_12_17.inst y) k) x (fun y => k (.exit 2) (px_12_17_0.inst y)) := by kernel_rfl
theorem step_12_17 {R : Type} (N n : Nat) (x : pt_12_17.den) (k : Exit → St → Option R) : iter 0 lv_12_17 lo_12_17 (aexec TT (E_12 (R := R) N) (drawAny TT WW) (L_12 N) (loopAt 17 (bodyOf Try.f12))) (n + 1) (pt_12_17.inst x) k = B_12_17 N (fun y => iter 0 lv_12_17 lo_12_17 (aexec TT (E_12 (R := R) N) (drawAny TT WW) (L_12 N) (loopAt 17 (bodyOf Try.f12))) n (pt_12_17.inst y) k) x (fun y => k (.exit 2) (px_12_17_0.inst y)) := (gstep_12_17 (p_45 N) (p_15 N) (p_46 N) (p_17 N) (p_19 N) (l_12_17 N N) (l_12_13 N N) (l_12_24 N N) n x k).trans (by kernel_rfl)
theorem eq_12_17 {R : Type} (N : Nat) : ∀ (n : Nat) (x : pt_12_17.den) (k : Exit → St → Option R), iter 0 lv_12_17 lo_12_17 (aexec TT (E_12 (R := R) N) (drawAny TT WW) (L_12 N) (loopAt 17 (bodyOf Try.f12))) n (pt_12_17.inst x) k = l_12_17 N n x (fun y => k (.exit 2) (px_12_17_0.inst y)) :=
  iter_eq (K := Exit → St → Option R) (ks := fun k => k) (l := fun n (x : pt_12_17.den) k => l_12_17 N n x (fun y => k (.exit 2) (px_12_17_0.inst y))) (B := fun (rec : pt_12_17.den → Option R) (x : pt_12_17.den) k => B_12_17 N rec x (fun y => k (.exit 2) (px_12_17_0.inst y))) (fun _ _ => rfl) (fun _ _ _ => rfl) (fun n x k => step_12_17 N n x k)
theorem rounds_12_17 {R : Type} (N : Nat) : Rounds 0 TT (E_12 (R := R) N) (drawAny TT WW) (L_12 N) 17 (loopAt 17 (bodyOf Try.f12)) :=
  rounds_of (p := pt_12_17) (l := fun (x : pt_12_17.den) k => l_12_17 N N x (fun y => k (.exit 2) (px_12_17_0.inst y))) (fun s k => rfl) (fun x k => eq_12_17 N N x k)
theorem gstep_12_13 {R : Type} (q_45 : Tp_45 R) (q_15 : Tp_15 R) (q_46 : Tp_46 R) (q_17 : Tp_17 R) (q_19 : Tp_19 R) (m_12_17 : Tl_12_17 R) (m_12_13 : Tl_12_13 R) (m_12_24 : Tl_12_24 R) (n : Nat) (x : pt_12_13.den) (k : Exit → St → Option R) : iter 0 lv_12_13 lo_12_13 (aexec TT (EG_12 q_45 q_15 q_46 q_17 q_19) (drawAny TT WW) (LG_12 m_12_17 m_12_13 m_12_24) (loopAt 13 (bodyOf Try.f12))) (n + 1) (pt_12_13.inst x) k = C_12_13 q_45 q_15 q_46 q_17 q_19 m_12_17 m_12_13 m_12_24 (fun y => iter 0 lv_12_13 lo_12_13 (aexec TT (EG_12 q_45 q_15 q_46 q_17 q_19) (drawAny TT WW) (LG_12 m_12_17 m_12_13 m_12_24) (loopAt 13 (bodyOf Try.f12))) n (pt_12_13.inst y) k) x (fun y => k (.exit 0) (px_12_13_0.inst y)) := by kernel_rfl
theorem step_12_13 {R : Type} (N n : Nat) (x : pt_12_13.den) (k : Exit → St → Option R) : iter 0 lv_12_13 lo_12_13 (aexec TT (E_12 (R := R) N) (drawAny TT WW) (L_12 N) (loopAt 13 (bodyOf Try.f12))) (n + 1) (pt_12_13.inst x) k = B_12_13 N (fun y => iter 0 lv_12_13 lo_12_13 (aexec TT (E_12 (R := R) N) (drawAny TT WW) (L_12 N) (loopAt 13 (bodyOf Try.f12))) n (pt_12_13.inst y) k) x (fun y => k (.exit 0) (px_12_13_0.inst y)) := (gstep_12_13 (p_45 N) (p_15 N) (p_46 N) (p_17 N) (p_19 N) (l_12_17 N N) (l_12_13 N N) (l_12_24 N N) n x k).trans (by kernel_rfl)
theorem eq_12_13 {R : Type} (N : Nat) : ∀ (n : Nat) (x : pt_12_13.den) (k : Exit → St → Option R), iter 0 lv_12_13 lo_12_13 (aexec TT (E_12 (R := R) N) (drawAny TT WW) (L_12 N) (loopAt 13 (bodyOf Try.f12))) n (pt_12_13.inst x) k = l_12_13 N n x (fun y => k (.exit 0) (px_12_13_0.inst y)) :=
  iter_eq (K := Exit → St → Option R) (ks := fun k => k) (l := fun n (x : pt_12_13.den) k => l_12_13 N n x (fun y => k (.exit 0) (px_12_13_0.inst y))) (B := fun (rec : pt_12_13.den → Option R) (x : pt_12_13.den) k => B_12_13 N rec x (fun y => k (.exit 0) (px_12_13_0.inst y))) (fun _ _ => rfl) (fun _ _ _ => rfl) (fun n x k => step_12_13 N n x k)
theorem rounds_12_13 {R : Type} (N : Nat) : Rounds 0 TT (E_12 (R := R) N) (drawAny TT WW) (L_12 N) 13 (loopAt 13 (bodyOf Try.f12)) :=
  rounds_of (p := pt_12_13) (l := fun (x : pt_12_13.den) k => l_12_13 N N x (fun y => k (.exit 0) (px_12_13_0.inst y))) (fun s k => rfl) (fun x k => eq_12_13 N N x k)
theorem gstep_12_24 {R : Type} (q_45 : Tp_45 R) (q_15 : Tp_15 R) (q_46 : Tp_46 R) (q_17 : Tp_17 R) (q_19 : Tp_19 R) (m_12_17 : Tl_12_17 R) (m_12_13 : Tl_12_13 R) (m_12_24 : Tl_12_24 R) (n : Nat) (x : pt_12_24.den) (k : Exit → St → Option R) : iter 0 lv_12_24 lo_12_24 (aexec TT (EG_12 q_45 q_15 q_46 q_17 q_19) (drawAny TT WW) (LG_12 m_12_17 m_12_13 m_12_24) (loopAt 24 (bodyOf Try.f12))) (n + 1) (pt_12_24.inst x) k = C_12_24 q_45 q_15 q_46 q_17 q_19 m_12_17 m_12_13 m_12_24 (fun y => iter 0 lv_12_24 lo_12_24 (aexec TT (EG_12 q_45 q_15 q_46 q_17 q_19) (drawAny TT WW) (LG_12 m_12_17 m_12_13 m_12_24) (loopAt 24 (bodyOf Try.f12))) n (pt_12_24.inst y) k) x (fun y => k (.exit 4) (px_12_24_0.inst y)) := by kernel_rfl
theorem step_12_24 {R : Type} (N n : Nat) (x : pt_12_24.den) (k : Exit → St → Option R) : iter 0 lv_12_24 lo_12_24 (aexec TT (E_12 (R := R) N) (drawAny TT WW) (L_12 N) (loopAt 24 (bodyOf Try.f12))) (n + 1) (pt_12_24.inst x) k = B_12_24 N (fun y => iter 0 lv_12_24 lo_12_24 (aexec TT (E_12 (R := R) N) (drawAny TT WW) (L_12 N) (loopAt 24 (bodyOf Try.f12))) n (pt_12_24.inst y) k) x (fun y => k (.exit 4) (px_12_24_0.inst y)) := (gstep_12_24 (p_45 N) (p_15 N) (p_46 N) (p_17 N) (p_19 N) (l_12_17 N N) (l_12_13 N N) (l_12_24 N N) n x k).trans (by kernel_rfl)
theorem eq_12_24 {R : Type} (N : Nat) : ∀ (n : Nat) (x : pt_12_24.den) (k : Exit → St → Option R), iter 0 lv_12_24 lo_12_24 (aexec TT (E_12 (R := R) N) (drawAny TT WW) (L_12 N) (loopAt 24 (bodyOf Try.f12))) n (pt_12_24.inst x) k = l_12_24 N n x (fun y => k (.exit 4) (px_12_24_0.inst y)) :=
  iter_eq (K := Exit → St → Option R) (ks := fun k => k) (l := fun n (x : pt_12_24.den) k => l_12_24 N n x (fun y => k (.exit 4) (px_12_24_0.inst y))) (B := fun (rec : pt_12_24.den → Option R) (x : pt_12_24.den) k => B_12_24 N rec x (fun y => k (.exit 4) (px_12_24_0.inst y))) (fun _ _ => rfl) (fun _ _ _ => rfl) (fun n x k => step_12_24 N n x k)
theorem rounds_12_24 {R : Type} (N : Nat) : Rounds 0 TT (E_12 (R := R) N) (drawAny TT WW) (L_12 N) 24 (loopAt 24 (bodyOf Try.f12)) :=
  rounds_of (p := pt_12_24) (l := fun (x : pt_12_24.den) k => l_12_24 N N x (fun y => k (.exit 4) (px_12_24_0.inst y))) (fun s k => rfl) (fun x k => eq_12_24 N N x k)
theorem loops_12 : loopsIn (bodyOf Try.f12) = [(13, loopAt 13 (bodyOf Try.f12)), (17, loopAt 17 (bodyOf Try.f12)), (24, loopAt 24 (bodyOf Try.f12))] := by kernel_rfl
theorem lok_12 {R : Type} (N : Nat) : LOK 0 TT (E_12 (R := R) N) (drawAny TT WW) (L_12 N) (bodyOf Try.f12) := loops_all loops_12 (by
  simp only [List.forall_mem_cons, List.not_mem_nil, false_implies, implies_true, and_true]
  exact ⟨rounds_12_13 N, rounds_12_17 N, rounds_12_24 N⟩)
theorem grun_12 {R : Type} (q_45 : Tp_45 R) (q_15 : Tp_15 R) (q_46 : Tp_46 R) (q_17 : Tp_17 R) (q_19 : Tp_19 R) (m_12_17 : Tl_12_17 R) (m_12_13 : Tl_12_13 R) (m_12_24 : Tl_12_24 R) (x : aden ap_12 × hden hp_12) (k : KF R) : fnrun TT (EG_12 q_45 q_15 q_46 q_17 q_19) (drawAny TT WW) (LG_12 m_12_17 m_12_13 m_12_24) true Try.f12 (instA ap_12 x.1) (instH hp_12 x.2) k = Q_12 q_45 q_15 q_46 q_17 q_19 m_12_17 m_12_13 m_12_24 x (fun y => k (Pat.inst (.tup (.fcons (.vec (.int .u64) 8) (.fcons (.int .i64) (.fnil)))) y) (instH hp_12 x.2)) := by kernel_rfl
theorem run_12 {R : Type} (N : Nat) (x : aden ap_12 × hden hp_12) (k : KF R) : fnrun TT (E_12 (R := R) N) (drawAny TT WW) (L_12 N) true Try.f12 (instA ap_12 x.1) (instH hp_12 x.2) k = p_12 N x (fun y => k (Pat.inst (.tup (.fcons (.vec (.int .u64) 8) (.fcons (.int .i64) (.fnil)))) y) (instH hp_12 x.2)) := (grun_12 (p_45 N) (p_15 N) (p_46 N) (p_17 N) (p_19 N) (l_12_17 N N) (l_12_13 N N) (l_12_24 N N) x k).trans (by kernel_rfl)
theorem good_12 {R : Type} (N : Nat) : GD (X := R) Try.prog QQ 12 ap_12 hp_12 (fun (x : aden ap_12 × hden hp_12) k => p_12 N x (fun y => k (Pat.inst (.tup (.fcons (.vec (.int .u64) 8) (.fcons (.int .i64) (.fnil)))) y) (instH hp_12 x.2))) :=
  gd_quiet (E := E_12 N) (p := fun (x : aden ap_12 × hden hp_12) κ => p_12 N x (fun y => κ (Pat.inst (.tup (.fcons (.vec (.int .u64) 8) (.fcons (.int .i64) (.fnil)))) y))) mixed tyok (eok_12 N) Try.func12 (by kernel_rfl) (by kernel_rfl) (lok_12 N) (fun x k => run_12 N x k)

def lv_26_4 : Live := [(0, none), (14, none), (15, none), (16, none)]
def pt_26_4 : SPat := ⟨[(0, .ptr 0 []), (14, .ros (.sl (.int .u8))), (15, .int .i64), (16, .int .i64)], [some (.node (.fcons (.nilp) (.fcons (.vec (.int .u64) 8) (.fcons (.int .i64) (.fcons (.int .u64) (.fnil))))), 115), some (.lst (.str), 9)]⟩
def px_26_4_0 : SPat := ⟨[(0, .ptr 0 [])], [some (.node (.fcons (.nilp) (.fcons (.vec (.int .u64) 8) (.fcons (.int .i64) (.fcons (.int .u64) (.fnil))))), 115), some (.lst (.str), 9)]⟩
def lo_26_4 : Exit → Live
  | .exit 0 => [(0, none)]
  | _ => []
def B_26_4 {R : Type} (N : Nat) (rec : ((Unit × (List (List Int)) × Int × Int × Unit) × ((Unit × ((Nat → Int) × (Int × (Int × Unit)))) × (List ByteArray) × Unit)) → Option R) (x : ((Unit × (List (List Int)) × Int × Int × Unit) × ((Unit × ((Nat → Int) × (Int × (Int × Unit)))) × (List ByteArray) × Unit))) (κ0 : ((Unit × Unit) × ((Unit × ((Nat → Int) × (Int × (Int × Unit)))) × (List ByteArray) × Unit)) → Option R) : Option R :=
let l41 : (List (List Int)) := x.1.2.1
let i42 : Int := x.1.2.2.1
let i43 : Int := x.1.2.2.2.1
let a44 : (Nat → Int) := x.2.1.2.1
let i45 : Int := x.2.1.2.2.1
let i46 : Int := x.2.1.2.2.2.1
let l47 : (List ByteArray) := x.2.2.1
bif (decide (i43 < i42)) then (
bif decide (0 ≤ i43) then (
bif decide (i43 < ((List.length l41) : Int)) then (
let p48 : (List Int) := (List.getD l41 ((Int.toNat i43)) (Sch.zero (.sl (.int .u8))))
let i49 : Int := addA .u64 i46 128
p_12 N ((a44, p48, i49, false, ()), ()) (fun y754 =>
let a755 : (Nat → Int) := y754.1
let i756 : Int := y754.2.1
let i757 : Int := addA .i64 i43 1
rec (((), l41, i42, i757, ()), (((), (a755, (i45, (i49, ())))), l47, ())))) else none) else none) else (
κ0 (((), ()), (((), (a44, (i45, (i46, ())))), l47, ())))
def l_26_4 {R : Type} (N : Nat) : Nat → ((Unit × (List (List Int)) × Int × Int × Unit) × ((Unit × ((Nat → Int) × (Int × (Int × Unit)))) × (List ByteArray) × Unit)) → (((Unit × Unit) × ((Unit × ((Nat → Int) × (Int × (Int × Unit)))) × (List ByteArray) × Unit)) → Option R) → Option R
  | 0, _, _ => none
  | n + 1, x, κ0 => B_26_4 N (fun y => l_26_4 N n y κ0) x κ0
def ap_26 : List Pat := [.ptr 0 [], .sl 1]
def hp_26 : List (Option (Pat × Nat)) := [some (.node (.fcons (.nilp) (.fcons (.vec (.int .u64) 8) (.fcons (.int .i64) (.fcons (.int .u64) (.fnil))))), 115), some (.lst (.str), 9)]
def p_26 {R : Type} (N : Nat) (x : (Unit × Unit × Unit) × ((Unit × ((Nat → Int) × (Int × (Int × Unit)))) × (List ByteArray) × Unit)) (κ0 : (Unit × ((Unit × ((Nat → Int) × (Int × (Int × Unit)))) × (List ByteArray) × Unit)) → Option R) : Option R :=
let a32 : (Nat → Int) := x.2.1.2.1
let i33 : Int := x.2.1.2.2.1
let i34 : Int := x.2.1.2.2.2.1
let l35 : (List ByteArray) := x.2.2.1
p_57 N (((), (), ()), (l35, ())) (fun y37 =>
let l38 : (List (List Int)) := y37.1
let l39 : (List ByteArray) := y37.2.1
let i40 : Int := (((List.length l38) : Nat) : Int)
l_26_4 N N (((), l38, i40, 0, ()), (((), (a32, (i33, (i34, ())))), l39, ())) (fun y758 =>
let a759 : (Nat → Int) := y758.2.1.2.1
let i760 : Int := y758.2.1.2.2.1
let i761 : Int := y758.2.1.2.2.2.1
let l762 : (List ByteArray) := y758.2.2.1
κ0 ((), (((), (a759, (i760, (i761, ())))), l762, ()))))

abbrev Tl_26_4 (R : Type) : Type := ((Unit × (List (List Int)) × Int × Int × Unit) × ((Unit × ((Nat → Int) × (Int × (Int × Unit)))) × (List ByteArray) × Unit)) → (((Unit × Unit) × ((Unit × ((Nat → Int) × (Int × (Int × Unit)))) × (List ByteArray) × Unit)) → Option R) → Option R
abbrev Tp_26 (R : Type) : Type := (Unit × Unit × Unit) × ((Unit × ((Nat → Int) × (Int × (Int × Unit)))) × (List ByteArray) × Unit) → ((Unit × ((Unit × ((Nat → Int) × (Int × (Int × Unit)))) × (List ByteArray) × Unit)) → Option R) → Option R
def Q_26 {R : Type} (q_57 : Tp_57 R) (q_12 : Tp_12 R) (m_26_4 : Tl_26_4 R) (x : (Unit × Unit × Unit) × ((Unit × ((Nat → Int) × (Int × (Int × Unit)))) × (List ByteArray) × Unit)) (κ0 : (Unit × ((Unit × ((Nat → Int) × (Int × (Int × Unit)))) × (List ByteArray) × Unit)) → Option R) : Option R :=
let a32 : (Nat → Int) := x.2.1.2.1
let i33 : Int := x.2.1.2.2.1
let i34 : Int := x.2.1.2.2.2.1
let l35 : (List ByteArray) := x.2.2.1
q_57 (((), (), ()), (l35, ())) (fun y37 =>
let l38 : (List (List Int)) := y37.1
let l39 : (List ByteArray) := y37.2.1
let i40 : Int := (((List.length l38) : Nat) : Int)
m_26_4 (((), l38, i40, 0, ()), (((), (a32, (i33, (i34, ())))), l39, ())) (fun y758 =>
let a759 : (Nat → Int) := y758.2.1.2.1
let i760 : Int := y758.2.1.2.2.1
let i761 : Int := y758.2.1.2.2.2.1
let l762 : (List ByteArray) := y758.2.2.1
κ0 ((), (((), (a759, (i760, (i761, ())))), l762, ()))))
def C_26_4 {R : Type} (q_57 : Tp_57 R) (q_12 : Tp_12 R) (m_26_4 : Tl_26_4 R) (rec : ((Unit × (List (List Int)) × Int × Int × Unit) × ((Unit × ((Nat → Int) × (Int × (Int × Unit)))) × (List ByteArray) × Unit)) → Option R) (x : ((Unit × (List (List Int)) × Int × Int × Unit) × ((Unit × ((Nat → Int) × (Int × (Int × Unit)))) × (List ByteArray) × Unit))) (κ0 : ((Unit × Unit) × ((Unit × ((Nat → Int) × (Int × (Int × Unit)))) × (List ByteArray) × Unit)) → Option R) : Option R :=
let l41 : (List (List Int)) := x.1.2.1
let i42 : Int := x.1.2.2.1
let i43 : Int := x.1.2.2.2.1
let a44 : (Nat → Int) := x.2.1.2.1
let i45 : Int := x.2.1.2.2.1
let i46 : Int := x.2.1.2.2.2.1
let l47 : (List ByteArray) := x.2.2.1
bif (decide (i43 < i42)) then (
bif decide (0 ≤ i43) then (
bif decide (i43 < ((List.length l41) : Int)) then (
let p48 : (List Int) := (List.getD l41 ((Int.toNat i43)) (Sch.zero (.sl (.int .u8))))
let i49 : Int := addA .u64 i46 128
q_12 ((a44, p48, i49, false, ()), ()) (fun y754 =>
let a755 : (Nat → Int) := y754.1
let i756 : Int := y754.2.1
let i757 : Int := addA .i64 i43 1
rec (((), l41, i42, i757, ()), (((), (a755, (i45, (i49, ())))), l47, ())))) else none) else none) else (
κ0 (((), ()), (((), (a44, (i45, (i46, ())))), l47, ())))
def EG_26 {R : Type} (q_57 : Tp_57 R) (q_12 : Tp_12 R) : Env R := ((Env.base QQ LN).add 57 ap_57 hp_57 (fun (x : aden ap_57 × hden hp_57) k => q_57 x (fun y => k (Pat.inst (.ros (.sl (.int .u8))) y.1) (instH [some (.lst (.str), 9)] y.2)))).add 12 ap_12 hp_12 (fun (x : aden ap_12 × hden hp_12) k => q_12 x (fun y => k (Pat.inst (.tup (.fcons (.vec (.int .u64) 8) (.fcons (.int .i64) (.fnil)))) y) (instH hp_12 x.2)))
def LG_26 {R : Type} (m_26_4 : Tl_26_4 R) : Loops R := (Loops.none).add 4 (loopBy 2 lv_26_4 pt_26_4 (fun x k => m_26_4 x (fun y => k (.exit 0) (px_26_4_0.inst y))))
def E_26 {R : Type} (N : Nat) : Env R := EG_26 (p_57 N) (p_12 N)
theorem eok_26 {R : Type} (N : Nat) : EK Try.prog (E_26 (R := R) N) := ek_add (ek_add (ek_base _ _) (good_57 N)) (good_12 N)
def L_26 {R : Type} (N : Nat) : Loops R := LG_26 (l_26_4 N N)
theorem gstep_26_4 {R : Type} (q_57 : Tp_57 R) (q_12 : Tp_12 R) (m_26_4 : Tl_26_4 R) (n : Nat) (x : pt_26_4.den) (k : Exit → St → Option R) : iter 2 lv_26_4 lo_26_4 (aexec TT (EG_26 q_57 q_12) (drawAny TT WW) (LG_26 m_26_4) (loopAt 4 (bodyOf Try.f26))) (n + 1) (pt_26_4.inst x) k = C_26_4 q_57 q_12 m_26_4 (fun y => iter 2 lv_26_4 lo_26_4 (aexec TT (EG_26 q_57 q_12) (drawAny TT WW) (LG_26 m_26_4) (loopAt 4 (bodyOf Try.f26))) n (pt_26_4.inst y) k) x (fun y => k (.exit 0) (px_26_4_0.inst y)) := by kernel_rfl
theorem step_26_4 {R : Type} (N n : Nat) (x : pt_26_4.den) (k : Exit → St → Option R) : iter 2 lv_26_4 lo_26_4 (aexec TT (E_26 (R := R) N) (drawAny TT WW) (L_26 N) (loopAt 4 (bodyOf Try.f26))) (n + 1) (pt_26_4.inst x) k = B_26_4 N (fun y => iter 2 lv_26_4 lo_26_4 (aexec TT (E_26 (R := R) N) (drawAny TT WW) (L_26 N) (loopAt 4 (bodyOf Try.f26))) n (pt_26_4.inst y) k) x (fun y => k (.exit 0) (px_26_4_0.inst y)) := (gstep_26_4 (p_57 N) (p_12 N) (l_26_4 N N) n x k).trans (by kernel_rfl)
theorem eq_26_4 {R : Type} (N : Nat) : ∀ (n : Nat) (x : pt_26_4.den) (k : Exit → St → Option R), iter 2 lv_26_4 lo_26_4 (aexec TT (E_26 (R := R) N) (drawAny TT WW) (L_26 N) (loopAt 4 (bodyOf Try.f26))) n (pt_26_4.inst x) k = l_26_4 N n x (fun y => k (.exit 0) (px_26_4_0.inst y)) :=
  iter_eq (K := Exit → St → Option R) (ks := fun k => k) (l := fun n (x : pt_26_4.den) k => l_26_4 N n x (fun y => k (.exit 0) (px_26_4_0.inst y))) (B := fun (rec : pt_26_4.den → Option R) (x : pt_26_4.den) k => B_26_4 N rec x (fun y => k (.exit 0) (px_26_4_0.inst y))) (fun _ _ => rfl) (fun _ _ _ => rfl) (fun n x k => step_26_4 N n x k)
theorem rounds_26_4 {R : Type} (N : Nat) : Rounds 2 TT (E_26 (R := R) N) (drawAny TT WW) (L_26 N) 4 (loopAt 4 (bodyOf Try.f26)) :=
  rounds_of (p := pt_26_4) (l := fun (x : pt_26_4.den) k => l_26_4 N N x (fun y => k (.exit 0) (px_26_4_0.inst y))) (fun s k => rfl) (fun x k => eq_26_4 N N x k)
theorem loops_26 : loopsIn (bodyOf Try.f26) = [(4, loopAt 4 (bodyOf Try.f26))] := by kernel_rfl
theorem lok_26 {R : Type} (N : Nat) : LOK 2 TT (E_26 (R := R) N) (drawAny TT WW) (L_26 N) (bodyOf Try.f26) := loops_all loops_26 (by
  simp only [List.forall_mem_cons, List.not_mem_nil, false_implies, implies_true, and_true]
  exact rounds_26_4 N)
theorem grun_26 {R : Type} (q_57 : Tp_57 R) (q_12 : Tp_12 R) (m_26_4 : Tl_26_4 R) (x : aden ap_26 × hden hp_26) (k : KF R) : fnrun TT (EG_26 q_57 q_12) (drawAny TT WW) (LG_26 m_26_4) true Try.f26 (instA ap_26 x.1) (instH hp_26 x.2) k = Q_26 q_57 q_12 m_26_4 x (fun y => k (Pat.inst (.ptr 0 []) y.1) (instH [some (.node (.fcons (.nilp) (.fcons (.vec (.int .u64) 8) (.fcons (.int .i64) (.fcons (.int .u64) (.fnil))))), 115), some (.lst (.str), 9)] y.2)) := by kernel_rfl
theorem run_26 {R : Type} (N : Nat) (x : aden ap_26 × hden hp_26) (k : KF R) : fnrun TT (E_26 (R := R) N) (drawAny TT WW) (L_26 N) true Try.f26 (instA ap_26 x.1) (instH hp_26 x.2) k = p_26 N x (fun y => k (Pat.inst (.ptr 0 []) y.1) (instH [some (.node (.fcons (.nilp) (.fcons (.vec (.int .u64) 8) (.fcons (.int .i64) (.fcons (.int .u64) (.fnil))))), 115), some (.lst (.str), 9)] y.2)) := (grun_26 (p_57 N) (p_12 N) (l_26_4 N N) x k).trans (by kernel_rfl)
theorem good_26 {R : Type} (N : Nat) : GD (X := R) Try.prog QQ 26 ap_26 hp_26 (fun (x : aden ap_26 × hden hp_26) k => p_26 N x (fun y => k (Pat.inst (.ptr 0 []) y.1) (instH [some (.node (.fcons (.nilp) (.fcons (.vec (.int .u64) 8) (.fcons (.int .i64) (.fcons (.int .u64) (.fnil))))), 115), some (.lst (.str), 9)] y.2))) :=
  gd_loud (E := E_26 N) (p := fun (x : aden ap_26 × hden hp_26) k => p_26 N x (fun y => k (Pat.inst (.ptr 0 []) y.1) (instH [some (.node (.fcons (.nilp) (.fcons (.vec (.int .u64) 8) (.fcons (.int .i64) (.fcons (.int .u64) (.fnil))))), 115), some (.lst (.str), 9)] y.2))) mixed tyok (eok_26 N) Try.func26 (by kernel_rfl) (by kernel_rfl) (by kernel_rfl) (lok_26 N) (fun x k => run_26 N x k)

def ap_82 : List Pat := [.ptr 0 []]
def hp_82 : List (Option (Pat × Nat)) := [some (.node (.fcons (.int .i64) (.fcons (.bool) (.fcons (.sl 1) (.fcons (.int .i64) (.fnil))))), 151), some (.lst (.int .u8), 5)]
def p_82 {R : Type} (N : Nat) (x : (Unit × Unit) × ((Int × (Bool × (Unit × (Int × Unit)))) × (List Int) × Unit)) (κ0 : Bool → Option R) : Option R :=
let i822 : Int := x.2.1.1
let b823 : Bool := x.2.1.2.1
let i824 : Int := x.2.1.2.2.2.1
let l825 : (List Int) := x.2.2.1
bif b823 then (
let i826 : Int := (((List.length l825) : Nat) : Int)
κ0 ((decide (i826 > i822)))) else (
let i827 : Int := (((List.length l825) : Nat) : Int)
κ0 ((decide (i827 ≥ i822))))

abbrev Tp_82 (R : Type) : Type := (Unit × Unit) × ((Int × (Bool × (Unit × (Int × Unit)))) × (List Int) × Unit) → (Bool → Option R) → Option R
def Q_82 {R : Type} (x : (Unit × Unit) × ((Int × (Bool × (Unit × (Int × Unit)))) × (List Int) × Unit)) (κ0 : Bool → Option R) : Option R :=
let i822 : Int := x.2.1.1
let b823 : Bool := x.2.1.2.1
let i824 : Int := x.2.1.2.2.2.1
let l825 : (List Int) := x.2.2.1
bif b823 then (
let i826 : Int := (((List.length l825) : Nat) : Int)
κ0 ((decide (i826 > i822)))) else (
let i827 : Int := (((List.length l825) : Nat) : Int)
κ0 ((decide (i827 ≥ i822))))
def EG_82 {R : Type} : Env R := Env.base QQ LN
def LG_82 {R : Type} : Loops R := Loops.none
def E_82 {R : Type} (N : Nat) : Env R := EG_82
theorem eok_82 {R : Type} (N : Nat) : EK Try.prog (E_82 (R := R) N) := ek_base _ _
def L_82 {R : Type} (N : Nat) : Loops R := LG_82
theorem lok_82 {R : Type} (N : Nat) : LOK 2 TT (E_82 (R := R) N) (drawAny TT WW) (L_82 N) (bodyOf Try.f82) := loops_nil (by kernel_rfl)
theorem grun_82 {R : Type} (x : aden ap_82 × hden hp_82) (k : KF R) : fnrun TT (EG_82) (drawAny TT WW) (LG_82) true Try.f82 (instA ap_82 x.1) (instH hp_82 x.2) k = Q_82 x (fun y => k (Pat.inst (.bool) y) (instH hp_82 x.2)) := by kernel_rfl
theorem run_82 {R : Type} (N : Nat) (x : aden ap_82 × hden hp_82) (k : KF R) : fnrun TT (E_82 (R := R) N) (drawAny TT WW) (L_82 N) true Try.f82 (instA ap_82 x.1) (instH hp_82 x.2) k = p_82 N x (fun y => k (Pat.inst (.bool) y) (instH hp_82 x.2)) := (grun_82 x k).trans (by kernel_rfl)
theorem good_82 {R : Type} (N : Nat) : GD (X := R) Try.prog QQ 82 ap_82 hp_82 (fun (x : aden ap_82 × hden hp_82) k => p_82 N x (fun y => k (Pat.inst (.bool) y) (instH hp_82 x.2))) :=
  gd_quiet (E := E_82 N) (p := fun (x : aden ap_82 × hden hp_82) κ => p_82 N x (fun y => κ (Pat.inst (.bool) y))) mixed tyok (eok_82 N) Try.func82 (by kernel_rfl) (by kernel_rfl) (lok_82 N) (fun x k => run_82 N x k)

def lv_57_v1_9 : Live := [(0, none), (5, some (.sl (.int .u8), 24)), (17, none), (18, none), (19, none)]
def pt_57_v1_9 : SPat := ⟨[(0, .ptr 0 []), (5, .sl 4), (17, .sl 2), (18, .int .i64), (19, .int .i64)], [some (.node (.fcons (.int .i64) (.fcons (.bool) (.fcons (.sl 3) (.fcons (.int .i64) (.fnil))))), 151), none, some (.lst (.str), 9), some (.lst (.int .u8), 5), some (.lst (.sl (.int .u8)), 24)]⟩
def px_57_v1_9_0 : SPat := ⟨[(0, .ptr 0 []), (5, .sl 4), (17, .sl 2), (18, .int .i64), (19, .int .i64)], [some (.node (.fcons (.int .i64) (.fcons (.bool) (.fcons (.sl 3) (.fcons (.int .i64) (.fnil))))), 151), none, some (.lst (.str), 9), some (.lst (.int .u8), 5), some (.lst (.sl (.int .u8)), 24)]⟩
def lo_57_v1_9 : Exit → Live
  | .exit 2 => [(0, none), (5, none), (17, none), (18, none), (19, none)]
  | _ => []
def B_57_v1_9 {R : Type} (N : Nat) (rec : ((Unit × Unit × Unit × Int × Int × Unit) × ((Int × (Bool × (Unit × (Int × Unit)))) × (List ByteArray) × (List Int) × (List (List Int)) × Unit)) → Option R) (x : ((Unit × Unit × Unit × Int × Int × Unit) × ((Int × (Bool × (Unit × (Int × Unit)))) × (List ByteArray) × (List Int) × (List (List Int)) × Unit))) (κ0 : ((Unit × Unit × Unit × Int × Int × Unit) × ((Int × (Bool × (Unit × (Int × Unit)))) × (List ByteArray) × (List Int) × (List (List Int)) × Unit)) → Option R) : Option R :=
let i905 : Int := x.1.2.2.2.1
let i906 : Int := x.1.2.2.2.2.1
let i907 : Int := x.2.1.1
let b908 : Bool := x.2.1.2.1
let i909 : Int := x.2.1.2.2.2.1
let l910 : (List ByteArray) := x.2.2.1
let l911 : (List Int) := x.2.2.2.1
let l912 : (List (List Int)) := x.2.2.2.2.1
p_82 N (((), ()), ((i907, (b908, ((), (i909, ())))), l911, ())) (fun y913 =>
let b914 : Bool := y913
bif b914 then (
bif decide (0 ≤ i907) then (
bif decide (i907 ≤ (((List.length l911) : Nat) : Int)) then (
bif decide (0 ≤ i907) then (
bif decide (List.length ((List.take (((Int.toNat i907) - 0)) (List.drop 0 l911))) * 1 ≤ 140737488355328) then (
let l915 : (List Int) := (List.take (((Int.toNat i907) - 0)) (List.drop 0 l911))
let l916 : (List (List Int)) := [l915]
bif (decide ((List.length l912 + List.length l916) * 24 ≤ 140737488355328) && true) then (
let l917 : (List (List Int)) := (l912 ++ l916)
bif decide (0 ≤ (((List.length l911) : Nat) : Int)) then (
bif decide ((((List.length l911) : Nat) : Int) ≤ (((List.length l911) : Nat) : Int)) then (
bif decide (0 ≤ i907) then (
bif decide (i907 ≤ (((List.length l911) : Nat) : Int)) then (
bif decide (0 < ((List.length l911) - (Int.toNat i907))) then (
let l918 : (List Int) := List.take (((List.length l911) - (Int.toNat i907))) (List.drop ((Int.toNat i907)) l911)
rec (((), (), (), i905, i906, ()), ((i907, (b908, ((), (i909, ())))), l910, l918, l917, ()))) else none) else none) else none) else none) else none) else none) else none) else none) else none) else none) else (
κ0 (((), (), (), i905, i906, ()), ((i907, (b908, ((), (i909, ())))), l910, l911, l912, ()))))
def l_57_v1_9 {R : Type} (N : Nat) : Nat → ((Unit × Unit × Unit × Int × Int × Unit) × ((Int × (Bool × (Unit × (Int × Unit)))) × (List ByteArray) × (List Int) × (List (List Int)) × Unit)) → (((Unit × Unit × Unit × Int × Int × Unit) × ((Int × (Bool × (Unit × (Int × Unit)))) × (List ByteArray) × (List Int) × (List (List Int)) × Unit)) → Option R) → Option R
  | 0, _, _ => none
  | n + 1, x, κ0 => B_57_v1_9 N (fun y => l_57_v1_9 N n y κ0) x κ0
def lv_57_v1_5 : Live := [(0, some (.fnil, 2)), (5, some (.sl (.int .u8), 24)), (17, none), (18, none), (19, none)]
def pt_57_v1_5 : SPat := ⟨[(0, .ptr 0 []), (5, .sl 4), (17, .sl 2), (18, .int .i64), (19, .int .i64)], [some (.node (.fcons (.int .i64) (.fcons (.bool) (.fcons (.sl 3) (.fcons (.int .i64) (.fnil))))), 151), none, some (.lst (.str), 9), some (.lst (.int .u8), 5), some (.lst (.sl (.int .u8)), 24)]⟩
def px_57_v1_5_0 : SPat := ⟨[(0, .ptr 0 []), (5, .sl 4)], [some (.node (.fcons (.int .i64) (.fcons (.bool) (.fcons (.sl 3) (.fcons (.int .i64) (.fnil))))), 151), none, some (.lst (.str), 9), some (.lst (.int .u8), 5), some (.lst (.sl (.int .u8)), 24)]⟩
def lo_57_v1_5 : Exit → Live
  | .exit 0 => [(0, none), (5, none)]
  | _ => []
def B_57_v1_5 {R : Type} (N : Nat) (rec : ((Unit × Unit × Unit × Int × Int × Unit) × ((Int × (Bool × (Unit × (Int × Unit)))) × (List ByteArray) × (List Int) × (List (List Int)) × Unit)) → Option R) (x : ((Unit × Unit × Unit × Int × Int × Unit) × ((Int × (Bool × (Unit × (Int × Unit)))) × (List ByteArray) × (List Int) × (List (List Int)) × Unit))) (κ0 : ((Unit × Unit × Unit) × ((Int × (Bool × (Unit × (Int × Unit)))) × (List ByteArray) × (List Int) × (List (List Int)) × Unit)) → Option R) : Option R :=
let i893 : Int := x.1.2.2.2.1
let i894 : Int := x.1.2.2.2.2.1
let i895 : Int := x.2.1.1
let b896 : Bool := x.2.1.2.1
let i897 : Int := x.2.1.2.2.2.1
let l898 : (List ByteArray) := x.2.2.1
let l899 : (List Int) := x.2.2.2.1
let l900 : (List (List Int)) := x.2.2.2.2.1
bif (decide (i894 < i893)) then (
bif decide (0 ≤ i894) then (
bif decide (i894 < ((List.length l898) : Int)) then (
let s901 : ByteArray := (List.getD l898 ((Int.toNat i894)) (Sch.zero (.str)))
let i902 : Int := ((ByteArray.size s901 : Nat) : Int)
let i903 : Int := addA .i64 i897 i902
bif (decide ((List.length l899 + List.length (strList s901)) * 1 ≤ 140737488355328) && true) then (
let l904 : (List Int) := (l899 ++ strList s901)
l_57_v1_9 N N (((), (), (), i893, i894, ()), ((i895, (b896, ((), (i903, ())))), l898, l904, l900, ())) (fun y919 =>
let i920 : Int := y919.1.2.2.2.1
let i921 : Int := y919.1.2.2.2.2.1
let i922 : Int := y919.2.1.1
let b923 : Bool := y919.2.1.2.1
let i924 : Int := y919.2.1.2.2.2.1
let l925 : (List ByteArray) := y919.2.2.1
let l926 : (List Int) := y919.2.2.2.1
let l927 : (List (List Int)) := y919.2.2.2.2.1
let i928 : Int := addA .i64 i921 1
rec (((), (), (), i920, i928, ()), ((i922, (b923, ((), (i924, ())))), l925, l926, l927, ())))) else none) else none) else none) else (
κ0 (((), (), ()), ((i895, (b896, ((), (i897, ())))), l898, l899, l900, ())))
def l_57_v1_5 {R : Type} (N : Nat) : Nat → ((Unit × Unit × Unit × Int × Int × Unit) × ((Int × (Bool × (Unit × (Int × Unit)))) × (List ByteArray) × (List Int) × (List (List Int)) × Unit)) → (((Unit × Unit × Unit) × ((Int × (Bool × (Unit × (Int × Unit)))) × (List ByteArray) × (List Int) × (List (List Int)) × Unit)) → Option R) → Option R
  | 0, _, _ => none
  | n + 1, x, κ0 => B_57_v1_5 N (fun y => l_57_v1_5 N n y κ0) x κ0
def ap_57_v1 : List Pat := [.ptr 0 [], .sl 2]
def hp_57_v1 : List (Option (Pat × Nat)) := [some (.node (.fcons (.int .i64) (.fcons (.bool) (.fcons (.sl 1) (.fcons (.int .i64) (.fnil))))), 151), some (.lst (.int .u8), 5), some (.lst (.str), 9)]
def p_57_v1 {R : Type} (N : Nat) (x : (Unit × Unit × Unit) × ((Int × (Bool × (Unit × (Int × Unit)))) × (List Int) × (List ByteArray) × Unit)) (κ0 : ((List (List Int)) × ((Int × (Bool × (Unit × (Int × Unit)))) × (List Int) × (List ByteArray) × Unit)) → Option R) (κ1 : ((List (List Int)) × ((Int × (Bool × (Unit × (Int × Unit)))) × (List ByteArray) × (List Int) × Unit)) → Option R) : Option R :=
let i798 : Int := x.2.1.1
let b799 : Bool := x.2.1.2.1
let i800 : Int := x.2.1.2.2.2.1
let l801 : (List Int) := x.2.2.1
let l802 : (List ByteArray) := x.2.2.2.1
bif (i798 == 0) then (
κ0 ([], ((i798, (b799, ((), (i800, ())))), l801, l802, ()))) else (
let i803 : Int := (((List.length l802) : Nat) : Int)
l_57_v1_5 N N (((), (), (), i803, 0, ()), ((i798, (b799, ((), (i800, ())))), l802, l801, [], ())) (fun y929 =>
let i930 : Int := y929.2.1.1
let b931 : Bool := y929.2.1.2.1
let i932 : Int := y929.2.1.2.2.2.1
let l933 : (List ByteArray) := y929.2.2.1
let l934 : (List Int) := y929.2.2.2.1
let l935 : (List (List Int)) := y929.2.2.2.2.1
bif decide (List.length l934 * 1 ≤ 140737488355328) then (
κ1 (l935, ((i930, (b931, ((), (i932, ())))), l933, l934, ()))) else none))

abbrev Tl_57_v1_9 (R : Type) : Type := ((Unit × Unit × Unit × Int × Int × Unit) × ((Int × (Bool × (Unit × (Int × Unit)))) × (List ByteArray) × (List Int) × (List (List Int)) × Unit)) → (((Unit × Unit × Unit × Int × Int × Unit) × ((Int × (Bool × (Unit × (Int × Unit)))) × (List ByteArray) × (List Int) × (List (List Int)) × Unit)) → Option R) → Option R
abbrev Tl_57_v1_5 (R : Type) : Type := ((Unit × Unit × Unit × Int × Int × Unit) × ((Int × (Bool × (Unit × (Int × Unit)))) × (List ByteArray) × (List Int) × (List (List Int)) × Unit)) → (((Unit × Unit × Unit) × ((Int × (Bool × (Unit × (Int × Unit)))) × (List ByteArray) × (List Int) × (List (List Int)) × Unit)) → Option R) → Option R
abbrev Tp_57_v1 (R : Type) : Type := (Unit × Unit × Unit) × ((Int × (Bool × (Unit × (Int × Unit)))) × (List Int) × (List ByteArray) × Unit) → (((List (List Int)) × ((Int × (Bool × (Unit × (Int × Unit)))) × (List Int) × (List ByteArray) × Unit)) → Option R) → (((List (List Int)) × ((Int × (Bool × (Unit × (Int × Unit)))) × (List ByteArray) × (List Int) × Unit)) → Option R) → Option R
def Q_57_v1 {R : Type} (q_82 : Tp_82 R) (m_57_v1_9 : Tl_57_v1_9 R) (m_57_v1_5 : Tl_57_v1_5 R) (x : (Unit × Unit × Unit) × ((Int × (Bool × (Unit × (Int × Unit)))) × (List Int) × (List ByteArray) × Unit)) (κ0 : ((List (List Int)) × ((Int × (Bool × (Unit × (Int × Unit)))) × (List Int) × (List ByteArray) × Unit)) → Option R) (κ1 : ((List (List Int)) × ((Int × (Bool × (Unit × (Int × Unit)))) × (List ByteArray) × (List Int) × Unit)) → Option R) : Option R :=
let i798 : Int := x.2.1.1
let b799 : Bool := x.2.1.2.1
let i800 : Int := x.2.1.2.2.2.1
let l801 : (List Int) := x.2.2.1
let l802 : (List ByteArray) := x.2.2.2.1
bif (i798 == 0) then (
κ0 ([], ((i798, (b799, ((), (i800, ())))), l801, l802, ()))) else (
let i803 : Int := (((List.length l802) : Nat) : Int)
m_57_v1_5 (((), (), (), i803, 0, ()), ((i798, (b799, ((), (i800, ())))), l802, l801, [], ())) (fun y929 =>
let i930 : Int := y929.2.1.1
let b931 : Bool := y929.2.1.2.1
let i932 : Int := y929.2.1.2.2.2.1
let l933 : (List ByteArray) := y929.2.2.1
let l934 : (List Int) := y929.2.2.2.1
let l935 : (List (List Int)) := y929.2.2.2.2.1
bif decide (List.length l934 * 1 ≤ 140737488355328) then (
κ1 (l935, ((i930, (b931, ((), (i932, ())))), l933, l934, ()))) else none))
def C_57_v1_9 {R : Type} (q_82 : Tp_82 R) (m_57_v1_9 : Tl_57_v1_9 R) (m_57_v1_5 : Tl_57_v1_5 R) (rec : ((Unit × Unit × Unit × Int × Int × Unit) × ((Int × (Bool × (Unit × (Int × Unit)))) × (List ByteArray) × (List Int) × (List (List Int)) × Unit)) → Option R) (x : ((Unit × Unit × Unit × Int × Int × Unit) × ((Int × (Bool × (Unit × (Int × Unit)))) × (List ByteArray) × (List Int) × (List (List Int)) × Unit))) (κ0 : ((Unit × Unit × Unit × Int × Int × Unit) × ((Int × (Bool × (Unit × (Int × Unit)))) × (List ByteArray) × (List Int) × (List (List Int)) × Unit)) → Option R) : Option R :=
let i905 : Int := x.1.2.2.2.1
let i906 : Int := x.1.2.2.2.2.1
let i907 : Int := x.2.1.1
let b908 : Bool := x.2.1.2.1
let i909 : Int := x.2.1.2.2.2.1
let l910 : (List ByteArray) := x.2.2.1
let l911 : (List Int) := x.2.2.2.1
let l912 : (List (List Int)) := x.2.2.2.2.1
q_82 (((), ()), ((i907, (b908, ((), (i909, ())))), l911, ())) (fun y913 =>
let b914 : Bool := y913
bif b914 then (
bif decide (0 ≤ i907) then (
bif decide (i907 ≤ (((List.length l911) : Nat) : Int)) then (
bif decide (0 ≤ i907) then (
bif decide (List.length ((List.take (((Int.toNat i907) - 0)) (List.drop 0 l911))) * 1 ≤ 140737488355328) then (
let l915 : (List Int) := (List.take (((Int.toNat i907) - 0)) (List.drop 0 l911))
let l916 : (List (List Int)) := [l915]
bif (decide ((List.length l912 + List.length l916) * 24 ≤ 140737488355328) && true) then (
let l917 : (List (List Int)) := (l912 ++ l916)
bif decide (0 ≤ (((List.length l911) : Nat) : Int)) then (
bif decide ((((List.length l911) : Nat) : Int) ≤ (((List.length l911) : Nat) : Int)) then (
bif decide (0 ≤ i907) then (
bif decide (i907 ≤ (((List.length l911) : Nat) : Int)) then (
bif decide (0 < ((List.length l911) - (Int.toNat i907))) then (
let l918 : (List Int) := List.take (((List.length l911) - (Int.toNat i907))) (List.drop ((Int.toNat i907)) l911)
rec (((), (), (), i905, i906, ()), ((i907, (b908, ((), (i909, ())))), l910, l918, l917, ()))) else none) else none) else none) else none) else none) else none) else none) else none) else none) else none) else (
κ0 (((), (), (), i905, i906, ()), ((i907, (b908, ((), (i909, ())))), l910, l911, l912, ()))))
def C_57_v1_5 {R : Type} (q_82 : Tp_82 R) (m_57_v1_9 : Tl_57_v1_9 R) (m_57_v1_5 : Tl_57_v1_5 R) (rec : ((Unit × Unit × Unit × Int × Int × Unit) × ((Int × (Bool × (Unit × (Int × Unit)))) × (List ByteArray) × (List Int) × (List (List Int)) × Unit)) → Option R) (x : ((Unit × Unit × Unit × Int × Int × Unit) × ((Int × (Bool × (Unit × (Int × Unit)))) × (List ByteArray) × (List Int) × (List (List Int)) × Unit))) (κ0 : ((Unit × Unit × Unit) × ((Int × (Bool × (Unit × (Int × Unit)))) × (List ByteArray) × (List Int) × (List (List Int)) × Unit)) → Option R) : Option R :=
let i893 : Int := x.1.2.2.2.1
let i894 : Int := x.1.2.2.2.2.1
let i895 : Int := x.2.1.1
let b896 : Bool := x.2.1.2.1
let i897 : Int := x.2.1.2.2.2.1
let l898 : (List ByteArray) := x.2.2.1
let l899 : (List Int) := x.2.2.2.1
let l900 : (List (List Int)) := x.2.2.2.2.1
bif (decide (i894 < i893)) then (
bif decide (0 ≤ i894) then (
bif decide (i894 < ((List.length l898) : Int)) then (
let s901 : ByteArray := (List.getD l898 ((Int.toNat i894)) (Sch.zero (.str)))
let i902 : Int := ((ByteArray.size s901 : Nat) : Int)
let i903 : Int := addA .i64 i897 i902
bif (decide ((List.length l899 + List.length (strList s901)) * 1 ≤ 140737488355328) && true) then (
let l904 : (List Int) := (l899 ++ strList s901)
m_57_v1_9 (((), (), (), i893, i894, ()), ((i895, (b896, ((), (i903, ())))), l898, l904, l900, ())) (fun y919 =>
let i920 : Int := y919.1.2.2.2.1
let i921 : Int := y919.1.2.2.2.2.1
let i922 : Int := y919.2.1.1
let b923 : Bool := y919.2.1.2.1
let i924 : Int := y919.2.1.2.2.2.1
let l925 : (List ByteArray) := y919.2.2.1
let l926 : (List Int) := y919.2.2.2.1
let l927 : (List (List Int)) := y919.2.2.2.2.1
let i928 : Int := addA .i64 i921 1
rec (((), (), (), i920, i928, ()), ((i922, (b923, ((), (i924, ())))), l925, l926, l927, ())))) else none) else none) else none) else (
κ0 (((), (), ()), ((i895, (b896, ((), (i897, ())))), l898, l899, l900, ())))
def EG_57_v1 {R : Type} (q_82 : Tp_82 R) : Env R := (Env.base QQ LN).add 82 ap_82 hp_82 (fun (x : aden ap_82 × hden hp_82) k => q_82 x (fun y => k (Pat.inst (.bool) y) (instH hp_82 x.2)))
def LG_57_v1 {R : Type} (m_57_v1_9 : Tl_57_v1_9 R) (m_57_v1_5 : Tl_57_v1_5 R) : Loops R := ((Loops.none).add 9 (loopBy 3 lv_57_v1_9 pt_57_v1_9 (fun x k => m_57_v1_9 x (fun y => k (.exit 2) (px_57_v1_9_0.inst y))))).add 5 (loopBy 3 lv_57_v1_5 pt_57_v1_5 (fun x k => m_57_v1_5 x (fun y => k (.exit 0) (px_57_v1_5_0.inst y))))
def E_57_v1 {R : Type} (N : Nat) : Env R := EG_57_v1 (p_82 N)
theorem eok_57_v1 {R : Type} (N : Nat) : EK Try.prog (E_57_v1 (R := R) N) := ek_add (ek_base _ _) (good_82 N)
def L_57_v1 {R : Type} (N : Nat) : Loops R := LG_57_v1 (l_57_v1_9 N N) (l_57_v1_5 N N)
theorem gstep_57_v1_9 {R : Type} (q_82 : Tp_82 R) (m_57_v1_9 : Tl_57_v1_9 R) (m_57_v1_5 : Tl_57_v1_5 R) (n : Nat) (x : pt_57_v1_9.den) (k : Exit → St → Option R) : iter 3 lv_57_v1_9 lo_57_v1_9 (aexec TT (EG_57_v1 q_82) (drawAny TT WW) (LG_57_v1 m_57_v1_9 m_57_v1_5) (loopAt 9 (bodyOf Try.f57))) (n + 1) (pt_57_v1_9.inst x) k = C_57_v1_9 q_82 m_57_v1_9 m_57_v1_5 (fun y => iter 3 lv_57_v1_9 lo_57_v1_9 (aexec TT (EG_57_v1 q_82) (drawAny TT WW) (LG_57_v1 m_57_v1_9 m_57_v1_5) (loopAt 9 (bodyOf Try.f57))) n (pt_57_v1_9.inst y) k) x (fun y => k (.exit 2) (px_57_v1_9_0.inst y)) := by kernel_rfl
theorem step_57_v1_9 {R : Type} (N n : Nat) (x : pt_57_v1_9.den) (k : Exit → St → Option R) : iter 3 lv_57_v1_9 lo_57_v1_9 (aexec TT (E_57_v1 (R := R) N) (drawAny TT WW) (L_57_v1 N) (loopAt 9 (bodyOf Try.f57))) (n + 1) (pt_57_v1_9.inst x) k = B_57_v1_9 N (fun y => iter 3 lv_57_v1_9 lo_57_v1_9 (aexec TT (E_57_v1 (R := R) N) (drawAny TT WW) (L_57_v1 N) (loopAt 9 (bodyOf Try.f57))) n (pt_57_v1_9.inst y) k) x (fun y => k (.exit 2) (px_57_v1_9_0.inst y)) := (gstep_57_v1_9 (p_82 N) (l_57_v1_9 N N) (l_57_v1_5 N N) n x k).trans (by kernel_rfl)
theorem eq_57_v1_9 {R : Type} (N : Nat) : ∀ (n : Nat) (x : pt_57_v1_9.den) (k : Exit → St → Option R), iter 3 lv_57_v1_9 lo_57_v1_9 (aexec TT (E_57_v1 (R := R) N) (drawAny TT WW) (L_57_v1 N) (loopAt 9 (bodyOf Try.f57))) n (pt_57_v1_9.inst x) k = l_57_v1_9 N n x (fun y => k (.exit 2) (px_57_v1_9_0.inst y)) :=
  iter_eq (K := Exit → St → Option R) (ks := fun k => k) (l := fun n (x : pt_57_v1_9.den) k => l_57_v1_9 N n x (fun y => k (.exit 2) (px_57_v1_9_0.inst y))) (B := fun (rec : pt_57_v1_9.den → Option R) (x : pt_57_v1_9.den) k => B_57_v1_9 N rec x (fun y => k (.exit 2) (px_57_v1_9_0.inst y))) (fun _ _ => rfl) (fun _ _ _ => rfl) (fun n x k => step_57_v1_9 N n x k)
theorem rounds_57_v1_9 {R : Type} (N : Nat) : Rounds 3 TT (E_57_v1 (R := R) N) (drawAny TT WW) (L_57_v1 N) 9 (loopAt 9 (bodyOf Try.f57)) :=
  rounds_of (p := pt_57_v1_9) (l := fun (x : pt_57_v1_9.den) k => l_57_v1_9 N N x (fun y => k (.exit 2) (px_57_v1_9_0.inst y))) (fun s k => rfl) (fun x k => eq_57_v1_9 N N x k)
theorem gstep_57_v1_5 {R : Type} (q_82 : Tp_82 R) (m_57_v1_9 : Tl_57_v1_9 R) (m_57_v1_5 : Tl_57_v1_5 R) (n : Nat) (x : pt_57_v1_5.den) (k : Exit → St → Option R) : iter 3 lv_57_v1_5 lo_57_v1_5 (aexec TT (EG_57_v1 q_82) (drawAny TT WW) (LG_57_v1 m_57_v1_9 m_57_v1_5) (loopAt 5 (bodyOf Try.f57))) (n + 1) (pt_57_v1_5.inst x) k = C_57_v1_5 q_82 m_57_v1_9 m_57_v1_5 (fun y => iter 3 lv_57_v1_5 lo_57_v1_5 (aexec TT (EG_57_v1 q_82) (drawAny TT WW) (LG_57_v1 m_57_v1_9 m_57_v1_5) (loopAt 5 (bodyOf Try.f57))) n (pt_57_v1_5.inst y) k) x (fun y => k (.exit 0) (px_57_v1_5_0.inst y)) := by kernel_rfl
theorem step_57_v1_5 {R : Type} (N n : Nat) (x : pt_57_v1_5.den) (k : Exit → St → Option R) : iter 3 lv_57_v1_5 lo_57_v1_5 (aexec TT (E_57_v1 (R := R) N) (drawAny TT WW) (L_57_v1 N) (loopAt 5 (bodyOf Try.f57))) (n + 1) (pt_57_v1_5.inst x) k = B_57_v1_5 N (fun y => iter 3 lv_57_v1_5 lo_57_v1_5 (aexec TT (E_57_v1 (R := R) N) (drawAny TT WW) (L_57_v1 N) (loopAt 5 (bodyOf Try.f57))) n (pt_57_v1_5.inst y) k) x (fun y => k (.exit 0) (px_57_v1_5_0.inst y)) := (gstep_57_v1_5 (p_82 N) (l_57_v1_9 N N) (l_57_v1_5 N N) n x k).trans (by kernel_rfl)
theorem eq_57_v1_5 {R : Type} (N : Nat) : ∀ (n : Nat) (x : pt_57_v1_5.den) (k : Exit → St → Option R), iter 3 lv_57_v1_5 lo_57_v1_5 (aexec TT (E_57_v1 (R := R) N) (drawAny TT WW) (L_57_v1 N) (loopAt 5 (bodyOf Try.f57))) n (pt_57_v1_5.inst x) k = l_57_v1_5 N n x (fun y => k (.exit 0) (px_57_v1_5_0.inst y)) :=
  iter_eq (K := Exit → St → Option R) (ks := fun k => k) (l := fun n (x : pt_57_v1_5.den) k => l_57_v1_5 N n x (fun y => k (.exit 0) (px_57_v1_5_0.inst y))) (B := fun (rec : pt_57_v1_5.den → Option R) (x : pt_57_v1_5.den) k => B_57_v1_5 N rec x (fun y => k (.exit 0) (px_57_v1_5_0.inst y))) (fun _ _ => rfl) (fun _ _ _ => rfl) (fun n x k => step_57_v1_5 N n x k)
theorem rounds_57_v1_5 {R : Type} (N : Nat) : Rounds 3 TT (E_57_v1 (R := R) N) (drawAny TT WW) (L_57_v1 N) 5 (loopAt 5 (bodyOf Try.f57)) :=
  rounds_of (p := pt_57_v1_5) (l := fun (x : pt_57_v1_5.den) k => l_57_v1_5 N N x (fun y => k (.exit 0) (px_57_v1_5_0.inst y))) (fun s k => rfl) (fun x k => eq_57_v1_5 N N x k)
theorem loops_57_v1 : loopsIn (bodyOf Try.f57) = [(5, loopAt 5 (bodyOf Try.f57)), (9, loopAt 9 (bodyOf Try.f57))] := by kernel_rfl
theorem lok_57_v1 {R : Type} (N : Nat) : LOK 3 TT (E_57_v1 (R := R) N) (drawAny TT WW) (L_57_v1 N) (bodyOf Try.f57) := loops_all loops_57_v1 (by
  simp only [List.forall_mem_cons, List.not_mem_nil, false_implies, implies_true, and_true]
  exact ⟨rounds_57_v1_5 N, rounds_57_v1_9 N⟩)
theorem grun_57_v1 {R : Type} (q_82 : Tp_82 R) (m_57_v1_9 : Tl_57_v1_9 R) (m_57_v1_5 : Tl_57_v1_5 R) (x : aden ap_57_v1 × hden hp_57_v1) (k : KF R) : fnrun TT (EG_57_v1 q_82) (drawAny TT WW) (LG_57_v1 m_57_v1_9 m_57_v1_5) true Try.f57 (instA ap_57_v1 x.1) (instH hp_57_v1 x.2) k = Q_57_v1 q_82 m_57_v1_9 m_57_v1_5 x (fun y => k (Pat.inst (.ros (.sl (.int .u8))) y.1) (instH [some (.node (.fcons (.int .i64) (.fcons (.bool) (.fcons (.sl 1) (.fcons (.int .i64) (.fnil))))), 151), some (.lst (.int .u8), 5), some (.lst (.str), 9)] y.2)) (fun y => k (Pat.inst (.ros (.sl (.int .u8))) y.1) (instH [some (.node (.fcons (.int .i64) (.fcons (.bool) (.fcons (.sl 3) (.fcons (.int .i64) (.fnil))))), 151), none, some (.lst (.str), 9), some (.lst (.int .u8), 5)] y.2)) := by kernel_rfl
theorem run_57_v1 {R : Type} (N : Nat) (x : aden ap_57_v1 × hden hp_57_v1) (k : KF R) : fnrun TT (E_57_v1 (R := R) N) (drawAny TT WW) (L_57_v1 N) true Try.f57 (instA ap_57_v1 x.1) (instH hp_57_v1 x.2) k = p_57_v1 N x (fun y => k (Pat.inst (.ros (.sl (.int .u8))) y.1) (instH [some (.node (.fcons (.int .i64) (.fcons (.bool) (.fcons (.sl 1) (.fcons (.int .i64) (.fnil))))), 151), some (.lst (.int .u8), 5), some (.lst (.str), 9)] y.2)) (fun y => k (Pat.inst (.ros (.sl (.int .u8))) y.1) (instH [some (.node (.fcons (.int .i64) (.fcons (.bool) (.fcons (.sl 3) (.fcons (.int .i64) (.fnil))))), 151), none, some (.lst (.str), 9), some (.lst (.int .u8), 5)] y.2)) := (grun_57_v1 (p_82 N) (l_57_v1_9 N N) (l_57_v1_5 N N) x k).trans (by kernel_rfl)
theorem good_57_v1 {R : Type} (N : Nat) : GD (X := R) Try.prog QQ 57 ap_57_v1 hp_57_v1 (fun (x : aden ap_57_v1 × hden hp_57_v1) k => p_57_v1 N x (fun y => k (Pat.inst (.ros (.sl (.int .u8))) y.1) (instH [some (.node (.fcons (.int .i64) (.fcons (.bool) (.fcons (.sl 1) (.fcons (.int .i64) (.fnil))))), 151), some (.lst (.int .u8), 5), some (.lst (.str), 9)] y.2)) (fun y => k (Pat.inst (.ros (.sl (.int .u8))) y.1) (instH [some (.node (.fcons (.int .i64) (.fcons (.bool) (.fcons (.sl 3) (.fcons (.int .i64) (.fnil))))), 151), none, some (.lst (.str), 9), some (.lst (.int .u8), 5)] y.2))) :=
  gd_loud (E := E_57_v1 N) (p := fun (x : aden ap_57_v1 × hden hp_57_v1) k => p_57_v1 N x (fun y => k (Pat.inst (.ros (.sl (.int .u8))) y.1) (instH [some (.node (.fcons (.int .i64) (.fcons (.bool) (.fcons (.sl 1) (.fcons (.int .i64) (.fnil))))), 151), some (.lst (.int .u8), 5), some (.lst (.str), 9)] y.2)) (fun y => k (Pat.inst (.ros (.sl (.int .u8))) y.1) (instH [some (.node (.fcons (.int .i64) (.fcons (.bool) (.fcons (.sl 3) (.fcons (.int .i64) (.fnil))))), 151), none, some (.lst (.str), 9), some (.lst (.int .u8), 5)] y.2))) mixed tyok (eok_57_v1 N) Try.func57 (by kernel_rfl) (by kernel_rfl) (by kernel_rfl) (lok_57_v1 N) (fun x k => run_57_v1 N x k)

def lv_26_v1_4 : Live := [(0, none), (14, none), (15, none), (16, none)]
def pt_26_v1_4 : SPat := ⟨[(0, .ptr 0 []), (14, .ros (.sl (.int .u8))), (15, .int .i64), (16, .int .i64)], [some (.node (.fcons (.ptr 1 []) (.fcons (.vec (.int .u64) 8) (.fcons (.int .i64) (.fcons (.int .u64) (.fnil))))), 115), some (.node (.fcons (.int .i64) (.fcons (.bool) (.fcons (.sl 4) (.fcons (.int .i64) (.fnil))))), 151), none, some (.lst (.str), 9), some (.lst (.int .u8), 5)]⟩
def px_26_v1_4_0 : SPat := ⟨[(0, .ptr 0 [])], [some (.node (.fcons (.ptr 1 []) (.fcons (.vec (.int .u64) 8) (.fcons (.int .i64) (.fcons (.int .u64) (.fnil))))), 115), some (.node (.fcons (.int .i64) (.fcons (.bool) (.fcons (.sl 4) (.fcons (.int .i64) (.fnil))))), 151), none, some (.lst (.str), 9), some (.lst (.int .u8), 5)]⟩
def lo_26_v1_4 : Exit → Live
  | .exit 0 => [(0, none)]
  | _ => []
def B_26_v1_4 {R : Type} (N : Nat) (rec : ((Unit × (List (List Int)) × Int × Int × Unit) × ((Unit × ((Nat → Int) × (Int × (Int × Unit)))) × (Int × (Bool × (Unit × (Int × Unit)))) × (List ByteArray) × (List Int) × Unit)) → Option R) (x : ((Unit × (List (List Int)) × Int × Int × Unit) × ((Unit × ((Nat → Int) × (Int × (Int × Unit)))) × (Int × (Bool × (Unit × (Int × Unit)))) × (List ByteArray) × (List Int) × Unit))) (κ0 : ((Unit × Unit) × ((Unit × ((Nat → Int) × (Int × (Int × Unit)))) × (Int × (Bool × (Unit × (Int × Unit)))) × (List ByteArray) × (List Int) × Unit)) → Option R) : Option R :=
let l969 : (List (List Int)) := x.1.2.1
let i970 : Int := x.1.2.2.1
let i971 : Int := x.1.2.2.2.1
let a972 : (Nat → Int) := x.2.1.2.1
let i973 : Int := x.2.1.2.2.1
let i974 : Int := x.2.1.2.2.2.1
let i975 : Int := x.2.2.1.1
let b976 : Bool := x.2.2.1.2.1
let i977 : Int := x.2.2.1.2.2.2.1
let l978 : (List ByteArray) := x.2.2.2.1
let l979 : (List Int) := x.2.2.2.2.1
bif (decide (i971 < i970)) then (
bif decide (0 ≤ i971) then (
bif decide (i971 < ((List.length l969) : Int)) then (
let p980 : (List Int) := (List.getD l969 ((Int.toNat i971)) (Sch.zero (.sl (.int .u8))))
let i981 : Int := addA .u64 i974 128
p_12 N ((a972, p980, i981, false, ()), ()) (fun y982 =>
let a983 : (Nat → Int) := y982.1
let i984 : Int := y982.2.1
let i985 : Int := addA .i64 i971 1
rec (((), l969, i970, i985, ()), (((), (a983, (i973, (i981, ())))), (i975, (b976, ((), (i977, ())))), l978, l979, ())))) else none) else none) else (
κ0 (((), ()), (((), (a972, (i973, (i974, ())))), (i975, (b976, ((), (i977, ())))), l978, l979, ())))
def l_26_v1_4 {R : Type} (N : Nat) : Nat → ((Unit × (List (List Int)) × Int × Int × Unit) × ((Unit × ((Nat → Int) × (Int × (Int × Unit)))) × (Int × (Bool × (Unit × (Int × Unit)))) × (List ByteArray) × (List Int) × Unit)) → (((Unit × Unit) × ((Unit × ((Nat → Int) × (Int × (Int × Unit)))) × (Int × (Bool × (Unit × (Int × Unit)))) × (List ByteArray) × (List Int) × Unit)) → Option R) → Option R
  | 0, _, _ => none
  | n + 1, x, κ0 => B_26_v1_4 N (fun y => l_26_v1_4 N n y κ0) x κ0
def ap_26_v1 : List Pat := [.ptr 0 [], .sl 3]
def hp_26_v1 : List (Option (Pat × Nat)) := [some (.node (.fcons (.ptr 1 []) (.fcons (.vec (.int .u64) 8) (.fcons (.int .i64) (.fcons (.int .u64) (.fnil))))), 115), some (.node (.fcons (.int .i64) (.fcons (.bool) (.fcons (.sl 2) (.fcons (.int .i64) (.fnil))))), 151), some (.lst (.int .u8), 5), some (.lst (.str), 9)]
def p_26_v1 {R : Type} (N : Nat) (x : (Unit × Unit × Unit) × ((Unit × ((Nat → Int) × (Int × (Int × Unit)))) × (Int × (Bool × (Unit × (Int × Unit)))) × (List Int) × (List ByteArray) × Unit)) (κ0 : (Unit × ((Unit × ((Nat → Int) × (Int × (Int × Unit)))) × (Int × (Bool × (Unit × (Int × Unit)))) × (List ByteArray) × (List Int) × Unit)) → Option R) : Option R :=
let a790 : (Nat → Int) := x.2.1.2.1
let i791 : Int := x.2.1.2.2.1
let i792 : Int := x.2.1.2.2.2.1
let i793 : Int := x.2.2.1.1
let b794 : Bool := x.2.2.1.2.1
let i795 : Int := x.2.2.1.2.2.2.1
let l796 : (List Int) := x.2.2.2.1
let l797 : (List ByteArray) := x.2.2.2.2.1
p_57_v1 N (((), (), ()), ((i793, (b794, ((), (i795, ())))), l796, l797, ())) (fun y936 =>
let l937 : (List (List Int)) := y936.1
let i938 : Int := y936.2.1.1
let b939 : Bool := y936.2.1.2.1
let i940 : Int := y936.2.1.2.2.2.1
let l941 : (List Int) := y936.2.2.1
let l942 : (List ByteArray) := y936.2.2.2.1
let i943 : Int := (((List.length l937) : Nat) : Int)
none) (fun y961 =>
let l962 : (List (List Int)) := y961.1
let i963 : Int := y961.2.1.1
let b964 : Bool := y961.2.1.2.1
let i965 : Int := y961.2.1.2.2.2.1
let l966 : (List ByteArray) := y961.2.2.1
let l967 : (List Int) := y961.2.2.2.1
let i968 : Int := (((List.length l962) : Nat) : Int)
l_26_v1_4 N N (((), l962, i968, 0, ()), (((), (a790, (i791, (i792, ())))), (i963, (b964, ((), (i965, ())))), l966, l967, ())) (fun y986 =>
let a987 : (Nat → Int) := y986.2.1.2.1
let i988 : Int := y986.2.1.2.2.1
let i989 : Int := y986.2.1.2.2.2.1
let i990 : Int := y986.2.2.1.1
let b991 : Bool := y986.2.2.1.2.1
let i992 : Int := y986.2.2.1.2.2.2.1
let l993 : (List ByteArray) := y986.2.2.2.1
let l994 : (List Int) := y986.2.2.2.2.1
κ0 ((), (((), (a987, (i988, (i989, ())))), (i990, (b991, ((), (i992, ())))), l993, l994, ()))))

abbrev Tl_26_v1_4 (R : Type) : Type := ((Unit × (List (List Int)) × Int × Int × Unit) × ((Unit × ((Nat → Int) × (Int × (Int × Unit)))) × (Int × (Bool × (Unit × (Int × Unit)))) × (List ByteArray) × (List Int) × Unit)) → (((Unit × Unit) × ((Unit × ((Nat → Int) × (Int × (Int × Unit)))) × (Int × (Bool × (Unit × (Int × Unit)))) × (List ByteArray) × (List Int) × Unit)) → Option R) → Option R
abbrev Tp_26_v1 (R : Type) : Type := (Unit × Unit × Unit) × ((Unit × ((Nat → Int) × (Int × (Int × Unit)))) × (Int × (Bool × (Unit × (Int × Unit)))) × (List Int) × (List ByteArray) × Unit) → ((Unit × ((Unit × ((Nat → Int) × (Int × (Int × Unit)))) × (Int × (Bool × (Unit × (Int × Unit)))) × (List ByteArray) × (List Int) × Unit)) → Option R) → Option R
def Q_26_v1 {R : Type} (q_57_v1 : Tp_57_v1 R) (q_12 : Tp_12 R) (m_26_v1_4 : Tl_26_v1_4 R) (x : (Unit × Unit × Unit) × ((Unit × ((Nat → Int) × (Int × (Int × Unit)))) × (Int × (Bool × (Unit × (Int × Unit)))) × (List Int) × (List ByteArray) × Unit)) (κ0 : (Unit × ((Unit × ((Nat → Int) × (Int × (Int × Unit)))) × (Int × (Bool × (Unit × (Int × Unit)))) × (List ByteArray) × (List Int) × Unit)) → Option R) : Option R :=
let a790 : (Nat → Int) := x.2.1.2.1
let i791 : Int := x.2.1.2.2.1
let i792 : Int := x.2.1.2.2.2.1
let i793 : Int := x.2.2.1.1
let b794 : Bool := x.2.2.1.2.1
let i795 : Int := x.2.2.1.2.2.2.1
let l796 : (List Int) := x.2.2.2.1
let l797 : (List ByteArray) := x.2.2.2.2.1
q_57_v1 (((), (), ()), ((i793, (b794, ((), (i795, ())))), l796, l797, ())) (fun y936 =>
let l937 : (List (List Int)) := y936.1
let i938 : Int := y936.2.1.1
let b939 : Bool := y936.2.1.2.1
let i940 : Int := y936.2.1.2.2.2.1
let l941 : (List Int) := y936.2.2.1
let l942 : (List ByteArray) := y936.2.2.2.1
let i943 : Int := (((List.length l937) : Nat) : Int)
none) (fun y961 =>
let l962 : (List (List Int)) := y961.1
let i963 : Int := y961.2.1.1
let b964 : Bool := y961.2.1.2.1
let i965 : Int := y961.2.1.2.2.2.1
let l966 : (List ByteArray) := y961.2.2.1
let l967 : (List Int) := y961.2.2.2.1
let i968 : Int := (((List.length l962) : Nat) : Int)
m_26_v1_4 (((), l962, i968, 0, ()), (((), (a790, (i791, (i792, ())))), (i963, (b964, ((), (i965, ())))), l966, l967, ())) (fun y986 =>
let a987 : (Nat → Int) := y986.2.1.2.1
let i988 : Int := y986.2.1.2.2.1
let i989 : Int := y986.2.1.2.2.2.1
let i990 : Int := y986.2.2.1.1
let b991 : Bool := y986.2.2.1.2.1
let i992 : Int := y986.2.2.1.2.2.2.1
let l993 : (List ByteArray) := y986.2.2.2.1
let l994 : (List Int) := y986.2.2.2.2.1
κ0 ((), (((), (a987, (i988, (i989, ())))), (i990, (b991, ((), (i992, ())))), l993, l994, ()))))
def C_26_v1_4 {R : Type} (q_57_v1 : Tp_57_v1 R) (q_12 : Tp_12 R) (m_26_v1_4 : Tl_26_v1_4 R) (rec : ((Unit × (List (List Int)) × Int × Int × Unit) × ((Unit × ((Nat → Int) × (Int × (Int × Unit)))) × (Int × (Bool × (Unit × (Int × Unit)))) × (List ByteArray) × (List Int) × Unit)) → Option R) (x : ((Unit × (List (List Int)) × Int × Int × Unit) × ((Unit × ((Nat → Int) × (Int × (Int × Unit)))) × (Int × (Bool × (Unit × (Int × Unit)))) × (List ByteArray) × (List Int) × Unit))) (κ0 : ((Unit × Unit) × ((Unit × ((Nat → Int) × (Int × (Int × Unit)))) × (Int × (Bool × (Unit × (Int × Unit)))) × (List ByteArray) × (List Int) × Unit)) → Option R) : Option R :=
let l969 : (List (List Int)) := x.1.2.1
let i970 : Int := x.1.2.2.1
let i971 : Int := x.1.2.2.2.1
let a972 : (Nat → Int) := x.2.1.2.1
let i973 : Int := x.2.1.2.2.1
let i974 : Int := x.2.1.2.2.2.1
let i975 : Int := x.2.2.1.1
let b976 : Bool := x.2.2.1.2.1
let i977 : Int := x.2.2.1.2.2.2.1
let l978 : (List ByteArray) := x.2.2.2.1
let l979 : (List Int) := x.2.2.2.2.1
bif (decide (i971 < i970)) then (
bif decide (0 ≤ i971) then (
bif decide (i971 < ((List.length l969) : Int)) then (
let p980 : (List Int) := (List.getD l969 ((Int.toNat i971)) (Sch.zero (.sl (.int .u8))))
let i981 : Int := addA .u64 i974 128
q_12 ((a972, p980, i981, false, ()), ()) (fun y982 =>
let a983 : (Nat → Int) := y982.1
let i984 : Int := y982.2.1
let i985 : Int := addA .i64 i971 1
rec (((), l969, i970, i985, ()), (((), (a983, (i973, (i981, ())))), (i975, (b976, ((), (i977, ())))), l978, l979, ())))) else none) else none) else (
κ0 (((), ()), (((), (a972, (i973, (i974, ())))), (i975, (b976, ((), (i977, ())))), l978, l979, ())))
def EG_26_v1 {R : Type} (q_57_v1 : Tp_57_v1 R) (q_12 : Tp_12 R) : Env R := ((Env.base QQ LN).add 57 ap_57_v1 hp_57_v1 (fun (x : aden ap_57_v1 × hden hp_57_v1) k => q_57_v1 x (fun y => k (Pat.inst (.ros (.sl (.int .u8))) y.1) (instH [some (.node (.fcons (.int .i64) (.fcons (.bool) (.fcons (.sl 1) (.fcons (.int .i64) (.fnil))))), 151), some (.lst (.int .u8), 5), some (.lst (.str), 9)] y.2)) (fun y => k (Pat.inst (.ros (.sl (.int .u8))) y.1) (instH [some (.node (.fcons (.int .i64) (.fcons (.bool) (.fcons (.sl 3) (.fcons (.int .i64) (.fnil))))), 151), none, some (.lst (.str), 9), some (.lst (.int .u8), 5)] y.2)))).add 12 ap_12 hp_12 (fun (x : aden ap_12 × hden hp_12) k => q_12 x (fun y => k (Pat.inst (.tup (.fcons (.vec (.int .u64) 8) (.fcons (.int .i64) (.fnil)))) y) (instH hp_12 x.2)))
def LG_26_v1 {R : Type} (m_26_v1_4 : Tl_26_v1_4 R) : Loops R := (Loops.none).add 4 (loopBy 4 lv_26_v1_4 pt_26_v1_4 (fun x k => m_26_v1_4 x (fun y => k (.exit 0) (px_26_v1_4_0.inst y))))
def E_26_v1 {R : Type} (N : Nat) : Env R := EG_26_v1 (p_57_v1 N) (p_12 N)
theorem eok_26_v1 {R : Type} (N : Nat) : EK Try.prog (E_26_v1 (R := R) N) := ek_add (ek_add (ek_base _ _) (good_57_v1 N)) (good_12 N)
def L_26_v1 {R : Type} (N : Nat) : Loops R := LG_26_v1 (l_26_v1_4 N N)
theorem gstep_26_v1_4 {R : Type} (q_57_v1 : Tp_57_v1 R) (q_12 : Tp_12 R) (m_26_v1_4 : Tl_26_v1_4 R) (n : Nat) (x : pt_26_v1_4.den) (k : Exit → St → Option R) : iter 4 lv_26_v1_4 lo_26_v1_4 (aexec TT (EG_26_v1 q_57_v1 q_12) (drawAny TT WW) (LG_26_v1 m_26_v1_4) (loopAt 4 (bodyOf Try.f26))) (n + 1) (pt_26_v1_4.inst x) k = C_26_v1_4 q_57_v1 q_12 m_26_v1_4 (fun y => iter 4 lv_26_v1_4 lo_26_v1_4 (aexec TT (EG_26_v1 q_57_v1 q_12) (drawAny TT WW) (LG_26_v1 m_26_v1_4) (loopAt 4 (bodyOf Try.f26))) n (pt_26_v1_4.inst y) k) x (fun y => k (.exit 0) (px_26_v1_4_0.inst y)) := by kernel_rfl
theorem step_26_v1_4 {R : Type} (N n : Nat) (x : pt_26_v1_4.den) (k : Exit → St → Option R) : iter 4 lv_26_v1_4 lo_26_v1_4 (aexec TT (E_26_v1 (R := R) N) (drawAny TT WW) (L_26_v1 N) (loopAt 4 (bodyOf Try.f26))) (n + 1) (pt_26_v1_4.inst x) k = B_26_v1_4 N (fun y => iter 4 lv_26_v1_4 lo_26_v1_4 (aexec TT (E_26_v1 (R := R) N) (drawAny TT WW) (L_26_v1 N) (loopAt 4 (bodyOf Try.f26))) n (pt_26_v1_4.inst y) k) x (fun y => k (.exit 0) (px_26_v1_4_0.inst y)) := (gstep_26_v1_4 (p_57_v1 N) (p_12 N) (l_26_v1_4 N N) n x k).trans (by kernel_rfl)
theorem eq_26_v1_4 {R : Type} (N : Nat) : ∀ (n : Nat) (x : pt_26_v1_4.den) (k : Exit → St → Option R), iter 4 lv_26_v1_4 lo_26_v1_4 (aexec TT (E_26_v1 (R := R) N) (drawAny TT WW) (L_26_v1 N) (loopAt 4 (bodyOf Try.f26))) n (pt_26_v1_4.inst x) k = l_26_v1_4 N n x (fun y => k (.exit 0) (px_26_v1_4_0.inst y)) :=
  iter_eq (K := Exit → St → Option R) (ks := fun k => k) (l := fun n (x : pt_26_v1_4.den) k => l_26_v1_4 N n x (fun y => k (.exit 0) (px_26_v1_4_0.inst y))) (B := fun (rec : pt_26_v1_4.den → Option R) (x : pt_26_v1_4.den) k => B_26_v1_4 N rec x (fun y => k (.exit 0) (px_26_v1_4_0.inst y))) (fun _ _ => rfl) (fun _ _ _ => rfl) (fun n x k => step_26_v1_4 N n x k)
theorem rounds_26_v1_4 {R : Type} (N : Nat) : Rounds 4 TT (E_26_v1 (R := R) N) (drawAny TT WW) (L_26_v1 N) 4 (loopAt 4 (bodyOf Try.f26)) :=
  rounds_of (p := pt_26_v1_4) (l := fun (x : pt_26_v1_4.den) k => l_26_v1_4 N N x (fun y => k (.exit 0) (px_26_v1_4_0.inst y))) (fun s k => rfl) (fun x k => eq_26_v1_4 N N x k)
theorem loops_26_v1 : loopsIn (bodyOf Try.f26) = [(4, loopAt 4 (bodyOf Try.f26))] := by kernel_rfl
theorem lok_26_v1 {R : Type} (N : Nat) : LOK 4 TT (E_26_v1 (R := R) N) (drawAny TT WW) (L_26_v1 N) (bodyOf Try.f26) := loops_all loops_26_v1 (by
  simp only [List.forall_mem_cons, List.not_mem_nil, false_implies, implies_true, and_true]
  exact rounds_26_v1_4 N)
theorem grun_26_v1 {R : Type} (q_57_v1 : Tp_57_v1 R) (q_12 : Tp_12 R) (m_26_v1_4 : Tl_26_v1_4 R) (x : aden ap_26_v1 × hden hp_26_v1) (k : KF R) : fnrun TT (EG_26_v1 q_57_v1 q_12) (drawAny TT WW) (LG_26_v1 m_26_v1_4) true Try.f26 (instA ap_26_v1 x.1) (instH hp_26_v1 x.2) k = Q_26_v1 q_57_v1 q_12 m_26_v1_4 x (fun y => k (Pat.inst (.ptr 0 []) y.1) (instH [some (.node (.fcons (.ptr 1 []) (.fcons (.vec (.int .u64) 8) (.fcons (.int .i64) (.fcons (.int .u64) (.fnil))))), 115), some (.node (.fcons (.int .i64) (.fcons (.bool) (.fcons (.sl 4) (.fcons (.int .i64) (.fnil))))), 151), none, some (.lst (.str), 9), some (.lst (.int .u8), 5)] y.2)) := by kernel_rfl
theorem run_26_v1 {R : Type} (N : Nat) (x : aden ap_26_v1 × hden hp_26_v1) (k : KF R) : fnrun TT (E_26_v1 (R := R) N) (drawAny TT WW) (L_26_v1 N) true Try.f26 (instA ap_26_v1 x.1) (instH hp_26_v1 x.2) k = p_26_v1 N x (fun y => k (Pat.inst (.ptr 0 []) y.1) (instH [some (.node (.fcons (.ptr 1 []) (.fcons (.vec (.int .u64) 8) (.fcons (.int .i64) (.fcons (.int .u64) (.fnil))))), 115), some (.node (.fcons (.int .i64) (.fcons (.bool) (.fcons (.sl 4) (.fcons (.int .i64) (.fnil))))), 151), none, some (.lst (.str), 9), some (.lst (.int .u8), 5)] y.2)) := (grun_26_v1 (p_57_v1 N) (p_12 N) (l_26_v1_4 N N) x k).trans (by kernel_rfl)
theorem good_26_v1 {R : Type} (N : Nat) : GD (X := R) Try.prog QQ 26 ap_26_v1 hp_26_v1 (fun (x : aden ap_26_v1 × hden hp_26_v1) k => p_26_v1 N x (fun y => k (Pat.inst (.ptr 0 []) y.1) (instH [some (.node (.fcons (.ptr 1 []) (.fcons (.vec (.int .u64) 8) (.fcons (.int .i64) (.fcons (.int .u64) (.fnil))))), 115), some (.node (.fcons (.int .i64) (.fcons (.bool) (.fcons (.sl 4) (.fcons (.int .i64) (.fnil))))), 151), none, some (.lst (.str), 9), some (.lst (.int .u8), 5)] y.2))) :=
  gd_loud (E := E_26_v1 N) (p := fun (x : aden ap_26_v1 × hden hp_26_v1) k => p_26_v1 N x (fun y => k (Pat.inst (.ptr 0 []) y.1) (instH [some (.node (.fcons (.ptr 1 []) (.fcons (.vec (.int .u64) 8) (.fcons (.int .i64) (.fcons (.int .u64) (.fnil))))), 115), some (.node (.fcons (.int .i64) (.fcons (.bool) (.fcons (.sl 4) (.fcons (.int .i64) (.fnil))))), 151), none, some (.lst (.str), 9), some (.lst (.int .u8), 5)] y.2))) mixed tyok (eok_26_v1 N) Try.func26 (by kernel_rfl) (by kernel_rfl) (by kernel_rfl) (lok_26_v1 N) (fun x k => run_26_v1 N x k)

def ap_27 : List Pat := [.int .i64, .str]
def hp_27 : List (Option (Pat × Nat)) := []
def p_27 {R : Type} (N : Nat) (x : (Int × ByteArray × Unit) × (Unit)) (κ0 : ((Unit × (Int × Unit)) × (Unit)) → Option R) (κ1 : ((Unit × (Int × Unit)) × ((Unit × ((Nat → Int) × (Int × (Int × Unit)))) × Unit)) → Option R) (κ2 : ((Unit × (Int × Unit)) × ((Unit × ((Nat → Int) × (Int × (Int × Unit)))) × (Int × (Bool × (Unit × (Int × Unit)))) × (List Int) × Unit)) → Option R) : Option R :=
let i8 : Int := x.1.1
let s9 : ByteArray := x.1.2.1
bif (decide (i8 < 1)) then (
κ0 (((), (1, ())), ())) else (
bif (decide (i8 > 64)) then (
κ0 (((), (1, ())), ())) else (
let i10 : Int := ((ByteArray.size s9 : Nat) : Int)
bif (decide (i10 > 64)) then (
κ0 (((), (1, ())), ())) else (
p_58 N ((128, true, ()), ()) (fun y13 =>
let i14 : Int := y13.1.2.1
p_15 N ((), ()) (fun y16 =>
let a17 : (Nat → Int) := y16
let i18 : Int := (a17 0)
let i19 : Int := ((ByteArray.size s9 : Nat) : Int)
let i20 : Int := IntKind.wrap .u64 i19
let i21 : Int := shlA .u64 i20 8
let i22 : Int := xorA .u64 16842752 i21
let i23 : Int := IntKind.wrap .u64 i8
let i24 : Int := xorA .u64 i22 i23
let i25 : Int := xorA .u64 i18 i24
bif (!eqS s9 (⟨#[]⟩)) then (
let i26 : Int := ((ByteArray.size s9 : Nat) : Int)
let i27 : Int := subA .i64 128 i26
bif decide (0 ≤ i27) then (
bif decide (i27 ≤ i27) then (
bif decide (((1 : Nat) : Int) * i27 ≤ 281474976710656) then (
bif decide (i27 ≤ 9223372036854775807) then (
let l28 : (List Int) := List.replicate ((Int.toNat i27)) (Sch.zero (.int .u8))
let s29 : ByteArray := listStr l28
bif decide (ByteArray.size s9 + ByteArray.size s29 ≤ maxI64) then (
let s30 : ByteArray := (s9 ++ s29)
let l31 : (List ByteArray) := [s30]
p_26 N (((), (), ()), (((), ((upd a17 0 i25), (i8, (0, ())))), l31, ())) (fun y763 =>
let a764 : (Nat → Int) := y763.2.1.2.1
let i765 : Int := y763.2.1.2.2.1
let i766 : Int := y763.2.1.2.2.2.1
let l767 : (List ByteArray) := y763.2.2.1
κ1 (((), (0, ())), (((), (a764, (i765, (i766, ())))), ())))) else none) else none) else none) else none) else none) else (
κ1 (((), (0, ())), (((), ((upd a17 0 i25), (i8, (0, ())))), ()))))) (fun y768 =>
let i769 : Int := y768.1.2.1
let i770 : Int := y768.2.1.1
let b771 : Bool := y768.2.1.2.1
let i772 : Int := y768.2.1.2.2.2.1
let l773 : (List Int) := y768.2.2.1
p_15 N ((), ()) (fun y774 =>
let a775 : (Nat → Int) := y774
let i776 : Int := (a775 0)
let i777 : Int := ((ByteArray.size s9 : Nat) : Int)
let i778 : Int := IntKind.wrap .u64 i777
let i779 : Int := shlA .u64 i778 8
let i780 : Int := xorA .u64 16842752 i779
let i781 : Int := IntKind.wrap .u64 i8
let i782 : Int := xorA .u64 i780 i781
let i783 : Int := xorA .u64 i776 i782
bif (!eqS s9 (⟨#[]⟩)) then (
let i784 : Int := ((ByteArray.size s9 : Nat) : Int)
let i785 : Int := subA .i64 128 i784
bif decide (0 ≤ i785) then (
bif decide (i785 ≤ i785) then (
bif decide (((1 : Nat) : Int) * i785 ≤ 281474976710656) then (
bif decide (i785 ≤ 9223372036854775807) then (
let l786 : (List Int) := List.replicate ((Int.toNat i785)) (Sch.zero (.int .u8))
let s787 : ByteArray := listStr l786
bif decide (ByteArray.size s9 + ByteArray.size s787 ≤ maxI64) then (
let s788 : ByteArray := (s9 ++ s787)
let l789 : (List ByteArray) := [s788]
p_26_v1 N (((), (), ()), (((), ((upd a775 0 i783), (i8, (0, ())))), (i770, (b771, ((), (i772, ())))), l773, l789, ())) (fun y995 =>
let a996 : (Nat → Int) := y995.2.1.2.1
let i997 : Int := y995.2.1.2.2.1
let i998 : Int := y995.2.1.2.2.2.1
let i999 : Int := y995.2.2.1.1
let b1000 : Bool := y995.2.2.1.2.1
let i1001 : Int := y995.2.2.1.2.2.2.1
let l1002 : (List ByteArray) := y995.2.2.2.1
let l1003 : (List Int) := y995.2.2.2.2.1
κ2 (((), (0, ())), (((), (a996, (i997, (i998, ())))), (i999, (b1000, ((), (i1001, ())))), l1003, ())))) else none) else none) else none) else none) else none) else (
κ2 (((), (0, ())), (((), ((upd a775 0 i783), (i8, (0, ())))), (i770, (b771, ((), (i772, ())))), l773, ()))))))))

abbrev Tp_27 (R : Type) : Type := (Int × ByteArray × Unit) × (Unit) → (((Unit × (Int × Unit)) × (Unit)) → Option R) → (((Unit × (Int × Unit)) × ((Unit × ((Nat → Int) × (Int × (Int × Unit)))) × Unit)) → Option R) → (((Unit × (Int × Unit)) × ((Unit × ((Nat → Int) × (Int × (Int × Unit)))) × (Int × (Bool × (Unit × (Int × Unit)))) × (List Int) × Unit)) → Option R) → Option R
def Q_27 {R : Type} (q_58 : Tp_58 R) (q_15 : Tp_15 R) (q_26 : Tp_26 R) (q_26_v1 : Tp_26_v1 R) (x : (Int × ByteArray × Unit) × (Unit)) (κ0 : ((Unit × (Int × Unit)) × (Unit)) → Option R) (κ1 : ((Unit × (Int × Unit)) × ((Unit × ((Nat → Int) × (Int × (Int × Unit)))) × Unit)) → Option R) (κ2 : ((Unit × (Int × Unit)) × ((Unit × ((Nat → Int) × (Int × (Int × Unit)))) × (Int × (Bool × (Unit × (Int × Unit)))) × (List Int) × Unit)) → Option R) : Option R :=
let i8 : Int := x.1.1
let s9 : ByteArray := x.1.2.1
bif (decide (i8 < 1)) then (
κ0 (((), (1, ())), ())) else (
bif (decide (i8 > 64)) then (
κ0 (((), (1, ())), ())) else (
let i10 : Int := ((ByteArray.size s9 : Nat) : Int)
bif (decide (i10 > 64)) then (
κ0 (((), (1, ())), ())) else (
q_58 ((128, true, ()), ()) (fun y13 =>
let i14 : Int := y13.1.2.1
q_15 ((), ()) (fun y16 =>
let a17 : (Nat → Int) := y16
let i18 : Int := (a17 0)
let i19 : Int := ((ByteArray.size s9 : Nat) : Int)
let i20 : Int := IntKind.wrap .u64 i19
let i21 : Int := shlA .u64 i20 8
let i22 : Int := xorA .u64 16842752 i21
let i23 : Int := IntKind.wrap .u64 i8
let i24 : Int := xorA .u64 i22 i23
let i25 : Int := xorA .u64 i18 i24
bif (!eqS s9 (⟨#[]⟩)) then (
let i26 : Int := ((ByteArray.size s9 : Nat) : Int)
let i27 : Int := subA .i64 128 i26
bif decide (0 ≤ i27) then (
bif decide (i27 ≤ i27) then (
bif decide (((1 : Nat) : Int) * i27 ≤ 281474976710656) then (
bif decide (i27 ≤ 9223372036854775807) then (
let l28 : (List Int) := List.replicate ((Int.toNat i27)) (Sch.zero (.int .u8))
let s29 : ByteArray := listStr l28
bif decide (ByteArray.size s9 + ByteArray.size s29 ≤ maxI64) then (
let s30 : ByteArray := (s9 ++ s29)
let l31 : (List ByteArray) := [s30]
q_26 (((), (), ()), (((), ((upd a17 0 i25), (i8, (0, ())))), l31, ())) (fun y763 =>
let a764 : (Nat → Int) := y763.2.1.2.1
let i765 : Int := y763.2.1.2.2.1
let i766 : Int := y763.2.1.2.2.2.1
let l767 : (List ByteArray) := y763.2.2.1
κ1 (((), (0, ())), (((), (a764, (i765, (i766, ())))), ())))) else none) else none) else none) else none) else none) else (
κ1 (((), (0, ())), (((), ((upd a17 0 i25), (i8, (0, ())))), ()))))) (fun y768 =>
let i769 : Int := y768.1.2.1
let i770 : Int := y768.2.1.1
let b771 : Bool := y768.2.1.2.1
let i772 : Int := y768.2.1.2.2.2.1
let l773 : (List Int) := y768.2.2.1
q_15 ((), ()) (fun y774 =>
let a775 : (Nat → Int) := y774
let i776 : Int := (a775 0)
let i777 : Int := ((ByteArray.size s9 : Nat) : Int)
let i778 : Int := IntKind.wrap .u64 i777
let i779 : Int := shlA .u64 i778 8
let i780 : Int := xorA .u64 16842752 i779
let i781 : Int := IntKind.wrap .u64 i8
let i782 : Int := xorA .u64 i780 i781
let i783 : Int := xorA .u64 i776 i782
bif (!eqS s9 (⟨#[]⟩)) then (
let i784 : Int := ((ByteArray.size s9 : Nat) : Int)
let i785 : Int := subA .i64 128 i784
bif decide (0 ≤ i785) then (
bif decide (i785 ≤ i785) then (
bif decide (((1 : Nat) : Int) * i785 ≤ 281474976710656) then (
bif decide (i785 ≤ 9223372036854775807) then (
let l786 : (List Int) := List.replicate ((Int.toNat i785)) (Sch.zero (.int .u8))
let s787 : ByteArray := listStr l786
bif decide (ByteArray.size s9 + ByteArray.size s787 ≤ maxI64) then (
let s788 : ByteArray := (s9 ++ s787)
let l789 : (List ByteArray) := [s788]
q_26_v1 (((), (), ()), (((), ((upd a775 0 i783), (i8, (0, ())))), (i770, (b771, ((), (i772, ())))), l773, l789, ())) (fun y995 =>
let a996 : (Nat → Int) := y995.2.1.2.1
let i997 : Int := y995.2.1.2.2.1
let i998 : Int := y995.2.1.2.2.2.1
let i999 : Int := y995.2.2.1.1
let b1000 : Bool := y995.2.2.1.2.1
let i1001 : Int := y995.2.2.1.2.2.2.1
let l1002 : (List ByteArray) := y995.2.2.2.1
let l1003 : (List Int) := y995.2.2.2.2.1
κ2 (((), (0, ())), (((), (a996, (i997, (i998, ())))), (i999, (b1000, ((), (i1001, ())))), l1003, ())))) else none) else none) else none) else none) else none) else (
κ2 (((), (0, ())), (((), ((upd a775 0 i783), (i8, (0, ())))), (i770, (b771, ((), (i772, ())))), l773, ()))))))))
def EG_27 {R : Type} (q_58 : Tp_58 R) (q_15 : Tp_15 R) (q_26 : Tp_26 R) (q_26_v1 : Tp_26_v1 R) : Env R := ((((Env.base QQ LN).add 58 ap_58 hp_58 (fun (x : aden ap_58 × hden hp_58) k => q_58 x (fun y => k (Pat.inst (.tup (.fcons (.nilp) (.fcons (.int .i64) (.fnil)))) y.1) (instH [] y.2)) (fun y => k (Pat.inst (.tup (.fcons (.ptr 0 []) (.fcons (.int .i64) (.fnil)))) y.1) (instH [some (.node (.fcons (.int .i64) (.fcons (.bool) (.fcons (.sl 1) (.fcons (.int .i64) (.fnil))))), 151), some (.lst (.int .u8), 5)] y.2)))).add 15 ap_15 hp_15 (fun (x : aden ap_15 × hden hp_15) k => q_15 x (fun y => k (Pat.inst (.vec (.int .u64) 8) y) (instH hp_15 x.2)))).add 26 ap_26 hp_26 (fun (x : aden ap_26 × hden hp_26) k => q_26 x (fun y => k (Pat.inst (.ptr 0 []) y.1) (instH [some (.node (.fcons (.nilp) (.fcons (.vec (.int .u64) 8) (.fcons (.int .i64) (.fcons (.int .u64) (.fnil))))), 115), some (.lst (.str), 9)] y.2)))).add 26 ap_26_v1 hp_26_v1 (fun (x : aden ap_26_v1 × hden hp_26_v1) k => q_26_v1 x (fun y => k (Pat.inst (.ptr 0 []) y.1) (instH [some (.node (.fcons (.ptr 1 []) (.fcons (.vec (.int .u64) 8) (.fcons (.int .i64) (.fcons (.int .u64) (.fnil))))), 115), some (.node (.fcons (.int .i64) (.fcons (.bool) (.fcons (.sl 4) (.fcons (.int .i64) (.fnil))))), 151), none, some (.lst (.str), 9), some (.lst (.int .u8), 5)] y.2)))
def LG_27 {R : Type} : Loops R := Loops.none
def E_27 {R : Type} (N : Nat) : Env R := EG_27 (p_58 N) (p_15 N) (p_26 N) (p_26_v1 N)
theorem eok_27 {R : Type} (N : Nat) : EK Try.prog (E_27 (R := R) N) := ek_add (ek_add (ek_add (ek_add (ek_base _ _) (good_58 N)) (good_15 N)) (good_26 N)) (good_26_v1 N)
def L_27 {R : Type} (N : Nat) : Loops R := LG_27
theorem lok_27 {R : Type} (N : Nat) : LOK 0 TT (E_27 (R := R) N) (drawAny TT WW) (L_27 N) (bodyOf Try.f27) := loops_nil (by kernel_rfl)
theorem grun_27 {R : Type} (q_58 : Tp_58 R) (q_15 : Tp_15 R) (q_26 : Tp_26 R) (q_26_v1 : Tp_26_v1 R) (x : aden ap_27 × hden hp_27) (k : KF R) : fnrun TT (EG_27 q_58 q_15 q_26 q_26_v1) (drawAny TT WW) (LG_27) true Try.f27 (instA ap_27 x.1) (instH hp_27 x.2) k = Q_27 q_58 q_15 q_26 q_26_v1 x (fun y => k (Pat.inst (.tup (.fcons (.nilp) (.fcons (.int .i64) (.fnil)))) y.1) (instH [] y.2)) (fun y => k (Pat.inst (.tup (.fcons (.ptr 0 []) (.fcons (.int .i64) (.fnil)))) y.1) (instH [some (.node (.fcons (.nilp) (.fcons (.vec (.int .u64) 8) (.fcons (.int .i64) (.fcons (.int .u64) (.fnil))))), 115)] y.2)) (fun y => k (Pat.inst (.tup (.fcons (.ptr 0 []) (.fcons (.int .i64) (.fnil)))) y.1) (instH [some (.node (.fcons (.ptr 1 []) (.fcons (.vec (.int .u64) 8) (.fcons (.int .i64) (.fcons (.int .u64) (.fnil))))), 115), some (.node (.fcons (.int .i64) (.fcons (.bool) (.fcons (.sl 2) (.fcons (.int .i64) (.fnil))))), 151), some (.lst (.int .u8), 5)] y.2)) := by kernel_rfl
theorem run_27 {R : Type} (N : Nat) (x : aden ap_27 × hden hp_27) (k : KF R) : fnrun TT (E_27 (R := R) N) (drawAny TT WW) (L_27 N) true Try.f27 (instA ap_27 x.1) (instH hp_27 x.2) k = p_27 N x (fun y => k (Pat.inst (.tup (.fcons (.nilp) (.fcons (.int .i64) (.fnil)))) y.1) (instH [] y.2)) (fun y => k (Pat.inst (.tup (.fcons (.ptr 0 []) (.fcons (.int .i64) (.fnil)))) y.1) (instH [some (.node (.fcons (.nilp) (.fcons (.vec (.int .u64) 8) (.fcons (.int .i64) (.fcons (.int .u64) (.fnil))))), 115)] y.2)) (fun y => k (Pat.inst (.tup (.fcons (.ptr 0 []) (.fcons (.int .i64) (.fnil)))) y.1) (instH [some (.node (.fcons (.ptr 1 []) (.fcons (.vec (.int .u64) 8) (.fcons (.int .i64) (.fcons (.int .u64) (.fnil))))), 115), some (.node (.fcons (.int .i64) (.fcons (.bool) (.fcons (.sl 2) (.fcons (.int .i64) (.fnil))))), 151), some (.lst (.int .u8), 5)] y.2)) := (grun_27 (p_58 N) (p_15 N) (p_26 N) (p_26_v1 N) x k).trans (by kernel_rfl)
theorem good_27 {R : Type} (N : Nat) : GD (X := R) Try.prog QQ 27 ap_27 hp_27 (fun (x : aden ap_27 × hden hp_27) k => p_27 N x (fun y => k (Pat.inst (.tup (.fcons (.nilp) (.fcons (.int .i64) (.fnil)))) y.1) (instH [] y.2)) (fun y => k (Pat.inst (.tup (.fcons (.ptr 0 []) (.fcons (.int .i64) (.fnil)))) y.1) (instH [some (.node (.fcons (.nilp) (.fcons (.vec (.int .u64) 8) (.fcons (.int .i64) (.fcons (.int .u64) (.fnil))))), 115)] y.2)) (fun y => k (Pat.inst (.tup (.fcons (.ptr 0 []) (.fcons (.int .i64) (.fnil)))) y.1) (instH [some (.node (.fcons (.ptr 1 []) (.fcons (.vec (.int .u64) 8) (.fcons (.int .i64) (.fcons (.int .u64) (.fnil))))), 115), some (.node (.fcons (.int .i64) (.fcons (.bool) (.fcons (.sl 2) (.fcons (.int .i64) (.fnil))))), 151), some (.lst (.int .u8), 5)] y.2))) :=
  gd_loud (E := E_27 N) (p := fun (x : aden ap_27 × hden hp_27) k => p_27 N x (fun y => k (Pat.inst (.tup (.fcons (.nilp) (.fcons (.int .i64) (.fnil)))) y.1) (instH [] y.2)) (fun y => k (Pat.inst (.tup (.fcons (.ptr 0 []) (.fcons (.int .i64) (.fnil)))) y.1) (instH [some (.node (.fcons (.nilp) (.fcons (.vec (.int .u64) 8) (.fcons (.int .i64) (.fcons (.int .u64) (.fnil))))), 115)] y.2)) (fun y => k (Pat.inst (.tup (.fcons (.ptr 0 []) (.fcons (.int .i64) (.fnil)))) y.1) (instH [some (.node (.fcons (.ptr 1 []) (.fcons (.vec (.int .u64) 8) (.fcons (.int .i64) (.fcons (.int .u64) (.fnil))))), 115), some (.node (.fcons (.int .i64) (.fcons (.bool) (.fcons (.sl 2) (.fcons (.int .i64) (.fnil))))), 151), some (.lst (.int .u8), 5)] y.2))) mixed tyok (eok_27 N) Try.func27 (by kernel_rfl) (by kernel_rfl) (by kernel_rfl) (lok_27 N) (fun x k => run_27 N x k)

def ap_26_v2 : List Pat := [.nilp, .sl 0]
def hp_26_v2 : List (Option (Pat × Nat)) := [some (.lst (.str), 9)]
def p_26_v2 {R : Type} (N : Nat) (x : (Unit × Unit × Unit) × ((List ByteArray) × Unit)) (κ0 : (Unit × ((List ByteArray) × Unit)) → Option R) : Option R :=
let l1006 : (List ByteArray) := x.2.1
κ0 ((), (l1006, ()))

abbrev Tp_26_v2 (R : Type) : Type := (Unit × Unit × Unit) × ((List ByteArray) × Unit) → ((Unit × ((List ByteArray) × Unit)) → Option R) → Option R
def Q_26_v2 {R : Type} (x : (Unit × Unit × Unit) × ((List ByteArray) × Unit)) (κ0 : (Unit × ((List ByteArray) × Unit)) → Option R) : Option R :=
let l1006 : (List ByteArray) := x.2.1
κ0 ((), (l1006, ()))
def EG_26_v2 {R : Type} : Env R := Env.base QQ LN
def LG_26_v2 {R : Type} : Loops R := Loops.none
def E_26_v2 {R : Type} (N : Nat) : Env R := EG_26_v2
theorem eok_26_v2 {R : Type} (N : Nat) : EK Try.prog (E_26_v2 (R := R) N) := ek_base _ _
def L_26_v2 {R : Type} (N : Nat) : Loops R := LG_26_v2
theorem loops_26_v2 : loopsIn (bodyOf Try.f26) = [(4, loopAt 4 (bodyOf Try.f26))] := by kernel_rfl
theorem lok_26_v2 {R : Type} (N : Nat) : LOK 1 TT (E_26_v2 (R := R) N) (drawAny TT WW) (L_26_v2 N) (bodyOf Try.f26) := loops_all loops_26_v2 (by
  simp only [List.forall_mem_cons, List.not_mem_nil, false_implies, implies_true, and_true]
  exact rounds_none (fun _ _ => rfl))
theorem grun_26_v2 {R : Type} (x : aden ap_26_v2 × hden hp_26_v2) (k : KF R) : fnrun TT (EG_26_v2) (drawAny TT WW) (LG_26_v2) true Try.f26 (instA ap_26_v2 x.1) (instH hp_26_v2 x.2) k = Q_26_v2 x (fun y => k (Pat.inst (.nilp) y.1) (instH [some (.lst (.str), 9)] y.2)) := by kernel_rfl
theorem run_26_v2 {R : Type} (N : Nat) (x : aden ap_26_v2 × hden hp_26_v2) (k : KF R) : fnrun TT (E_26_v2 (R := R) N) (drawAny TT WW) (L_26_v2 N) true Try.f26 (instA ap_26_v2 x.1) (instH hp_26_v2 x.2) k = p_26_v2 N x (fun y => k (Pat.inst (.nilp) y.1) (instH [some (.lst (.str), 9)] y.2)) := (grun_26_v2 x k).trans (by kernel_rfl)
theorem good_26_v2 {R : Type} (N : Nat) : GD (X := R) Try.prog QQ 26 ap_26_v2 hp_26_v2 (fun (x : aden ap_26_v2 × hden hp_26_v2) k => p_26_v2 N x (fun y => k (Pat.inst (.nilp) y.1) (instH [some (.lst (.str), 9)] y.2))) :=
  gd_loud (E := E_26_v2 N) (p := fun (x : aden ap_26_v2 × hden hp_26_v2) k => p_26_v2 N x (fun y => k (Pat.inst (.nilp) y.1) (instH [some (.lst (.str), 9)] y.2))) mixed tyok (eok_26_v2 N) Try.func26 (by kernel_rfl) (by kernel_rfl) (by kernel_rfl) (lok_26_v2 N) (fun x k => run_26_v2 N x k)

def ap_25 : List Pat := [.nilp]
def hp_25 : List (Option (Pat × Nat)) := []
def p_25 {R : Type} (N : Nat) (x : (Unit × Unit) × (Unit)) (κ0 : (ByteArray × (Unit)) → Option R) : Option R :=
κ0 (⟨#[]⟩, ())

abbrev Tp_25 (R : Type) : Type := (Unit × Unit) × (Unit) → ((ByteArray × (Unit)) → Option R) → Option R
def Q_25 {R : Type} (x : (Unit × Unit) × (Unit)) (κ0 : (ByteArray × (Unit)) → Option R) : Option R :=
κ0 (⟨#[]⟩, ())
def EG_25 {R : Type} : Env R := Env.base QQ LN
def LG_25 {R : Type} : Loops R := Loops.none
def E_25 {R : Type} (N : Nat) : Env R := EG_25
theorem eok_25 {R : Type} (N : Nat) : EK Try.prog (E_25 (R := R) N) := ek_base _ _
def L_25 {R : Type} (N : Nat) : Loops R := LG_25
theorem lok_25 {R : Type} (N : Nat) : LOK 0 TT (E_25 (R := R) N) (drawAny TT WW) (L_25 N) (bodyOf Try.f25) := loops_nil (by kernel_rfl)
theorem grun_25 {R : Type} (x : aden ap_25 × hden hp_25) (k : KF R) : fnrun TT (EG_25) (drawAny TT WW) (LG_25) true Try.f25 (instA ap_25 x.1) (instH hp_25 x.2) k = Q_25 x (fun y => k (Pat.inst (.str) y.1) (instH [] y.2)) := by kernel_rfl
theorem run_25 {R : Type} (N : Nat) (x : aden ap_25 × hden hp_25) (k : KF R) : fnrun TT (E_25 (R := R) N) (drawAny TT WW) (L_25 N) true Try.f25 (instA ap_25 x.1) (instH hp_25 x.2) k = p_25 N x (fun y => k (Pat.inst (.str) y.1) (instH [] y.2)) := (grun_25 x k).trans (by kernel_rfl)
theorem good_25 {R : Type} (N : Nat) : GD (X := R) Try.prog QQ 25 ap_25 hp_25 (fun (x : aden ap_25 × hden hp_25) k => p_25 N x (fun y => k (Pat.inst (.str) y.1) (instH [] y.2))) :=
  gd_loud (E := E_25 N) (p := fun (x : aden ap_25 × hden hp_25) k => p_25 N x (fun y => k (Pat.inst (.str) y.1) (instH [] y.2))) mixed tyok (eok_25 N) Try.func25 (by kernel_rfl) (by kernel_rfl) (by kernel_rfl) (lok_25 N) (fun x k => run_25 N x k)

def ap_55 : List Pat := [.nilp]
def hp_55 : List (Option (Pat × Nat)) := []
def p_55 {R : Type} (N : Nat) (x : (Unit × Unit) × (Unit)) (κ0 : (Unit × (Unit)) → Option R) : Option R :=
κ0 ((), ())

abbrev Tp_55 (R : Type) : Type := (Unit × Unit) × (Unit) → ((Unit × (Unit)) → Option R) → Option R
def Q_55 {R : Type} (x : (Unit × Unit) × (Unit)) (κ0 : (Unit × (Unit)) → Option R) : Option R :=
κ0 ((), ())
def EG_55 {R : Type} : Env R := Env.base QQ LN
def LG_55 {R : Type} : Loops R := Loops.none
def E_55 {R : Type} (N : Nat) : Env R := EG_55
theorem eok_55 {R : Type} (N : Nat) : EK Try.prog (E_55 (R := R) N) := ek_base _ _
def L_55 {R : Type} (N : Nat) : Loops R := LG_55
theorem lok_55 {R : Type} (N : Nat) : LOK 0 TT (E_55 (R := R) N) (drawAny TT WW) (L_55 N) (bodyOf Try.f55) := loops_nil (by kernel_rfl)
theorem grun_55 {R : Type} (x : aden ap_55 × hden hp_55) (k : KF R) : fnrun TT (EG_55) (drawAny TT WW) (LG_55) false Try.f55 (instA ap_55 x.1) (instH hp_55 x.2) k = Q_55 x (fun y => k (Pat.inst (.nils) y.1) (instH [] y.2)) := by kernel_rfl
theorem run_55 {R : Type} (N : Nat) (x : aden ap_55 × hden hp_55) (k : KF R) : fnrun TT (E_55 (R := R) N) (drawAny TT WW) (L_55 N) false Try.f55 (instA ap_55 x.1) (instH hp_55 x.2) k = p_55 N x (fun y => k (Pat.inst (.nils) y.1) (instH [] y.2)) := (grun_55 x k).trans (by kernel_rfl)
theorem good_55 {R : Type} (N : Nat) : GD (X := R) Try.prog QQ 55 ap_55 hp_55 (fun (x : aden ap_55 × hden hp_55) k => p_55 N x (fun y => k (Pat.inst (.nils) y.1) (instH [] y.2))) :=
  gd_loud (E := E_55 N) (p := fun (x : aden ap_55 × hden hp_55) k => p_55 N x (fun y => k (Pat.inst (.nils) y.1) (instH [] y.2))) mixed tyok (eok_55 N) Try.func55 (by kernel_rfl) (by kernel_rfl) (by kernel_rfl) (lok_55 N) (fun x k => run_55 N x k)

def lv_56_6 : Live := [(3, none), (5, none), (11, none), (12, none), (13, none), (17, none)]
def pt_56_6 : SPat := ⟨[(3, .sl 0), (5, .int .u64), (11, .ros (.int .u64)), (12, .int .i64), (13, .int .i64), (17, .int .i64)], [some (.lst (.int .u8), 5)]⟩
def px_56_6_0 : SPat := ⟨[(3, .sl 0), (11, .ros (.int .u64)), (12, .int .i64), (13, .int .i64)], [some (.lst (.int .u8), 5)]⟩
def lo_56_6 : Exit → Live
  | .exit 2 => [(3, none), (11, none), (12, none), (13, none)]
  | _ => []
def B_56_6 {R : Type} (N : Nat) (rec : ((Unit × Int × (List Int) × Int × Int × Int × Unit) × ((List Int) × Unit)) → Option R) (x : ((Unit × Int × (List Int) × Int × Int × Int × Unit) × ((List Int) × Unit))) (κ0 : ((Unit × (List Int) × Int × Int × Unit) × ((List Int) × Unit)) → Option R) : Option R :=
let i1042 : Int := x.1.2.1
let l1043 : (List Int) := x.1.2.2.1
let i1044 : Int := x.1.2.2.2.1
let i1045 : Int := x.1.2.2.2.2.1
let i1046 : Int := x.1.2.2.2.2.2.1
let l1047 : (List Int) := x.2.1
bif (decide (i1046 < 8)) then (
let i1048 : Int := mulA .i64 8 i1046
bif decide (i1048 < 0) then none else (
let i1049 : Int := shrA .u64 i1042 i1048
let i1050 : Int := IntKind.wrap .u8 i1049
let l1051 : (List Int) := [i1050]
bif (decide ((List.length l1047 + List.length l1051) * 1 ≤ 140737488355328) && true) then (
let l1052 : (List Int) := (l1047 ++ l1051)
let i1053 : Int := addA .i64 i1046 1
rec (((), i1042, l1043, i1044, i1045, i1053, ()), (l1052, ()))) else none)) else (
κ0 (((), l1043, i1044, i1045, ()), (l1047, ())))
def l_56_6 {R : Type} (N : Nat) : Nat → ((Unit × Int × (List Int) × Int × Int × Int × Unit) × ((List Int) × Unit)) → (((Unit × (List Int) × Int × Int × Unit) × ((List Int) × Unit)) → Option R) → Option R
  | 0, _, _ => none
  | n + 1, x, κ0 => B_56_6 N (fun y => l_56_6 N n y κ0) x κ0
def lv_56_3 : Live := [(3, none), (11, none), (12, none), (13, none)]
def pt_56_3 : SPat := ⟨[(3, .sl 0), (11, .ros (.int .u64)), (12, .int .i64), (13, .int .i64)], [some (.lst (.int .u8), 5)]⟩
def px_56_3_0 : SPat := ⟨[(3, .sl 0)], [some (.lst (.int .u8), 5)]⟩
def lo_56_3 : Exit → Live
  | .exit 0 => [(3, none)]
  | _ => []
def B_56_3 {R : Type} (N : Nat) (rec : ((Unit × (List Int) × Int × Int × Unit) × ((List Int) × Unit)) → Option R) (x : ((Unit × (List Int) × Int × Int × Unit) × ((List Int) × Unit))) (κ0 : ((Unit × Unit) × ((List Int) × Unit)) → Option R) : Option R :=
let l1037 : (List Int) := x.1.2.1
let i1038 : Int := x.1.2.2.1
let i1039 : Int := x.1.2.2.2.1
let l1040 : (List Int) := x.2.1
bif (decide (i1039 < i1038)) then (
bif decide (0 ≤ i1039) then (
bif decide (i1039 < ((List.length l1037) : Int)) then (
let p1041 : Int := (List.getD l1037 ((Int.toNat i1039)) (Sch.zero (.int .u64)))
l_56_6 N N (((), p1041, l1037, i1038, i1039, 0, ()), (l1040, ())) (fun y1054 =>
let l1055 : (List Int) := y1054.1.2.1
let i1056 : Int := y1054.1.2.2.1
let i1057 : Int := y1054.1.2.2.2.1
let l1058 : (List Int) := y1054.2.1
let i1059 : Int := addA .i64 i1057 1
rec (((), l1055, i1056, i1059, ()), (l1058, ())))) else none) else none) else (
κ0 (((), ()), (l1040, ())))
def l_56_3 {R : Type} (N : Nat) : Nat → ((Unit × (List Int) × Int × Int × Unit) × ((List Int) × Unit)) → (((Unit × Unit) × ((List Int) × Unit)) → Option R) → Option R
  | 0, _, _ => none
  | n + 1, x, κ0 => B_56_3 N (fun y => l_56_3 N n y κ0) x κ0
def ap_56 : List Pat := [.ros (.int .u64)]
def hp_56 : List (Option (Pat × Nat)) := []
def p_56 {R : Type} (N : Nat) (x : ((List Int) × Unit) × (Unit)) (κ0 : (Unit × ((List Int) × Unit)) → Option R) : Option R :=
let l1032 : (List Int) := x.1.1
let i1033 : Int := (((List.length l1032) : Nat) : Int)
let i1034 : Int := mulA .i64 8 i1033
bif decide (0 ≤ i1034) then (
bif decide (((1 : Nat) : Int) * i1034 ≤ 281474976710656) then (
bif decide (i1034 ≤ 9223372036854775807) then (
let l1035 : (List Int) := List.replicate 0 (Sch.zero (.int .u8))
let i1036 : Int := (((List.length l1032) : Nat) : Int)
l_56_3 N N (((), l1032, i1036, 0, ()), (l1035, ())) (fun y1060 =>
let l1061 : (List Int) := y1060.2.1
κ0 ((), (l1061, ())))) else none) else none) else none

abbrev Tl_56_6 (R : Type) : Type := ((Unit × Int × (List Int) × Int × Int × Int × Unit) × ((List Int) × Unit)) → (((Unit × (List Int) × Int × Int × Unit) × ((List Int) × Unit)) → Option R) → Option R
abbrev Tl_56_3 (R : Type) : Type := ((Unit × (List Int) × Int × Int × Unit) × ((List Int) × Unit)) → (((Unit × Unit) × ((List Int) × Unit)) → Option R) → Option R
abbrev Tp_56 (R : Type) : Type := ((List Int) × Unit) × (Unit) → ((Unit × ((List Int) × Unit)) → Option R) → Option R
def Q_56 {R : Type} (m_56_6 : Tl_56_6 R) (m_56_3 : Tl_56_3 R) (x : ((List Int) × Unit) × (Unit)) (κ0 : (Unit × ((List Int) × Unit)) → Option R) : Option R :=
let l1032 : (List Int) := x.1.1
let i1033 : Int := (((List.length l1032) : Nat) : Int)
let i1034 : Int := mulA .i64 8 i1033
bif decide (0 ≤ i1034) then (
bif decide (((1 : Nat) : Int) * i1034 ≤ 281474976710656) then (
bif decide (i1034 ≤ 9223372036854775807) then (
let l1035 : (List Int) := List.replicate 0 (Sch.zero (.int .u8))
let i1036 : Int := (((List.length l1032) : Nat) : Int)
m_56_3 (((), l1032, i1036, 0, ()), (l1035, ())) (fun y1060 =>
let l1061 : (List Int) := y1060.2.1
κ0 ((), (l1061, ())))) else none) else none) else none
def C_56_6 {R : Type} (m_56_6 : Tl_56_6 R) (m_56_3 : Tl_56_3 R) (rec : ((Unit × Int × (List Int) × Int × Int × Int × Unit) × ((List Int) × Unit)) → Option R) (x : ((Unit × Int × (List Int) × Int × Int × Int × Unit) × ((List Int) × Unit))) (κ0 : ((Unit × (List Int) × Int × Int × Unit) × ((List Int) × Unit)) → Option R) : Option R :=
let i1042 : Int := x.1.2.1
let l1043 : (List Int) := x.1.2.2.1
let i1044 : Int := x.1.2.2.2.1
let i1045 : Int := x.1.2.2.2.2.1
let i1046 : Int := x.1.2.2.2.2.2.1
let l1047 : (List Int) := x.2.1
bif (decide (i1046 < 8)) then (
let i1048 : Int := mulA .i64 8 i1046
bif decide (i1048 < 0) then none else (
let i1049 : Int := shrA .u64 i1042 i1048
let i1050 : Int := IntKind.wrap .u8 i1049
let l1051 : (List Int) := [i1050]
bif (decide ((List.length l1047 + List.length l1051) * 1 ≤ 140737488355328) && true) then (
let l1052 : (List Int) := (l1047 ++ l1051)
let i1053 : Int := addA .i64 i1046 1
rec (((), i1042, l1043, i1044, i1045, i1053, ()), (l1052, ()))) else none)) else (
κ0 (((), l1043, i1044, i1045, ()), (l1047, ())))
def C_56_3 {R : Type} (m_56_6 : Tl_56_6 R) (m_56_3 : Tl_56_3 R) (rec : ((Unit × (List Int) × Int × Int × Unit) × ((List Int) × Unit)) → Option R) (x : ((Unit × (List Int) × Int × Int × Unit) × ((List Int) × Unit))) (κ0 : ((Unit × Unit) × ((List Int) × Unit)) → Option R) : Option R :=
let l1037 : (List Int) := x.1.2.1
let i1038 : Int := x.1.2.2.1
let i1039 : Int := x.1.2.2.2.1
let l1040 : (List Int) := x.2.1
bif (decide (i1039 < i1038)) then (
bif decide (0 ≤ i1039) then (
bif decide (i1039 < ((List.length l1037) : Int)) then (
let p1041 : Int := (List.getD l1037 ((Int.toNat i1039)) (Sch.zero (.int .u64)))
m_56_6 (((), p1041, l1037, i1038, i1039, 0, ()), (l1040, ())) (fun y1054 =>
let l1055 : (List Int) := y1054.1.2.1
let i1056 : Int := y1054.1.2.2.1
let i1057 : Int := y1054.1.2.2.2.1
let l1058 : (List Int) := y1054.2.1
let i1059 : Int := addA .i64 i1057 1
rec (((), l1055, i1056, i1059, ()), (l1058, ())))) else none) else none) else (
κ0 (((), ()), (l1040, ())))
def EG_56 {R : Type} : Env R := Env.base QQ LN
def LG_56 {R : Type} (m_56_6 : Tl_56_6 R) (m_56_3 : Tl_56_3 R) : Loops R := ((Loops.none).add 6 (loopBy 0 lv_56_6 pt_56_6 (fun x k => m_56_6 x (fun y => k (.exit 2) (px_56_6_0.inst y))))).add 3 (loopBy 0 lv_56_3 pt_56_3 (fun x k => m_56_3 x (fun y => k (.exit 0) (px_56_3_0.inst y))))
def E_56 {R : Type} (N : Nat) : Env R := EG_56
theorem eok_56 {R : Type} (N : Nat) : EK Try.prog (E_56 (R := R) N) := ek_base _ _
def L_56 {R : Type} (N : Nat) : Loops R := LG_56 (l_56_6 N N) (l_56_3 N N)
theorem gstep_56_6 {R : Type} (m_56_6 : Tl_56_6 R) (m_56_3 : Tl_56_3 R) (n : Nat) (x : pt_56_6.den) (k : Exit → St → Option R) : iter 0 lv_56_6 lo_56_6 (aexec TT (EG_56) (drawAny TT WW) (LG_56 m_56_6 m_56_3) (loopAt 6 (bodyOf Try.f56))) (n + 1) (pt_56_6.inst x) k = C_56_6 m_56_6 m_56_3 (fun y => iter 0 lv_56_6 lo_56_6 (aexec TT (EG_56) (drawAny TT WW) (LG_56 m_56_6 m_56_3) (loopAt 6 (bodyOf Try.f56))) n (pt_56_6.inst y) k) x (fun y => k (.exit 2) (px_56_6_0.inst y)) := by kernel_rfl
theorem step_56_6 {R : Type} (N n : Nat) (x : pt_56_6.den) (k : Exit → St → Option R) : iter 0 lv_56_6 lo_56_6 (aexec TT (E_56 (R := R) N) (drawAny TT WW) (L_56 N) (loopAt 6 (bodyOf Try.f56))) (n + 1) (pt_56_6.inst x) k = B_56_6 N (fun y => iter 0 lv_56_6 lo_56_6 (aexec TT (E_56 (R := R) N) (drawAny TT WW) (L_56 N) (loopAt 6 (bodyOf Try.f56))) n (pt_56_6.inst y) k) x (fun y => k (.exit 2) (px_56_6_0.inst y)) := (gstep_56_6 (l_56_6 N N) (l_56_3 N N) n x k).trans (by kernel_rfl)
theorem eq_56_6 {R : Type} (N : Nat) : ∀ (n : Nat) (x : pt_56_6.den) (k : Exit → St → Option R), iter 0 lv_56_6 lo_56_6 (aexec TT (E_56 (R := R) N) (drawAny TT WW) (L_56 N) (loopAt 6 (bodyOf Try.f56))) n (pt_56_6.inst x) k = l_56_6 N n x (fun y => k (.exit 2) (px_56_6_0.inst y)) :=
  iter_eq (K := Exit → St → Option R) (ks := fun k => k) (l := fun n (x : pt_56_6.den) k => l_56_6 N n x (fun y => k (.exit 2) (px_56_6_0.inst y))) (B := fun (rec : pt_56_6.den → Option R) (x : pt_56_6.den) k => B_56_6 N rec x (fun y => k (.exit 2) (px_56_6_0.inst y))) (fun _ _ => rfl) (fun _ _ _ => rfl) (fun n x k => step_56_6 N n x k)
theorem rounds_56_6 {R : Type} (N : Nat) : Rounds 0 TT (E_56 (R := R) N) (drawAny TT WW) (L_56 N) 6 (loopAt 6 (bodyOf Try.f56)) :=
  rounds_of (p := pt_56_6) (l := fun (x : pt_56_6.den) k => l_56_6 N N x (fun y => k (.exit 2) (px_56_6_0.inst y))) (fun s k => rfl) (fun x k => eq_56_6 N N x k)
theorem gstep_56_3 {R : Type} (m_56_6 : Tl_56_6 R) (m_56_3 : Tl_56_3 R) (n : Nat) (x : pt_56_3.den) (k : Exit → St → Option R) : iter 0 lv_56_3 lo_56_3 (aexec TT (EG_56) (drawAny TT WW) (LG_56 m_56_6 m_56_3) (loopAt 3 (bodyOf Try.f56))) (n + 1) (pt_56_3.inst x) k = C_56_3 m_56_6 m_56_3 (fun y => iter 0 lv_56_3 lo_56_3 (aexec TT (EG_56) (drawAny TT WW) (LG_56 m_56_6 m_56_3) (loopAt 3 (bodyOf Try.f56))) n (pt_56_3.inst y) k) x (fun y => k (.exit 0) (px_56_3_0.inst y)) := by kernel_rfl
theorem step_56_3 {R : Type} (N n : Nat) (x : pt_56_3.den) (k : Exit → St → Option R) : iter 0 lv_56_3 lo_56_3 (aexec TT (E_56 (R := R) N) (drawAny TT WW) (L_56 N) (loopAt 3 (bodyOf Try.f56))) (n + 1) (pt_56_3.inst x) k = B_56_3 N (fun y => iter 0 lv_56_3 lo_56_3 (aexec TT (E_56 (R := R) N) (drawAny TT WW) (L_56 N) (loopAt 3 (bodyOf Try.f56))) n (pt_56_3.inst y) k) x (fun y => k (.exit 0) (px_56_3_0.inst y)) := (gstep_56_3 (l_56_6 N N) (l_56_3 N N) n x k).trans (by kernel_rfl)
theorem eq_56_3 {R : Type} (N : Nat) : ∀ (n : Nat) (x : pt_56_3.den) (k : Exit → St → Option R), iter 0 lv_56_3 lo_56_3 (aexec TT (E_56 (R := R) N) (drawAny TT WW) (L_56 N) (loopAt 3 (bodyOf Try.f56))) n (pt_56_3.inst x) k = l_56_3 N n x (fun y => k (.exit 0) (px_56_3_0.inst y)) :=
  iter_eq (K := Exit → St → Option R) (ks := fun k => k) (l := fun n (x : pt_56_3.den) k => l_56_3 N n x (fun y => k (.exit 0) (px_56_3_0.inst y))) (B := fun (rec : pt_56_3.den → Option R) (x : pt_56_3.den) k => B_56_3 N rec x (fun y => k (.exit 0) (px_56_3_0.inst y))) (fun _ _ => rfl) (fun _ _ _ => rfl) (fun n x k => step_56_3 N n x k)
theorem rounds_56_3 {R : Type} (N : Nat) : Rounds 0 TT (E_56 (R := R) N) (drawAny TT WW) (L_56 N) 3 (loopAt 3 (bodyOf Try.f56)) :=
  rounds_of (p := pt_56_3) (l := fun (x : pt_56_3.den) k => l_56_3 N N x (fun y => k (.exit 0) (px_56_3_0.inst y))) (fun s k => rfl) (fun x k => eq_56_3 N N x k)
theorem loops_56 : loopsIn (bodyOf Try.f56) = [(3, loopAt 3 (bodyOf Try.f56)), (6, loopAt 6 (bodyOf Try.f56))] := by kernel_rfl
theorem lok_56 {R : Type} (N : Nat) : LOK 0 TT (E_56 (R := R) N) (drawAny TT WW) (L_56 N) (bodyOf Try.f56) := loops_all loops_56 (by
  simp only [List.forall_mem_cons, List.not_mem_nil, false_implies, implies_true, and_true]
  exact ⟨rounds_56_3 N, rounds_56_6 N⟩)
theorem grun_56 {R : Type} (m_56_6 : Tl_56_6 R) (m_56_3 : Tl_56_3 R) (x : aden ap_56 × hden hp_56) (k : KF R) : fnrun TT (EG_56) (drawAny TT WW) (LG_56 m_56_6 m_56_3) false Try.f56 (instA ap_56 x.1) (instH hp_56 x.2) k = Q_56 m_56_6 m_56_3 x (fun y => k (Pat.inst (.sl 0) y.1) (instH [some (.lst (.int .u8), 5)] y.2)) := by kernel_rfl
theorem run_56 {R : Type} (N : Nat) (x : aden ap_56 × hden hp_56) (k : KF R) : fnrun TT (E_56 (R := R) N) (drawAny TT WW) (L_56 N) false Try.f56 (instA ap_56 x.1) (instH hp_56 x.2) k = p_56 N x (fun y => k (Pat.inst (.sl 0) y.1) (instH [some (.lst (.int .u8), 5)] y.2)) := (grun_56 (l_56_6 N N) (l_56_3 N N) x k).trans (by kernel_rfl)
theorem good_56 {R : Type} (N : Nat) : GD (X := R) Try.prog QQ 56 ap_56 hp_56 (fun (x : aden ap_56 × hden hp_56) k => p_56 N x (fun y => k (Pat.inst (.sl 0) y.1) (instH [some (.lst (.int .u8), 5)] y.2))) :=
  gd_loud (E := E_56 N) (p := fun (x : aden ap_56 × hden hp_56) k => p_56 N x (fun y => k (Pat.inst (.sl 0) y.1) (instH [some (.lst (.int .u8), 5)] y.2))) mixed tyok (eok_56 N) Try.func56 (by kernel_rfl) (by kernel_rfl) (by kernel_rfl) (lok_56 N) (fun x k => run_56 N x k)

def ap_25_v1 : List Pat := [.ptr 0 []]
def hp_25_v1 : List (Option (Pat × Nat)) := [some (.node (.fcons (.nilp) (.fcons (.vec (.int .u64) 8) (.fcons (.int .i64) (.fcons (.int .u64) (.fnil))))), 115)]
def p_25_v1 {R : Type} (N : Nat) (x : (Unit × Unit) × ((Unit × ((Nat → Int) × (Int × (Int × Unit)))) × Unit)) (κ0 : (ByteArray × ((Unit × ((Nat → Int) × (Int × (Int × Unit)))) × Unit)) → Option R) : Option R :=
let a1021 : (Nat → Int) := x.2.1.2.1
let i1022 : Int := x.2.1.2.2.1
let i1023 : Int := x.2.1.2.2.2.1
p_55 N (((), ()), ()) (fun y1024 =>
let i1025 : Int := IntKind.wrap .u64 0
let i1026 : Int := addA .u64 i1023 i1025
let i1027 : Int := subA .i64 128 0
bif decide (0 ≤ i1027) then (
bif decide (i1027 ≤ 140737488355328) then (
bif decide (List.length (List.replicate ((Int.toNat i1027)) (Sch.zero (.int .u8))) * 1 ≤ 140737488355328) then (
let l1028 : (List Int) := List.replicate ((Int.toNat i1027)) (Sch.zero (.int .u8))
p_12 N ((a1021, l1028, i1026, true, ()), ()) (fun y1029 =>
let a1030 : (Nat → Int) := y1029.1
let i1031 : Int := y1029.2.1
p_56 N ((((List.range 8).map fun j => a1030 (0 + j)), ()), ()) (fun y1062 =>
let l1063 : (List Int) := y1062.2.1
bif decide (0 ≤ i1022) then (
bif decide (i1022 ≤ (((List.length l1063) : Nat) : Int)) then (
bif decide (0 ≤ i1022) then (
let l1064 : (List Int) := List.take ((Int.toNat i1022) - 0) (List.drop 0 l1063)
let s1065 : ByteArray := listStr l1064
κ0 (s1065, (((), (a1021, (i1022, (i1023, ())))), ()))) else none) else none) else none))) else none) else none) else none)

abbrev Tp_25_v1 (R : Type) : Type := (Unit × Unit) × ((Unit × ((Nat → Int) × (Int × (Int × Unit)))) × Unit) → ((ByteArray × ((Unit × ((Nat → Int) × (Int × (Int × Unit)))) × Unit)) → Option R) → Option R
def Q_25_v1 {R : Type} (q_55 : Tp_55 R) (q_12 : Tp_12 R) (q_56 : Tp_56 R) (x : (Unit × Unit) × ((Unit × ((Nat → Int) × (Int × (Int × Unit)))) × Unit)) (κ0 : (ByteArray × ((Unit × ((Nat → Int) × (Int × (Int × Unit)))) × Unit)) → Option R) : Option R :=
let a1021 : (Nat → Int) := x.2.1.2.1
let i1022 : Int := x.2.1.2.2.1
let i1023 : Int := x.2.1.2.2.2.1
q_55 (((), ()), ()) (fun y1024 =>
let i1025 : Int := IntKind.wrap .u64 0
let i1026 : Int := addA .u64 i1023 i1025
let i1027 : Int := subA .i64 128 0
bif decide (0 ≤ i1027) then (
bif decide (i1027 ≤ 140737488355328) then (
bif decide (List.length (List.replicate ((Int.toNat i1027)) (Sch.zero (.int .u8))) * 1 ≤ 140737488355328) then (
let l1028 : (List Int) := List.replicate ((Int.toNat i1027)) (Sch.zero (.int .u8))
q_12 ((a1021, l1028, i1026, true, ()), ()) (fun y1029 =>
let a1030 : (Nat → Int) := y1029.1
let i1031 : Int := y1029.2.1
q_56 ((((List.range 8).map fun j => a1030 (0 + j)), ()), ()) (fun y1062 =>
let l1063 : (List Int) := y1062.2.1
bif decide (0 ≤ i1022) then (
bif decide (i1022 ≤ (((List.length l1063) : Nat) : Int)) then (
bif decide (0 ≤ i1022) then (
let l1064 : (List Int) := List.take ((Int.toNat i1022) - 0) (List.drop 0 l1063)
let s1065 : ByteArray := listStr l1064
κ0 (s1065, (((), (a1021, (i1022, (i1023, ())))), ()))) else none) else none) else none))) else none) else none) else none)
def EG_25_v1 {R : Type} (q_55 : Tp_55 R) (q_12 : Tp_12 R) (q_56 : Tp_56 R) : Env R := (((Env.base QQ LN).add 55 ap_55 hp_55 (fun (x : aden ap_55 × hden hp_55) k => q_55 x (fun y => k (Pat.inst (.nils) y.1) (instH [] y.2)))).add 12 ap_12 hp_12 (fun (x : aden ap_12 × hden hp_12) k => q_12 x (fun y => k (Pat.inst (.tup (.fcons (.vec (.int .u64) 8) (.fcons (.int .i64) (.fnil)))) y) (instH hp_12 x.2)))).add 56 ap_56 hp_56 (fun (x : aden ap_56 × hden hp_56) k => q_56 x (fun y => k (Pat.inst (.sl 0) y.1) (instH [some (.lst (.int .u8), 5)] y.2)))
def LG_25_v1 {R : Type} : Loops R := Loops.none
def E_25_v1 {R : Type} (N : Nat) : Env R := EG_25_v1 (p_55 N) (p_12 N) (p_56 N)
theorem eok_25_v1 {R : Type} (N : Nat) : EK Try.prog (E_25_v1 (R := R) N) := ek_add (ek_add (ek_add (ek_base _ _) (good_55 N)) (good_12 N)) (good_56 N)
def L_25_v1 {R : Type} (N : Nat) : Loops R := LG_25_v1
theorem lok_25_v1 {R : Type} (N : Nat) : LOK 1 TT (E_25_v1 (R := R) N) (drawAny TT WW) (L_25_v1 N) (bodyOf Try.f25) := loops_nil (by kernel_rfl)
theorem grun_25_v1 {R : Type} (q_55 : Tp_55 R) (q_12 : Tp_12 R) (q_56 : Tp_56 R) (x : aden ap_25_v1 × hden hp_25_v1) (k : KF R) : fnrun TT (EG_25_v1 q_55 q_12 q_56) (drawAny TT WW) (LG_25_v1) true Try.f25 (instA ap_25_v1 x.1) (instH hp_25_v1 x.2) k = Q_25_v1 q_55 q_12 q_56 x (fun y => k (Pat.inst (.str) y.1) (instH [some (.node (.fcons (.nilp) (.fcons (.vec (.int .u64) 8) (.fcons (.int .i64) (.fcons (.int .u64) (.fnil))))), 115)] y.2)) := by kernel_rfl
theorem run_25_v1 {R : Type} (N : Nat) (x : aden ap_25_v1 × hden hp_25_v1) (k : KF R) : fnrun TT (E_25_v1 (R := R) N) (drawAny TT WW) (L_25_v1 N) true Try.f25 (instA ap_25_v1 x.1) (instH hp_25_v1 x.2) k = p_25_v1 N x (fun y => k (Pat.inst (.str) y.1) (instH [some (.node (.fcons (.nilp) (.fcons (.vec (.int .u64) 8) (.fcons (.int .i64) (.fcons (.int .u64) (.fnil))))), 115)] y.2)) := (grun_25_v1 (p_55 N) (p_12 N) (p_56 N) x k).trans (by kernel_rfl)
theorem good_25_v1 {R : Type} (N : Nat) : GD (X := R) Try.prog QQ 25 ap_25_v1 hp_25_v1 (fun (x : aden ap_25_v1 × hden hp_25_v1) k => p_25_v1 N x (fun y => k (Pat.inst (.str) y.1) (instH [some (.node (.fcons (.nilp) (.fcons (.vec (.int .u64) 8) (.fcons (.int .i64) (.fcons (.int .u64) (.fnil))))), 115)] y.2))) :=
  gd_loud (E := E_25_v1 N) (p := fun (x : aden ap_25_v1 × hden hp_25_v1) k => p_25_v1 N x (fun y => k (Pat.inst (.str) y.1) (instH [some (.node (.fcons (.nilp) (.fcons (.vec (.int .u64) 8) (.fcons (.int .i64) (.fcons (.int .u64) (.fnil))))), 115)] y.2))) mixed tyok (eok_25_v1 N) Try.func25 (by kernel_rfl) (by kernel_rfl) (by kernel_rfl) (lok_25_v1 N) (fun x k => run_25_v1 N x k)

def ap_55_v1 : List Pat := [.ptr 0 []]
def hp_55_v1 : List (Option (Pat × Nat)) := [some (.node (.fcons (.int .i64) (.fcons (.bool) (.fcons (.sl 1) (.fcons (.int .i64) (.fnil))))), 151), some (.lst (.int .u8), 5)]
def p_55_v1 {R : Type} (N : Nat) (x : (Unit × Unit) × ((Int × (Bool × (Unit × (Int × Unit)))) × (List Int) × Unit)) (κ0 : (Unit × ((Int × (Bool × (Unit × (Int × Unit)))) × (List Int) × (List Int) × Unit)) → Option R) : Option R :=
let i1096 : Int := x.2.1.1
let b1097 : Bool := x.2.1.2.1
let i1098 : Int := x.2.1.2.2.2.1
let l1099 : (List Int) := x.2.2.1
bif decide (List.length l1099 * 1 ≤ 140737488355328) then (
κ0 ((), ((i1096, (b1097, ((), (i1098, ())))), l1099, l1099, ()))) else none

abbrev Tp_55_v1 (R : Type) : Type := (Unit × Unit) × ((Int × (Bool × (Unit × (Int × Unit)))) × (List Int) × Unit) → ((Unit × ((Int × (Bool × (Unit × (Int × Unit)))) × (List Int) × (List Int) × Unit)) → Option R) → Option R
def Q_55_v1 {R : Type} (x : (Unit × Unit) × ((Int × (Bool × (Unit × (Int × Unit)))) × (List Int) × Unit)) (κ0 : (Unit × ((Int × (Bool × (Unit × (Int × Unit)))) × (List Int) × (List Int) × Unit)) → Option R) : Option R :=
let i1096 : Int := x.2.1.1
let b1097 : Bool := x.2.1.2.1
let i1098 : Int := x.2.1.2.2.2.1
let l1099 : (List Int) := x.2.2.1
bif decide (List.length l1099 * 1 ≤ 140737488355328) then (
κ0 ((), ((i1096, (b1097, ((), (i1098, ())))), l1099, l1099, ()))) else none
def EG_55_v1 {R : Type} : Env R := Env.base QQ LN
def LG_55_v1 {R : Type} : Loops R := Loops.none
def E_55_v1 {R : Type} (N : Nat) : Env R := EG_55_v1
theorem eok_55_v1 {R : Type} (N : Nat) : EK Try.prog (E_55_v1 (R := R) N) := ek_base _ _
def L_55_v1 {R : Type} (N : Nat) : Loops R := LG_55_v1
theorem lok_55_v1 {R : Type} (N : Nat) : LOK 2 TT (E_55_v1 (R := R) N) (drawAny TT WW) (L_55_v1 N) (bodyOf Try.f55) := loops_nil (by kernel_rfl)
theorem grun_55_v1 {R : Type} (x : aden ap_55_v1 × hden hp_55_v1) (k : KF R) : fnrun TT (EG_55_v1) (drawAny TT WW) (LG_55_v1) false Try.f55 (instA ap_55_v1 x.1) (instH hp_55_v1 x.2) k = Q_55_v1 x (fun y => k (Pat.inst (.sl 2) y.1) (instH [some (.node (.fcons (.int .i64) (.fcons (.bool) (.fcons (.sl 1) (.fcons (.int .i64) (.fnil))))), 151), some (.lst (.int .u8), 5), some (.lst (.int .u8), 5)] y.2)) := by kernel_rfl
theorem run_55_v1 {R : Type} (N : Nat) (x : aden ap_55_v1 × hden hp_55_v1) (k : KF R) : fnrun TT (E_55_v1 (R := R) N) (drawAny TT WW) (L_55_v1 N) false Try.f55 (instA ap_55_v1 x.1) (instH hp_55_v1 x.2) k = p_55_v1 N x (fun y => k (Pat.inst (.sl 2) y.1) (instH [some (.node (.fcons (.int .i64) (.fcons (.bool) (.fcons (.sl 1) (.fcons (.int .i64) (.fnil))))), 151), some (.lst (.int .u8), 5), some (.lst (.int .u8), 5)] y.2)) := (grun_55_v1 x k).trans (by kernel_rfl)
theorem good_55_v1 {R : Type} (N : Nat) : GD (X := R) Try.prog QQ 55 ap_55_v1 hp_55_v1 (fun (x : aden ap_55_v1 × hden hp_55_v1) k => p_55_v1 N x (fun y => k (Pat.inst (.sl 2) y.1) (instH [some (.node (.fcons (.int .i64) (.fcons (.bool) (.fcons (.sl 1) (.fcons (.int .i64) (.fnil))))), 151), some (.lst (.int .u8), 5), some (.lst (.int .u8), 5)] y.2))) :=
  gd_loud (E := E_55_v1 N) (p := fun (x : aden ap_55_v1 × hden hp_55_v1) k => p_55_v1 N x (fun y => k (Pat.inst (.sl 2) y.1) (instH [some (.node (.fcons (.int .i64) (.fcons (.bool) (.fcons (.sl 1) (.fcons (.int .i64) (.fnil))))), 151), some (.lst (.int .u8), 5), some (.lst (.int .u8), 5)] y.2))) mixed tyok (eok_55_v1 N) Try.func55 (by kernel_rfl) (by kernel_rfl) (by kernel_rfl) (lok_55_v1 N) (fun x k => run_55_v1 N x k)

def ap_25_v2 : List Pat := [.ptr 0 []]
def hp_25_v2 : List (Option (Pat × Nat)) := [some (.node (.fcons (.ptr 1 []) (.fcons (.vec (.int .u64) 8) (.fcons (.int .i64) (.fcons (.int .u64) (.fnil))))), 115), some (.node (.fcons (.int .i64) (.fcons (.bool) (.fcons (.sl 2) (.fcons (.int .i64) (.fnil))))), 151), some (.lst (.int .u8), 5)]
def p_25_v2 {R : Type} (N : Nat) (x : (Unit × Unit) × ((Unit × ((Nat → Int) × (Int × (Int × Unit)))) × (Int × (Bool × (Unit × (Int × Unit)))) × (List Int) × Unit)) (κ0 : (ByteArray × ((Unit × ((Nat → Int) × (Int × (Int × Unit)))) × (Int × (Bool × (Unit × (Int × Unit)))) × (List Int) × Unit)) → Option R) : Option R :=
let a1089 : (Nat → Int) := x.2.1.2.1
let i1090 : Int := x.2.1.2.2.1
let i1091 : Int := x.2.1.2.2.2.1
let i1092 : Int := x.2.2.1.1
let b1093 : Bool := x.2.2.1.2.1
let i1094 : Int := x.2.2.1.2.2.2.1
let l1095 : (List Int) := x.2.2.2.1
p_55_v1 N (((), ()), ((i1092, (b1093, ((), (i1094, ())))), l1095, ())) (fun y1100 =>
let i1101 : Int := y1100.2.1.1
let b1102 : Bool := y1100.2.1.2.1
let i1103 : Int := y1100.2.1.2.2.2.1
let l1104 : (List Int) := y1100.2.2.1
let l1105 : (List Int) := y1100.2.2.2.1
let i1106 : Int := (((List.length l1105) : Nat) : Int)
let i1107 : Int := IntKind.wrap .u64 i1106
let i1108 : Int := addA .u64 i1091 i1107
let i1109 : Int := (((List.length l1105) : Nat) : Int)
let i1110 : Int := subA .i64 128 i1109
bif decide (0 ≤ i1110) then (
bif decide (i1110 ≤ 140737488355328) then (
bif (decide ((List.length l1105 + List.length (List.replicate ((Int.toNat i1110)) (Sch.zero (.int .u8)))) * 1 ≤ 140737488355328) && true) then (
let l1111 : (List Int) := (l1105 ++ List.replicate ((Int.toNat i1110)) (Sch.zero (.int .u8)))
p_12 N ((a1089, l1111, i1108, true, ()), ()) (fun y1112 =>
let a1113 : (Nat → Int) := y1112.1
let i1114 : Int := y1112.2.1
p_56 N ((((List.range 8).map fun j => a1113 (0 + j)), ()), ()) (fun y1115 =>
let l1116 : (List Int) := y1115.2.1
bif decide (0 ≤ i1090) then (
bif decide (i1090 ≤ (((List.length l1116) : Nat) : Int)) then (
bif decide (0 ≤ i1090) then (
let l1117 : (List Int) := List.take ((Int.toNat i1090) - 0) (List.drop 0 l1116)
let s1118 : ByteArray := listStr l1117
κ0 (s1118, (((), (a1089, (i1090, (i1091, ())))), (i1101, (b1102, ((), (i1103, ())))), l1104, ()))) else none) else none) else none))) else none) else none) else none)

abbrev Tp_25_v2 (R : Type) : Type := (Unit × Unit) × ((Unit × ((Nat → Int) × (Int × (Int × Unit)))) × (Int × (Bool × (Unit × (Int × Unit)))) × (List Int) × Unit) → ((ByteArray × ((Unit × ((Nat → Int) × (Int × (Int × Unit)))) × (Int × (Bool × (Unit × (Int × Unit)))) × (List Int) × Unit)) → Option R) → Option R
def Q_25_v2 {R : Type} (q_55_v1 : Tp_55_v1 R) (q_12 : Tp_12 R) (q_56 : Tp_56 R) (x : (Unit × Unit) × ((Unit × ((Nat → Int) × (Int × (Int × Unit)))) × (Int × (Bool × (Unit × (Int × Unit)))) × (List Int) × Unit)) (κ0 : (ByteArray × ((Unit × ((Nat → Int) × (Int × (Int × Unit)))) × (Int × (Bool × (Unit × (Int × Unit)))) × (List Int) × Unit)) → Option R) : Option R :=
let a1089 : (Nat → Int) := x.2.1.2.1
let i1090 : Int := x.2.1.2.2.1
let i1091 : Int := x.2.1.2.2.2.1
let i1092 : Int := x.2.2.1.1
let b1093 : Bool := x.2.2.1.2.1
let i1094 : Int := x.2.2.1.2.2.2.1
let l1095 : (List Int) := x.2.2.2.1
q_55_v1 (((), ()), ((i1092, (b1093, ((), (i1094, ())))), l1095, ())) (fun y1100 =>
let i1101 : Int := y1100.2.1.1
let b1102 : Bool := y1100.2.1.2.1
let i1103 : Int := y1100.2.1.2.2.2.1
let l1104 : (List Int) := y1100.2.2.1
let l1105 : (List Int) := y1100.2.2.2.1
let i1106 : Int := (((List.length l1105) : Nat) : Int)
let i1107 : Int := IntKind.wrap .u64 i1106
let i1108 : Int := addA .u64 i1091 i1107
let i1109 : Int := (((List.length l1105) : Nat) : Int)
let i1110 : Int := subA .i64 128 i1109
bif decide (0 ≤ i1110) then (
bif decide (i1110 ≤ 140737488355328) then (
bif (decide ((List.length l1105 + List.length (List.replicate ((Int.toNat i1110)) (Sch.zero (.int .u8)))) * 1 ≤ 140737488355328) && true) then (
let l1111 : (List Int) := (l1105 ++ List.replicate ((Int.toNat i1110)) (Sch.zero (.int .u8)))
q_12 ((a1089, l1111, i1108, true, ()), ()) (fun y1112 =>
let a1113 : (Nat → Int) := y1112.1
let i1114 : Int := y1112.2.1
q_56 ((((List.range 8).map fun j => a1113 (0 + j)), ()), ()) (fun y1115 =>
let l1116 : (List Int) := y1115.2.1
bif decide (0 ≤ i1090) then (
bif decide (i1090 ≤ (((List.length l1116) : Nat) : Int)) then (
bif decide (0 ≤ i1090) then (
let l1117 : (List Int) := List.take ((Int.toNat i1090) - 0) (List.drop 0 l1116)
let s1118 : ByteArray := listStr l1117
κ0 (s1118, (((), (a1089, (i1090, (i1091, ())))), (i1101, (b1102, ((), (i1103, ())))), l1104, ()))) else none) else none) else none))) else none) else none) else none)
def EG_25_v2 {R : Type} (q_55_v1 : Tp_55_v1 R) (q_12 : Tp_12 R) (q_56 : Tp_56 R) : Env R := (((Env.base QQ LN).add 55 ap_55_v1 hp_55_v1 (fun (x : aden ap_55_v1 × hden hp_55_v1) k => q_55_v1 x (fun y => k (Pat.inst (.sl 2) y.1) (instH [some (.node (.fcons (.int .i64) (.fcons (.bool) (.fcons (.sl 1) (.fcons (.int .i64) (.fnil))))), 151), some (.lst (.int .u8), 5), some (.lst (.int .u8), 5)] y.2)))).add 12 ap_12 hp_12 (fun (x : aden ap_12 × hden hp_12) k => q_12 x (fun y => k (Pat.inst (.tup (.fcons (.vec (.int .u64) 8) (.fcons (.int .i64) (.fnil)))) y) (instH hp_12 x.2)))).add 56 ap_56 hp_56 (fun (x : aden ap_56 × hden hp_56) k => q_56 x (fun y => k (Pat.inst (.sl 0) y.1) (instH [some (.lst (.int .u8), 5)] y.2)))
def LG_25_v2 {R : Type} : Loops R := Loops.none
def E_25_v2 {R : Type} (N : Nat) : Env R := EG_25_v2 (p_55_v1 N) (p_12 N) (p_56 N)
theorem eok_25_v2 {R : Type} (N : Nat) : EK Try.prog (E_25_v2 (R := R) N) := ek_add (ek_add (ek_add (ek_base _ _) (good_55_v1 N)) (good_12 N)) (good_56 N)
def L_25_v2 {R : Type} (N : Nat) : Loops R := LG_25_v2
theorem lok_25_v2 {R : Type} (N : Nat) : LOK 3 TT (E_25_v2 (R := R) N) (drawAny TT WW) (L_25_v2 N) (bodyOf Try.f25) := loops_nil (by kernel_rfl)
theorem grun_25_v2 {R : Type} (q_55_v1 : Tp_55_v1 R) (q_12 : Tp_12 R) (q_56 : Tp_56 R) (x : aden ap_25_v2 × hden hp_25_v2) (k : KF R) : fnrun TT (EG_25_v2 q_55_v1 q_12 q_56) (drawAny TT WW) (LG_25_v2) true Try.f25 (instA ap_25_v2 x.1) (instH hp_25_v2 x.2) k = Q_25_v2 q_55_v1 q_12 q_56 x (fun y => k (Pat.inst (.str) y.1) (instH [some (.node (.fcons (.ptr 1 []) (.fcons (.vec (.int .u64) 8) (.fcons (.int .i64) (.fcons (.int .u64) (.fnil))))), 115), some (.node (.fcons (.int .i64) (.fcons (.bool) (.fcons (.sl 2) (.fcons (.int .i64) (.fnil))))), 151), some (.lst (.int .u8), 5)] y.2)) := by kernel_rfl
theorem run_25_v2 {R : Type} (N : Nat) (x : aden ap_25_v2 × hden hp_25_v2) (k : KF R) : fnrun TT (E_25_v2 (R := R) N) (drawAny TT WW) (L_25_v2 N) true Try.f25 (instA ap_25_v2 x.1) (instH hp_25_v2 x.2) k = p_25_v2 N x (fun y => k (Pat.inst (.str) y.1) (instH [some (.node (.fcons (.ptr 1 []) (.fcons (.vec (.int .u64) 8) (.fcons (.int .i64) (.fcons (.int .u64) (.fnil))))), 115), some (.node (.fcons (.int .i64) (.fcons (.bool) (.fcons (.sl 2) (.fcons (.int .i64) (.fnil))))), 151), some (.lst (.int .u8), 5)] y.2)) := (grun_25_v2 (p_55_v1 N) (p_12 N) (p_56 N) x k).trans (by kernel_rfl)
theorem good_25_v2 {R : Type} (N : Nat) : GD (X := R) Try.prog QQ 25 ap_25_v2 hp_25_v2 (fun (x : aden ap_25_v2 × hden hp_25_v2) k => p_25_v2 N x (fun y => k (Pat.inst (.str) y.1) (instH [some (.node (.fcons (.ptr 1 []) (.fcons (.vec (.int .u64) 8) (.fcons (.int .i64) (.fcons (.int .u64) (.fnil))))), 115), some (.node (.fcons (.int .i64) (.fcons (.bool) (.fcons (.sl 2) (.fcons (.int .i64) (.fnil))))), 151), some (.lst (.int .u8), 5)] y.2))) :=
  gd_loud (E := E_25_v2 N) (p := fun (x : aden ap_25_v2 × hden hp_25_v2) k => p_25_v2 N x (fun y => k (Pat.inst (.str) y.1) (instH [some (.node (.fcons (.ptr 1 []) (.fcons (.vec (.int .u64) 8) (.fcons (.int .i64) (.fcons (.int .u64) (.fnil))))), 115), some (.node (.fcons (.int .i64) (.fcons (.bool) (.fcons (.sl 2) (.fcons (.int .i64) (.fnil))))), 151), some (.lst (.int .u8), 5)] y.2))) mixed tyok (eok_25_v2 N) Try.func25 (by kernel_rfl) (by kernel_rfl) (by kernel_rfl) (lok_25_v2 N) (fun x k => run_25_v2 N x k)

def ap_22 : List Pat := [.int .i64, .str, .sl 0]
def hp_22 : List (Option (Pat × Nat)) := [some (.lst (.str), 9)]
def p_22 {R : Type} (N : Nat) (x : (Int × ByteArray × Unit × Unit) × ((List ByteArray) × Unit)) (κ0 : ((ByteArray × (Int × Unit)) × ((List ByteArray) × Unit)) → Option R) : Option R :=
let i5 : Int := x.1.1
let s6 : ByteArray := x.1.2.1
let l7 : (List ByteArray) := x.2.1
p_27 N ((i5, s6, ()), ()) (fun y1004 =>
let i1005 : Int := y1004.1.2.1
bif (i1005 != 0) then (
κ0 ((⟨#[]⟩, (i1005, ())), (l7, ()))) else (
p_26_v2 N (((), (), ()), (l7, ())) (fun y1007 =>
let l1008 : (List ByteArray) := y1007.2.1
p_25 N (((), ()), ()) (fun y1009 =>
let s1010 : ByteArray := y1009.1
κ0 ((s1010, (0, ())), (l1008, ())))))) (fun y1011 =>
let i1012 : Int := y1011.1.2.1
let a1013 : (Nat → Int) := y1011.2.1.2.1
let i1014 : Int := y1011.2.1.2.2.1
let i1015 : Int := y1011.2.1.2.2.2.1
bif (i1012 != 0) then (
κ0 ((⟨#[]⟩, (i1012, ())), (l7, ()))) else (
p_26 N (((), (), ()), (((), (a1013, (i1014, (i1015, ())))), l7, ())) (fun y1016 =>
let a1017 : (Nat → Int) := y1016.2.1.2.1
let i1018 : Int := y1016.2.1.2.2.1
let i1019 : Int := y1016.2.1.2.2.2.1
let l1020 : (List ByteArray) := y1016.2.2.1
p_25_v1 N (((), ()), (((), (a1017, (i1018, (i1019, ())))), ())) (fun y1066 =>
let s1067 : ByteArray := y1066.1
let a1068 : (Nat → Int) := y1066.2.1.2.1
let i1069 : Int := y1066.2.1.2.2.1
let i1070 : Int := y1066.2.1.2.2.2.1
κ0 ((s1067, (0, ())), (l1020, ())))))) (fun y1071 =>
let i1072 : Int := y1071.1.2.1
let a1073 : (Nat → Int) := y1071.2.1.2.1
let i1074 : Int := y1071.2.1.2.2.1
let i1075 : Int := y1071.2.1.2.2.2.1
let i1076 : Int := y1071.2.2.1.1
let b1077 : Bool := y1071.2.2.1.2.1
let i1078 : Int := y1071.2.2.1.2.2.2.1
let l1079 : (List Int) := y1071.2.2.2.1
bif (i1072 != 0) then (
κ0 ((⟨#[]⟩, (i1072, ())), (l7, ()))) else (
p_26_v1 N (((), (), ()), (((), (a1073, (i1074, (i1075, ())))), (i1076, (b1077, ((), (i1078, ())))), l1079, l7, ())) (fun y1080 =>
let a1081 : (Nat → Int) := y1080.2.1.2.1
let i1082 : Int := y1080.2.1.2.2.1
let i1083 : Int := y1080.2.1.2.2.2.1
let i1084 : Int := y1080.2.2.1.1
let b1085 : Bool := y1080.2.2.1.2.1
let i1086 : Int := y1080.2.2.1.2.2.2.1
let l1087 : (List ByteArray) := y1080.2.2.2.1
let l1088 : (List Int) := y1080.2.2.2.2.1
p_25_v2 N (((), ()), (((), (a1081, (i1082, (i1083, ())))), (i1084, (b1085, ((), (i1086, ())))), l1088, ())) (fun y1119 =>
let s1120 : ByteArray := y1119.1
let a1121 : (Nat → Int) := y1119.2.1.2.1
let i1122 : Int := y1119.2.1.2.2.1
let i1123 : Int := y1119.2.1.2.2.2.1
let i1124 : Int := y1119.2.2.1.1
let b1125 : Bool := y1119.2.2.1.2.1
let i1126 : Int := y1119.2.2.1.2.2.2.1
let l1127 : (List Int) := y1119.2.2.2.1
κ0 ((s1120, (0, ())), (l1087, ()))))))

abbrev Tp_22 (R : Type) : Type := (Int × ByteArray × Unit × Unit) × ((List ByteArray) × Unit) → (((ByteArray × (Int × Unit)) × ((List ByteArray) × Unit)) → Option R) → Option R
def Q_22 {R : Type} (q_27 : Tp_27 R) (q_26_v2 : Tp_26_v2 R) (q_25 : Tp_25 R) (q_26 : Tp_26 R) (q_25_v1 : Tp_25_v1 R) (q_26_v1 : Tp_26_v1 R) (q_25_v2 : Tp_25_v2 R) (x : (Int × ByteArray × Unit × Unit) × ((List ByteArray) × Unit)) (κ0 : ((ByteArray × (Int × Unit)) × ((List ByteArray) × Unit)) → Option R) : Option R :=
let i5 : Int := x.1.1
let s6 : ByteArray := x.1.2.1
let l7 : (List ByteArray) := x.2.1
q_27 ((i5, s6, ()), ()) (fun y1004 =>
let i1005 : Int := y1004.1.2.1
bif (i1005 != 0) then (
κ0 ((⟨#[]⟩, (i1005, ())), (l7, ()))) else (
q_26_v2 (((), (), ()), (l7, ())) (fun y1007 =>
let l1008 : (List ByteArray) := y1007.2.1
q_25 (((), ()), ()) (fun y1009 =>
let s1010 : ByteArray := y1009.1
κ0 ((s1010, (0, ())), (l1008, ())))))) (fun y1011 =>
let i1012 : Int := y1011.1.2.1
let a1013 : (Nat → Int) := y1011.2.1.2.1
let i1014 : Int := y1011.2.1.2.2.1
let i1015 : Int := y1011.2.1.2.2.2.1
bif (i1012 != 0) then (
κ0 ((⟨#[]⟩, (i1012, ())), (l7, ()))) else (
q_26 (((), (), ()), (((), (a1013, (i1014, (i1015, ())))), l7, ())) (fun y1016 =>
let a1017 : (Nat → Int) := y1016.2.1.2.1
let i1018 : Int := y1016.2.1.2.2.1
let i1019 : Int := y1016.2.1.2.2.2.1
let l1020 : (List ByteArray) := y1016.2.2.1
q_25_v1 (((), ()), (((), (a1017, (i1018, (i1019, ())))), ())) (fun y1066 =>
let s1067 : ByteArray := y1066.1
let a1068 : (Nat → Int) := y1066.2.1.2.1
let i1069 : Int := y1066.2.1.2.2.1
let i1070 : Int := y1066.2.1.2.2.2.1
κ0 ((s1067, (0, ())), (l1020, ())))))) (fun y1071 =>
let i1072 : Int := y1071.1.2.1
let a1073 : (Nat → Int) := y1071.2.1.2.1
let i1074 : Int := y1071.2.1.2.2.1
let i1075 : Int := y1071.2.1.2.2.2.1
let i1076 : Int := y1071.2.2.1.1
let b1077 : Bool := y1071.2.2.1.2.1
let i1078 : Int := y1071.2.2.1.2.2.2.1
let l1079 : (List Int) := y1071.2.2.2.1
bif (i1072 != 0) then (
κ0 ((⟨#[]⟩, (i1072, ())), (l7, ()))) else (
q_26_v1 (((), (), ()), (((), (a1073, (i1074, (i1075, ())))), (i1076, (b1077, ((), (i1078, ())))), l1079, l7, ())) (fun y1080 =>
let a1081 : (Nat → Int) := y1080.2.1.2.1
let i1082 : Int := y1080.2.1.2.2.1
let i1083 : Int := y1080.2.1.2.2.2.1
let i1084 : Int := y1080.2.2.1.1
let b1085 : Bool := y1080.2.2.1.2.1
let i1086 : Int := y1080.2.2.1.2.2.2.1
let l1087 : (List ByteArray) := y1080.2.2.2.1
let l1088 : (List Int) := y1080.2.2.2.2.1
q_25_v2 (((), ()), (((), (a1081, (i1082, (i1083, ())))), (i1084, (b1085, ((), (i1086, ())))), l1088, ())) (fun y1119 =>
let s1120 : ByteArray := y1119.1
let a1121 : (Nat → Int) := y1119.2.1.2.1
let i1122 : Int := y1119.2.1.2.2.1
let i1123 : Int := y1119.2.1.2.2.2.1
let i1124 : Int := y1119.2.2.1.1
let b1125 : Bool := y1119.2.2.1.2.1
let i1126 : Int := y1119.2.2.1.2.2.2.1
let l1127 : (List Int) := y1119.2.2.2.1
κ0 ((s1120, (0, ())), (l1087, ()))))))
def EG_22 {R : Type} (q_27 : Tp_27 R) (q_26_v2 : Tp_26_v2 R) (q_25 : Tp_25 R) (q_26 : Tp_26 R) (q_25_v1 : Tp_25_v1 R) (q_26_v1 : Tp_26_v1 R) (q_25_v2 : Tp_25_v2 R) : Env R := (((((((Env.base QQ LN).add 27 ap_27 hp_27 (fun (x : aden ap_27 × hden hp_27) k => q_27 x (fun y => k (Pat.inst (.tup (.fcons (.nilp) (.fcons (.int .i64) (.fnil)))) y.1) (instH [] y.2)) (fun y => k (Pat.inst (.tup (.fcons (.ptr 0 []) (.fcons (.int .i64) (.fnil)))) y.1) (instH [some (.node (.fcons (.nilp) (.fcons (.vec (.int .u64) 8) (.fcons (.int .i64) (.fcons (.int .u64) (.fnil))))), 115)] y.2)) (fun y => k (Pat.inst (.tup (.fcons (.ptr 0 []) (.fcons (.int .i64) (.fnil)))) y.1) (instH [some (.node (.fcons (.ptr 1 []) (.fcons (.vec (.int .u64) 8) (.fcons (.int .i64) (.fcons (.int .u64) (.fnil))))), 115), some (.node (.fcons (.int .i64) (.fcons (.bool) (.fcons (.sl 2) (.fcons (.int .i64) (.fnil))))), 151), some (.lst (.int .u8), 5)] y.2)))).add 26 ap_26_v2 hp_26_v2 (fun (x : aden ap_26_v2 × hden hp_26_v2) k => q_26_v2 x (fun y => k (Pat.inst (.nilp) y.1) (instH [some (.lst (.str), 9)] y.2)))).add 25 ap_25 hp_25 (fun (x : aden ap_25 × hden hp_25) k => q_25 x (fun y => k (Pat.inst (.str) y.1) (instH [] y.2)))).add 26 ap_26 hp_26 (fun (x : aden ap_26 × hden hp_26) k => q_26 x (fun y => k (Pat.inst (.ptr 0 []) y.1) (instH [some (.node (.fcons (.nilp) (.fcons (.vec (.int .u64) 8) (.fcons (.int .i64) (.fcons (.int .u64) (.fnil))))), 115), some (.lst (.str), 9)] y.2)))).add 25 ap_25_v1 hp_25_v1 (fun (x : aden ap_25_v1 × hden hp_25_v1) k => q_25_v1 x (fun y => k (Pat.inst (.str) y.1) (instH [some (.node (.fcons (.nilp) (.fcons (.vec (.int .u64) 8) (.fcons (.int .i64) (.fcons (.int .u64) (.fnil))))), 115)] y.2)))).add 26 ap_26_v1 hp_26_v1 (fun (x : aden ap_26_v1 × hden hp_26_v1) k => q_26_v1 x (fun y => k (Pat.inst (.ptr 0 []) y.1) (instH [some (.node (.fcons (.ptr 1 []) (.fcons (.vec (.int .u64) 8) (.fcons (.int .i64) (.fcons (.int .u64) (.fnil))))), 115), some (.node (.fcons (.int .i64) (.fcons (.bool) (.fcons (.sl 4) (.fcons (.int .i64) (.fnil))))), 151), none, some (.lst (.str), 9), some (.lst (.int .u8), 5)] y.2)))).add 25 ap_25_v2 hp_25_v2 (fun (x : aden ap_25_v2 × hden hp_25_v2) k => q_25_v2 x (fun y => k (Pat.inst (.str) y.1) (instH [some (.node (.fcons (.ptr 1 []) (.fcons (.vec (.int .u64) 8) (.fcons (.int .i64) (.fcons (.int .u64) (.fnil))))), 115), some (.node (.fcons (.int .i64) (.fcons (.bool) (.fcons (.sl 2) (.fcons (.int .i64) (.fnil))))), 151), some (.lst (.int .u8), 5)] y.2)))
def LG_22 {R : Type} : Loops R := Loops.none
def E_22 {R : Type} (N : Nat) : Env R := EG_22 (p_27 N) (p_26_v2 N) (p_25 N) (p_26 N) (p_25_v1 N) (p_26_v1 N) (p_25_v2 N)
theorem eok_22 {R : Type} (N : Nat) : EK Try.prog (E_22 (R := R) N) := ek_add (ek_add (ek_add (ek_add (ek_add (ek_add (ek_add (ek_base _ _) (good_27 N)) (good_26_v2 N)) (good_25 N)) (good_26 N)) (good_25_v1 N)) (good_26_v1 N)) (good_25_v2 N)
def L_22 {R : Type} (N : Nat) : Loops R := LG_22
theorem lok_22 {R : Type} (N : Nat) : LOK 1 TT (E_22 (R := R) N) (drawAny TT WW) (L_22 N) (bodyOf Try.f22) := loops_nil (by kernel_rfl)
theorem grun_22 {R : Type} (q_27 : Tp_27 R) (q_26_v2 : Tp_26_v2 R) (q_25 : Tp_25 R) (q_26 : Tp_26 R) (q_25_v1 : Tp_25_v1 R) (q_26_v1 : Tp_26_v1 R) (q_25_v2 : Tp_25_v2 R) (x : aden ap_22 × hden hp_22) (k : KF R) : fnrun TT (EG_22 q_27 q_26_v2 q_25 q_26 q_25_v1 q_26_v1 q_25_v2) (drawAny TT WW) (LG_22) true Try.f22 (instA ap_22 x.1) (instH hp_22 x.2) k = Q_22 q_27 q_26_v2 q_25 q_26 q_25_v1 q_26_v1 q_25_v2 x (fun y => k (Pat.inst (.tup (.fcons (.str) (.fcons (.int .i64) (.fnil)))) y.1) (instH [some (.lst (.str), 9)] y.2)) := by kernel_rfl
theorem run_22 {R : Type} (N : Nat) (x : aden ap_22 × hden hp_22) (k : KF R) : fnrun TT (E_22 (R := R) N) (drawAny TT WW) (L_22 N) true Try.f22 (instA ap_22 x.1) (instH hp_22 x.2) k = p_22 N x (fun y => k (Pat.inst (.tup (.fcons (.str) (.fcons (.int .i64) (.fnil)))) y.1) (instH [some (.lst (.str), 9)] y.2)) := (grun_22 (p_27 N) (p_26_v2 N) (p_25 N) (p_26 N) (p_25_v1 N) (p_26_v1 N) (p_25_v2 N) x k).trans (by kernel_rfl)
theorem good_22 {R : Type} (N : Nat) : GD (X := R) Try.prog QQ 22 ap_22 hp_22 (fun (x : aden ap_22 × hden hp_22) k => p_22 N x (fun y => k (Pat.inst (.tup (.fcons (.str) (.fcons (.int .i64) (.fnil)))) y.1) (instH [some (.lst (.str), 9)] y.2))) :=
  gd_loud (E := E_22 N) (p := fun (x : aden ap_22 × hden hp_22) k => p_22 N x (fun y => k (Pat.inst (.tup (.fcons (.str) (.fcons (.int .i64) (.fnil)))) y.1) (instH [some (.lst (.str), 9)] y.2))) mixed tyok (eok_22 N) Try.func22 (by kernel_rfl) (by kernel_rfl) (by kernel_rfl) (lok_22 N) (fun x k => run_22 N x k)

def ap_11 : List Pat := []
def hp_11 : List (Option (Pat × Nat)) := []
def p_11 {R : Type} (N : Nat) (x : (Unit) × (Unit)) (κ0 : Bool → Option R) : Option R :=
let l4 : (List ByteArray) := [⟨#[97, 98, 99]⟩]
p_22 N ((64, ⟨#[]⟩, (), ()), (l4, ())) (fun y1128 =>
let s1129 : ByteArray := y1128.1.1
let i1130 : Int := y1128.1.2.1
let l1131 : (List ByteArray) := y1128.2.1
bif (i1130 == 0) then (
let i1132 : Int := ((ByteArray.size s1129 : Nat) : Int)
bif (i1132 == 64) then (
bif decide (8 ≤ ((ByteArray.size s1129 : Nat) : Int)) then (
let s1133 : ByteArray := ByteArray.extract s1129 0 8
bif (eqS s1133 (⟨#[186, 128, 165, 63, 152, 28, 77, 13]⟩)) then (
bif decide (0 ≤ ((ByteArray.size s1129 : Nat) : Int)) then (
bif decide (((ByteArray.size s1129 : Nat) : Int) ≤ ((ByteArray.size s1129 : Nat) : Int)) then (
bif decide (56 ≤ ((ByteArray.size s1129 : Nat) : Int)) then (
let s1134 : ByteArray := ByteArray.extract s1129 56 (ByteArray.size s1129)
κ0 ((eqS s1134 (⟨#[185, 35, 134, 237, 212, 0, 153, 35]⟩)))) else none) else none) else none) else (
κ0 false)) else none) else (
κ0 false)) else (
κ0 false))

abbrev Tp_11 (R : Type) : Type := (Unit) × (Unit) → (Bool → Option R) → Option R
def Q_11 {R : Type} (q_22 : Tp_22 R) (x : (Unit) × (Unit)) (κ0 : Bool → Option R) : Option R :=
let l4 : (List ByteArray) := [⟨#[97, 98, 99]⟩]
q_22 ((64, ⟨#[]⟩, (), ()), (l4, ())) (fun y1128 =>
let s1129 : ByteArray := y1128.1.1
let i1130 : Int := y1128.1.2.1
let l1131 : (List ByteArray) := y1128.2.1
bif (i1130 == 0) then (
let i1132 : Int := ((ByteArray.size s1129 : Nat) : Int)
bif (i1132 == 64) then (
bif decide (8 ≤ ((ByteArray.size s1129 : Nat) : Int)) then (
let s1133 : ByteArray := ByteArray.extract s1129 0 8
bif (eqS s1133 (⟨#[186, 128, 165, 63, 152, 28, 77, 13]⟩)) then (
bif decide (0 ≤ ((ByteArray.size s1129 : Nat) : Int)) then (
bif decide (((ByteArray.size s1129 : Nat) : Int) ≤ ((ByteArray.size s1129 : Nat) : Int)) then (
bif decide (56 ≤ ((ByteArray.size s1129 : Nat) : Int)) then (
let s1134 : ByteArray := ByteArray.extract s1129 56 (ByteArray.size s1129)
κ0 ((eqS s1134 (⟨#[185, 35, 134, 237, 212, 0, 153, 35]⟩)))) else none) else none) else none) else (
κ0 false)) else none) else (
κ0 false)) else (
κ0 false))
def EG_11 {R : Type} (q_22 : Tp_22 R) : Env R := (Env.base QQ LN).add 22 ap_22 hp_22 (fun (x : aden ap_22 × hden hp_22) k => q_22 x (fun y => k (Pat.inst (.tup (.fcons (.str) (.fcons (.int .i64) (.fnil)))) y.1) (instH [some (.lst (.str), 9)] y.2)))
def LG_11 {R : Type} : Loops R := Loops.none
def E_11 {R : Type} (N : Nat) : Env R := EG_11 (p_22 N)
theorem eok_11 {R : Type} (N : Nat) : EK Try.prog (E_11 (R := R) N) := ek_add (ek_base _ _) (good_22 N)
def L_11 {R : Type} (N : Nat) : Loops R := LG_11
theorem lok_11 {R : Type} (N : Nat) : LOK 0 TT (E_11 (R := R) N) (drawAny TT WW) (L_11 N) (bodyOf Try.f11) := loops_nil (by kernel_rfl)
theorem grun_11 {R : Type} (q_22 : Tp_22 R) (x : aden ap_11 × hden hp_11) (k : KF R) : fnrun TT (EG_11 q_22) (drawAny TT WW) (LG_11) true Try.f11 (instA ap_11 x.1) (instH hp_11 x.2) k = Q_11 q_22 x (fun y => k (Pat.inst (.bool) y) (instH hp_11 x.2)) := by kernel_rfl
theorem run_11 {R : Type} (N : Nat) (x : aden ap_11 × hden hp_11) (k : KF R) : fnrun TT (E_11 (R := R) N) (drawAny TT WW) (L_11 N) true Try.f11 (instA ap_11 x.1) (instH hp_11 x.2) k = p_11 N x (fun y => k (Pat.inst (.bool) y) (instH hp_11 x.2)) := (grun_11 (p_22 N) x k).trans (by kernel_rfl)
theorem good_11 {R : Type} (N : Nat) : GD (X := R) Try.prog QQ 11 ap_11 hp_11 (fun (x : aden ap_11 × hden hp_11) k => p_11 N x (fun y => k (Pat.inst (.bool) y) (instH hp_11 x.2))) :=
  gd_quiet (E := E_11 N) (p := fun (x : aden ap_11 × hden hp_11) κ => p_11 N x (fun y => κ (Pat.inst (.bool) y))) mixed tyok (eok_11 N) Try.func11 (by kernel_rfl) (by kernel_rfl) (lok_11 N) (fun x k => run_11 N x k)

def lv_21_3 : Live := [(0, none), (3, none), (4, none)]
def pt_21_3 : SPat := ⟨[(0, .ros (.str)), (3, .int .i64), (4, .int .i64)], []⟩
def px_21_3_0 : SPat := ⟨[(3, .int .i64)], []⟩
def lo_21_3 : Exit → Live
  | .exit 0 => [(3, none)]
  | _ => []
def B_21_3 {R : Type} (N : Nat) (rec : (((List ByteArray) × Int × Int × Unit) × (Unit)) → Option R) (x : (((List ByteArray) × Int × Int × Unit) × (Unit))) (κ0 : ((Int × Unit) × (Unit)) → Option R) : Option R :=
let l1140 : (List ByteArray) := x.1.1
let i1141 : Int := x.1.2.1
let i1142 : Int := x.1.2.2.1
let i1143 : Int := (((List.length l1140) : Nat) : Int)
bif (decide (i1142 < i1143)) then (
bif decide (0 ≤ i1142) then (
bif decide (i1142 < ((List.length l1140) : Int)) then (
let p1144 : ByteArray := (List.getD l1140 ((Int.toNat i1142)) (Sch.zero (.str)))
let i1145 : Int := ((ByteArray.size p1144 : Nat) : Int)
let i1146 : Int := addA .i64 i1141 i1145
let i1147 : Int := addA .i64 i1142 1
rec ((l1140, i1146, i1147, ()), ())) else none) else none) else (
κ0 ((i1141, ()), ()))
def l_21_3 {R : Type} (N : Nat) : Nat → (((List ByteArray) × Int × Int × Unit) × (Unit)) → (((Int × Unit) × (Unit)) → Option R) → Option R
  | 0, _, _ => none
  | n + 1, x, κ0 => B_21_3 N (fun y => l_21_3 N n y κ0) x κ0
def ap_21 : List Pat := [.ros (.str)]
def hp_21 : List (Option (Pat × Nat)) := []
def p_21 {R : Type} (N : Nat) (x : ((List ByteArray) × Unit) × (Unit)) (κ0 : Int → Option R) : Option R :=
let l1139 : (List ByteArray) := x.1.1
l_21_3 N N ((l1139, 0, 0, ()), ()) (fun y1148 =>
let i1149 : Int := y1148.1.1
κ0 i1149)

abbrev Tl_21_3 (R : Type) : Type := (((List ByteArray) × Int × Int × Unit) × (Unit)) → (((Int × Unit) × (Unit)) → Option R) → Option R
abbrev Tp_21 (R : Type) : Type := ((List ByteArray) × Unit) × (Unit) → (Int → Option R) → Option R
def Q_21 {R : Type} (m_21_3 : Tl_21_3 R) (x : ((List ByteArray) × Unit) × (Unit)) (κ0 : Int → Option R) : Option R :=
let l1139 : (List ByteArray) := x.1.1
m_21_3 ((l1139, 0, 0, ()), ()) (fun y1148 =>
let i1149 : Int := y1148.1.1
κ0 i1149)
def C_21_3 {R : Type} (m_21_3 : Tl_21_3 R) (rec : (((List ByteArray) × Int × Int × Unit) × (Unit)) → Option R) (x : (((List ByteArray) × Int × Int × Unit) × (Unit))) (κ0 : ((Int × Unit) × (Unit)) → Option R) : Option R :=
let l1140 : (List ByteArray) := x.1.1
let i1141 : Int := x.1.2.1
let i1142 : Int := x.1.2.2.1
let i1143 : Int := (((List.length l1140) : Nat) : Int)
bif (decide (i1142 < i1143)) then (
bif decide (0 ≤ i1142) then (
bif decide (i1142 < ((List.length l1140) : Int)) then (
let p1144 : ByteArray := (List.getD l1140 ((Int.toNat i1142)) (Sch.zero (.str)))
let i1145 : Int := ((ByteArray.size p1144 : Nat) : Int)
let i1146 : Int := addA .i64 i1141 i1145
let i1147 : Int := addA .i64 i1142 1
rec ((l1140, i1146, i1147, ()), ())) else none) else none) else (
κ0 ((i1141, ()), ()))
def EG_21 {R : Type} : Env R := Env.base QQ LN
def LG_21 {R : Type} (m_21_3 : Tl_21_3 R) : Loops R := (Loops.none).add 3 (loopBy 0 lv_21_3 pt_21_3 (fun x k => m_21_3 x (fun y => k (.exit 0) (px_21_3_0.inst y))))
def E_21 {R : Type} (N : Nat) : Env R := EG_21
theorem eok_21 {R : Type} (N : Nat) : EK Try.prog (E_21 (R := R) N) := ek_base _ _
def L_21 {R : Type} (N : Nat) : Loops R := LG_21 (l_21_3 N N)
theorem gstep_21_3 {R : Type} (m_21_3 : Tl_21_3 R) (n : Nat) (x : pt_21_3.den) (k : Exit → St → Option R) : iter 0 lv_21_3 lo_21_3 (aexec TT (EG_21) (drawAny TT WW) (LG_21 m_21_3) (loopAt 3 (bodyOf Try.f21))) (n + 1) (pt_21_3.inst x) k = C_21_3 m_21_3 (fun y => iter 0 lv_21_3 lo_21_3 (aexec TT (EG_21) (drawAny TT WW) (LG_21 m_21_3) (loopAt 3 (bodyOf Try.f21))) n (pt_21_3.inst y) k) x (fun y => k (.exit 0) (px_21_3_0.inst y)) := by kernel_rfl
theorem step_21_3 {R : Type} (N n : Nat) (x : pt_21_3.den) (k : Exit → St → Option R) : iter 0 lv_21_3 lo_21_3 (aexec TT (E_21 (R := R) N) (drawAny TT WW) (L_21 N) (loopAt 3 (bodyOf Try.f21))) (n + 1) (pt_21_3.inst x) k = B_21_3 N (fun y => iter 0 lv_21_3 lo_21_3 (aexec TT (E_21 (R := R) N) (drawAny TT WW) (L_21 N) (loopAt 3 (bodyOf Try.f21))) n (pt_21_3.inst y) k) x (fun y => k (.exit 0) (px_21_3_0.inst y)) := (gstep_21_3 (l_21_3 N N) n x k).trans (by kernel_rfl)
theorem eq_21_3 {R : Type} (N : Nat) : ∀ (n : Nat) (x : pt_21_3.den) (k : Exit → St → Option R), iter 0 lv_21_3 lo_21_3 (aexec TT (E_21 (R := R) N) (drawAny TT WW) (L_21 N) (loopAt 3 (bodyOf Try.f21))) n (pt_21_3.inst x) k = l_21_3 N n x (fun y => k (.exit 0) (px_21_3_0.inst y)) :=
  iter_eq (K := Exit → St → Option R) (ks := fun k => k) (l := fun n (x : pt_21_3.den) k => l_21_3 N n x (fun y => k (.exit 0) (px_21_3_0.inst y))) (B := fun (rec : pt_21_3.den → Option R) (x : pt_21_3.den) k => B_21_3 N rec x (fun y => k (.exit 0) (px_21_3_0.inst y))) (fun _ _ => rfl) (fun _ _ _ => rfl) (fun n x k => step_21_3 N n x k)
theorem rounds_21_3 {R : Type} (N : Nat) : Rounds 0 TT (E_21 (R := R) N) (drawAny TT WW) (L_21 N) 3 (loopAt 3 (bodyOf Try.f21)) :=
  rounds_of (p := pt_21_3) (l := fun (x : pt_21_3.den) k => l_21_3 N N x (fun y => k (.exit 0) (px_21_3_0.inst y))) (fun s k => rfl) (fun x k => eq_21_3 N N x k)
theorem loops_21 : loopsIn (bodyOf Try.f21) = [(3, loopAt 3 (bodyOf Try.f21))] := by kernel_rfl
theorem lok_21 {R : Type} (N : Nat) : LOK 0 TT (E_21 (R := R) N) (drawAny TT WW) (L_21 N) (bodyOf Try.f21) := loops_all loops_21 (by
  simp only [List.forall_mem_cons, List.not_mem_nil, false_implies, implies_true, and_true]
  exact rounds_21_3 N)
theorem grun_21 {R : Type} (m_21_3 : Tl_21_3 R) (x : aden ap_21 × hden hp_21) (k : KF R) : fnrun TT (EG_21) (drawAny TT WW) (LG_21 m_21_3) true Try.f21 (instA ap_21 x.1) (instH hp_21 x.2) k = Q_21 m_21_3 x (fun y => k (Pat.inst (.int .i64) y) (instH hp_21 x.2)) := by kernel_rfl
theorem run_21 {R : Type} (N : Nat) (x : aden ap_21 × hden hp_21) (k : KF R) : fnrun TT (E_21 (R := R) N) (drawAny TT WW) (L_21 N) true Try.f21 (instA ap_21 x.1) (instH hp_21 x.2) k = p_21 N x (fun y => k (Pat.inst (.int .i64) y) (instH hp_21 x.2)) := (grun_21 (l_21_3 N N) x k).trans (by kernel_rfl)
theorem good_21 {R : Type} (N : Nat) : GD (X := R) Try.prog QQ 21 ap_21 hp_21 (fun (x : aden ap_21 × hden hp_21) k => p_21 N x (fun y => k (Pat.inst (.int .i64) y) (instH hp_21 x.2))) :=
  gd_quiet (E := E_21 N) (p := fun (x : aden ap_21 × hden hp_21) κ => p_21 N x (fun y => κ (Pat.inst (.int .i64) y))) mixed tyok (eok_21 N) Try.func21 (by kernel_rfl) (by kernel_rfl) (lok_21 N) (fun x k => run_21 N x k)

def ap_26_v3 : List Pat := [.nilp, .ros (.str)]
def hp_26_v3 : List (Option (Pat × Nat)) := []
def p_26_v3 {R : Type} (N : Nat) (x : (Unit × (List ByteArray) × Unit) × (Unit)) (κ0 : (Unit × (Unit)) → Option R) : Option R :=
let l1157 : (List ByteArray) := x.1.2.1
κ0 ((), ())

abbrev Tp_26_v3 (R : Type) : Type := (Unit × (List ByteArray) × Unit) × (Unit) → ((Unit × (Unit)) → Option R) → Option R
def Q_26_v3 {R : Type} (x : (Unit × (List ByteArray) × Unit) × (Unit)) (κ0 : (Unit × (Unit)) → Option R) : Option R :=
let l1157 : (List ByteArray) := x.1.2.1
κ0 ((), ())
def EG_26_v3 {R : Type} : Env R := Env.base QQ LN
def LG_26_v3 {R : Type} : Loops R := Loops.none
def E_26_v3 {R : Type} (N : Nat) : Env R := EG_26_v3
theorem eok_26_v3 {R : Type} (N : Nat) : EK Try.prog (E_26_v3 (R := R) N) := ek_base _ _
def L_26_v3 {R : Type} (N : Nat) : Loops R := LG_26_v3
theorem loops_26_v3 : loopsIn (bodyOf Try.f26) = [(4, loopAt 4 (bodyOf Try.f26))] := by kernel_rfl
theorem lok_26_v3 {R : Type} (N : Nat) : LOK 0 TT (E_26_v3 (R := R) N) (drawAny TT WW) (L_26_v3 N) (bodyOf Try.f26) := loops_all loops_26_v3 (by
  simp only [List.forall_mem_cons, List.not_mem_nil, false_implies, implies_true, and_true]
  exact rounds_none (fun _ _ => rfl))
theorem grun_26_v3 {R : Type} (x : aden ap_26_v3 × hden hp_26_v3) (k : KF R) : fnrun TT (EG_26_v3) (drawAny TT WW) (LG_26_v3) true Try.f26 (instA ap_26_v3 x.1) (instH hp_26_v3 x.2) k = Q_26_v3 x (fun y => k (Pat.inst (.nilp) y.1) (instH [] y.2)) := by kernel_rfl
theorem run_26_v3 {R : Type} (N : Nat) (x : aden ap_26_v3 × hden hp_26_v3) (k : KF R) : fnrun TT (E_26_v3 (R := R) N) (drawAny TT WW) (L_26_v3 N) true Try.f26 (instA ap_26_v3 x.1) (instH hp_26_v3 x.2) k = p_26_v3 N x (fun y => k (Pat.inst (.nilp) y.1) (instH [] y.2)) := (grun_26_v3 x k).trans (by kernel_rfl)
theorem good_26_v3 {R : Type} (N : Nat) : GD (X := R) Try.prog QQ 26 ap_26_v3 hp_26_v3 (fun (x : aden ap_26_v3 × hden hp_26_v3) k => p_26_v3 N x (fun y => k (Pat.inst (.nilp) y.1) (instH [] y.2))) :=
  gd_loud (E := E_26_v3 N) (p := fun (x : aden ap_26_v3 × hden hp_26_v3) k => p_26_v3 N x (fun y => k (Pat.inst (.nilp) y.1) (instH [] y.2))) mixed tyok (eok_26_v3 N) Try.func26 (by kernel_rfl) (by kernel_rfl) (by kernel_rfl) (lok_26_v3 N) (fun x k => run_26_v3 N x k)

def ap_57_v2 : List Pat := [.nilp, .ros (.str)]
def hp_57_v2 : List (Option (Pat × Nat)) := []
def p_57_v2 {R : Type} (N : Nat) (x : (Unit × (List ByteArray) × Unit) × (Unit)) (κ0 : ((List (List Int)) × (Unit)) → Option R) : Option R :=
let l1170 : (List ByteArray) := x.1.2.1
κ0 ([], ())

abbrev Tp_57_v2 (R : Type) : Type := (Unit × (List ByteArray) × Unit) × (Unit) → (((List (List Int)) × (Unit)) → Option R) → Option R
def Q_57_v2 {R : Type} (x : (Unit × (List ByteArray) × Unit) × (Unit)) (κ0 : ((List (List Int)) × (Unit)) → Option R) : Option R :=
let l1170 : (List ByteArray) := x.1.2.1
κ0 ([], ())
def EG_57_v2 {R : Type} : Env R := Env.base QQ LN
def LG_57_v2 {R : Type} : Loops R := Loops.none
def E_57_v2 {R : Type} (N : Nat) : Env R := EG_57_v2
theorem eok_57_v2 {R : Type} (N : Nat) : EK Try.prog (E_57_v2 (R := R) N) := ek_base _ _
def L_57_v2 {R : Type} (N : Nat) : Loops R := LG_57_v2
theorem loops_57_v2 : loopsIn (bodyOf Try.f57) = [(5, loopAt 5 (bodyOf Try.f57)), (9, loopAt 9 (bodyOf Try.f57))] := by kernel_rfl
theorem lok_57_v2 {R : Type} (N : Nat) : LOK 0 TT (E_57_v2 (R := R) N) (drawAny TT WW) (L_57_v2 N) (bodyOf Try.f57) := loops_all loops_57_v2 (by
  simp only [List.forall_mem_cons, List.not_mem_nil, false_implies, implies_true, and_true]
  exact ⟨rounds_none (fun _ _ => rfl), rounds_none (fun _ _ => rfl)⟩)
theorem grun_57_v2 {R : Type} (x : aden ap_57_v2 × hden hp_57_v2) (k : KF R) : fnrun TT (EG_57_v2) (drawAny TT WW) (LG_57_v2) true Try.f57 (instA ap_57_v2 x.1) (instH hp_57_v2 x.2) k = Q_57_v2 x (fun y => k (Pat.inst (.ros (.sl (.int .u8))) y.1) (instH [] y.2)) := by kernel_rfl
theorem run_57_v2 {R : Type} (N : Nat) (x : aden ap_57_v2 × hden hp_57_v2) (k : KF R) : fnrun TT (E_57_v2 (R := R) N) (drawAny TT WW) (L_57_v2 N) true Try.f57 (instA ap_57_v2 x.1) (instH hp_57_v2 x.2) k = p_57_v2 N x (fun y => k (Pat.inst (.ros (.sl (.int .u8))) y.1) (instH [] y.2)) := (grun_57_v2 x k).trans (by kernel_rfl)
theorem good_57_v2 {R : Type} (N : Nat) : GD (X := R) Try.prog QQ 57 ap_57_v2 hp_57_v2 (fun (x : aden ap_57_v2 × hden hp_57_v2) k => p_57_v2 N x (fun y => k (Pat.inst (.ros (.sl (.int .u8))) y.1) (instH [] y.2))) :=
  gd_loud (E := E_57_v2 N) (p := fun (x : aden ap_57_v2 × hden hp_57_v2) k => p_57_v2 N x (fun y => k (Pat.inst (.ros (.sl (.int .u8))) y.1) (instH [] y.2))) mixed tyok (eok_57_v2 N) Try.func57 (by kernel_rfl) (by kernel_rfl) (by kernel_rfl) (lok_57_v2 N) (fun x k => run_57_v2 N x k)

def lv_26_v4_4 : Live := [(0, none), (14, none), (15, none), (16, none)]
def pt_26_v4_4 : SPat := ⟨[(0, .ptr 0 []), (14, .ros (.sl (.int .u8))), (15, .int .i64), (16, .int .i64)], [some (.node (.fcons (.nilp) (.fcons (.vec (.int .u64) 8) (.fcons (.int .i64) (.fcons (.int .u64) (.fnil))))), 115)]⟩
def px_26_v4_4_0 : SPat := ⟨[(0, .ptr 0 [])], [some (.node (.fcons (.nilp) (.fcons (.vec (.int .u64) 8) (.fcons (.int .i64) (.fcons (.int .u64) (.fnil))))), 115)]⟩
def lo_26_v4_4 : Exit → Live
  | .exit 0 => [(0, none)]
  | _ => []
def B_26_v4_4 {R : Type} (N : Nat) (rec : ((Unit × (List (List Int)) × Int × Int × Unit) × ((Unit × ((Nat → Int) × (Int × (Int × Unit)))) × Unit)) → Option R) (x : ((Unit × (List (List Int)) × Int × Int × Unit) × ((Unit × ((Nat → Int) × (Int × (Int × Unit)))) × Unit))) (κ0 : ((Unit × Unit) × ((Unit × ((Nat → Int) × (Int × (Int × Unit)))) × Unit)) → Option R) : Option R :=
let l1174 : (List (List Int)) := x.1.2.1
let i1175 : Int := x.1.2.2.1
let i1176 : Int := x.1.2.2.2.1
let a1177 : (Nat → Int) := x.2.1.2.1
let i1178 : Int := x.2.1.2.2.1
let i1179 : Int := x.2.1.2.2.2.1
bif (decide (i1176 < i1175)) then (
bif decide (0 ≤ i1176) then (
bif decide (i1176 < ((List.length l1174) : Int)) then (
let p1180 : (List Int) := (List.getD l1174 ((Int.toNat i1176)) (Sch.zero (.sl (.int .u8))))
let i1181 : Int := addA .u64 i1179 128
p_12 N ((a1177, p1180, i1181, false, ()), ()) (fun y1182 =>
let a1183 : (Nat → Int) := y1182.1
let i1184 : Int := y1182.2.1
let i1185 : Int := addA .i64 i1176 1
rec (((), l1174, i1175, i1185, ()), (((), (a1183, (i1178, (i1181, ())))), ())))) else none) else none) else (
κ0 (((), ()), (((), (a1177, (i1178, (i1179, ())))), ())))
def l_26_v4_4 {R : Type} (N : Nat) : Nat → ((Unit × (List (List Int)) × Int × Int × Unit) × ((Unit × ((Nat → Int) × (Int × (Int × Unit)))) × Unit)) → (((Unit × Unit) × ((Unit × ((Nat → Int) × (Int × (Int × Unit)))) × Unit)) → Option R) → Option R
  | 0, _, _ => none
  | n + 1, x, κ0 => B_26_v4_4 N (fun y => l_26_v4_4 N n y κ0) x κ0
def ap_26_v4 : List Pat := [.ptr 0 [], .ros (.str)]
def hp_26_v4 : List (Option (Pat × Nat)) := [some (.node (.fcons (.nilp) (.fcons (.vec (.int .u64) 8) (.fcons (.int .i64) (.fcons (.int .u64) (.fnil))))), 115)]
def p_26_v4 {R : Type} (N : Nat) (x : (Unit × (List ByteArray) × Unit) × ((Unit × ((Nat → Int) × (Int × (Int × Unit)))) × Unit)) (κ0 : (Unit × ((Unit × ((Nat → Int) × (Int × (Int × Unit)))) × Unit)) → Option R) : Option R :=
let l1166 : (List ByteArray) := x.1.2.1
let a1167 : (Nat → Int) := x.2.1.2.1
let i1168 : Int := x.2.1.2.2.1
let i1169 : Int := x.2.1.2.2.2.1
p_57_v2 N (((), l1166, ()), ()) (fun y1171 =>
let l1172 : (List (List Int)) := y1171.1
let i1173 : Int := (((List.length l1172) : Nat) : Int)
l_26_v4_4 N N (((), l1172, i1173, 0, ()), (((), (a1167, (i1168, (i1169, ())))), ())) (fun y1186 =>
let a1187 : (Nat → Int) := y1186.2.1.2.1
let i1188 : Int := y1186.2.1.2.2.1
let i1189 : Int := y1186.2.1.2.2.2.1
κ0 ((), (((), (a1187, (i1188, (i1189, ())))), ()))))

abbrev Tl_26_v4_4 (R : Type) : Type := ((Unit × (List (List Int)) × Int × Int × Unit) × ((Unit × ((Nat → Int) × (Int × (Int × Unit)))) × Unit)) → (((Unit × Unit) × ((Unit × ((Nat → Int) × (Int × (Int × Unit)))) × Unit)) → Option R) → Option R
abbrev Tp_26_v4 (R : Type) : Type := (Unit × (List ByteArray) × Unit) × ((Unit × ((Nat → Int) × (Int × (Int × Unit)))) × Unit) → ((Unit × ((Unit × ((Nat → Int) × (Int × (Int × Unit)))) × Unit)) → Option R) → Option R
def Q_26_v4 {R : Type} (q_57_v2 : Tp_57_v2 R) (q_12 : Tp_12 R) (m_26_v4_4 : Tl_26_v4_4 R) (x : (Unit × (List ByteArray) × Unit) × ((Unit × ((Nat → Int) × (Int × (Int × Unit)))) × Unit)) (κ0 : (Unit × ((Unit × ((Nat → Int) × (Int × (Int × Unit)))) × Unit)) → Option R) : Option R :=
let l1166 : (List ByteArray) := x.1.2.1
let a1167 : (Nat → Int) := x.2.1.2.1
let i1168 : Int := x.2.1.2.2.1
let i1169 : Int := x.2.1.2.2.2.1
q_57_v2 (((), l1166, ()), ()) (fun y1171 =>
let l1172 : (List (List Int)) := y1171.1
let i1173 : Int := (((List.length l1172) : Nat) : Int)
m_26_v4_4 (((), l1172, i1173, 0, ()), (((), (a1167, (i1168, (i1169, ())))), ())) (fun y1186 =>
let a1187 : (Nat → Int) := y1186.2.1.2.1
let i1188 : Int := y1186.2.1.2.2.1
let i1189 : Int := y1186.2.1.2.2.2.1
κ0 ((), (((), (a1187, (i1188, (i1189, ())))), ()))))
def C_26_v4_4 {R : Type} (q_57_v2 : Tp_57_v2 R) (q_12 : Tp_12 R) (m_26_v4_4 : Tl_26_v4_4 R) (rec : ((Unit × (List (List Int)) × Int × Int × Unit) × ((Unit × ((Nat → Int) × (Int × (Int × Unit)))) × Unit)) → Option R) (x : ((Unit × (List (List Int)) × Int × Int × Unit) × ((Unit × ((Nat → Int) × (Int × (Int × Unit)))) × Unit))) (κ0 : ((Unit × Unit) × ((Unit × ((Nat → Int) × (Int × (Int × Unit)))) × Unit)) → Option R) : Option R :=
let l1174 : (List (List Int)) := x.1.2.1
let i1175 : Int := x.1.2.2.1
let i1176 : Int := x.1.2.2.2.1
let a1177 : (Nat → Int) := x.2.1.2.1
let i1178 : Int := x.2.1.2.2.1
let i1179 : Int := x.2.1.2.2.2.1
bif (decide (i1176 < i1175)) then (
bif decide (0 ≤ i1176) then (
bif decide (i1176 < ((List.length l1174) : Int)) then (
let p1180 : (List Int) := (List.getD l1174 ((Int.toNat i1176)) (Sch.zero (.sl (.int .u8))))
let i1181 : Int := addA .u64 i1179 128
q_12 ((a1177, p1180, i1181, false, ()), ()) (fun y1182 =>
let a1183 : (Nat → Int) := y1182.1
let i1184 : Int := y1182.2.1
let i1185 : Int := addA .i64 i1176 1
rec (((), l1174, i1175, i1185, ()), (((), (a1183, (i1178, (i1181, ())))), ())))) else none) else none) else (
κ0 (((), ()), (((), (a1177, (i1178, (i1179, ())))), ())))
def EG_26_v4 {R : Type} (q_57_v2 : Tp_57_v2 R) (q_12 : Tp_12 R) : Env R := ((Env.base QQ LN).add 57 ap_57_v2 hp_57_v2 (fun (x : aden ap_57_v2 × hden hp_57_v2) k => q_57_v2 x (fun y => k (Pat.inst (.ros (.sl (.int .u8))) y.1) (instH [] y.2)))).add 12 ap_12 hp_12 (fun (x : aden ap_12 × hden hp_12) k => q_12 x (fun y => k (Pat.inst (.tup (.fcons (.vec (.int .u64) 8) (.fcons (.int .i64) (.fnil)))) y) (instH hp_12 x.2)))
def LG_26_v4 {R : Type} (m_26_v4_4 : Tl_26_v4_4 R) : Loops R := (Loops.none).add 4 (loopBy 1 lv_26_v4_4 pt_26_v4_4 (fun x k => m_26_v4_4 x (fun y => k (.exit 0) (px_26_v4_4_0.inst y))))
def E_26_v4 {R : Type} (N : Nat) : Env R := EG_26_v4 (p_57_v2 N) (p_12 N)
theorem eok_26_v4 {R : Type} (N : Nat) : EK Try.prog (E_26_v4 (R := R) N) := ek_add (ek_add (ek_base _ _) (good_57_v2 N)) (good_12 N)
def L_26_v4 {R : Type} (N : Nat) : Loops R := LG_26_v4 (l_26_v4_4 N N)
theorem gstep_26_v4_4 {R : Type} (q_57_v2 : Tp_57_v2 R) (q_12 : Tp_12 R) (m_26_v4_4 : Tl_26_v4_4 R) (n : Nat) (x : pt_26_v4_4.den) (k : Exit → St → Option R) : iter 1 lv_26_v4_4 lo_26_v4_4 (aexec TT (EG_26_v4 q_57_v2 q_12) (drawAny TT WW) (LG_26_v4 m_26_v4_4) (loopAt 4 (bodyOf Try.f26))) (n + 1) (pt_26_v4_4.inst x) k = C_26_v4_4 q_57_v2 q_12 m_26_v4_4 (fun y => iter 1 lv_26_v4_4 lo_26_v4_4 (aexec TT (EG_26_v4 q_57_v2 q_12) (drawAny TT WW) (LG_26_v4 m_26_v4_4) (loopAt 4 (bodyOf Try.f26))) n (pt_26_v4_4.inst y) k) x (fun y => k (.exit 0) (px_26_v4_4_0.inst y)) := by kernel_rfl
theorem step_26_v4_4 {R : Type} (N n : Nat) (x : pt_26_v4_4.den) (k : Exit → St → Option R) : iter 1 lv_26_v4_4 lo_26_v4_4 (aexec TT (E_26_v4 (R := R) N) (drawAny TT WW) (L_26_v4 N) (loopAt 4 (bodyOf Try.f26))) (n + 1) (pt_26_v4_4.inst x) k = B_26_v4_4 N (fun y => iter 1 lv_26_v4_4 lo_26_v4_4 (aexec TT (E_26_v4 (R := R) N) (drawAny TT WW) (L_26_v4 N) (loopAt 4 (bodyOf Try.f26))) n (pt_26_v4_4.inst y) k) x (fun y => k (.exit 0) (px_26_v4_4_0.inst y)) := (gstep_26_v4_4 (p_57_v2 N) (p_12 N) (l_26_v4_4 N N) n x k).trans (by kernel_rfl)
theorem eq_26_v4_4 {R : Type} (N : Nat) : ∀ (n : Nat) (x : pt_26_v4_4.den) (k : Exit → St → Option R), iter 1 lv_26_v4_4 lo_26_v4_4 (aexec TT (E_26_v4 (R := R) N) (drawAny TT WW) (L_26_v4 N) (loopAt 4 (bodyOf Try.f26))) n (pt_26_v4_4.inst x) k = l_26_v4_4 N n x (fun y => k (.exit 0) (px_26_v4_4_0.inst y)) :=
  iter_eq (K := Exit → St → Option R) (ks := fun k => k) (l := fun n (x : pt_26_v4_4.den) k => l_26_v4_4 N n x (fun y => k (.exit 0) (px_26_v4_4_0.inst y))) (B := fun (rec : pt_26_v4_4.den → Option R) (x : pt_26_v4_4.den) k => B_26_v4_4 N rec x (fun y => k (.exit 0) (px_26_v4_4_0.inst y))) (fun _ _ => rfl) (fun _ _ _ => rfl) (fun n x k => step_26_v4_4 N n x k)
theorem rounds_26_v4_4 {R : Type} (N : Nat) : Rounds 1 TT (E_26_v4 (R := R) N) (drawAny TT WW) (L_26_v4 N) 4 (loopAt 4 (bodyOf Try.f26)) :=
  rounds_of (p := pt_26_v4_4) (l := fun (x : pt_26_v4_4.den) k => l_26_v4_4 N N x (fun y => k (.exit 0) (px_26_v4_4_0.inst y))) (fun s k => rfl) (fun x k => eq_26_v4_4 N N x k)
theorem loops_26_v4 : loopsIn (bodyOf Try.f26) = [(4, loopAt 4 (bodyOf Try.f26))] := by kernel_rfl
theorem lok_26_v4 {R : Type} (N : Nat) : LOK 1 TT (E_26_v4 (R := R) N) (drawAny TT WW) (L_26_v4 N) (bodyOf Try.f26) := loops_all loops_26_v4 (by
  simp only [List.forall_mem_cons, List.not_mem_nil, false_implies, implies_true, and_true]
  exact rounds_26_v4_4 N)
theorem grun_26_v4 {R : Type} (q_57_v2 : Tp_57_v2 R) (q_12 : Tp_12 R) (m_26_v4_4 : Tl_26_v4_4 R) (x : aden ap_26_v4 × hden hp_26_v4) (k : KF R) : fnrun TT (EG_26_v4 q_57_v2 q_12) (drawAny TT WW) (LG_26_v4 m_26_v4_4) true Try.f26 (instA ap_26_v4 x.1) (instH hp_26_v4 x.2) k = Q_26_v4 q_57_v2 q_12 m_26_v4_4 x (fun y => k (Pat.inst (.ptr 0 []) y.1) (instH [some (.node (.fcons (.nilp) (.fcons (.vec (.int .u64) 8) (.fcons (.int .i64) (.fcons (.int .u64) (.fnil))))), 115)] y.2)) := by kernel_rfl
theorem run_26_v4 {R : Type} (N : Nat) (x : aden ap_26_v4 × hden hp_26_v4) (k : KF R) : fnrun TT (E_26_v4 (R := R) N) (drawAny TT WW) (L_26_v4 N) true Try.f26 (instA ap_26_v4 x.1) (instH hp_26_v4 x.2) k = p_26_v4 N x (fun y => k (Pat.inst (.ptr 0 []) y.1) (instH [some (.node (.fcons (.nilp) (.fcons (.vec (.int .u64) 8) (.fcons (.int .i64) (.fcons (.int .u64) (.fnil))))), 115)] y.2)) := (grun_26_v4 (p_57_v2 N) (p_12 N) (l_26_v4_4 N N) x k).trans (by kernel_rfl)
theorem good_26_v4 {R : Type} (N : Nat) : GD (X := R) Try.prog QQ 26 ap_26_v4 hp_26_v4 (fun (x : aden ap_26_v4 × hden hp_26_v4) k => p_26_v4 N x (fun y => k (Pat.inst (.ptr 0 []) y.1) (instH [some (.node (.fcons (.nilp) (.fcons (.vec (.int .u64) 8) (.fcons (.int .i64) (.fcons (.int .u64) (.fnil))))), 115)] y.2))) :=
  gd_loud (E := E_26_v4 N) (p := fun (x : aden ap_26_v4 × hden hp_26_v4) k => p_26_v4 N x (fun y => k (Pat.inst (.ptr 0 []) y.1) (instH [some (.node (.fcons (.nilp) (.fcons (.vec (.int .u64) 8) (.fcons (.int .i64) (.fcons (.int .u64) (.fnil))))), 115)] y.2))) mixed tyok (eok_26_v4 N) Try.func26 (by kernel_rfl) (by kernel_rfl) (by kernel_rfl) (lok_26_v4 N) (fun x k => run_26_v4 N x k)

def lv_57_v3_9 : Live := [(0, none), (5, some (.sl (.int .u8), 24)), (17, none), (18, none), (19, none)]
def pt_57_v3_9 : SPat := ⟨[(0, .ptr 0 []), (5, .sl 3), (17, .ros (.str)), (18, .int .i64), (19, .int .i64)], [some (.node (.fcons (.int .i64) (.fcons (.bool) (.fcons (.sl 2) (.fcons (.int .i64) (.fnil))))), 151), none, some (.lst (.int .u8), 5), some (.lst (.sl (.int .u8)), 24)]⟩
def px_57_v3_9_0 : SPat := ⟨[(0, .ptr 0 []), (5, .sl 3), (17, .ros (.str)), (18, .int .i64), (19, .int .i64)], [some (.node (.fcons (.int .i64) (.fcons (.bool) (.fcons (.sl 2) (.fcons (.int .i64) (.fnil))))), 151), none, some (.lst (.int .u8), 5), some (.lst (.sl (.int .u8)), 24)]⟩
def lo_57_v3_9 : Exit → Live
  | .exit 2 => [(0, none), (5, none), (17, none), (18, none), (19, none)]
  | _ => []
def B_57_v3_9 {R : Type} (N : Nat) (rec : ((Unit × Unit × (List ByteArray) × Int × Int × Unit) × ((Int × (Bool × (Unit × (Int × Unit)))) × (List Int) × (List (List Int)) × Unit)) → Option R) (x : ((Unit × Unit × (List ByteArray) × Int × Int × Unit) × ((Int × (Bool × (Unit × (Int × Unit)))) × (List Int) × (List (List Int)) × Unit))) (κ0 : ((Unit × Unit × (List ByteArray) × Int × Int × Unit) × ((Int × (Bool × (Unit × (Int × Unit)))) × (List Int) × (List (List Int)) × Unit)) → Option R) : Option R :=
let l1317 : (List ByteArray) := x.1.2.2.1
let i1318 : Int := x.1.2.2.2.1
let i1319 : Int := x.1.2.2.2.2.1
let i1320 : Int := x.2.1.1
let b1321 : Bool := x.2.1.2.1
let i1322 : Int := x.2.1.2.2.2.1
let l1323 : (List Int) := x.2.2.1
let l1324 : (List (List Int)) := x.2.2.2.1
p_82 N (((), ()), ((i1320, (b1321, ((), (i1322, ())))), l1323, ())) (fun y1325 =>
let b1326 : Bool := y1325
bif b1326 then (
bif decide (0 ≤ i1320) then (
bif decide (i1320 ≤ (((List.length l1323) : Nat) : Int)) then (
bif decide (0 ≤ i1320) then (
bif decide (List.length ((List.take (((Int.toNat i1320) - 0)) (List.drop 0 l1323))) * 1 ≤ 140737488355328) then (
let l1327 : (List Int) := (List.take (((Int.toNat i1320) - 0)) (List.drop 0 l1323))
let l1328 : (List (List Int)) := [l1327]
bif (decide ((List.length l1324 + List.length l1328) * 24 ≤ 140737488355328) && true) then (
let l1329 : (List (List Int)) := (l1324 ++ l1328)
bif decide (0 ≤ (((List.length l1323) : Nat) : Int)) then (
bif decide ((((List.length l1323) : Nat) : Int) ≤ (((List.length l1323) : Nat) : Int)) then (
bif decide (0 ≤ i1320) then (
bif decide (i1320 ≤ (((List.length l1323) : Nat) : Int)) then (
bif decide (0 < ((List.length l1323) - (Int.toNat i1320))) then (
let l1330 : (List Int) := List.take (((List.length l1323) - (Int.toNat i1320))) (List.drop ((Int.toNat i1320)) l1323)
rec (((), (), l1317, i1318, i1319, ()), ((i1320, (b1321, ((), (i1322, ())))), l1330, l1329, ()))) else none) else none) else none) else none) else none) else none) else none) else none) else none) else none) else (
κ0 (((), (), l1317, i1318, i1319, ()), ((i1320, (b1321, ((), (i1322, ())))), l1323, l1324, ()))))
def l_57_v3_9 {R : Type} (N : Nat) : Nat → ((Unit × Unit × (List ByteArray) × Int × Int × Unit) × ((Int × (Bool × (Unit × (Int × Unit)))) × (List Int) × (List (List Int)) × Unit)) → (((Unit × Unit × (List ByteArray) × Int × Int × Unit) × ((Int × (Bool × (Unit × (Int × Unit)))) × (List Int) × (List (List Int)) × Unit)) → Option R) → Option R
  | 0, _, _ => none
  | n + 1, x, κ0 => B_57_v3_9 N (fun y => l_57_v3_9 N n y κ0) x κ0
def lv_57_v3_5 : Live := [(0, some (.fnil, 2)), (5, some (.sl (.int .u8), 24)), (17, none), (18, none), (19, none)]
def pt_57_v3_5 : SPat := ⟨[(0, .ptr 0 []), (5, .sl 3), (17, .ros (.str)), (18, .int .i64), (19, .int .i64)], [some (.node (.fcons (.int .i64) (.fcons (.bool) (.fcons (.sl 2) (.fcons (.int .i64) (.fnil))))), 151), none, some (.lst (.int .u8), 5), some (.lst (.sl (.int .u8)), 24)]⟩
def px_57_v3_5_0 : SPat := ⟨[(0, .ptr 0 []), (5, .sl 3)], [some (.node (.fcons (.int .i64) (.fcons (.bool) (.fcons (.sl 2) (.fcons (.int .i64) (.fnil))))), 151), none, some (.lst (.int .u8), 5), some (.lst (.sl (.int .u8)), 24)]⟩
def lo_57_v3_5 : Exit → Live
  | .exit 0 => [(0, none), (5, none)]
  | _ => []
def B_57_v3_5 {R : Type} (N : Nat) (rec : ((Unit × Unit × (List ByteArray) × Int × Int × Unit) × ((Int × (Bool × (Unit × (Int × Unit)))) × (List Int) × (List (List Int)) × Unit)) → Option R) (x : ((Unit × Unit × (List ByteArray) × Int × Int × Unit) × ((Int × (Bool × (Unit × (Int × Unit)))) × (List Int) × (List (List Int)) × Unit))) (κ0 : ((Unit × Unit × Unit) × ((Int × (Bool × (Unit × (Int × Unit)))) × (List Int) × (List (List Int)) × Unit)) → Option R) : Option R :=
let l1305 : (List ByteArray) := x.1.2.2.1
let i1306 : Int := x.1.2.2.2.1
let i1307 : Int := x.1.2.2.2.2.1
let i1308 : Int := x.2.1.1
let b1309 : Bool := x.2.1.2.1
let i1310 : Int := x.2.1.2.2.2.1
let l1311 : (List Int) := x.2.2.1
let l1312 : (List (List Int)) := x.2.2.2.1
bif (decide (i1307 < i1306)) then (
bif decide (0 ≤ i1307) then (
bif decide (i1307 < ((List.length l1305) : Int)) then (
let p1313 : ByteArray := (List.getD l1305 ((Int.toNat i1307)) (Sch.zero (.str)))
let i1314 : Int := ((ByteArray.size p1313 : Nat) : Int)
let i1315 : Int := addA .i64 i1310 i1314
bif (decide ((List.length l1311 + List.length (strList p1313)) * 1 ≤ 140737488355328) && true) then (
let l1316 : (List Int) := (l1311 ++ strList p1313)
l_57_v3_9 N N (((), (), l1305, i1306, i1307, ()), ((i1308, (b1309, ((), (i1315, ())))), l1316, l1312, ())) (fun y1331 =>
let l1332 : (List ByteArray) := y1331.1.2.2.1
let i1333 : Int := y1331.1.2.2.2.1
let i1334 : Int := y1331.1.2.2.2.2.1
let i1335 : Int := y1331.2.1.1
let b1336 : Bool := y1331.2.1.2.1
let i1337 : Int := y1331.2.1.2.2.2.1
let l1338 : (List Int) := y1331.2.2.1
let l1339 : (List (List Int)) := y1331.2.2.2.1
let i1340 : Int := addA .i64 i1334 1
rec (((), (), l1332, i1333, i1340, ()), ((i1335, (b1336, ((), (i1337, ())))), l1338, l1339, ())))) else none) else none) else none) else (
κ0 (((), (), ()), ((i1308, (b1309, ((), (i1310, ())))), l1311, l1312, ())))
def l_57_v3_5 {R : Type} (N : Nat) : Nat → ((Unit × Unit × (List ByteArray) × Int × Int × Unit) × ((Int × (Bool × (Unit × (Int × Unit)))) × (List Int) × (List (List Int)) × Unit)) → (((Unit × Unit × Unit) × ((Int × (Bool × (Unit × (Int × Unit)))) × (List Int) × (List (List Int)) × Unit)) → Option R) → Option R
  | 0, _, _ => none
  | n + 1, x, κ0 => B_57_v3_5 N (fun y => l_57_v3_5 N n y κ0) x κ0
def ap_57_v3 : List Pat := [.ptr 0 [], .ros (.str)]
def hp_57_v3 : List (Option (Pat × Nat)) := [some (.node (.fcons (.int .i64) (.fcons (.bool) (.fcons (.sl 1) (.fcons (.int .i64) (.fnil))))), 151), some (.lst (.int .u8), 5)]
def p_57_v3 {R : Type} (N : Nat) (x : (Unit × (List ByteArray) × Unit) × ((Int × (Bool × (Unit × (Int × Unit)))) × (List Int) × Unit)) (κ0 : ((List (List Int)) × ((Int × (Bool × (Unit × (Int × Unit)))) × (List Int) × Unit)) → Option R) (κ1 : ((List (List Int)) × ((Int × (Bool × (Unit × (Int × Unit)))) × (List Int) × Unit)) → Option R) : Option R :=
let l1216 : (List ByteArray) := x.1.2.1
let i1217 : Int := x.2.1.1
let b1218 : Bool := x.2.1.2.1
let i1219 : Int := x.2.1.2.2.2.1
let l1220 : (List Int) := x.2.2.1
bif (i1217 == 0) then (
κ0 ([], ((i1217, (b1218, ((), (i1219, ())))), l1220, ()))) else (
let i1221 : Int := (((List.length l1216) : Nat) : Int)
l_57_v3_5 N N (((), (), l1216, i1221, 0, ()), ((i1217, (b1218, ((), (i1219, ())))), l1220, [], ())) (fun y1341 =>
let i1342 : Int := y1341.2.1.1
let b1343 : Bool := y1341.2.1.2.1
let i1344 : Int := y1341.2.1.2.2.2.1
let l1345 : (List Int) := y1341.2.2.1
let l1346 : (List (List Int)) := y1341.2.2.2.1
bif decide (List.length l1345 * 1 ≤ 140737488355328) then (
κ1 (l1346, ((i1342, (b1343, ((), (i1344, ())))), l1345, ()))) else none))

abbrev Tl_57_v3_9 (R : Type) : Type := ((Unit × Unit × (List ByteArray) × Int × Int × Unit) × ((Int × (Bool × (Unit × (Int × Unit)))) × (List Int) × (List (List Int)) × Unit)) → (((Unit × Unit × (List ByteArray) × Int × Int × Unit) × ((Int × (Bool × (Unit × (Int × Unit)))) × (List Int) × (List (List Int)) × Unit)) → Option R) → Option R
abbrev Tl_57_v3_5 (R : Type) : Type := ((Unit × Unit × (List ByteArray) × Int × Int × Unit) × ((Int × (Bool × (Unit × (Int × Unit)))) × (List Int) × (List (List Int)) × Unit)) → (((Unit × Unit × Unit) × ((Int × (Bool × (Unit × (Int × Unit)))) × (List Int) × (List (List Int)) × Unit)) → Option R) → Option R
abbrev Tp_57_v3 (R : Type) : Type := (Unit × (List ByteArray) × Unit) × ((Int × (Bool × (Unit × (Int × Unit)))) × (List Int) × Unit) → (((List (List Int)) × ((Int × (Bool × (Unit × (Int × Unit)))) × (List Int) × Unit)) → Option R) → (((List (List Int)) × ((Int × (Bool × (Unit × (Int × Unit)))) × (List Int) × Unit)) → Option R) → Option R
def Q_57_v3 {R : Type} (q_82 : Tp_82 R) (m_57_v3_9 : Tl_57_v3_9 R) (m_57_v3_5 : Tl_57_v3_5 R) (x : (Unit × (List ByteArray) × Unit) × ((Int × (Bool × (Unit × (Int × Unit)))) × (List Int) × Unit)) (κ0 : ((List (List Int)) × ((Int × (Bool × (Unit × (Int × Unit)))) × (List Int) × Unit)) → Option R) (κ1 : ((List (List Int)) × ((Int × (Bool × (Unit × (Int × Unit)))) × (List Int) × Unit)) → Option R) : Option R :=
let l1216 : (List ByteArray) := x.1.2.1
let i1217 : Int := x.2.1.1
let b1218 : Bool := x.2.1.2.1
let i1219 : Int := x.2.1.2.2.2.1
let l1220 : (List Int) := x.2.2.1
bif (i1217 == 0) then (
κ0 ([], ((i1217, (b1218, ((), (i1219, ())))), l1220, ()))) else (
let i1221 : Int := (((List.length l1216) : Nat) : Int)
m_57_v3_5 (((), (), l1216, i1221, 0, ()), ((i1217, (b1218, ((), (i1219, ())))), l1220, [], ())) (fun y1341 =>
let i1342 : Int := y1341.2.1.1
let b1343 : Bool := y1341.2.1.2.1
let i1344 : Int := y1341.2.1.2.2.2.1
let l1345 : (List Int) := y1341.2.2.1
let l1346 : (List (List Int)) := y1341.2.2.2.1
bif decide (List.length l1345 * 1 ≤ 140737488355328) then (
κ1 (l1346, ((i1342, (b1343, ((), (i1344, ())))), l1345, ()))) else none))
def C_57_v3_9 {R : Type} (q_82 : Tp_82 R) (m_57_v3_9 : Tl_57_v3_9 R) (m_57_v3_5 : Tl_57_v3_5 R) (rec : ((Unit × Unit × (List ByteArray) × Int × Int × Unit) × ((Int × (Bool × (Unit × (Int × Unit)))) × (List Int) × (List (List Int)) × Unit)) → Option R) (x : ((Unit × Unit × (List ByteArray) × Int × Int × Unit) × ((Int × (Bool × (Unit × (Int × Unit)))) × (List Int) × (List (List Int)) × Unit))) (κ0 : ((Unit × Unit × (List ByteArray) × Int × Int × Unit) × ((Int × (Bool × (Unit × (Int × Unit)))) × (List Int) × (List (List Int)) × Unit)) → Option R) : Option R :=
let l1317 : (List ByteArray) := x.1.2.2.1
let i1318 : Int := x.1.2.2.2.1
let i1319 : Int := x.1.2.2.2.2.1
let i1320 : Int := x.2.1.1
let b1321 : Bool := x.2.1.2.1
let i1322 : Int := x.2.1.2.2.2.1
let l1323 : (List Int) := x.2.2.1
let l1324 : (List (List Int)) := x.2.2.2.1
q_82 (((), ()), ((i1320, (b1321, ((), (i1322, ())))), l1323, ())) (fun y1325 =>
let b1326 : Bool := y1325
bif b1326 then (
bif decide (0 ≤ i1320) then (
bif decide (i1320 ≤ (((List.length l1323) : Nat) : Int)) then (
bif decide (0 ≤ i1320) then (
bif decide (List.length ((List.take (((Int.toNat i1320) - 0)) (List.drop 0 l1323))) * 1 ≤ 140737488355328) then (
let l1327 : (List Int) := (List.take (((Int.toNat i1320) - 0)) (List.drop 0 l1323))
let l1328 : (List (List Int)) := [l1327]
bif (decide ((List.length l1324 + List.length l1328) * 24 ≤ 140737488355328) && true) then (
let l1329 : (List (List Int)) := (l1324 ++ l1328)
bif decide (0 ≤ (((List.length l1323) : Nat) : Int)) then (
bif decide ((((List.length l1323) : Nat) : Int) ≤ (((List.length l1323) : Nat) : Int)) then (
bif decide (0 ≤ i1320) then (
bif decide (i1320 ≤ (((List.length l1323) : Nat) : Int)) then (
bif decide (0 < ((List.length l1323) - (Int.toNat i1320))) then (
let l1330 : (List Int) := List.take (((List.length l1323) - (Int.toNat i1320))) (List.drop ((Int.toNat i1320)) l1323)
rec (((), (), l1317, i1318, i1319, ()), ((i1320, (b1321, ((), (i1322, ())))), l1330, l1329, ()))) else none) else none) else none) else none) else none) else none) else none) else none) else none) else none) else (
κ0 (((), (), l1317, i1318, i1319, ()), ((i1320, (b1321, ((), (i1322, ())))), l1323, l1324, ()))))
def C_57_v3_5 {R : Type} (q_82 : Tp_82 R) (m_57_v3_9 : Tl_57_v3_9 R) (m_57_v3_5 : Tl_57_v3_5 R) (rec : ((Unit × Unit × (List ByteArray) × Int × Int × Unit) × ((Int × (Bool × (Unit × (Int × Unit)))) × (List Int) × (List (List Int)) × Unit)) → Option R) (x : ((Unit × Unit × (List ByteArray) × Int × Int × Unit) × ((Int × (Bool × (Unit × (Int × Unit)))) × (List Int) × (List (List Int)) × Unit))) (κ0 : ((Unit × Unit × Unit) × ((Int × (Bool × (Unit × (Int × Unit)))) × (List Int) × (List (List Int)) × Unit)) → Option R) : Option R :=
let l1305 : (List ByteArray) := x.1.2.2.1
let i1306 : Int := x.1.2.2.2.1
let i1307 : Int := x.1.2.2.2.2.1
let i1308 : Int := x.2.1.1
let b1309 : Bool := x.2.1.2.1
let i1310 : Int := x.2.1.2.2.2.1
let l1311 : (List Int) := x.2.2.1
let l1312 : (List (List Int)) := x.2.2.2.1
bif (decide (i1307 < i1306)) then (
bif decide (0 ≤ i1307) then (
bif decide (i1307 < ((List.length l1305) : Int)) then (
let p1313 : ByteArray := (List.getD l1305 ((Int.toNat i1307)) (Sch.zero (.str)))
let i1314 : Int := ((ByteArray.size p1313 : Nat) : Int)
let i1315 : Int := addA .i64 i1310 i1314
bif (decide ((List.length l1311 + List.length (strList p1313)) * 1 ≤ 140737488355328) && true) then (
let l1316 : (List Int) := (l1311 ++ strList p1313)
m_57_v3_9 (((), (), l1305, i1306, i1307, ()), ((i1308, (b1309, ((), (i1315, ())))), l1316, l1312, ())) (fun y1331 =>
let l1332 : (List ByteArray) := y1331.1.2.2.1
let i1333 : Int := y1331.1.2.2.2.1
let i1334 : Int := y1331.1.2.2.2.2.1
let i1335 : Int := y1331.2.1.1
let b1336 : Bool := y1331.2.1.2.1
let i1337 : Int := y1331.2.1.2.2.2.1
let l1338 : (List Int) := y1331.2.2.1
let l1339 : (List (List Int)) := y1331.2.2.2.1
let i1340 : Int := addA .i64 i1334 1
rec (((), (), l1332, i1333, i1340, ()), ((i1335, (b1336, ((), (i1337, ())))), l1338, l1339, ())))) else none) else none) else none) else (
κ0 (((), (), ()), ((i1308, (b1309, ((), (i1310, ())))), l1311, l1312, ())))
def EG_57_v3 {R : Type} (q_82 : Tp_82 R) : Env R := (Env.base QQ LN).add 82 ap_82 hp_82 (fun (x : aden ap_82 × hden hp_82) k => q_82 x (fun y => k (Pat.inst (.bool) y) (instH hp_82 x.2)))
def LG_57_v3 {R : Type} (m_57_v3_9 : Tl_57_v3_9 R) (m_57_v3_5 : Tl_57_v3_5 R) : Loops R := ((Loops.none).add 9 (loopBy 2 lv_57_v3_9 pt_57_v3_9 (fun x k => m_57_v3_9 x (fun y => k (.exit 2) (px_57_v3_9_0.inst y))))).add 5 (loopBy 2 lv_57_v3_5 pt_57_v3_5 (fun x k => m_57_v3_5 x (fun y => k (.exit 0) (px_57_v3_5_0.inst y))))
def E_57_v3 {R : Type} (N : Nat) : Env R := EG_57_v3 (p_82 N)
theorem eok_57_v3 {R : Type} (N : Nat) : EK Try.prog (E_57_v3 (R := R) N) := ek_add (ek_base _ _) (good_82 N)
def L_57_v3 {R : Type} (N : Nat) : Loops R := LG_57_v3 (l_57_v3_9 N N) (l_57_v3_5 N N)
theorem gstep_57_v3_9 {R : Type} (q_82 : Tp_82 R) (m_57_v3_9 : Tl_57_v3_9 R) (m_57_v3_5 : Tl_57_v3_5 R) (n : Nat) (x : pt_57_v3_9.den) (k : Exit → St → Option R) : iter 2 lv_57_v3_9 lo_57_v3_9 (aexec TT (EG_57_v3 q_82) (drawAny TT WW) (LG_57_v3 m_57_v3_9 m_57_v3_5) (loopAt 9 (bodyOf Try.f57))) (n + 1) (pt_57_v3_9.inst x) k = C_57_v3_9 q_82 m_57_v3_9 m_57_v3_5 (fun y => iter 2 lv_57_v3_9 lo_57_v3_9 (aexec TT (EG_57_v3 q_82) (drawAny TT WW) (LG_57_v3 m_57_v3_9 m_57_v3_5) (loopAt 9 (bodyOf Try.f57))) n (pt_57_v3_9.inst y) k) x (fun y => k (.exit 2) (px_57_v3_9_0.inst y)) := by kernel_rfl
theorem step_57_v3_9 {R : Type} (N n : Nat) (x : pt_57_v3_9.den) (k : Exit → St → Option R) : iter 2 lv_57_v3_9 lo_57_v3_9 (aexec TT (E_57_v3 (R := R) N) (drawAny TT WW) (L_57_v3 N) (loopAt 9 (bodyOf Try.f57))) (n + 1) (pt_57_v3_9.inst x) k = B_57_v3_9 N (fun y => iter 2 lv_57_v3_9 lo_57_v3_9 (aexec TT (E_57_v3 (R := R) N) (drawAny TT WW) (L_57_v3 N) (loopAt 9 (bodyOf Try.f57))) n (pt_57_v3_9.inst y) k) x (fun y => k (.exit 2) (px_57_v3_9_0.inst y)) := (gstep_57_v3_9 (p_82 N) (l_57_v3_9 N N) (l_57_v3_5 N N) n x k).trans (by kernel_rfl)
theorem eq_57_v3_9 {R : Type} (N : Nat) : ∀ (n : Nat) (x : pt_57_v3_9.den) (k : Exit → St → Option R), iter 2 lv_57_v3_9 lo_57_v3_9 (aexec TT (E_57_v3 (R := R) N) (drawAny TT WW) (L_57_v3 N) (loopAt 9 (bodyOf Try.f57))) n (pt_57_v3_9.inst x) k = l_57_v3_9 N n x (fun y => k (.exit 2) (px_57_v3_9_0.inst y)) :=
  iter_eq (K := Exit → St → Option R) (ks := fun k => k) (l := fun n (x : pt_57_v3_9.den) k => l_57_v3_9 N n x (fun y => k (.exit 2) (px_57_v3_9_0.inst y))) (B := fun (rec : pt_57_v3_9.den → Option R) (x : pt_57_v3_9.den) k => B_57_v3_9 N rec x (fun y => k (.exit 2) (px_57_v3_9_0.inst y))) (fun _ _ => rfl) (fun _ _ _ => rfl) (fun n x k => step_57_v3_9 N n x k)
theorem rounds_57_v3_9 {R : Type} (N : Nat) : Rounds 2 TT (E_57_v3 (R := R) N) (drawAny TT WW) (L_57_v3 N) 9 (loopAt 9 (bodyOf Try.f57)) :=
  rounds_of (p := pt_57_v3_9) (l := fun (x : pt_57_v3_9.den) k => l_57_v3_9 N N x (fun y => k (.exit 2) (px_57_v3_9_0.inst y))) (fun s k => rfl) (fun x k => eq_57_v3_9 N N x k)
theorem gstep_57_v3_5 {R : Type} (q_82 : Tp_82 R) (m_57_v3_9 : Tl_57_v3_9 R) (m_57_v3_5 : Tl_57_v3_5 R) (n : Nat) (x : pt_57_v3_5.den) (k : Exit → St → Option R) : iter 2 lv_57_v3_5 lo_57_v3_5 (aexec TT (EG_57_v3 q_82) (drawAny TT WW) (LG_57_v3 m_57_v3_9 m_57_v3_5) (loopAt 5 (bodyOf Try.f57))) (n + 1) (pt_57_v3_5.inst x) k = C_57_v3_5 q_82 m_57_v3_9 m_57_v3_5 (fun y => iter 2 lv_57_v3_5 lo_57_v3_5 (aexec TT (EG_57_v3 q_82) (drawAny TT WW) (LG_57_v3 m_57_v3_9 m_57_v3_5) (loopAt 5 (bodyOf Try.f57))) n (pt_57_v3_5.inst y) k) x (fun y => k (.exit 0) (px_57_v3_5_0.inst y)) := by kernel_rfl
theorem step_57_v3_5 {R : Type} (N n : Nat) (x : pt_57_v3_5.den) (k : Exit → St → Option R) : iter 2 lv_57_v3_5 lo_57_v3_5 (aexec TT (E_57_v3 (R := R) N) (drawAny TT WW) (L_57_v3 N) (loopAt 5 (bodyOf Try.f57))) (n + 1) (pt_57_v3_5.inst x) k = B_57_v3_5 N (fun y => iter 2 lv_57_v3_5 lo_57_v3_5 (aexec TT (E_57_v3 (R := R) N) (drawAny TT WW) (L_57_v3 N) (loopAt 5 (bodyOf Try.f57))) n (pt_57_v3_5.inst y) k) x (fun y => k (.exit 0) (px_57_v3_5_0.inst y)) := (gstep_57_v3_5 (p_82 N) (l_57_v3_9 N N) (l_57_v3_5 N N) n x k).trans (by kernel_rfl)
theorem eq_57_v3_5 {R : Type} (N : Nat) : ∀ (n : Nat) (x : pt_57_v3_5.den) (k : Exit → St → Option R), iter 2 lv_57_v3_5 lo_57_v3_5 (aexec TT (E_57_v3 (R := R) N) (drawAny TT WW) (L_57_v3 N) (loopAt 5 (bodyOf Try.f57))) n (pt_57_v3_5.inst x) k = l_57_v3_5 N n x (fun y => k (.exit 0) (px_57_v3_5_0.inst y)) :=
  iter_eq (K := Exit → St → Option R) (ks := fun k => k) (l := fun n (x : pt_57_v3_5.den) k => l_57_v3_5 N n x (fun y => k (.exit 0) (px_57_v3_5_0.inst y))) (B := fun (rec : pt_57_v3_5.den → Option R) (x : pt_57_v3_5.den) k => B_57_v3_5 N rec x (fun y => k (.exit 0) (px_57_v3_5_0.inst y))) (fun _ _ => rfl) (fun _ _ _ => rfl) (fun n x k => step_57_v3_5 N n x k)
theorem rounds_57_v3_5 {R : Type} (N : Nat) : Rounds 2 TT (E_57_v3 (R := R) N) (drawAny TT WW) (L_57_v3 N) 5 (loopAt 5 (bodyOf Try.f57)) :=
  rounds_of (p := pt_57_v3_5) (l := fun (x : pt_57_v3_5.den) k => l_57_v3_5 N N x (fun y => k (.exit 0) (px_57_v3_5_0.inst y))) (fun s k => rfl) (fun x k => eq_57_v3_5 N N x k)
theorem loops_57_v3 : loopsIn (bodyOf Try.f57) = [(5, loopAt 5 (bodyOf Try.f57)), (9, loopAt 9 (bodyOf Try.f57))] := by kernel_rfl
theorem lok_57_v3 {R : Type} (N : Nat) : LOK 2 TT (E_57_v3 (R := R) N) (drawAny TT WW) (L_57_v3 N) (bodyOf Try.f57) := loops_all loops_57_v3 (by
  simp only [List.forall_mem_cons, List.not_mem_nil, false_implies, implies_true, and_true]
  exact ⟨rounds_57_v3_5 N, rounds_57_v3_9 N⟩)
theorem grun_57_v3 {R : Type} (q_82 : Tp_82 R) (m_57_v3_9 : Tl_57_v3_9 R) (m_57_v3_5 : Tl_57_v3_5 R) (x : aden ap_57_v3 × hden hp_57_v3) (k : KF R) : fnrun TT (EG_57_v3 q_82) (drawAny TT WW) (LG_57_v3 m_57_v3_9 m_57_v3_5) true Try.f57 (instA ap_57_v3 x.1) (instH hp_57_v3 x.2) k = Q_57_v3 q_82 m_57_v3_9 m_57_v3_5 x (fun y => k (Pat.inst (.ros (.sl (.int .u8))) y.1) (instH [some (.node (.fcons (.int .i64) (.fcons (.bool) (.fcons (.sl 1) (.fcons (.int .i64) (.fnil))))), 151), some (.lst (.int .u8), 5)] y.2)) (fun y => k (Pat.inst (.ros (.sl (.int .u8))) y.1) (instH [some (.node (.fcons (.int .i64) (.fcons (.bool) (.fcons (.sl 2) (.fcons (.int .i64) (.fnil))))), 151), none, some (.lst (.int .u8), 5)] y.2)) := by kernel_rfl
theorem run_57_v3 {R : Type} (N : Nat) (x : aden ap_57_v3 × hden hp_57_v3) (k : KF R) : fnrun TT (E_57_v3 (R := R) N) (drawAny TT WW) (L_57_v3 N) true Try.f57 (instA ap_57_v3 x.1) (instH hp_57_v3 x.2) k = p_57_v3 N x (fun y => k (Pat.inst (.ros (.sl (.int .u8))) y.1) (instH [some (.node (.fcons (.int .i64) (.fcons (.bool) (.fcons (.sl 1) (.fcons (.int .i64) (.fnil))))), 151), some (.lst (.int .u8), 5)] y.2)) (fun y => k (Pat.inst (.ros (.sl (.int .u8))) y.1) (instH [some (.node (.fcons (.int .i64) (.fcons (.bool) (.fcons (.sl 2) (.fcons (.int .i64) (.fnil))))), 151), none, some (.lst (.int .u8), 5)] y.2)) := (grun_57_v3 (p_82 N) (l_57_v3_9 N N) (l_57_v3_5 N N) x k).trans (by kernel_rfl)
theorem good_57_v3 {R : Type} (N : Nat) : GD (X := R) Try.prog QQ 57 ap_57_v3 hp_57_v3 (fun (x : aden ap_57_v3 × hden hp_57_v3) k => p_57_v3 N x (fun y => k (Pat.inst (.ros (.sl (.int .u8))) y.1) (instH [some (.node (.fcons (.int .i64) (.fcons (.bool) (.fcons (.sl 1) (.fcons (.int .i64) (.fnil))))), 151), some (.lst (.int .u8), 5)] y.2)) (fun y => k (Pat.inst (.ros (.sl (.int .u8))) y.1) (instH [some (.node (.fcons (.int .i64) (.fcons (.bool) (.fcons (.sl 2) (.fcons (.int .i64) (.fnil))))), 151), none, some (.lst (.int .u8), 5)] y.2))) :=
  gd_loud (E := E_57_v3 N) (p := fun (x : aden ap_57_v3 × hden hp_57_v3) k => p_57_v3 N x (fun y => k (Pat.inst (.ros (.sl (.int .u8))) y.1) (instH [some (.node (.fcons (.int .i64) (.fcons (.bool) (.fcons (.sl 1) (.fcons (.int .i64) (.fnil))))), 151), some (.lst (.int .u8), 5)] y.2)) (fun y => k (Pat.inst (.ros (.sl (.int .u8))) y.1) (instH [some (.node (.fcons (.int .i64) (.fcons (.bool) (.fcons (.sl 2) (.fcons (.int .i64) (.fnil))))), 151), none, some (.lst (.int .u8), 5)] y.2))) mixed tyok (eok_57_v3 N) Try.func57 (by kernel_rfl) (by kernel_rfl) (by kernel_rfl) (lok_57_v3 N) (fun x k => run_57_v3 N x k)

end Go.Proofs.Ytnfhngcdddjilaa.Eng
