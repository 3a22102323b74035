/-
Plain functions that the functions of the program are shown to come to, printed by a program of the prover; each with its proof.
Conditions: none.
-/
import Derived.Test.YtnfhngcdddjilaaProg
import Derived.Test.YtnfhngcdddjilaaEngY
import Derived.KernelRfl
set_option linter.unusedVariables false
namespace Go.Proofs.Ytnfhngcdddjilaa.Eng
def TT : Types := [(3, ⟨.int .i64, 1, 8, .int .i64 0, some (.int .i64), false, false⟩),
  (42, ⟨.slice 9, 1, 24, .nils, some (.sl (.str)), false, false⟩),
  (4, ⟨.bool, 1, 1, .bool false, some (.bool), false, false⟩),
  (26, ⟨.int .i64, 1, 8, .int .i64 0, some (.int .i64), false, false⟩),
  (9, ⟨.str, 1, 16, .str ⟨#[]⟩, some (.str), false, false⟩),
  (49, ⟨.ptr 115, 1, 8, .nilp, none, false, false⟩),
  (113, ⟨.ptr 151, 1, 8, .nilp, none, false, false⟩),
  (151, ⟨.stru [(3, 0), (4, 1), (24, 2), (3, 3)], 4, 48, .node (.fcons (.int .i64 0) (.fcons (.bool false) (.fcons (.nils) (.fcons (.int .i64 0) (.fnil))))), some (.stru (.fcons (.int .i64) (.fcons (.bool) (.fcons (.sl (.int .u8)) (.fcons (.int .i64) (.fnil)))))), false, true⟩),
  (24, ⟨.slice 5, 1, 24, .nils, some (.sl (.int .u8)), false, false⟩),
  (23, ⟨.arr 8 22, 8, 64, .vec (.int .u64) 8 (Sch.zero (.arr 8 (.int .u64))), some (.arr 8 (.int .u64)), true, false⟩),
  (115, ⟨.stru [(113, 0), (23, 1), (3, 9), (22, 10)], 11, 88, .node (.fcons (.nilp) (.fcons (.vec (.int .u64) 8 (Sch.zero (.arr 8 (.int .u64)))) (.fcons (.int .i64 0) (.fcons (.int .u64 0) (.fnil))))), none, false, false⟩),
  (22, ⟨.int .u64, 1, 8, .int .u64 0, some (.int .u64), false, false⟩),
  (5, ⟨.int .u8, 1, 1, .int .u8 0, some (.int .u8), false, false⟩),
  (117, ⟨.slice 24, 1, 24, .nils, some (.sl (.sl (.int .u8))), false, false⟩),
  (94, ⟨.slice 22, 1, 24, .nils, some (.sl (.int .u64)), false, false⟩),
  (97, ⟨.arr 16 22, 16, 128, .vec (.int .u64) 16 (Sch.zero (.arr 16 (.int .u64))), some (.arr 16 (.int .u64)), true, false⟩),
  (99, ⟨.arr 8 98, 32, 256, .vec (.arr 4 (.int .i64)) 8 (Sch.zero (.arr 8 (.arr 4 (.int .i64)))), some (.arr 8 (.arr 4 (.int .i64))), true, false⟩),
  (98, ⟨.arr 4 3, 4, 32, .vec (.int .i64) 4 (Sch.zero (.arr 4 (.int .i64))), some (.arr 4 (.int .i64)), true, false⟩),
  (38, ⟨.arr 16 3, 16, 128, .vec (.int .i64) 16 (Sch.zero (.arr 16 (.int .i64))), some (.arr 16 (.int .i64)), true, false⟩),
  (109, ⟨.arr 10 9, 10, 160, .vec (.str) 10 (Sch.zero (.arr 10 (.str))), some (.arr 10 (.str)), true, false⟩),
  (121, ⟨.int .u64, 1, 8, .int .u64 0, some (.int .u64), false, false⟩),
  (124, ⟨.int .u32, 1, 4, .int .u32 0, some (.int .u32), false, false⟩),
  (152, ⟨.slice 124, 1, 24, .nils, some (.sl (.int .u32)), false, false⟩)]
theorem tyok : TyOk Try.prog TT := TyOk.of (by kernel_rfl)
theorem mixed : Try.prog.follows .mixedOrders = true := by kernel_rfl
def QQ : FuncId → Bool := fun f => memN [12, 15, 17, 19, 21, 24, 28, 31, 32, 46, 51, 82] f
def LN : FuncId → Bool := fun f => memN [12, 56] f
def WW : FuncId → Bool := fun f => QQ f || LN f
def ap_31 : List Pat := [.int .i64]
def hp_31 : List (Option (Pat × Nat)) := []
def p_31 {R : Type} (N : Nat) (x : (Int × Unit) × (Unit)) (κ0 : (Int × (Int × Unit)) → Option R) : Option R :=
let i3 : Int := x.1.1
bif (decide (i3 < 1)) then (
κ0 ((0, (1, ())))) else (
bif (decide (i3 > 65536)) then (
κ0 ((0, (1, ())))) else (
bif (decide (i3 ≤ 64)) then (
κ0 ((0, (0, ())))) else (
let i4 : Int := addA .i64 i3 31
let i5 : Int := quoA .i64 i4 32
let i6 : Int := subA .i64 i5 2
κ0 ((i6, (0, ()))))))

abbrev Tp_31 (R : Type) : Type := (Int × Unit) × (Unit) → ((Int × (Int × Unit)) → Option R) → Option R
def Q_31 {R : Type} (x : (Int × Unit) × (Unit)) (κ0 : (Int × (Int × Unit)) → Option R) : Option R :=
let i3 : Int := x.1.1
bif (decide (i3 < 1)) then (
κ0 ((0, (1, ())))) else (
bif (decide (i3 > 65536)) then (
κ0 ((0, (1, ())))) else (
bif (decide (i3 ≤ 64)) then (
κ0 ((0, (0, ())))) else (
let i4 : Int := addA .i64 i3 31
let i5 : Int := quoA .i64 i4 32
let i6 : Int := subA .i64 i5 2
κ0 ((i6, (0, ()))))))
def EG_31 {R : Type} : Env R := Env.base QQ LN
def LG_31 {R : Type} : Loops R := Loops.none
def E_31 {R : Type} (N : Nat) : Env R := EG_31
theorem eok_31 {R : Type} (N : Nat) : EK Try.prog (E_31 (R := R) N) := ek_base _ _
def L_31 {R : Type} (N : Nat) : Loops R := LG_31
theorem lok_31 {R : Type} (N : Nat) : LOK 0 TT (E_31 (R := R) N) (drawAny TT WW) (L_31 N) (bodyOf Try.f31) := loops_nil (by kernel_rfl)
theorem grun_31 {R : Type} (x : aden ap_31 × hden hp_31) (k : KF R) : fnrun TT (EG_31) (drawAny TT WW) (LG_31) true Try.f31 (instA ap_31 x.1) (instH hp_31 x.2) k = Q_31 x (fun y => k (Pat.inst (.tup (.fcons (.int .i64) (.fcons (.int .i64) (.fnil)))) y) (instH hp_31 x.2)) := by kernel_rfl
theorem run_31 {R : Type} (N : Nat) (x : aden ap_31 × hden hp_31) (k : KF R) : fnrun TT (E_31 (R := R) N) (drawAny TT WW) (L_31 N) true Try.f31 (instA ap_31 x.1) (instH hp_31 x.2) k = p_31 N x (fun y => k (Pat.inst (.tup (.fcons (.int .i64) (.fcons (.int .i64) (.fnil)))) y) (instH hp_31 x.2)) := (grun_31 x k).trans (by kernel_rfl)
theorem good_31 {R : Type} (N : Nat) : GD (X := R) Try.prog QQ 31 ap_31 hp_31 (fun (x : aden ap_31 × hden hp_31) k => p_31 N x (fun y => k (Pat.inst (.tup (.fcons (.int .i64) (.fcons (.int .i64) (.fnil)))) y) (instH hp_31 x.2))) :=
  gd_quiet (E := E_31 N) (p := fun (x : aden ap_31 × hden hp_31) κ => p_31 N x (fun y => κ (Pat.inst (.tup (.fcons (.int .i64) (.fcons (.int .i64) (.fnil)))) y))) mixed tyok (eok_31 N) Try.func31 (by kernel_rfl) (by kernel_rfl) (lok_31 N) (fun x k => run_31 N x k)

def ap_58 : List Pat := [.int .i64, .bool]
def hp_58 : List (Option (Pat × Nat)) := []
def p_58 {R : Type} (N : Nat) (x : (Int × Bool × Unit) × (Unit)) (κ0 : ((Unit × (Int × Unit)) × (Unit)) → Option R) (κ1 : ((Unit × (Int × Unit)) × ((Int × (Bool × (Unit × (Int × Unit)))) × (List Int) × Unit)) → Option R) : Option R :=
let i24 : Int := x.1.1
let b25 : Bool := x.1.2.1
bif (decide (i24 < 1)) then (
κ0 (((), (1, ())), ())) else (
bif (decide (i24 > 65536)) then (
κ0 (((), (1, ())), ())) else (
κ1 (((), (0, ())), ((i24, (b25, ((), (0, ())))), ([] : List Int), ()))))

abbrev Tp_58 (R : Type) : Type := (Int × Bool × Unit) × (Unit) → (((Unit × (Int × Unit)) × (Unit)) → Option R) → (((Unit × (Int × Unit)) × ((Int × (Bool × (Unit × (Int × Unit)))) × (List Int) × Unit)) → Option R) → Option R
def Q_58 {R : Type} (x : (Int × Bool × Unit) × (Unit)) (κ0 : ((Unit × (Int × Unit)) × (Unit)) → Option R) (κ1 : ((Unit × (Int × Unit)) × ((Int × (Bool × (Unit × (Int × Unit)))) × (List Int) × Unit)) → Option R) : Option R :=
let i24 : Int := x.1.1
let b25 : Bool := x.1.2.1
bif (decide (i24 < 1)) then (
κ0 (((), (1, ())), ())) else (
bif (decide (i24 > 65536)) then (
κ0 (((), (1, ())), ())) else (
κ1 (((), (0, ())), ((i24, (b25, ((), (0, ())))), ([] : List Int), ()))))
def EG_58 {R : Type} : Env R := Env.base QQ LN
def LG_58 {R : Type} : Loops R := Loops.none
def E_58 {R : Type} (N : Nat) : Env R := EG_58
theorem eok_58 {R : Type} (N : Nat) : EK Try.prog (E_58 (R := R) N) := ek_base _ _
def L_58 {R : Type} (N : Nat) : Loops R := LG_58
theorem lok_58 {R : Type} (N : Nat) : LOK 0 TT (E_58 (R := R) N) (drawAny TT WW) (L_58 N) (bodyOf Try.f58) := loops_nil (by kernel_rfl)
theorem grun_58 {R : Type} (x : aden ap_58 × hden hp_58) (k : KF R) : fnrun TT (EG_58) (drawAny TT WW) (LG_58) true Try.f58 (instA ap_58 x.1) (instH hp_58 x.2) k = Q_58 x (fun y => k (Pat.inst (.tup (.fcons (.nilp) (.fcons (.int .i64) (.fnil)))) y.1) (instH [] y.2)) (fun y => k (Pat.inst (.tup (.fcons (.ptr 0 []) (.fcons (.int .i64) (.fnil)))) y.1) (instH [some (.node (.fcons (.int .i64) (.fcons (.bool) (.fcons (.sl 1) (.fcons (.int .i64) (.fnil))))), 151), some (.lst (.int .u8), 5)] y.2)) := by kernel_rfl
theorem run_58 {R : Type} (N : Nat) (x : aden ap_58 × hden hp_58) (k : KF R) : fnrun TT (E_58 (R := R) N) (drawAny TT WW) (L_58 N) true Try.f58 (instA ap_58 x.1) (instH hp_58 x.2) k = p_58 N x (fun y => k (Pat.inst (.tup (.fcons (.nilp) (.fcons (.int .i64) (.fnil)))) y.1) (instH [] y.2)) (fun y => k (Pat.inst (.tup (.fcons (.ptr 0 []) (.fcons (.int .i64) (.fnil)))) y.1) (instH [some (.node (.fcons (.int .i64) (.fcons (.bool) (.fcons (.sl 1) (.fcons (.int .i64) (.fnil))))), 151), some (.lst (.int .u8), 5)] y.2)) := (grun_58 x k).trans (by kernel_rfl)
theorem good_58 {R : Type} (N : Nat) : GD (X := R) Try.prog QQ 58 ap_58 hp_58 (fun (x : aden ap_58 × hden hp_58) k => p_58 N x (fun y => k (Pat.inst (.tup (.fcons (.nilp) (.fcons (.int .i64) (.fnil)))) y.1) (instH [] y.2)) (fun y => k (Pat.inst (.tup (.fcons (.ptr 0 []) (.fcons (.int .i64) (.fnil)))) y.1) (instH [some (.node (.fcons (.int .i64) (.fcons (.bool) (.fcons (.sl 1) (.fcons (.int .i64) (.fnil))))), 151), some (.lst (.int .u8), 5)] y.2))) :=
  gd_loud (E := E_58 N) (p := fun (x : aden ap_58 × hden hp_58) k => p_58 N x (fun y => k (Pat.inst (.tup (.fcons (.nilp) (.fcons (.int .i64) (.fnil)))) y.1) (instH [] y.2)) (fun y => k (Pat.inst (.tup (.fcons (.ptr 0 []) (.fcons (.int .i64) (.fnil)))) y.1) (instH [some (.node (.fcons (.int .i64) (.fcons (.bool) (.fcons (.sl 1) (.fcons (.int .i64) (.fnil))))), 151), some (.lst (.int .u8), 5)] y.2))) mixed tyok (eok_58 N) Try.func58 (by kernel_rfl) (by kernel_rfl) (by kernel_rfl) (lok_58 N) (fun x k => run_58 N x k)

def ap_15 : List Pat := []
def hp_15 : List (Option (Pat × Nat)) := []
def p_15 {R : Type} (N : Nat) (x : (Unit) × (Unit)) (κ0 : (Nat → Int) → Option R) : Option R :=
let a28 : (Nat → Int) := (upd ((upd ((upd ((upd ((upd ((upd ((upd ((upd ((Sch.zero (.arr 8 (.int .u64)))) 0 7640891576956012808)) 1 13503953896175478587)) 2 4354685564936845355)) 3 11912009170470909681)) 4 5840696475078001361)) 5 11170449401992604703)) 6 2270897969802886507)) 7 6620516959819538809)
κ0 a28

abbrev Tp_15 (R : Type) : Type := (Unit) × (Unit) → ((Nat → Int) → Option R) → Option R
def Q_15 {R : Type} (x : (Unit) × (Unit)) (κ0 : (Nat → Int) → Option R) : Option R :=
let a28 : (Nat → Int) := (upd ((upd ((upd ((upd ((upd ((upd ((upd ((upd ((Sch.zero (.arr 8 (.int .u64)))) 0 7640891576956012808)) 1 13503953896175478587)) 2 4354685564936845355)) 3 11912009170470909681)) 4 5840696475078001361)) 5 11170449401992604703)) 6 2270897969802886507)) 7 6620516959819538809)
κ0 a28
def EG_15 {R : Type} : Env R := Env.base QQ LN
def LG_15 {R : Type} : Loops R := Loops.none
def E_15 {R : Type} (N : Nat) : Env R := EG_15
theorem eok_15 {R : Type} (N : Nat) : EK Try.prog (E_15 (R := R) N) := ek_base _ _
def L_15 {R : Type} (N : Nat) : Loops R := LG_15
theorem lok_15 {R : Type} (N : Nat) : LOK 0 TT (E_15 (R := R) N) (drawAny TT WW) (L_15 N) (bodyOf Try.f15) := loops_nil (by kernel_rfl)
theorem grun_15 {R : Type} (x : aden ap_15 × hden hp_15) (k : KF R) : fnrun TT (EG_15) (drawAny TT WW) (LG_15) true Try.f15 (instA ap_15 x.1) (instH hp_15 x.2) k = Q_15 x (fun y => k (Pat.inst (.vec (.int .u64) 8) y) (instH hp_15 x.2)) := by kernel_rfl
theorem run_15 {R : Type} (N : Nat) (x : aden ap_15 × hden hp_15) (k : KF R) : fnrun TT (E_15 (R := R) N) (drawAny TT WW) (L_15 N) true Try.f15 (instA ap_15 x.1) (instH hp_15 x.2) k = p_15 N x (fun y => k (Pat.inst (.vec (.int .u64) 8) y) (instH hp_15 x.2)) := (grun_15 x k).trans (by kernel_rfl)
theorem good_15 {R : Type} (N : Nat) : GD (X := R) Try.prog QQ 15 ap_15 hp_15 (fun (x : aden ap_15 × hden hp_15) k => p_15 N x (fun y => k (Pat.inst (.vec (.int .u64) 8) y) (instH hp_15 x.2))) :=
  gd_quiet (E := E_15 N) (p := fun (x : aden ap_15 × hden hp_15) κ => p_15 N x (fun y => κ (Pat.inst (.vec (.int .u64) 8) y))) mixed tyok (eok_15 N) Try.func15 (by kernel_rfl) (by kernel_rfl) (lok_15 N) (fun x k => run_15 N x k)

def ap_57 : List Pat := [.nilp, .sl 0]
def hp_57 : List (Option (Pat × Nat)) := [some (.lst (.str), 9)]
def p_57 {R : Type} (N : Nat) (x : (Unit × Unit × Unit) × ((List ByteArray) × Unit)) (κ0 : ((List (List Int)) × ((List ByteArray) × Unit)) → Option R) : Option R :=
let l49 : (List ByteArray) := x.2.1
κ0 ([], (l49, ()))

abbrev Tp_57 (R : Type) : Type := (Unit × Unit × Unit) × ((List ByteArray) × Unit) → (((List (List Int)) × ((List ByteArray) × Unit)) → Option R) → Option R
def Q_57 {R : Type} (x : (Unit × Unit × Unit) × ((List ByteArray) × Unit)) (κ0 : ((List (List Int)) × ((List ByteArray) × Unit)) → Option R) : Option R :=
let l49 : (List ByteArray) := x.2.1
κ0 ([], (l49, ()))
def EG_57 {R : Type} : Env R := Env.base QQ LN
def LG_57 {R : Type} : Loops R := Loops.none
def E_57 {R : Type} (N : Nat) : Env R := EG_57
theorem eok_57 {R : Type} (N : Nat) : EK Try.prog (E_57 (R := R) N) := ek_base _ _
def L_57 {R : Type} (N : Nat) : Loops R := LG_57
theorem loops_57 : loopsIn (bodyOf Try.f57) = [(5, loopAt 5 (bodyOf Try.f57)), (9, loopAt 9 (bodyOf Try.f57))] := by kernel_rfl
theorem lok_57 {R : Type} (N : Nat) : LOK 1 TT (E_57 (R := R) N) (drawAny TT WW) (L_57 N) (bodyOf Try.f57) := loops_all loops_57 (by
  simp only [List.forall_mem_cons, List.not_mem_nil, false_implies, implies_true, and_true]
  exact ⟨rounds_none (fun _ _ => rfl), rounds_none (fun _ _ => rfl)⟩)
theorem grun_57 {R : Type} (x : aden ap_57 × hden hp_57) (k : KF R) : fnrun TT (EG_57) (drawAny TT WW) (LG_57) true Try.f57 (instA ap_57 x.1) (instH hp_57 x.2) k = Q_57 x (fun y => k (Pat.inst (.ros (.sl (.int .u8))) y.1) (instH [some (.lst (.str), 9)] y.2)) := by kernel_rfl
theorem run_57 {R : Type} (N : Nat) (x : aden ap_57 × hden hp_57) (k : KF R) : fnrun TT (E_57 (R := R) N) (drawAny TT WW) (L_57 N) true Try.f57 (instA ap_57 x.1) (instH hp_57 x.2) k = p_57 N x (fun y => k (Pat.inst (.ros (.sl (.int .u8))) y.1) (instH [some (.lst (.str), 9)] y.2)) := (grun_57 x k).trans (by kernel_rfl)
theorem good_57 {R : Type} (N : Nat) : GD (X := R) Try.prog QQ 57 ap_57 hp_57 (fun (x : aden ap_57 × hden hp_57) k => p_57 N x (fun y => k (Pat.inst (.ros (.sl (.int .u8))) y.1) (instH [some (.lst (.str), 9)] y.2))) :=
  gd_loud (E := E_57 N) (p := fun (x : aden ap_57 × hden hp_57) k => p_57 N x (fun y => k (Pat.inst (.ros (.sl (.int .u8))) y.1) (instH [some (.lst (.str), 9)] y.2))) mixed tyok (eok_57 N) Try.func57 (by kernel_rfl) (by kernel_rfl) (by kernel_rfl) (lok_57 N) (fun x k => run_57 N x k)

def lv_45_5 : Live := [(4, none), (15, none), (16, none), (17, none)]
def pt_45_5 : SPat := ⟨[(4, .sl 0), (15, .ros (.int .u8)), (16, .int .i64), (17, .int .i64)], [some (.lst (.int .u64), 22)]⟩
def px_45_5_0 : SPat := ⟨[(4, .sl 0)], [some (.lst (.int .u64), 22)]⟩
def lo_45_5 : Exit → Live
  | .exit 0 => [(4, none)]
  | _ => []
def B_45_5 {R : Type} (N : Nat) (rec : ((Unit × (List Int) × Int × Int × Unit) × ((List Int) × Unit)) → Option R) (x : ((Unit × (List Int) × Int × Int × Unit) × ((List Int) × Unit))) (κ0 : ((Unit × Unit) × ((List Int) × Unit)) → Option R) : Option R :=
let l76 : (List Int) := x.1.2.1
let i77 : Int := x.1.2.2.1
let i78 : Int := x.1.2.2.2.1
let l79 : (List Int) := x.2.1
bif (decide (i78 < i77)) then (
bif decide (0 ≤ i78) then (
bif decide (i78 < ((List.length l76) : Int)) then (
let p80 : Int := (List.getD l76 ((Int.toNat i78)) (Sch.zero (.int .u8)))
let i81 : Int := quoA .i64 i78 8
bif decide (0 ≤ i81) then (
bif decide (i81 < ((List.length l79) : Int)) then (
let i82 : Int := (List.getD l79 ((Int.toNat i81)) (Sch.zero (.int .u64)))
let i83 : Int := IntKind.wrap .u64 p80
let i84 : Int := remA .i64 i78 8
let i85 : Int := mulA .i64 8 i84
bif decide (i85 < 0) then none else (
let i86 : Int := shlA .u64 i83 i85
let i87 : Int := orA .u64 i82 i86
bif decide (0 ≤ i81) then (
bif decide (i81 < ((List.length l79) : Int)) then (
let l88 : (List Int) := (List.set l79 ((Int.toNat i81)) i87)
let i89 : Int := addA .i64 i78 1
rec (((), l76, i77, i89, ()), (l88, ()))) else none) else none)) else none) else none) else none) else none) else (
κ0 (((), ()), (l79, ())))
def l_45_5 {R : Type} (N : Nat) : Nat → ((Unit × (List Int) × Int × Int × Unit) × ((List Int) × Unit)) → (((Unit × Unit) × ((List Int) × Unit)) → Option R) → Option R
  | 0, _, _ => none
  | n + 1, x, κ0 => B_45_5 N (fun y => l_45_5 N n y κ0) x κ0
def ap_45 : List Pat := [.ros (.int .u8)]
def hp_45 : List (Option (Pat × Nat)) := []
def p_45 {R : Type} (N : Nat) (x : ((List Int) × Unit) × (Unit)) (κ0 : (((List Int) × (Int × Unit)) × (Unit)) → Option R) : Option R :=
let l69 : (List Int) := x.1.1
let i70 : Int := (((List.length l69) : Nat) : Int)
let i71 : Int := remA .i64 i70 8
bif (i71 != 0) then (
κ0 (([], (9, ())), ())) else (
let i72 : Int := (((List.length l69) : Nat) : Int)
let i73 : Int := quoA .i64 i72 8
bif decide (0 ≤ i73) then (
bif decide (i73 ≤ i73) then (
bif decide (((8 : Nat) : Int) * i73 ≤ 281474976710656) then (
bif decide (i73 ≤ 9223372036854775807) then (
let l74 : (List Int) := List.replicate ((Int.toNat i73)) (Sch.zero (.int .u64))
let i75 : Int := (((List.length l69) : Nat) : Int)
l_45_5 N N (((), l69, i75, 0, ()), (l74, ())) (fun y90 =>
let l91 : (List Int) := y90.2.1
κ0 ((l91, (0, ())), ()))) else none) else none) else none) else none)

abbrev Tl_45_5 (R : Type) : Type := ((Unit × (List Int) × Int × Int × Unit) × ((List Int) × Unit)) → (((Unit × Unit) × ((List Int) × Unit)) → Option R) → Option R
abbrev Tp_45 (R : Type) : Type := ((List Int) × Unit) × (Unit) → ((((List Int) × (Int × Unit)) × (Unit)) → Option R) → Option R
def Q_45 {R : Type} (m_45_5 : Tl_45_5 R) (x : ((List Int) × Unit) × (Unit)) (κ0 : (((List Int) × (Int × Unit)) × (Unit)) → Option R) : Option R :=
let l69 : (List Int) := x.1.1
let i70 : Int := (((List.length l69) : Nat) : Int)
let i71 : Int := remA .i64 i70 8
bif (i71 != 0) then (
κ0 (([], (9, ())), ())) else (
let i72 : Int := (((List.length l69) : Nat) : Int)
let i73 : Int := quoA .i64 i72 8
bif decide (0 ≤ i73) then (
bif decide (i73 ≤ i73) then (
bif decide (((8 : Nat) : Int) * i73 ≤ 281474976710656) then (
bif decide (i73 ≤ 9223372036854775807) then (
let l74 : (List Int) := List.replicate ((Int.toNat i73)) (Sch.zero (.int .u64))
let i75 : Int := (((List.length l69) : Nat) : Int)
m_45_5 (((), l69, i75, 0, ()), (l74, ())) (fun y90 =>
let l91 : (List Int) := y90.2.1
κ0 ((l91, (0, ())), ()))) else none) else none) else none) else none)
def C_45_5 {R : Type} (m_45_5 : Tl_45_5 R) (rec : ((Unit × (List Int) × Int × Int × Unit) × ((List Int) × Unit)) → Option R) (x : ((Unit × (List Int) × Int × Int × Unit) × ((List Int) × Unit))) (κ0 : ((Unit × Unit) × ((List Int) × Unit)) → Option R) : Option R :=
let l76 : (List Int) := x.1.2.1
let i77 : Int := x.1.2.2.1
let i78 : Int := x.1.2.2.2.1
let l79 : (List Int) := x.2.1
bif (decide (i78 < i77)) then (
bif decide (0 ≤ i78) then (
bif decide (i78 < ((List.length l76) : Int)) then (
let p80 : Int := (List.getD l76 ((Int.toNat i78)) (Sch.zero (.int .u8)))
let i81 : Int := quoA .i64 i78 8
bif decide (0 ≤ i81) then (
bif decide (i81 < ((List.length l79) : Int)) then (
let i82 : Int := (List.getD l79 ((Int.toNat i81)) (Sch.zero (.int .u64)))
let i83 : Int := IntKind.wrap .u64 p80
let i84 : Int := remA .i64 i78 8
let i85 : Int := mulA .i64 8 i84
bif decide (i85 < 0) then none else (
let i86 : Int := shlA .u64 i83 i85
let i87 : Int := orA .u64 i82 i86
bif decide (0 ≤ i81) then (
bif decide (i81 < ((List.length l79) : Int)) then (
let l88 : (List Int) := (List.set l79 ((Int.toNat i81)) i87)
let i89 : Int := addA .i64 i78 1
rec (((), l76, i77, i89, ()), (l88, ()))) else none) else none)) else none) else none) else none) else none) else (
κ0 (((), ()), (l79, ())))
def EG_45 {R : Type} : Env R := Env.base QQ LN
def LG_45 {R : Type} (m_45_5 : Tl_45_5 R) : Loops R := (Loops.none).add 5 (loopBy 0 lv_45_5 pt_45_5 (fun x k => m_45_5 x (fun y => k (.exit 0) (px_45_5_0.inst y))))
def E_45 {R : Type} (N : Nat) : Env R := EG_45
theorem eok_45 {R : Type} (N : Nat) : EK Try.prog (E_45 (R := R) N) := ek_base _ _
def L_45 {R : Type} (N : Nat) : Loops R := LG_45 (l_45_5 N N)
theorem gstep_45_5 {R : Type} (m_45_5 : Tl_45_5 R) (n : Nat) (x : pt_45_5.den) (k : Exit → St → Option R) : iter 0 lv_45_5 lo_45_5 (aexec TT (EG_45) (drawAny TT WW) (LG_45 m_45_5) (loopAt 5 (bodyOf Try.f45))) (n + 1) (pt_45_5.inst x) k = C_45_5 m_45_5 (fun y => iter 0 lv_45_5 lo_45_5 (aexec TT (EG_45) (drawAny TT WW) (LG_45 m_45_5) (loopAt 5 (bodyOf Try.f45))) n (pt_45_5.inst y) k) x (fun y => k (.exit 0) (px_45_5_0.inst y)) := by kernel_rfl
theorem step_45_5 {R : Type} (N n : Nat) (x : pt_45_5.den) (k : Exit → St → Option R) : iter 0 lv_45_5 lo_45_5 (aexec TT (E_45 (R := R) N) (drawAny TT WW) (L_45 N) (loopAt 5 (bodyOf Try.f45))) (n + 1) (pt_45_5.inst x) k = B_45_5 N (fun y => iter 0 lv_45_5 lo_45_5 (aexec TT (E_45 (R := R) N) (drawAny TT WW) (L_45 N) (loopAt 5 (bodyOf Try.f45))) n (pt_45_5.inst y) k) x (fun y => k (.exit 0) (px_45_5_0.inst y)) := (gstep_45_5 (l_45_5 N N) n x k).trans (by kernel_rfl)
theorem eq_45_5 {R : Type} (N : Nat) : ∀ (n : Nat) (x : pt_45_5.den) (k : Exit → St → Option R), iter 0 lv_45_5 lo_45_5 (aexec TT (E_45 (R := R) N) (drawAny TT WW) (L_45 N) (loopAt 5 (bodyOf Try.f45))) n (pt_45_5.inst x) k = l_45_5 N n x (fun y => k (.exit 0) (px_45_5_0.inst y)) :=
  iter_eq (K := Exit → St → Option R) (ks := fun k => k) (l := fun n (x : pt_45_5.den) k => l_45_5 N n x (fun y => k (.exit 0) (px_45_5_0.inst y))) (B := fun (rec : pt_45_5.den → Option R) (x : pt_45_5.den) k => B_45_5 N rec x (fun y => k (.exit 0) (px_45_5_0.inst y))) (fun _ _ => rfl) (fun _ _ _ => rfl) (fun n x k => step_45_5 N n x k)
theorem rounds_45_5 {R : Type} (N : Nat) : Rounds 0 TT (E_45 (R := R) N) (drawAny TT WW) (L_45 N) 5 (loopAt 5 (bodyOf Try.f45)) :=
  rounds_of (p := pt_45_5) (l := fun (x : pt_45_5.den) k => l_45_5 N N x (fun y => k (.exit 0) (px_45_5_0.inst y))) (fun s k => rfl) (fun x k => eq_45_5 N N x k)
theorem loops_45 : loopsIn (bodyOf Try.f45) = [(5, loopAt 5 (bodyOf Try.f45))] := by kernel_rfl
theorem lok_45 {R : Type} (N : Nat) : LOK 0 TT (E_45 (R := R) N) (drawAny TT WW) (L_45 N) (bodyOf Try.f45) := loops_all loops_45 (by
  simp only [List.forall_mem_cons, List.not_mem_nil, false_implies, implies_true, and_true]
  exact rounds_45_5 N)
theorem grun_45 {R : Type} (m_45_5 : Tl_45_5 R) (x : aden ap_45 × hden hp_45) (k : KF R) : fnrun TT (EG_45) (drawAny TT WW) (LG_45 m_45_5) true Try.f45 (instA ap_45 x.1) (instH hp_45 x.2) k = Q_45 m_45_5 x (fun y => k (Pat.inst (.tup (.fcons (.ros (.int .u64)) (.fcons (.int .i64) (.fnil)))) y.1) (instH [] y.2)) := by kernel_rfl
theorem run_45 {R : Type} (N : Nat) (x : aden ap_45 × hden hp_45) (k : KF R) : fnrun TT (E_45 (R := R) N) (drawAny TT WW) (L_45 N) true Try.f45 (instA ap_45 x.1) (instH hp_45 x.2) k = p_45 N x (fun y => k (Pat.inst (.tup (.fcons (.ros (.int .u64)) (.fcons (.int .i64) (.fnil)))) y.1) (instH [] y.2)) := (grun_45 (l_45_5 N N) x k).trans (by kernel_rfl)
theorem good_45 {R : Type} (N : Nat) : GD (X := R) Try.prog QQ 45 ap_45 hp_45 (fun (x : aden ap_45 × hden hp_45) k => p_45 N x (fun y => k (Pat.inst (.tup (.fcons (.ros (.int .u64)) (.fcons (.int .i64) (.fnil)))) y.1) (instH [] y.2))) :=
  gd_loud (E := E_45 N) (p := fun (x : aden ap_45 × hden hp_45) k => p_45 N x (fun y => k (Pat.inst (.tup (.fcons (.ros (.int .u64)) (.fcons (.int .i64) (.fnil)))) y.1) (instH [] y.2))) mixed tyok (eok_45 N) Try.func45 (by kernel_rfl) (by kernel_rfl) (by kernel_rfl) (lok_45 N) (fun x k => run_45 N x k)

def ap_46 : List Pat := []
def hp_46 : List (Option (Pat × Nat)) := []
def p_46 {R : Type} (N : Nat) (x : (Unit) × (Unit)) (κ0 : (Nat → (Nat → Int)) → Option R) : Option R :=
let a107 : (Nat → Int) := (upd ((upd ((upd ((upd ((Sch.zero (.arr 4 (.int .i64)))) 0 0)) 1 4)) 2 8)) 3 12)
let a108 : (Nat → Int) := (upd ((upd ((upd ((upd ((Sch.zero (.arr 4 (.int .i64)))) 0 1)) 1 5)) 2 9)) 3 13)
let a109 : (Nat → Int) := (upd ((upd ((upd ((upd ((Sch.zero (.arr 4 (.int .i64)))) 0 2)) 1 6)) 2 10)) 3 14)
let a110 : (Nat → Int) := (upd ((upd ((upd ((upd ((Sch.zero (.arr 4 (.int .i64)))) 0 3)) 1 7)) 2 11)) 3 15)
let a111 : (Nat → Int) := (upd ((upd ((upd ((upd ((Sch.zero (.arr 4 (.int .i64)))) 0 0)) 1 5)) 2 10)) 3 15)
let a112 : (Nat → Int) := (upd ((upd ((upd ((upd ((Sch.zero (.arr 4 (.int .i64)))) 0 1)) 1 6)) 2 11)) 3 12)
let a113 : (Nat → Int) := (upd ((upd ((upd ((upd ((Sch.zero (.arr 4 (.int .i64)))) 0 2)) 1 7)) 2 8)) 3 13)
let a114 : (Nat → Int) := (upd ((upd ((upd ((upd ((Sch.zero (.arr 4 (.int .i64)))) 0 3)) 1 4)) 2 9)) 3 14)
let a115 : (Nat → (Nat → Int)) := (upd ((upd ((upd ((upd ((upd ((upd ((upd ((upd ((Sch.zero (.arr 8 (.arr 4 (.int .i64))))) 0 a107)) 1 a108)) 2 a109)) 3 a110)) 4 a111)) 5 a112)) 6 a113)) 7 a114)
κ0 a115

abbrev Tp_46 (R : Type) : Type := (Unit) × (Unit) → ((Nat → (Nat → Int)) → Option R) → Option R
def Q_46 {R : Type} (x : (Unit) × (Unit)) (κ0 : (Nat → (Nat → Int)) → Option R) : Option R :=
let a107 : (Nat → Int) := (upd ((upd ((upd ((upd ((Sch.zero (.arr 4 (.int .i64)))) 0 0)) 1 4)) 2 8)) 3 12)
let a108 : (Nat → Int) := (upd ((upd ((upd ((upd ((Sch.zero (.arr 4 (.int .i64)))) 0 1)) 1 5)) 2 9)) 3 13)
let a109 : (Nat → Int) := (upd ((upd ((upd ((upd ((Sch.zero (.arr 4 (.int .i64)))) 0 2)) 1 6)) 2 10)) 3 14)
let a110 : (Nat → Int) := (upd ((upd ((upd ((upd ((Sch.zero (.arr 4 (.int .i64)))) 0 3)) 1 7)) 2 11)) 3 15)
let a111 : (Nat → Int) := (upd ((upd ((upd ((upd ((Sch.zero (.arr 4 (.int .i64)))) 0 0)) 1 5)) 2 10)) 3 15)
let a112 : (Nat → Int) := (upd ((upd ((upd ((upd ((Sch.zero (.arr 4 (.int .i64)))) 0 1)) 1 6)) 2 11)) 3 12)
let a113 : (Nat → Int) := (upd ((upd ((upd ((upd ((Sch.zero (.arr 4 (.int .i64)))) 0 2)) 1 7)) 2 8)) 3 13)
let a114 : (Nat → Int) := (upd ((upd ((upd ((upd ((Sch.zero (.arr 4 (.int .i64)))) 0 3)) 1 4)) 2 9)) 3 14)
let a115 : (Nat → (Nat → Int)) := (upd ((upd ((upd ((upd ((upd ((upd ((upd ((upd ((Sch.zero (.arr 8 (.arr 4 (.int .i64))))) 0 a107)) 1 a108)) 2 a109)) 3 a110)) 4 a111)) 5 a112)) 6 a113)) 7 a114)
κ0 a115
def EG_46 {R : Type} : Env R := Env.base QQ LN
def LG_46 {R : Type} : Loops R := Loops.none
def E_46 {R : Type} (N : Nat) : Env R := EG_46
theorem eok_46 {R : Type} (N : Nat) : EK Try.prog (E_46 (R := R) N) := ek_base _ _
def L_46 {R : Type} (N : Nat) : Loops R := LG_46
theorem lok_46 {R : Type} (N : Nat) : LOK 0 TT (E_46 (R := R) N) (drawAny TT WW) (L_46 N) (bodyOf Try.f46) := loops_nil (by kernel_rfl)
theorem grun_46 {R : Type} (x : aden ap_46 × hden hp_46) (k : KF R) : fnrun TT (EG_46) (drawAny TT WW) (LG_46) true Try.f46 (instA ap_46 x.1) (instH hp_46 x.2) k = Q_46 x (fun y => k (Pat.inst (.vec (.arr 4 (.int .i64)) 8) y) (instH hp_46 x.2)) := by kernel_rfl
theorem run_46 {R : Type} (N : Nat) (x : aden ap_46 × hden hp_46) (k : KF R) : fnrun TT (E_46 (R := R) N) (drawAny TT WW) (L_46 N) true Try.f46 (instA ap_46 x.1) (instH hp_46 x.2) k = p_46 N x (fun y => k (Pat.inst (.vec (.arr 4 (.int .i64)) 8) y) (instH hp_46 x.2)) := (grun_46 x k).trans (by kernel_rfl)
theorem good_46 {R : Type} (N : Nat) : GD (X := R) Try.prog QQ 46 ap_46 hp_46 (fun (x : aden ap_46 × hden hp_46) k => p_46 N x (fun y => k (Pat.inst (.vec (.arr 4 (.int .i64)) 8) y) (instH hp_46 x.2))) :=
  gd_quiet (E := E_46 N) (p := fun (x : aden ap_46 × hden hp_46) κ => p_46 N x (fun y => κ (Pat.inst (.vec (.arr 4 (.int .i64)) 8) y))) mixed tyok (eok_46 N) Try.func46 (by kernel_rfl) (by kernel_rfl) (lok_46 N) (fun x k => run_46 N x k)

def lv_19_7 : Live := [(2, none), (4, none), (5, none), (16, none)]
def pt_19_7 : SPat := ⟨[(2, .ptr 0 []), (4, .ptr 1 []), (5, .str), (16, .int .i64)], [some (.vec (.int .i64) 16, 38), some (.vec (.int .i64) 16, 38)]⟩
def px_19_7_0 : SPat := ⟨[(2, .ptr 0 []), (4, .ptr 1 [])], [some (.vec (.int .i64) 16, 38), some (.vec (.int .i64) 16, 38)]⟩
def lo_19_7 : Exit → Live
  | .exit 0 => [(2, none), (4, none)]
  | _ => []
def B_19_7 {R : Type} (N : Nat) (rec : ((Unit × Unit × ByteArray × Int × Unit) × ((Nat → Int) × (Nat → Int) × Unit)) → Option R) (x : ((Unit × Unit × ByteArray × Int × Unit) × ((Nat → Int) × (Nat → Int) × Unit))) (κ0 : ((Unit × Unit × Unit) × ((Nat → Int) × (Nat → Int) × Unit)) → Option R) : Option R :=
let s129 : ByteArray := x.1.2.2.1
let i130 : Int := x.1.2.2.2.1
let a131 : (Nat → Int) := x.2.1
let a132 : (Nat → Int) := x.2.2.1
bif (decide (i130 < 16)) then (
bif decide (0 ≤ i130) then (
bif decide (i130 < (ByteArray.size s129 : Int)) then (
let i133 : Int := byteAt s129 ((Int.toNat i130))
let i134 : Int := IntKind.wrap .i64 i133
bif (decide (i134 ≥ 97)) then (
let i135 : Int := subA .i64 i134 97
let i136 : Int := addA .i64 i135 10
bif decide (0 ≤ i130) then (
bif decide (i130 < (16 : Int)) then (
let a137 : (Nat → Int) := (upd a132 ((Int.toNat i130)) i136)
let i138 : Int := addA .i64 i130 1
rec (((), (), s129, i138, ()), (a131, a137, ()))) else none) else none) else (
let i139 : Int := subA .i64 i134 48
bif decide (0 ≤ i130) then (
bif decide (i130 < (16 : Int)) then (
let a140 : (Nat → Int) := (upd a132 ((Int.toNat i130)) i139)
let i141 : Int := addA .i64 i130 1
rec (((), (), s129, i141, ()), (a131, a140, ()))) else none) else none)) else none) else none) else (
κ0 (((), (), ()), (a131, a132, ())))
def l_19_7 {R : Type} (N : Nat) : Nat → ((Unit × Unit × ByteArray × Int × Unit) × ((Nat → Int) × (Nat → Int) × Unit)) → (((Unit × Unit × Unit) × ((Nat → Int) × (Nat → Int) × Unit)) → Option R) → Option R
  | 0, _, _ => none
  | n + 1, x, κ0 => B_19_7 N (fun y => l_19_7 N n y κ0) x κ0
def ap_19 : List Pat := [.int .i64]
def hp_19 : List (Option (Pat × Nat)) := []
def p_19 {R : Type} (N : Nat) (x : (Int × Unit) × (Unit)) (κ0 : (Nat → Int) → Option R) : Option R :=
let i124 : Int := x.1.1
let a125 : (Nat → ByteArray) := (upd ((upd ((upd ((upd ((upd ((upd ((upd ((upd ((upd ((upd ((Sch.zero (.arr 10 (.str)))) 0 (⟨#[48, 49, 50, 51, 52, 53, 54, 55, 56, 57, 97, 98, 99, 100, 101, 102]⟩))) 1 (⟨#[101, 97, 52, 56, 57, 102, 100, 54, 49, 99, 48, 50, 98, 55, 53, 51]⟩))) 2 (⟨#[98, 56, 99, 48, 53, 50, 102, 100, 97, 101, 51, 54, 55, 49, 57, 52]⟩))) 3 (⟨#[55, 57, 51, 49, 100, 99, 98, 101, 50, 54, 53, 97, 52, 48, 102, 56]⟩))) 4 (⟨#[57, 48, 53, 55, 50, 52, 97, 102, 101, 49, 98, 99, 54, 56, 51, 100]⟩))) 5 (⟨#[50, 99, 54, 97, 48, 98, 56, 51, 52, 100, 55, 53, 102, 101, 49, 57]⟩))) 6 (⟨#[99, 53, 49, 102, 101, 100, 52, 97, 48, 55, 54, 51, 57, 50, 56, 98]⟩))) 7 (⟨#[100, 98, 55, 101, 99, 49, 51, 57, 53, 48, 102, 52, 56, 54, 50, 97]⟩))) 8 (⟨#[54, 102, 101, 57, 98, 51, 48, 56, 99, 50, 100, 55, 49, 52, 97, 53]⟩))) 9 (⟨#[97, 50, 56, 52, 55, 54, 49, 53, 102, 98, 57, 101, 51, 99, 100, 48]⟩))
bif (decide (i124 < 0)) then (
let a126 : (Nat → Int) := (Sch.zero (.arr 16 (.int .i64)))
κ0 a126) else (
let i127 : Int := remA .i64 i124 10
bif decide (0 ≤ i127) then (
bif decide (i127 < (10 : Int)) then (
let s128 : ByteArray := (a125 ((Int.toNat i127)))
l_19_7 N N (((), (), s128, 0, ()), ((Sch.zero (.arr 16 (.int .i64))), (Sch.zero (.arr 16 (.int .i64))), ())) (fun y142 =>
let a143 : (Nat → Int) := y142.2.1
let a144 : (Nat → Int) := y142.2.2.1
κ0 a144)) else none) else none)

abbrev Tl_19_7 (R : Type) : Type := ((Unit × Unit × ByteArray × Int × Unit) × ((Nat → Int) × (Nat → Int) × Unit)) → (((Unit × Unit × Unit) × ((Nat → Int) × (Nat → Int) × Unit)) → Option R) → Option R
abbrev Tp_19 (R : Type) : Type := (Int × Unit) × (Unit) → ((Nat → Int) → Option R) → Option R
def Q_19 {R : Type} (m_19_7 : Tl_19_7 R) (x : (Int × Unit) × (Unit)) (κ0 : (Nat → Int) → Option R) : Option R :=
let i124 : Int := x.1.1
let a125 : (Nat → ByteArray) := (upd ((upd ((upd ((upd ((upd ((upd ((upd ((upd ((upd ((upd ((Sch.zero (.arr 10 (.str)))) 0 (⟨#[48, 49, 50, 51, 52, 53, 54, 55, 56, 57, 97, 98, 99, 100, 101, 102]⟩))) 1 (⟨#[101, 97, 52, 56, 57, 102, 100, 54, 49, 99, 48, 50, 98, 55, 53, 51]⟩))) 2 (⟨#[98, 56, 99, 48, 53, 50, 102, 100, 97, 101, 51, 54, 55, 49, 57, 52]⟩))) 3 (⟨#[55, 57, 51, 49, 100, 99, 98, 101, 50, 54, 53, 97, 52, 48, 102, 56]⟩))) 4 (⟨#[57, 48, 53, 55, 50, 52, 97, 102, 101, 49, 98, 99, 54, 56, 51, 100]⟩))) 5 (⟨#[50, 99, 54, 97, 48, 98, 56, 51, 52, 100, 55, 53, 102, 101, 49, 57]⟩))) 6 (⟨#[99, 53, 49, 102, 101, 100, 52, 97, 48, 55, 54, 51, 57, 50, 56, 98]⟩))) 7 (⟨#[100, 98, 55, 101, 99, 49, 51, 57, 53, 48, 102, 52, 56, 54, 50, 97]⟩))) 8 (⟨#[54, 102, 101, 57, 98, 51, 48, 56, 99, 50, 100, 55, 49, 52, 97, 53]⟩))) 9 (⟨#[97, 50, 56, 52, 55, 54, 49, 53, 102, 98, 57, 101, 51, 99, 100, 48]⟩))
bif (decide (i124 < 0)) then (
let a126 : (Nat → Int) := (Sch.zero (.arr 16 (.int .i64)))
κ0 a126) else (
let i127 : Int := remA .i64 i124 10
bif decide (0 ≤ i127) then (
bif decide (i127 < (10 : Int)) then (
let s128 : ByteArray := (a125 ((Int.toNat i127)))
m_19_7 (((), (), s128, 0, ()), ((Sch.zero (.arr 16 (.int .i64))), (Sch.zero (.arr 16 (.int .i64))), ())) (fun y142 =>
let a143 : (Nat → Int) := y142.2.1
let a144 : (Nat → Int) := y142.2.2.1
κ0 a144)) else none) else none)
def C_19_7 {R : Type} (m_19_7 : Tl_19_7 R) (rec : ((Unit × Unit × ByteArray × Int × Unit) × ((Nat → Int) × (Nat → Int) × Unit)) → Option R) (x : ((Unit × Unit × ByteArray × Int × Unit) × ((Nat → Int) × (Nat → Int) × Unit))) (κ0 : ((Unit × Unit × Unit) × ((Nat → Int) × (Nat → Int) × Unit)) → Option R) : Option R :=
let s129 : ByteArray := x.1.2.2.1
let i130 : Int := x.1.2.2.2.1
let a131 : (Nat → Int) := x.2.1
let a132 : (Nat → Int) := x.2.2.1
bif (decide (i130 < 16)) then (
bif decide (0 ≤ i130) then (
bif decide (i130 < (ByteArray.size s129 : Int)) then (
let i133 : Int := byteAt s129 ((Int.toNat i130))
let i134 : Int := IntKind.wrap .i64 i133
bif (decide (i134 ≥ 97)) then (
let i135 : Int := subA .i64 i134 97
let i136 : Int := addA .i64 i135 10
bif decide (0 ≤ i130) then (
bif decide (i130 < (16 : Int)) then (
let a137 : (Nat → Int) := (upd a132 ((Int.toNat i130)) i136)
let i138 : Int := addA .i64 i130 1
rec (((), (), s129, i138, ()), (a131, a137, ()))) else none) else none) else (
let i139 : Int := subA .i64 i134 48
bif decide (0 ≤ i130) then (
bif decide (i130 < (16 : Int)) then (
let a140 : (Nat → Int) := (upd a132 ((Int.toNat i130)) i139)
let i141 : Int := addA .i64 i130 1
rec (((), (), s129, i141, ()), (a131, a140, ()))) else none) else none)) else none) else none) else (
κ0 (((), (), ()), (a131, a132, ())))
def EG_19 {R : Type} : Env R := Env.base QQ LN
def LG_19 {R : Type} (m_19_7 : Tl_19_7 R) : Loops R := (Loops.none).add 7 (loopBy 0 lv_19_7 pt_19_7 (fun x k => m_19_7 x (fun y => k (.exit 0) (px_19_7_0.inst y))))
def E_19 {R : Type} (N : Nat) : Env R := EG_19
theorem eok_19 {R : Type} (N : Nat) : EK Try.prog (E_19 (R := R) N) := ek_base _ _
def L_19 {R : Type} (N : Nat) : Loops R := LG_19 (l_19_7 N N)
theorem gstep_19_7 {R : Type} (m_19_7 : Tl_19_7 R) (n : Nat) (x : pt_19_7.den) (k : Exit → St → Option R) : iter 0 lv_19_7 lo_19_7 (aexec TT (EG_19) (drawAny TT WW) (LG_19 m_19_7) (loopAt 7 (bodyOf Try.f19))) (n + 1) (pt_19_7.inst x) k = C_19_7 m_19_7 (fun y => iter 0 lv_19_7 lo_19_7 (aexec TT (EG_19) (drawAny TT WW) (LG_19 m_19_7) (loopAt 7 (bodyOf Try.f19))) n (pt_19_7.inst y) k) x (fun y => k (.exit 0) (px_19_7_0.inst y)) := by kernel_rfl
theorem step_19_7 {R : Type} (N n : Nat) (x : pt_19_7.den) (k : Exit → St → Option R) : iter 0 lv_19_7 lo_19_7 (aexec TT (E_19 (R := R) N) (drawAny TT WW) (L_19 N) (loopAt 7 (bodyOf Try.f19))) (n + 1) (pt_19_7.inst x) k = B_19_7 N (fun y => iter 0 lv_19_7 lo_19_7 (aexec TT (E_19 (R := R) N) (drawAny TT WW) (L_19 N) (loopAt 7 (bodyOf Try.f19))) n (pt_19_7.inst y) k) x (fun y => k (.exit 0) (px_19_7_0.inst y)) := (gstep_19_7 (l_19_7 N N) n x k).trans (by kernel_rfl)
theorem eq_19_7 {R : Type} (N : Nat) : ∀ (n : Nat) (x : pt_19_7.den) (k : Exit → St → Option R), iter 0 lv_19_7 lo_19_7 (aexec TT (E_19 (R := R) N) (drawAny TT WW) (L_19 N) (loopAt 7 (bodyOf Try.f19))) n (pt_19_7.inst x) k = l_19_7 N n x (fun y => k (.exit 0) (px_19_7_0.inst y)) :=
  iter_eq (K := Exit → St → Option R) (ks := fun k => k) (l := fun n (x : pt_19_7.den) k => l_19_7 N n x (fun y => k (.exit 0) (px_19_7_0.inst y))) (B := fun (rec : pt_19_7.den → Option R) (x : pt_19_7.den) k => B_19_7 N rec x (fun y => k (.exit 0) (px_19_7_0.inst y))) (fun _ _ => rfl) (fun _ _ _ => rfl) (fun n x k => step_19_7 N n x k)
theorem rounds_19_7 {R : Type} (N : Nat) : Rounds 0 TT (E_19 (R := R) N) (drawAny TT WW) (L_19 N) 7 (loopAt 7 (bodyOf Try.f19)) :=
  rounds_of (p := pt_19_7) (l := fun (x : pt_19_7.den) k => l_19_7 N N x (fun y => k (.exit 0) (px_19_7_0.inst y))) (fun s k => rfl) (fun x k => eq_19_7 N N x k)
theorem loops_19 : loopsIn (bodyOf Try.f19) = [(7, loopAt 7 (bodyOf Try.f19))] := by kernel_rfl
theorem lok_19 {R : Type} (N : Nat) : LOK 0 TT (E_19 (R := R) N) (drawAny TT WW) (L_19 N) (bodyOf Try.f19) := loops_all loops_19 (by
  simp only [List.forall_mem_cons, List.not_mem_nil, false_implies, implies_true, and_true]
  exact rounds_19_7 N)
theorem grun_19 {R : Type} (m_19_7 : Tl_19_7 R) (x : aden ap_19 × hden hp_19) (k : KF R) : fnrun TT (EG_19) (drawAny TT WW) (LG_19 m_19_7) true Try.f19 (instA ap_19 x.1) (instH hp_19 x.2) k = Q_19 m_19_7 x (fun y => k (Pat.inst (.vec (.int .i64) 16) y) (instH hp_19 x.2)) := by kernel_rfl
theorem run_19 {R : Type} (N : Nat) (x : aden ap_19 × hden hp_19) (k : KF R) : fnrun TT (E_19 (R := R) N) (drawAny TT WW) (L_19 N) true Try.f19 (instA ap_19 x.1) (instH hp_19 x.2) k = p_19 N x (fun y => k (Pat.inst (.vec (.int .i64) 16) y) (instH hp_19 x.2)) := (grun_19 (l_19_7 N N) x k).trans (by kernel_rfl)
theorem good_19 {R : Type} (N : Nat) : GD (X := R) Try.prog QQ 19 ap_19 hp_19 (fun (x : aden ap_19 × hden hp_19) k => p_19 N x (fun y => k (Pat.inst (.vec (.int .i64) 16) y) (instH hp_19 x.2))) :=
  gd_quiet (E := E_19 N) (p := fun (x : aden ap_19 × hden hp_19) κ => p_19 N x (fun y => κ (Pat.inst (.vec (.int .i64) 16) y))) mixed tyok (eok_19 N) Try.func19 (by kernel_rfl) (by kernel_rfl) (lok_19 N) (fun x k => run_19 N x k)

def ap_51 : List Pat := [.int .u64, .int .i64]
def hp_51 : List (Option (Pat × Nat)) := []
def p_51 {R : Type} (N : Nat) (x : (Int × Int × Unit) × (Unit)) (κ0 : Int → Option R) : Option R :=
let i181 : Int := x.1.1
let i182 : Int := x.1.2.1
let i183 : Int := IntKind.wrap .u64 i182
let i184 : Int := remA .u64 i183 64
bif decide (i184 < 0) then none else (
let i185 : Int := shrA .u64 i181 i184
let i186 : Int := subA .u64 64 i184
bif decide (i186 < 0) then none else (
let i187 : Int := shlA .u64 i181 i186
let i188 : Int := orA .u64 i185 i187
κ0 i188))

abbrev Tp_51 (R : Type) : Type := (Int × Int × Unit) × (Unit) → (Int → Option R) → Option R
def Q_51 {R : Type} (x : (Int × Int × Unit) × (Unit)) (κ0 : Int → Option R) : Option R :=
let i181 : Int := x.1.1
let i182 : Int := x.1.2.1
let i183 : Int := IntKind.wrap .u64 i182
let i184 : Int := remA .u64 i183 64
bif decide (i184 < 0) then none else (
let i185 : Int := shrA .u64 i181 i184
let i186 : Int := subA .u64 64 i184
bif decide (i186 < 0) then none else (
let i187 : Int := shlA .u64 i181 i186
let i188 : Int := orA .u64 i185 i187
κ0 i188))
def EG_51 {R : Type} : Env R := Env.base QQ LN
def LG_51 {R : Type} : Loops R := Loops.none
def E_51 {R : Type} (N : Nat) : Env R := EG_51
theorem eok_51 {R : Type} (N : Nat) : EK Try.prog (E_51 (R := R) N) := ek_base _ _
def L_51 {R : Type} (N : Nat) : Loops R := LG_51
theorem lok_51 {R : Type} (N : Nat) : LOK 0 TT (E_51 (R := R) N) (drawAny TT WW) (L_51 N) (bodyOf Try.f51) := loops_nil (by kernel_rfl)
theorem grun_51 {R : Type} (x : aden ap_51 × hden hp_51) (k : KF R) : fnrun TT (EG_51) (drawAny TT WW) (LG_51) true Try.f51 (instA ap_51 x.1) (instH hp_51 x.2) k = Q_51 x (fun y => k (Pat.inst (.int .u64) y) (instH hp_51 x.2)) := by kernel_rfl
theorem run_51 {R : Type} (N : Nat) (x : aden ap_51 × hden hp_51) (k : KF R) : fnrun TT (E_51 (R := R) N) (drawAny TT WW) (L_51 N) true Try.f51 (instA ap_51 x.1) (instH hp_51 x.2) k = p_51 N x (fun y => k (Pat.inst (.int .u64) y) (instH hp_51 x.2)) := (grun_51 x k).trans (by kernel_rfl)
theorem good_51 {R : Type} (N : Nat) : GD (X := R) Try.prog QQ 51 ap_51 hp_51 (fun (x : aden ap_51 × hden hp_51) k => p_51 N x (fun y => k (Pat.inst (.int .u64) y) (instH hp_51 x.2))) :=
  gd_quiet (E := E_51 N) (p := fun (x : aden ap_51 × hden hp_51) κ => p_51 N x (fun y => κ (Pat.inst (.int .u64) y))) mixed tyok (eok_51 N) Try.func51 (by kernel_rfl) (by kernel_rfl) (lok_51 N) (fun x k => run_51 N x k)

def ap_17 : List Pat := [.int .u64, .int .u64, .int .u64, .int .u64, .int .u64, .int .u64]
def hp_17 : List (Option (Pat × Nat)) := []
def p_17 {R : Type} (N : Nat) (x : (Int × Int × Int × Int × Int × Int × Unit) × (Unit)) (κ0 : (Int × (Int × (Int × (Int × Unit)))) → Option R) : Option R :=
let i172 : Int := x.1.1
let i173 : Int := x.1.2.1
let i174 : Int := x.1.2.2.1
let i175 : Int := x.1.2.2.2.1
let i176 : Int := x.1.2.2.2.2.1
let i177 : Int := x.1.2.2.2.2.2.1
let i178 : Int := addA .u64 i173 i176
let i179 : Int := addA .u64 i172 i178
let i180 : Int := xorA .u64 i175 i179
p_51 N ((i180, 32, ()), ()) (fun y189 =>
let i190 : Int := y189
let i191 : Int := addA .u64 i174 i190
let i192 : Int := xorA .u64 i173 i191
p_51 N ((i192, 24, ()), ()) (fun y193 =>
let i194 : Int := y193
let i195 : Int := addA .u64 i194 i177
let i196 : Int := addA .u64 i179 i195
let i197 : Int := xorA .u64 i190 i196
p_51 N ((i197, 16, ()), ()) (fun y198 =>
let i199 : Int := y198
let i200 : Int := addA .u64 i191 i199
let i201 : Int := xorA .u64 i194 i200
p_51 N ((i201, 63, ()), ()) (fun y202 =>
let i203 : Int := y202
κ0 ((i196, (i203, (i200, (i199, ())))))))))

abbrev Tp_17 (R : Type) : Type := (Int × Int × Int × Int × Int × Int × Unit) × (Unit) → ((Int × (Int × (Int × (Int × Unit)))) → Option R) → Option R
def Q_17 {R : Type} (q_51 : Tp_51 R) (x : (Int × Int × Int × Int × Int × Int × Unit) × (Unit)) (κ0 : (Int × (Int × (Int × (Int × Unit)))) → Option R) : Option R :=
let i172 : Int := x.1.1
let i173 : Int := x.1.2.1
let i174 : Int := x.1.2.2.1
let i175 : Int := x.1.2.2.2.1
let i176 : Int := x.1.2.2.2.2.1
let i177 : Int := x.1.2.2.2.2.2.1
let i178 : Int := addA .u64 i173 i176
let i179 : Int := addA .u64 i172 i178
let i180 : Int := xorA .u64 i175 i179
q_51 ((i180, 32, ()), ()) (fun y189 =>
let i190 : Int := y189
let i191 : Int := addA .u64 i174 i190
let i192 : Int := xorA .u64 i173 i191
q_51 ((i192, 24, ()), ()) (fun y193 =>
let i194 : Int := y193
let i195 : Int := addA .u64 i194 i177
let i196 : Int := addA .u64 i179 i195
let i197 : Int := xorA .u64 i190 i196
q_51 ((i197, 16, ()), ()) (fun y198 =>
let i199 : Int := y198
let i200 : Int := addA .u64 i191 i199
let i201 : Int := xorA .u64 i194 i200
q_51 ((i201, 63, ()), ()) (fun y202 =>
let i203 : Int := y202
κ0 ((i196, (i203, (i200, (i199, ())))))))))
def EG_17 {R : Type} (q_51 : Tp_51 R) : Env R := (Env.base QQ LN).add 51 ap_51 hp_51 (fun (x : aden ap_51 × hden hp_51) k => q_51 x (fun y => k (Pat.inst (.int .u64) y) (instH hp_51 x.2)))
def LG_17 {R : Type} : Loops R := Loops.none
def E_17 {R : Type} (N : Nat) : Env R := EG_17 (p_51 N)
theorem eok_17 {R : Type} (N : Nat) : EK Try.prog (E_17 (R := R) N) := ek_add (ek_base _ _) (good_51 N)
def L_17 {R : Type} (N : Nat) : Loops R := LG_17
theorem lok_17 {R : Type} (N : Nat) : LOK 0 TT (E_17 (R := R) N) (drawAny TT WW) (L_17 N) (bodyOf Try.f17) := loops_nil (by kernel_rfl)
theorem grun_17 {R : Type} (q_51 : Tp_51 R) (x : aden ap_17 × hden hp_17) (k : KF R) : fnrun TT (EG_17 q_51) (drawAny TT WW) (LG_17) true Try.f17 (instA ap_17 x.1) (instH hp_17 x.2) k = Q_17 q_51 x (fun y => k (Pat.inst (.tup (.fcons (.int .u64) (.fcons (.int .u64) (.fcons (.int .u64) (.fcons (.int .u64) (.fnil)))))) y) (instH hp_17 x.2)) := by kernel_rfl
theorem run_17 {R : Type} (N : Nat) (x : aden ap_17 × hden hp_17) (k : KF R) : fnrun TT (E_17 (R := R) N) (drawAny TT WW) (L_17 N) true Try.f17 (instA ap_17 x.1) (instH hp_17 x.2) k = p_17 N x (fun y => k (Pat.inst (.tup (.fcons (.int .u64) (.fcons (.int .u64) (.fcons (.int .u64) (.fcons (.int .u64) (.fnil)))))) y) (instH hp_17 x.2)) := (grun_17 (p_51 N) x k).trans (by kernel_rfl)
theorem good_17 {R : Type} (N : Nat) : GD (X := R) Try.prog QQ 17 ap_17 hp_17 (fun (x : aden ap_17 × hden hp_17) k => p_17 N x (fun y => k (Pat.inst (.tup (.fcons (.int .u64) (.fcons (.int .u64) (.fcons (.int .u64) (.fcons (.int .u64) (.fnil)))))) y) (instH hp_17 x.2))) :=
  gd_quiet (E := E_17 N) (p := fun (x : aden ap_17 × hden hp_17) κ => p_17 N x (fun y => κ (Pat.inst (.tup (.fcons (.int .u64) (.fcons (.int .u64) (.fcons (.int .u64) (.fcons (.int .u64) (.fnil)))))) y))) mixed tyok (eok_17 N) Try.func17 (by kernel_rfl) (by kernel_rfl) (lok_17 N) (fun x k => run_17 N x k)

def lv_12_17 : Live := [(4, none), (8, none), (10, none), (12, none), (14, none), (16, none), (51, none), (56, none), (57, none)]
def pt_12_17 : SPat := ⟨[(4, .ptr 0 []), (8, .ptr 1 []), (10, .ros (.int .u64)), (12, .ptr 2 []), (14, .ptr 3 []), (16, .ptr 4 []), (51, .int .i64), (56, .vec (.arr 4 (.int .i64)) 8), (57, .int .i64)], [some (.vec (.int .u64) 8, 23), some (.vec (.int .u64) 8, 23), some (.vec (.int .u64) 16, 97), some (.vec (.arr 4 (.int .i64)) 8, 99), some (.vec (.int .i64) 16, 38)]⟩
def px_12_17_0 : SPat := ⟨[(4, .ptr 0 []), (8, .ptr 1 []), (10, .ros (.int .u64)), (12, .ptr 2 []), (14, .ptr 3 []), (51, .int .i64)], [some (.vec (.int .u64) 8, 23), some (.vec (.int .u64) 8, 23), some (.vec (.int .u64) 16, 97), some (.vec (.arr 4 (.int .i64)) 8, 99)]⟩
def lo_12_17 : Exit → Live
  | .exit 2 => [(4, none), (8, none), (10, none), (12, none), (14, none), (51, none)]
  | _ => []
def B_12_17 {R : Type} (N : Nat) (rec : ((Unit × Unit × (List Int) × Unit × Unit × Unit × Int × (Nat → (Nat → Int)) × Int × Unit) × ((Nat → Int) × (Nat → Int) × (Nat → Int) × (Nat → (Nat → Int)) × (Nat → Int) × Unit)) → Option R) (x : ((Unit × Unit × (List Int) × Unit × Unit × Unit × Int × (Nat → (Nat → Int)) × Int × Unit) × ((Nat → Int) × (Nat → Int) × (Nat → Int) × (Nat → (Nat → Int)) × (Nat → Int) × Unit))) (κ0 : ((Unit × Unit × (List Int) × Unit × Unit × Int × Unit) × ((Nat → Int) × (Nat → Int) × (Nat → Int) × (Nat → (Nat → Int)) × Unit)) → Option R) : Option R :=
let l705 : (List Int) := x.1.2.2.1
let i706 : Int := x.1.2.2.2.2.2.2.1
let a707 : (Nat → (Nat → Int)) := x.1.2.2.2.2.2.2.2.1
let i708 : Int := x.1.2.2.2.2.2.2.2.2.1
let a709 : (Nat → Int) := x.2.1
let a710 : (Nat → Int) := x.2.2.1
let a711 : (Nat → Int) := x.2.2.2.1
let a712 : (Nat → (Nat → Int)) := x.2.2.2.2.1
let a713 : (Nat → Int) := x.2.2.2.2.2.1
bif (decide (i708 < 8)) then (
bif decide (0 ≤ i708) then (
bif decide (i708 < (8 : Int)) then (
let a714 : (Nat → Int) := (a707 ((Int.toNat i708)))
let i715 : Int := (a714 0)
let i716 : Int := (a714 1)
let i717 : Int := (a714 2)
let i718 : Int := (a714 3)
bif decide (0 ≤ i715) then (
bif decide (i715 < (16 : Int)) then (
let i719 : Int := (a711 ((Int.toNat i715)))
bif decide (0 ≤ i716) then (
bif decide (i716 < (16 : Int)) then (
let i720 : Int := (a711 ((Int.toNat i716)))
bif decide (0 ≤ i717) then (
bif decide (i717 < (16 : Int)) then (
let i721 : Int := (a711 ((Int.toNat i717)))
bif decide (0 ≤ i718) then (
bif decide (i718 < (16 : Int)) then (
let i722 : Int := (a711 ((Int.toNat i718)))
let i723 : Int := mulA .i64 2 i708
bif decide (0 ≤ i723) then (
bif decide (i723 < (16 : Int)) then (
let i724 : Int := (a713 ((Int.toNat i723)))
bif decide (0 ≤ i724) then (
bif decide (i724 < ((List.length l705) : Int)) then (
let p725 : Int := (List.getD l705 ((Int.toNat i724)) (Sch.zero (.int .u64)))
let i726 : Int := mulA .i64 2 i708
let i727 : Int := addA .i64 i726 1
bif decide (0 ≤ i727) then (
bif decide (i727 < (16 : Int)) then (
let i728 : Int := (a713 ((Int.toNat i727)))
bif decide (0 ≤ i728) then (
bif decide (i728 < ((List.length l705) : Int)) then (
let p729 : Int := (List.getD l705 ((Int.toNat i728)) (Sch.zero (.int .u64)))
p_17 N ((i719, i720, i721, i722, p725, p729, ()), ()) (fun y730 =>
let i731 : Int := y730.1
let i732 : Int := y730.2.1
let i733 : Int := y730.2.2.1
let i734 : Int := y730.2.2.2.1
bif decide (0 ≤ i715) then (
bif decide (i715 < (16 : Int)) then (
let a735 : (Nat → Int) := (upd a711 ((Int.toNat i715)) i731)
bif decide (0 ≤ i716) then (
bif decide (i716 < (16 : Int)) then (
let a736 : (Nat → Int) := (upd a735 ((Int.toNat i716)) i732)
bif decide (0 ≤ i717) then (
bif decide (i717 < (16 : Int)) then (
let a737 : (Nat → Int) := (upd a736 ((Int.toNat i717)) i733)
bif decide (0 ≤ i718) then (
bif decide (i718 < (16 : Int)) then (
let a738 : (Nat → Int) := (upd a737 ((Int.toNat i718)) i734)
let i739 : Int := addA .i64 i708 1
rec (((), (), l705, (), (), (), i706, a707, i739, ()), (a709, a710, a738, a712, a713, ()))) else none) else none) else none) else none) else none) else none) else none) else none)) else none) else none) else none) else none) else none) else none) else none) else none) else none) else none) else none) else none) else none) else none) else none) else none) else none) else none) else (
κ0 (((), (), l705, (), (), i706, ()), (a709, a710, a711, a712, ())))
def l_12_17 {R : Type} (N : Nat) : Nat → ((Unit × Unit × (List Int) × Unit × Unit × Unit × Int × (Nat → (Nat → Int)) × Int × Unit) × ((Nat → Int) × (Nat → Int) × (Nat → Int) × (Nat → (Nat → Int)) × (Nat → Int) × Unit)) → (((Unit × Unit × (List Int) × Unit × Unit × Int × Unit) × ((Nat → Int) × (Nat → Int) × (Nat → Int) × (Nat → (Nat → Int)) × Unit)) → Option R) → Option R
  | 0, _, _ => none
  | n + 1, x, κ0 => B_12_17 N (fun y => l_12_17 N n y κ0) x κ0
def lv_12_13 : Live := [(4, none), (8, none), (10, none), (12, none), (14, none), (51, none)]
def pt_12_13 : SPat := ⟨[(4, .ptr 0 []), (8, .ptr 1 []), (10, .ros (.int .u64)), (12, .ptr 2 []), (14, .ptr 3 []), (51, .int .i64)], [some (.vec (.int .u64) 8, 23), some (.vec (.int .u64) 8, 23), some (.vec (.int .u64) 16, 97), some (.vec (.arr 4 (.int .i64)) 8, 99)]⟩
def px_12_13_0 : SPat := ⟨[(4, .ptr 0 []), (8, .ptr 1 []), (12, .ptr 2 [])], [some (.vec (.int .u64) 8, 23), some (.vec (.int .u64) 8, 23), some (.vec (.int .u64) 16, 97)]⟩
def lo_12_13 : Exit → Live
  | .exit 0 => [(4, none), (8, none), (12, none)]
  | _ => []
def B_12_13 {R : Type} (N : Nat) (rec : ((Unit × Unit × (List Int) × Unit × Unit × Int × Unit) × ((Nat → Int) × (Nat → Int) × (Nat → Int) × (Nat → (Nat → Int)) × Unit)) → Option R) (x : ((Unit × Unit × (List Int) × Unit × Unit × Int × Unit) × ((Nat → Int) × (Nat → Int) × (Nat → Int) × (Nat → (Nat → Int)) × Unit))) (κ0 : ((Unit × Unit × Unit × Unit) × ((Nat → Int) × (Nat → Int) × (Nat → Int) × Unit)) → Option R) : Option R :=
let l697 : (List Int) := x.1.2.2.1
let i698 : Int := x.1.2.2.2.2.2.1
let a699 : (Nat → Int) := x.2.1
let a700 : (Nat → Int) := x.2.2.1
let a701 : (Nat → Int) := x.2.2.2.1
let a702 : (Nat → (Nat → Int)) := x.2.2.2.2.1
bif (decide (i698 < 12)) then (
p_19 N ((i698, ()), ()) (fun y703 =>
let a704 : (Nat → Int) := y703
l_12_17 N N (((), (), l697, (), (), (), i698, a702, 0, ()), (a699, a700, a701, a702, a704, ())) (fun y740 =>
let l741 : (List Int) := y740.1.2.2.1
let i742 : Int := y740.1.2.2.2.2.2.1
let a743 : (Nat → Int) := y740.2.1
let a744 : (Nat → Int) := y740.2.2.1
let a745 : (Nat → Int) := y740.2.2.2.1
let a746 : (Nat → (Nat → Int)) := y740.2.2.2.2.1
let i747 : Int := addA .i64 i742 1
rec (((), (), l741, (), (), i747, ()), (a743, a744, a745, a746, ()))))) else (
κ0 (((), (), (), ()), (a699, a700, a701, ())))
def l_12_13 {R : Type} (N : Nat) : Nat → ((Unit × Unit × (List Int) × Unit × Unit × Int × Unit) × ((Nat → Int) × (Nat → Int) × (Nat → Int) × (Nat → (Nat → Int)) × Unit)) → (((Unit × Unit × Unit × Unit) × ((Nat → Int) × (Nat → Int) × (Nat → Int) × Unit)) → Option R) → Option R
  | 0, _, _ => none
  | n + 1, x, κ0 => B_12_13 N (fun y => l_12_13 N n y κ0) x κ0
def lv_12_24 : Live := [(4, none), (8, none), (12, none), (112, none)]
def pt_12_24 : SPat := ⟨[(4, .ptr 0 []), (8, .ptr 1 []), (12, .ptr 2 []), (112, .int .i64)], [some (.vec (.int .u64) 8, 23), some (.vec (.int .u64) 8, 23), some (.vec (.int .u64) 16, 97)]⟩
def px_12_24_0 : SPat := ⟨[(4, .ptr 0 []), (8, .ptr 1 [])], [some (.vec (.int .u64) 8, 23), some (.vec (.int .u64) 8, 23)]⟩
def lo_12_24 : Exit → Live
  | .exit 4 => [(4, none), (8, none)]
  | _ => []
def B_12_24 {R : Type} (N : Nat) (rec : ((Unit × Unit × Unit × Int × Unit) × ((Nat → Int) × (Nat → Int) × (Nat → Int) × Unit)) → Option R) (x : ((Unit × Unit × Unit × Int × Unit) × ((Nat → Int) × (Nat → Int) × (Nat → Int) × Unit))) (κ0 : ((Unit × Unit × Unit) × ((Nat → Int) × (Nat → Int) × Unit)) → Option R) : Option R :=
let i752 : Int := x.1.2.2.2.1
let a753 : (Nat → Int) := x.2.1
let a754 : (Nat → Int) := x.2.2.1
let a755 : (Nat → Int) := x.2.2.2.1
bif (decide (i752 < 8)) then (
bif decide (0 ≤ i752) then (
bif decide (i752 < (8 : Int)) then (
let i756 : Int := (a753 ((Int.toNat i752)))
bif decide (0 ≤ i752) then (
bif decide (i752 < (16 : Int)) then (
let i757 : Int := (a755 ((Int.toNat i752)))
let i758 : Int := addA .i64 i752 8
bif decide (0 ≤ i758) then (
bif decide (i758 < (16 : Int)) then (
let i759 : Int := (a755 ((Int.toNat i758)))
let i760 : Int := xorA .u64 i757 i759
let i761 : Int := xorA .u64 i756 i760
bif decide (0 ≤ i752) then (
bif decide (i752 < (8 : Int)) then (
let a762 : (Nat → Int) := (upd a753 ((Int.toNat i752)) i761)
let i763 : Int := addA .i64 i752 1
rec (((), (), (), i763, ()), (a762, a754, a755, ()))) else none) else none) else none) else none) else none) else none) else none) else none) else (
κ0 (((), (), ()), (a753, a754, ())))
def l_12_24 {R : Type} (N : Nat) : Nat → ((Unit × Unit × Unit × Int × Unit) × ((Nat → Int) × (Nat → Int) × (Nat → Int) × Unit)) → (((Unit × Unit × Unit) × ((Nat → Int) × (Nat → Int) × Unit)) → Option R) → Option R
  | 0, _, _ => none
  | n + 1, x, κ0 => B_12_24 N (fun y => l_12_24 N n y κ0) x κ0
def ap_12 : List Pat := [.vec (.int .u64) 8, .ros (.int .u8), .int .u64, .bool]
def hp_12 : List (Option (Pat × Nat)) := []
def p_12 {R : Type} (N : Nat) (x : ((Nat → Int) × (List Int) × Int × Bool × Unit) × (Unit)) (κ0 : ((Nat → Int) × (Int × Unit)) → Option R) : Option R :=
let a63 : (Nat → Int) := x.1.1
let l64 : (List Int) := x.1.2.1
let i65 : Int := x.1.2.2.1
let b66 : Bool := x.1.2.2.2.1
let i67 : Int := (((List.length l64) : Nat) : Int)
bif (i67 != 128) then (
let a68 : (Nat → Int) := (Sch.zero (.arr 8 (.int .u64)))
κ0 ((a68, (9, ())))) else (
p_45 N ((l64, ()), ()) (fun y92 =>
let l93 : (List Int) := y92.1.1
let i94 : Int := y92.1.2.1
let l95 : (List Int) := ((List.range 8).map fun j => a63 (0 + j))
bif decide (0 < Nat.min (List.length l95) 8) then (
let a96 : (Nat → Int) := copyF ((Sch.zero (.arr 16 (.int .u64)))) 0 (Nat.min (List.length l95) 8) l95 (Sch.zero (.int .u64))
p_15 N ((), ()) (fun y97 =>
let a98 : (Nat → Int) := y97
let l99 : (List Int) := ((List.range 8).map fun j => a98 (0 + j))
bif decide (0 < Nat.min (List.length l99) 8) then (
let a100 : (Nat → Int) := copyF a96 8 (Nat.min (List.length l99) 8) l99 (Sch.zero (.int .u64))
let i101 : Int := (a100 12)
let i102 : Int := xorA .u64 i101 i65
let a103 : (Nat → Int) := (upd a100 12 i102)
bif b66 then (
let i104 : Int := (a103 14)
let i105 : Int := xorA .u64 18446744073709551615 i104
let a106 : (Nat → Int) := (upd a103 14 i105)
p_46 N ((), ()) (fun y116 =>
let a117 : (Nat → (Nat → Int)) := y116
l_12_13 N N (((), (), l93, (), (), 0, ()), (a63, (Sch.zero (.arr 8 (.int .u64))), a106, a117, ())) (fun y222 =>
let a223 : (Nat → Int) := y222.2.1
let a224 : (Nat → Int) := y222.2.2.1
let a225 : (Nat → Int) := y222.2.2.2.1
l_12_24 N N (((), (), (), 0, ()), (a223, a224, a225, ())) (fun y238 =>
let a239 : (Nat → Int) := y238.2.1
let a240 : (Nat → Int) := y238.2.2.1
κ0 ((a239, (0, ()))))))) else (
p_46 N ((), ()) (fun y241 =>
let a242 : (Nat → (Nat → Int)) := y241
l_12_13 N N (((), (), l93, (), (), 0, ()), (a63, (Sch.zero (.arr 8 (.int .u64))), a103, a242, ())) (fun y294 =>
let a295 : (Nat → Int) := y294.2.1
let a296 : (Nat → Int) := y294.2.2.1
let a297 : (Nat → Int) := y294.2.2.2.1
l_12_24 N N (((), (), (), 0, ()), (a295, a296, a297, ())) (fun y310 =>
let a311 : (Nat → Int) := y310.2.1
let a312 : (Nat → Int) := y310.2.2.1
κ0 ((a311, (0, ())))))))) else (
let i313 : Int := (a96 12)
let i314 : Int := xorA .u64 i313 i65
let a315 : (Nat → Int) := (upd a96 12 i314)
bif b66 then (
let i316 : Int := (a315 14)
let i317 : Int := xorA .u64 18446744073709551615 i316
let a318 : (Nat → Int) := (upd a315 14 i317)
p_46 N ((), ()) (fun y319 =>
let a320 : (Nat → (Nat → Int)) := y319
l_12_13 N N (((), (), l93, (), (), 0, ()), (a63, (Sch.zero (.arr 8 (.int .u64))), a318, a320, ())) (fun y372 =>
let a373 : (Nat → Int) := y372.2.1
let a374 : (Nat → Int) := y372.2.2.1
let a375 : (Nat → Int) := y372.2.2.2.1
l_12_24 N N (((), (), (), 0, ()), (a373, a374, a375, ())) (fun y388 =>
let a389 : (Nat → Int) := y388.2.1
let a390 : (Nat → Int) := y388.2.2.1
κ0 ((a389, (0, ()))))))) else (
p_46 N ((), ()) (fun y391 =>
let a392 : (Nat → (Nat → Int)) := y391
l_12_13 N N (((), (), l93, (), (), 0, ()), (a63, (Sch.zero (.arr 8 (.int .u64))), a315, a392, ())) (fun y444 =>
let a445 : (Nat → Int) := y444.2.1
let a446 : (Nat → Int) := y444.2.2.1
let a447 : (Nat → Int) := y444.2.2.2.1
l_12_24 N N (((), (), (), 0, ()), (a445, a446, a447, ())) (fun y460 =>
let a461 : (Nat → Int) := y460.2.1
let a462 : (Nat → Int) := y460.2.2.1
κ0 ((a461, (0, ())))))))))) else (
p_15 N ((), ()) (fun y463 =>
let a464 : (Nat → Int) := y463
let l465 : (List Int) := ((List.range 8).map fun j => a464 (0 + j))
bif decide (0 < Nat.min (List.length l465) 8) then (
let a466 : (Nat → Int) := copyF ((Sch.zero (.arr 16 (.int .u64)))) 8 (Nat.min (List.length l465) 8) l465 (Sch.zero (.int .u64))
let i467 : Int := (a466 12)
let i468 : Int := xorA .u64 i467 i65
let a469 : (Nat → Int) := (upd a466 12 i468)
bif b66 then (
let i470 : Int := (a469 14)
let i471 : Int := xorA .u64 18446744073709551615 i470
let a472 : (Nat → Int) := (upd a469 14 i471)
p_46 N ((), ()) (fun y473 =>
let a474 : (Nat → (Nat → Int)) := y473
l_12_13 N N (((), (), l93, (), (), 0, ()), (a63, (Sch.zero (.arr 8 (.int .u64))), a472, a474, ())) (fun y526 =>
let a527 : (Nat → Int) := y526.2.1
let a528 : (Nat → Int) := y526.2.2.1
let a529 : (Nat → Int) := y526.2.2.2.1
l_12_24 N N (((), (), (), 0, ()), (a527, a528, a529, ())) (fun y542 =>
let a543 : (Nat → Int) := y542.2.1
let a544 : (Nat → Int) := y542.2.2.1
κ0 ((a543, (0, ()))))))) else (
p_46 N ((), ()) (fun y545 =>
let a546 : (Nat → (Nat → Int)) := y545
l_12_13 N N (((), (), l93, (), (), 0, ()), (a63, (Sch.zero (.arr 8 (.int .u64))), a469, a546, ())) (fun y598 =>
let a599 : (Nat → Int) := y598.2.1
let a600 : (Nat → Int) := y598.2.2.1
let a601 : (Nat → Int) := y598.2.2.2.1
l_12_24 N N (((), (), (), 0, ()), (a599, a600, a601, ())) (fun y614 =>
let a615 : (Nat → Int) := y614.2.1
let a616 : (Nat → Int) := y614.2.2.1
κ0 ((a615, (0, ())))))))) else (
let i617 : Int := (((Sch.zero (.arr 16 (.int .u64)))) 12)
let i618 : Int := xorA .u64 i617 i65
let a619 : (Nat → Int) := (upd ((Sch.zero (.arr 16 (.int .u64)))) 12 i618)
bif b66 then (
let i620 : Int := (a619 14)
let i621 : Int := xorA .u64 18446744073709551615 i620
let a622 : (Nat → Int) := (upd a619 14 i621)
p_46 N ((), ()) (fun y623 =>
let a624 : (Nat → (Nat → Int)) := y623
l_12_13 N N (((), (), l93, (), (), 0, ()), (a63, (Sch.zero (.arr 8 (.int .u64))), a622, a624, ())) (fun y676 =>
let a677 : (Nat → Int) := y676.2.1
let a678 : (Nat → Int) := y676.2.2.1
let a679 : (Nat → Int) := y676.2.2.2.1
l_12_24 N N (((), (), (), 0, ()), (a677, a678, a679, ())) (fun y692 =>
let a693 : (Nat → Int) := y692.2.1
let a694 : (Nat → Int) := y692.2.2.1
κ0 ((a693, (0, ()))))))) else (
p_46 N ((), ()) (fun y695 =>
let a696 : (Nat → (Nat → Int)) := y695
l_12_13 N N (((), (), l93, (), (), 0, ()), (a63, (Sch.zero (.arr 8 (.int .u64))), a619, a696, ())) (fun y748 =>
let a749 : (Nat → Int) := y748.2.1
let a750 : (Nat → Int) := y748.2.2.1
let a751 : (Nat → Int) := y748.2.2.2.1
l_12_24 N N (((), (), (), 0, ()), (a749, a750, a751, ())) (fun y764 =>
let a765 : (Nat → Int) := y764.2.1
let a766 : (Nat → Int) := y764.2.2.1
κ0 ((a765, (0, ()))))))))))))

abbrev Tl_12_17 (R : Type) : Type := ((Unit × Unit × (List Int) × Unit × Unit × Unit × Int × (Nat → (Nat → Int)) × Int × Unit) × ((Nat → Int) × (Nat → Int) × (Nat → Int) × (Nat → (Nat → Int)) × (Nat → Int) × Unit)) → (((Unit × Unit × (List Int) × Unit × Unit × Int × Unit) × ((Nat → Int) × (Nat → Int) × (Nat → Int) × (Nat → (Nat → Int)) × Unit)) → Option R) → Option R
abbrev Tl_12_13 (R : Type) : Type := ((Unit × Unit × (List Int) × Unit × Unit × Int × Unit) × ((Nat → Int) × (Nat → Int) × (Nat → Int) × (Nat → (Nat → Int)) × Unit)) → (((Unit × Unit × Unit × Unit) × ((Nat → Int) × (Nat → Int) × (Nat → Int) × Unit)) → Option R) → Option R
abbrev Tl_12_24 (R : Type) : Type := ((Unit × Unit × Unit × Int × Unit) × ((Nat → Int) × (Nat → Int) × (Nat → Int) × Unit)) → (((Unit × Unit × Unit) × ((Nat → Int) × (Nat → Int) × Unit)) → Option R) → Option R
abbrev Tp_12 (R : Type) : Type := ((Nat → Int) × (List Int) × Int × Bool × Unit) × (Unit) → (((Nat → Int) × (Int × Unit)) → Option R) → Option R
def Q_12 {R : Type} (q_45 : Tp_45 R) (q_15 : Tp_15 R) (q_46 : Tp_46 R) (q_17 : Tp_17 R) (q_19 : Tp_19 R) (m_12_17 : Tl_12_17 R) (m_12_13 : Tl_12_13 R) (m_12_24 : Tl_12_24 R) (x : ((Nat → Int) × (List Int) × Int × Bool × Unit) × (Unit)) (κ0 : ((Nat → Int) × (Int × Unit)) → Option R) : Option R :=
let a63 : (Nat → Int) := x.1.1
let l64 : (List Int) := x.1.2.1
let i65 : Int := x.1.2.2.1
let b66 : Bool := x.1.2.2.2.1
let i67 : Int := (((List.length l64) : Nat) : Int)
bif (i67 != 128) then (
let a68 : (Nat → Int) := (Sch.zero (.arr 8 (.int .u64)))
κ0 ((a68, (9, ())))) else (
q_45 ((l64, ()), ()) (fun y92 =>
let l93 : (List Int) := y92.1.1
let i94 : Int := y92.1.2.1
let l95 : (List Int) := ((List.range 8).map fun j => a63 (0 + j))
bif decide (0 < Nat.min (List.length l95) 8) then (
let a96 : (Nat → Int) := copyF ((Sch.zero (.arr 16 (.int .u64)))) 0 (Nat.min (List.length l95) 8) l95 (Sch.zero (.int .u64))
q_15 ((), ()) (fun y97 =>
let a98 : (Nat → Int) := y97
let l99 : (List Int) := ((List.range 8).map fun j => a98 (0 + j))
bif decide (0 < Nat.min (List.length l99) 8) then (
let a100 : (Nat → Int) := copyF a96 8 (Nat.min (List.length l99) 8) l99 (Sch.zero (.int .u64))
let i101 : Int := (a100 12)
let i102 : Int := xorA .u64 i101 i65
let a103 : (Nat → Int) := (upd a100 12 i102)
bif b66 then (
let i104 : Int := (a103 14)
let i105 : Int := xorA .u64 18446744073709551615 i104
let a106 : (Nat → Int) := (upd a103 14 i105)
q_46 ((), ()) (fun y116 =>
let a117 : (Nat → (Nat → Int)) := y116
m_12_13 (((), (), l93, (), (), 0, ()), (a63, (Sch.zero (.arr 8 (.int .u64))), a106, a117, ())) (fun y222 =>
let a223 : (Nat → Int) := y222.2.1
let a224 : (Nat → Int) := y222.2.2.1
let a225 : (Nat → Int) := y222.2.2.2.1
m_12_24 (((), (), (), 0, ()), (a223, a224, a225, ())) (fun y238 =>
let a239 : (Nat → Int) := y238.2.1
let a240 : (Nat → Int) := y238.2.2.1
κ0 ((a239, (0, ()))))))) else (
q_46 ((), ()) (fun y241 =>
let a242 : (Nat → (Nat → Int)) := y241
m_12_13 (((), (), l93, (), (), 0, ()), (a63, (Sch.zero (.arr 8 (.int .u64))), a103, a242, ())) (fun y294 =>
let a295 : (Nat → Int) := y294.2.1
let a296 : (Nat → Int) := y294.2.2.1
let a297 : (Nat → Int) := y294.2.2.2.1
m_12_24 (((), (), (), 0, ()), (a295, a296, a297, ())) (fun y310 =>
let a311 : (Nat → Int) := y310.2.1
let a312 : (Nat → Int) := y310.2.2.1
κ0 ((a311, (0, ())))))))) else (
let i313 : Int := (a96 12)
let i314 : Int := xorA .u64 i313 i65
let a315 : (Nat → Int) := (upd a96 12 i314)
bif b66 then (
let i316 : Int := (a315 14)
let i317 : Int := xorA .u64 18446744073709551615 i316
let a318 : (Nat → Int) := (upd a315 14 i317)
q_46 ((), ()) (fun y319 =>
let a320 : (Nat → (Nat → Int)) := y319
m_12_13 (((), (), l93, (), (), 0, ()), (a63, (Sch.zero (.arr 8 (.int .u64))), a318, a320, ())) (fun y372 =>
let a373 : (Nat → Int) := y372.2.1
let a374 : (Nat → Int) := y372.2.2.1
let a375 : (Nat → Int) := y372.2.2.2.1
m_12_24 (((), (), (), 0, ()), (a373, a374, a375, ())) (fun y388 =>
let a389 : (Nat → Int) := y388.2.1
let a390 : (Nat → Int) := y388.2.2.1
κ0 ((a389, (0, ()))))))) else (
q_46 ((), ()) (fun y391 =>
let a392 : (Nat → (Nat → Int)) := y391
m_12_13 (((), (), l93, (), (), 0, ()), (a63, (Sch.zero (.arr 8 (.int .u64))), a315, a392, ())) (fun y444 =>
let a445 : (Nat → Int) := y444.2.1
let a446 : (Nat → Int) := y444.2.2.1
let a447 : (Nat → Int) := y444.2.2.2.1
m_12_24 (((), (), (), 0, ()), (a445, a446, a447, ())) (fun y460 =>
let a461 : (Nat → Int) := y460.2.1
let a462 : (Nat → Int) := y460.2.2.1
κ0 ((a461, (0, ())))))))))) else (
q_15 ((), ()) (fun y463 =>
let a464 : (Nat → Int) := y463
let l465 : (List Int) := ((List.range 8).map fun j => a464 (0 + j))
bif decide (0 < Nat.min (List.length l465) 8) then (
let a466 : (Nat → Int) := copyF ((Sch.zero (.arr 16 (.int .u64)))) 8 (Nat.min (List.length l465) 8) l465 (Sch.zero (.int .u64))
let i467 : Int := (a466 12)
let i468 : Int := xorA .u64 i467 i65
let a469 : (Nat → Int) := (upd a466 12 i468)
bif b66 then (
let i470 : Int := (a469 14)
let i471 : Int := xorA .u64 18446744073709551615 i470
let a472 : (Nat → Int) := (upd a469 14 i471)
q_46 ((), ()) (fun y473 =>
let a474 : (Nat → (Nat → Int)) := y473
m_12_13 (((), (), l93, (), (), 0, ()), (a63, (Sch.zero (.arr 8 (.int .u64))), a472, a474, ())) (fun y526 =>
let a527 : (Nat → Int) := y526.2.1
let a528 : (Nat → Int) := y526.2.2.1
let a529 : (Nat → Int) := y526.2.2.2.1
m_12_24 (((), (), (), 0, ()), (a527, a528, a529, ())) (fun y542 =>
let a543 : (Nat → Int) := y542.2.1
let a544 : (Nat → Int) := y542.2.2.1
κ0 ((a543, (0, ()))))))) else (
q_46 ((), ()) (fun y545 =>
let a546 : (Nat → (Nat → Int)) := y545
m_12_13 (((), (), l93, (), (), 0, ()), (a63, (Sch.zero (.arr 8 (.int .u64))), a469, a546, ())) (fun y598 =>
let a599 : (Nat → Int) := y598.2.1
let a600 : (Nat → Int) := y598.2.2.1
let a601 : (Nat → Int) := y598.2.2.2.1
m_12_24 (((), (), (), 0, ()), (a599, a600, a601, ())) (fun y614 =>
let a615 : (Nat → Int) := y614.2.1
let a616 : (Nat → Int) := y614.2.2.1
κ0 ((a615, (0, ())))))))) else (
let i617 : Int := (((Sch.zero (.arr 16 (.int .u64)))) 12)
let i618 : Int := xorA .u64 i617 i65
let a619 : (Nat → Int) := (upd ((Sch.zero (.arr 16 (.int .u64)))) 12 i618)
bif b66 then (
let i620 : Int := (a619 14)
let i621 : Int := xorA .u64 18446744073709551615 i620
let a622 : (Nat → Int) := (upd a619 14 i621)
q_46 ((), ()) (fun y623 =>
let a624 : (Nat → (Nat → Int)) := y623
m_12_13 (((), (), l93, (), (), 0, ()), (a63, (Sch.zero (.arr 8 (.int .u64))), a622, a624, ())) (fun y676 =>
let a677 : (Nat → Int) := y676.2.1
let a678 : (Nat → Int) := y676.2.2.1
let a679 : (Nat → Int) := y676.2.2.2.1
m_12_24 (((), (), (), 0, ()), (a677, a678, a679, ())) (fun y692 =>
let a693 : (Nat → Int) := y692.2.1
let a694 : (Nat → Int) := y692.2.2.1
κ0 ((a693, (0, ()))))))) else (
q_46 ((), ()) (fun y695 =>
let a696 : (Nat → (Nat → Int)) := y695
m_12_13 (((), (), l93, (), (), 0, ()), (a63, (Sch.zero (.arr 8 (.int .u64))), a619, a696, ())) (fun y748 =>
let a749 : (Nat → Int) := y748.2.1
let a750 : (Nat → Int) := y748.2.2.1
let a751 : (Nat → Int) := y748.2.2.2.1
m_12_24 (((), (), (), 0, ()), (a749, a750, a751, ())) (fun y764 =>
let a765 : (Nat → Int) := y764.2.1
let a766 : (Nat → Int) := y764.2.2.1
κ0 ((a765, (0, ()))))))))))))
def C_12_17 {R : Type} (q_45 : Tp_45 R) (q_15 : Tp_15 R) (q_46 : Tp_46 R) (q_17 : Tp_17 R) (q_19 : Tp_19 R) (m_12_17 : Tl_12_17 R) (m_12_13 : Tl_12_13 R) (m_12_24 : Tl_12_24 R) (rec : ((Unit × Unit × (List Int) × Unit × Unit × Unit × Int × (Nat → (Nat → Int)) × Int × Unit) × ((Nat → Int) × (Nat → Int) × (Nat → Int) × (Nat → (Nat → Int)) × (Nat → Int) × Unit)) → Option R) (x : ((Unit × Unit × (List Int) × Unit × Unit × Unit × Int × (Nat → (Nat → Int)) × Int × Unit) × ((Nat → Int) × (Nat → Int) × (Nat → Int) × (Nat → (Nat → Int)) × (Nat → Int) × Unit))) (κ0 : ((Unit × Unit × (List Int) × Unit × Unit × Int × Unit) × ((Nat → Int) × (Nat → Int) × (Nat → Int) × (Nat → (Nat → Int)) × Unit)) → Option R) : Option R :=
let l705 : (List Int) := x.1.2.2.1
let i706 : Int := x.1.2.2.2.2.2.2.1
let a707 : (Nat → (Nat → Int)) := x.1.2.2.2.2.2.2.2.1
let i708 : Int := x.1.2.2.2.2.2.2.2.2.1
let a709 : (Nat → Int) := x.2.1
let a710 : (Nat → Int) := x.2.2.1
let a711 : (Nat → Int) := x.2.2.2.1
let a712 : (Nat → (Nat → Int)) := x.2.2.2.2.1
let a713 : (Nat → Int) := x.2.2.2.2.2.1
bif (decide (i708 < 8)) then (
bif decide (0 ≤ i708) then (
bif decide (i708 < (8 : Int)) then (
let a714 : (Nat → Int) := (a707 ((Int.toNat i708)))
let i715 : Int := (a714 0)
let i716 : Int := (a714 1)
let i717 : Int := (a714 2)
let i718 : Int := (a714 3)
bif decide (0 ≤ i715) then (
bif decide (i715 < (16 : Int)) then (
let i719 : Int := (a711 ((Int.toNat i715)))
bif decide (0 ≤ i716) then (
bif decide (i716 < (16 : Int)) then (
let i720 : Int := (a711 ((Int.toNat i716)))
bif decide (0 ≤ i717) then (
bif decide (i717 < (16 : Int)) then (
let i721 : Int := (a711 ((Int.toNat i717)))
bif decide (0 ≤ i718) then (
bif decide (i718 < (16 : Int)) then (
let i722 : Int := (a711 ((Int.toNat i718)))
let i723 : Int := mulA .i64 2 i708
bif decide (0 ≤ i723) then (
bif decide (i723 < (16 : Int)) then (
let i724 : Int := (a713 ((Int.toNat i723)))
bif decide (0 ≤ i724) then (
bif decide (i724 < ((List.length l705) : Int)) then (
let p725 : Int := (List.getD l705 ((Int.toNat i724)) (Sch.zero (.int .u64)))
let i726 : Int := mulA .i64 2 i708
let i727 : Int := addA .i64 i726 1
bif decide (0 ≤ i727) then (
bif decide (i727 < (16 : Int)) then (
let i728 : Int := (a713 ((Int.toNat i727)))
bif decide (0 ≤ i728) then (
bif decide (i728 < ((List.length l705) : Int)) then (
let p729 : Int := (List.getD l705 ((Int.toNat i728)) (Sch.zero (.int .u64)))
q_17 ((i719, i720, i721, i722, p725, p729, ()), ()) (fun y730 =>
let i731 : Int := y730.1
let i732 : Int := y730.2.1
let i733 : Int := y730.2.2.1
let i734 : Int := y730.2.2.2.1
bif decide (0 ≤ i715) then (
bif decide (i715 < (16 : Int)) then (
let a735 : (Nat → Int) := (upd a711 ((Int.toNat i715)) i731)
bif decide (0 ≤ i716) then (
bif decide (i716 < (16 : Int)) then (
let a736 : (Nat → Int) := (upd a735 ((Int.toNat i716)) i732)
bif decide (0 ≤ i717) then (
bif decide (i717 < (16 : Int)) then (
let a737 : (Nat → Int) := (upd a736 ((Int.toNat i717)) i733)
bif decide (0 ≤ i718) then (
bif decide (i718 < (16 : Int)) then (
let a738 : (Nat → Int) := (upd a737 ((Int.toNat i718)) i734)
let i739 : Int := addA .i64 i708 1
rec (((), (), l705, (), (), (), i706, a707, i739, ()), (a709, a710, a738, a712, a713, ()))) else none) else none) else none) else none) else none) else none) else none) else none)) else none) else none) else none) else none) else none) else none) else none) else none) else none) else none) else none) else none) else none) else none) else none) else none) else none) else none) else (
κ0 (((), (), l705, (), (), i706, ()), (a709, a710, a711, a712, ())))
def C_12_13 {R : Type} (q_45 : Tp_45 R) (q_15 : Tp_15 R) (q_46 : Tp_46 R) (q_17 : Tp_17 R) (q_19 : Tp_19 R) (m_12_17 : Tl_12_17 R) (m_12_13 : Tl_12_13 R) (m_12_24 : Tl_12_24 R) (rec : ((Unit × Unit × (List Int) × Unit × Unit × Int × Unit) × ((Nat → Int) × (Nat → Int) × (Nat → Int) × (Nat → (Nat → Int)) × Unit)) → Option R) (x : ((Unit × Unit × (List Int) × Unit × Unit × Int × Unit) × ((Nat → Int) × (Nat → Int) × (Nat → Int) × (Nat → (Nat → Int)) × Unit))) (κ0 : ((Unit × Unit × Unit × Unit) × ((Nat → Int) × (Nat → Int) × (Nat → Int) × Unit)) → Option R) : Option R :=
let l697 : (List Int) := x.1.2.2.1
let i698 : Int := x.1.2.2.2.2.2.1
let a699 : (Nat → Int) := x.2.1
let a700 : (Nat → Int) := x.2.2.1
let a701 : (Nat → Int) := x.2.2.2.1
let a702 : (Nat → (Nat → Int)) := x.2.2.2.2.1
bif (decide (i698 < 12)) then (
q_19 ((i698, ()), ()) (fun y703 =>
let a704 : (Nat → Int) := y703
m_12_17 (((), (), l697, (), (), (), i698, a702, 0, ()), (a699, a700, a701, a702, a704, ())) (fun y740 =>
let l741 : (List Int) := y740.1.2.2.1
let i742 : Int := y740.1.2.2.2.2.2.1
let a743 : (Nat → Int) := y740.2.1
let a744 : (Nat → Int) := y740.2.2.1
let a745 : (Nat → Int) := y740.2.2.2.1
let a746 : (Nat → (Nat → Int)) := y740.2.2.2.2.1
let i747 : Int := addA .i64 i742 1
rec (((), (), l741, (), (), i747, ()), (a743, a744, a745, a746, ()))))) else (
κ0 (((), (), (), ()), (a699, a700, a701, ())))
def C_12_24 {R : Type} (q_45 : Tp_45 R) (q_15 : Tp_15 R) (q_46 : Tp_46 R) (q_17 : Tp_17 R) (q_19 : Tp_19 R) (m_12_17 : Tl_12_17 R) (m_12_13 : Tl_12_13 R) (m_12_24 : Tl_12_24 R) (rec : ((Unit × Unit × Unit × Int × Unit) × ((Nat → Int) × (Nat → Int) × (Nat → Int) × Unit)) → Option R) (x : ((Unit × Unit × Unit × Int × Unit) × ((Nat → Int) × (Nat → Int) × (Nat → Int) × Unit))) (κ0 : ((Unit × Unit × Unit) × ((Nat → Int) × (Nat → Int) × Unit)) → Option R) : Option R :=
let i752 : Int := x.1.2.2.2.1
let a753 : (Nat → Int) := x.2.1
let a754 : (Nat → Int) := x.2.2.1
let a755 : (Nat → Int) := x.2.2.2.1
bif (decide (i752 < 8)) then (
bif decide (0 ≤ i752) then (
bif decide (i752 < (8 : Int)) then (
let i756 : Int := (a753 ((Int.toNat i752)))
bif decide (0 ≤ i752) then (
bif decide (i752 < (16 : Int)) then (
let i757 : Int := (a755 ((Int.toNat i752)))
let i758 : Int := addA .i64 i752 8
bif decide (0 ≤ i758) then (
bif decide (i758 < (16 : Int)) then (
let i759 : Int := (a755 ((Int.toNat i758)))
let i760 : Int := xorA .u64 i757 i759
let i761 : Int := xorA .u64 i756 i760
bif decide (0 ≤ i752) then (
bif decide (i752 < (8 : Int)) then (
let a762 : (Nat → Int) := (upd a753 ((Int.toNat i752)) i761)
let i763 : Int := addA .i64 i752 1
rec (((), (), (), i763, ()), (a762, a754, a755, ()))) else none) else none) else none) else none) else none) else none) else none) else none) else (
κ0 (((), (), ()), (a753, a754, ())))
def EG_12 {R : Type} (q_45 : Tp_45 R) (q_15 : Tp_15 R) (q_46 : Tp_46 R) (q_17 : Tp_17 R) (q_19 : Tp_19 R) : Env R := (((((Env.base QQ LN).add 45 ap_45 hp_45 (fun (x : aden ap_45 × hden hp_45) k => q_45 x (fun y => k (Pat.inst (.tup (.fcons (.ros (.int .u64)) (.fcons (.int .i64) (.fnil)))) y.1) (instH [] y.2)))).add 15 ap_15 hp_15 (fun (x : aden ap_15 × hden hp_15) k => q_15 x (fun y => k (Pat.inst (.vec (.int .u64) 8) y) (instH hp_15 x.2)))).add 46 ap_46 hp_46 (fun (x : aden ap_46 × hden hp_46) k => q_46 x (fun y => k (Pat.inst (.vec (.arr 4 (.int .i64)) 8) y) (instH hp_46 x.2)))).add 17 ap_17 hp_17 (fun (x : aden ap_17 × hden hp_17) k => q_17 x (fun y => k (Pat.inst (.tup (.fcons (.int .u64) (.fcons (.int .u64) (.fcons (.int .u64) (.fcons (.int .u64) (.fnil)))))) y) (instH hp_17 x.2)))).add 19 ap_19 hp_19 (fun (x : aden ap_19 × hden hp_19) k => q_19 x (fun y => k (Pat.inst (.vec (.int .i64) 16) y) (instH hp_19 x.2)))
def LG_12 {R : Type} (m_12_17 : Tl_12_17 R) (m_12_13 : Tl_12_13 R) (m_12_24 : Tl_12_24 R) : Loops R := (((Loops.none).add 17 (loopBy 0 lv_12_17 pt_12_17 (fun x k => m_12_17 x (fun y => k (.exit 2) (px_12_17_0.inst y))))).add 13 (loopBy 0 lv_12_13 pt_12_13 (fun x k => m_12_13 x (fun y => k (.exit 0) (px_12_13_0.inst y))))).add 24 (loopBy 0 lv_12_24 pt_12_24 (fun x k => m_12_24 x (fun y => k (.exit 4) (px_12_24_0.inst y))))
def E_12 {R : Type} (N : Nat) : Env R := EG_12 (p_45 N) (p_15 N) (p_46 N) (p_17 N) (p_19 N)
theorem eok_12 {R : Type} (N : Nat) : EK Try.prog (E_12 (R := R) N) := ek_add (ek_add (ek_add (ek_add (ek_add (ek_base _ _) (good_45 N)) (good_15 N)) (good_46 N)) (good_17 N)) (good_19 N)
def L_12 {R : Type} (N : Nat) : Loops R := LG_12 (l_12_17 N N) (l_12_13 N N) (l_12_24 N N)
theorem gstep_12_17 {R : Type} (q_45 : Tp_45 R) (q_15 : Tp_15 R) (q_46 : Tp_46 R) (q_17 : Tp_17 R) (q_19 : Tp_19 R) (m_12_17 : Tl_12_17 R) (m_12_13 : Tl_12_13 R) (m_12_24 : Tl_12_24 R) (n : Nat) (x : pt_12_17.den) (k : Exit → St → Option R) : iter 0 lv_12_17 lo_12_17 (aexec TT (EG_12 q_45 q_15 q_46 q_17 q_19) (drawAny TT WW) (LG_12 m_12_17 m_12_13 m_12_24) (loopAt 17 (bodyOf Try.f12))) (n + 1) (pt_12_17.inst x) k = C_12_17 q_45 q_15 q_46 q_17 q_19 m_12_17 m_12_13 m_12_24 (fun y => iter 0 lv_12_17 lo_12_17 (aexec TT (EG_12 q_45 q_15 q_46 q_17 q_19) (drawAny TT WW) (LG_12 m_12_17 m_12_13 m_12_24) (loopAt 17 (bodyOf Try.f12))) n (pt_12_17.inst y) k) x (fun y => k (.exit 2) (px_12_17_0.inst y)) := by kernel_rfl
theorem step_12_17 {R : Type} (N n : Nat) (x : pt_12_17.den) (k : Exit → St → Option R) : iter 0 lv_12_17 lo_12_17 (aexec TT (E_12 (R := R) N) (drawAny TT WW) (L_12 N) (loopAt 17 (bodyOf Try.f12))) (n + 1) (pt_12_17.inst x) k = B_12_17 N (fun y => iter 0 lv_12_17 lo_12_17 (aexec TT (E_12 (R := R) N) (drawAny TT WW) (L_12 N) (loopAt 17 (bodyOf Try.f12))) n (pt_12_17.inst y) k) x (fun y => k (.exit 2) (px_12_17_0.inst y)) := (gstep_12_17 (p_45 N) (p_15 N) (p_46 N) (p_17 N) (p_19 N) (l_12_17 N N) (l_12_13 N N) (l_12_24 N N) n x k).trans (by kernel_rfl)
theorem eq_12_17 {R : Type} (N : Nat) : ∀ (n : Nat) (x : pt_12_17.den) (k : Exit → St → Option R), iter 0 lv_12_17 lo_12_17 (aexec TT (E_12 (R := R) N) (drawAny TT WW) (L_12 N) (loopAt 17 (bodyOf Try.f12))) n (pt_12_17.inst x) k = l_12_17 N n x (fun y => k (.exit 2) (px_12_17_0.inst y)) :=
  iter_eq (K := Exit → St → Option R) (ks := fun k => k) (l := fun n (x : pt_12_17.den) k => l_12_17 N n x (fun y => k (.exit 2) (px_12_17_0.inst y))) (B := fun (rec : pt_12_17.den → Option R) (x : pt_12_17.den) k => B_12_17 N rec x (fun y => k (.exit 2) (px_12_17_0.inst y))) (fun _ _ => rfl) (fun _ _ _ => rfl) (fun n x k => step_12_17 N n x k)
theorem rounds_12_17 {R : Type} (N : Nat) : Rounds 0 TT (E_12 (R := R) N) (drawAny TT WW) (L_12 N) 17 (loopAt 17 (bodyOf Try.f12)) :=
  rounds_of (p := pt_12_17) (l := fun (x : pt_12_17.den) k => l_12_17 N N x (fun y => k (.exit 2) (px_12_17_0.inst y))) (fun s k => rfl) (fun x k => eq_12_17 N N x k)
theorem gstep_12_13 {R : Type} (q_45 : Tp_45 R) (q_15 : Tp_15 R) (q_46 : Tp_46 R) (q_17 : Tp_17 R) (q_19 : Tp_19 R) (m_12_17 : Tl_12_17 R) (m_12_13 : Tl_12_13 R) (m_12_24 : Tl_12_24 R) (n : Nat) (x : pt_12_13.den) (k : Exit → St → Option R) : iter 0 lv_12_13 lo_12_13 (aexec TT (EG_12 q_45 q_15 q_46 q_17 q_19) (drawAny TT WW) (LG_12 m_12_17 m_12_13 m_12_24) (loopAt 13 (bodyOf Try.f12))) (n + 1) (pt_12_13.inst x) k = C_12_13 q_45 q_15 q_46 q_17 q_19 m_12_17 m_12_13 m_12_24 (fun y => iter 0 lv_12_13 lo_12_13 (aexec TT (EG_12 q_45 q_15 q_46 q_17 q_19) (drawAny TT WW) (LG_12 m_12_17 m_12_13 m_12_24) (loopAt 13 (bodyOf Try.f12))) n (pt_12_13.inst y) k) x (fun y => k (.exit 0) (px_12_13_0.inst y)) := by kernel_rfl
theorem step_12_13 {R : Type} (N n : Nat) (x : pt_12_13.den) (k : Exit → St → Option R) : iter 0 lv_12_13 lo_12_13 (aexec TT (E_12 (R := R) N) (drawAny TT WW) (L_12 N) (loopAt 13 (bodyOf Try.f12))) (n + 1) (pt_12_13.inst x) k = B_12_13 N (fun y => iter 0 lv_12_13 lo_12_13 (aexec TT (E_12 (R := R) N) (drawAny TT WW) (L_12 N) (loopAt 13 (bodyOf Try.f12))) n (pt_12_13.inst y) k) x (fun y => k (.exit 0) (px_12_13_0.inst y)) := (gstep_12_13 (p_45 N) (p_15 N) (p_46 N) (p_17 N) (p_19 N) (l_12_17 N N) (l_12_13 N N) (l_12_24 N N) n x k).trans (by kernel_rfl)
theorem eq_12_13 {R : Type} (N : Nat) : ∀ (n : Nat) (x : pt_12_13.den) (k : Exit → St → Option R), iter 0 lv_12_13 lo_12_13 (aexec TT (E_12 (R := R) N) (drawAny TT WW) (L_12 N) (loopAt 13 (bodyOf Try.f12))) n (pt_12_13.inst x) k = l_12_13 N n x (fun y => k (.exit 0) (px_12_13_0.inst y)) :=
  iter_eq (K := Exit → St → Option R) (ks := fun k => k) (l := fun n (x : pt_12_13.den) k => l_12_13 N n x (fun y => k (.exit 0) (px_12_13_0.inst y))) (B := fun (rec : pt_12_13.den → Option R) (x : pt_12_13.den) k => B_12_13 N rec x (fun y => k (.exit 0) (px_12_13_0.inst y))) (fun _ _ => rfl) (fun _ _ _ => rfl) (fun n x k => step_12_13 N n x k)
theorem rounds_12_13 {R : Type} (N : Nat) : Rounds 0 TT (E_12 (R := R) N) (drawAny TT WW) (L_12 N) 13 (loopAt 13 (bodyOf Try.f12)) :=
  rounds_of (p := pt_12_13) (l := fun (x : pt_12_13.den) k => l_12_13 N N x (fun y => k (.exit 0) (px_12_13_0.inst y))) (fun s k => rfl) (fun x k => eq_12_13 N N x k)
theorem gstep_12_24 {R : Type} (q_45 : Tp_45 R) (q_15 : Tp_15 R) (q_46 : Tp_46 R) (q_17 : Tp_17 R) (q_19 : Tp_19 R) (m_12_17 : Tl_12_17 R) (m_12_13 : Tl_12_13 R) (m_12_24 : Tl_12_24 R) (n : Nat) (x : pt_12_24.den) (k : Exit → St → Option R) : iter 0 lv_12_24 lo_12_24 (aexec TT (EG_12 q_45 q_15 q_46 q_17 q_19) (drawAny TT WW) (LG_12 m_12_17 m_12_13 m_12_24) (loopAt 24 (bodyOf Try.f12))) (n + 1) (pt_12_24.inst x) k = C_12_24 q_45 q_15 q_46 q_17 q_19 m_12_17 m_12_13 m_12_24 (fun y => iter 0 lv_12_24 lo_12_24 (aexec TT (EG_12 q_45 q_15 q_46 q_17 q_19) (drawAny TT WW) (LG_12 m_12_17 m_12_13 m_12_24) (loopAt 24 (bodyOf Try.f12))) n (pt_12_24.inst y) k) x (fun y => k (.exit 4) (px_12_24_0.inst y)) := by kernel_rfl
theorem step_12_24 {R : Type} (N n : Nat) (x : pt_12_24.den) (k : Exit → St → Option R) : iter 0 lv_12_24 lo_12_24 (aexec TT (E_12 (R := R) N) (drawAny TT WW) (L_12 N) (loopAt 24 (bodyOf Try.f12))) (n + 1) (pt_12_24.inst x) k = B_12_24 N (fun y => iter 0 lv_12_24 lo_12_24 (aexec TT (E_12 (R := R) N) (drawAny TT WW) (L_12 N) (loopAt 24 (bodyOf Try.f12))) n (pt_12_24.inst y) k) x (fun y => k (.exit 4) (px_12_24_0.inst y)) := (gstep_12_24 (p_45 N) (p_15 N) (p_46 N) (p_17 N) (p_19 N) (l_12_17 N N) (l_12_13 N N) (l_12_24 N N) n x k).trans (by kernel_rfl)
theorem eq_12_24 {R : Type} (N : Nat) : ∀ (n : Nat) (x : pt_12_24.den) (k : Exit → St → Option R), iter 0 lv_12_24 lo_12_24 (aexec TT (E_12 (R := R) N) (drawAny TT WW) (L_12 N) (loopAt 24 (bodyOf Try.f12))) n (pt_12_24.inst x) k = l_12_24 N n x (fun y => k (.exit 4) (px_12_24_0.inst y)) :=
  iter_eq (K := Exit → St → Option R) (ks := fun k => k) (l := fun n (x : pt_12_24.den) k => l_12_24 N n x (fun y => k (.exit 4) (px_12_24_0.inst y))) (B := fun (rec : pt_12_24.den → Option R) (x : pt_12_24.den) k => B_12_24 N rec x (fun y => k (.exit 4) (px_12_24_0.inst y))) (fun _ _ => rfl) (fun _ _ _ => rfl) (fun n x k => step_12_24 N n x k)
theorem rounds_12_24 {R : Type} (N : Nat) : Rounds 0 TT (E_12 (R := R) N) (drawAny TT WW) (L_12 N) 24 (loopAt 24 (bodyOf Try.f12)) :=
  rounds_of (p := pt_12_24) (l := fun (x : pt_12_24.den) k => l_12_24 N N x (fun y => k (.exit 4) (px_12_24_0.inst y))) (fun s k => rfl) (fun x k => eq_12_24 N N x k)
theorem loops_12 : loopsIn (bodyOf Try.f12) = [(13, loopAt 13 (bodyOf Try.f12)), (17, loopAt 17 (bodyOf Try.f12)), (24, loopAt 24 (bodyOf Try.f12))] := by kernel_rfl
theorem lok_12 {R : Type} (N : Nat) : LOK 0 TT (E_12 (R := R) N) (drawAny TT WW) (L_12 N) (bodyOf Try.f12) := loops_all loops_12 (by
  simp only [List.forall_mem_cons, List.not_mem_nil, false_implies, implies_true, and_true]
  exact ⟨rounds_12_13 N, rounds_12_17 N, rounds_12_24 N⟩)
theorem grun_12 {R : Type} (q_45 : Tp_45 R) (q_15 : Tp_15 R) (q_46 : Tp_46 R) (q_17 : Tp_17 R) (q_19 : Tp_19 R) (m_12_17 : Tl_12_17 R) (m_12_13 : Tl_12_13 R) (m_12_24 : Tl_12_24 R) (x : aden ap_12 × hden hp_12) (k : KF R) : fnrun TT (EG_12 q_45 q_15 q_46 q_17 q_19) (drawAny TT WW) (LG_12 m_12_17 m_12_13 m_12_24) true Try.f12 (instA ap_12 x.1) (instH hp_12 x.2) k = Q_12 q_45 q_15 q_46 q_17 q_19 m_12_17 m_12_13 m_12_24 x (fun y => k (Pat.inst (.tup (.fcons (.vec (.int .u64) 8) (.fcons (.int .i64) (.fnil)))) y) (instH hp_12 x.2)) := by kernel_rfl
theorem run_12 {R : Type} (N : Nat) (x : aden ap_12 × hden hp_12) (k : KF R) : fnrun TT (E_12 (R := R) N) (drawAny TT WW) (L_12 N) true Try.f12 (instA ap_12 x.1) (instH hp_12 x.2) k = p_12 N x (fun y => k (Pat.inst (.tup (.fcons (.vec (.int .u64) 8) (.fcons (.int .i64) (.fnil)))) y) (instH hp_12 x.2)) := (grun_12 (p_45 N) (p_15 N) (p_46 N) (p_17 N) (p_19 N) (l_12_17 N N) (l_12_13 N N) (l_12_24 N N) x k).trans (by kernel_rfl)
theorem good_12 {R : Type} (N : Nat) : GD (X := R) Try.prog QQ 12 ap_12 hp_12 (fun (x : aden ap_12 × hden hp_12) k => p_12 N x (fun y => k (Pat.inst (.tup (.fcons (.vec (.int .u64) 8) (.fcons (.int .i64) (.fnil)))) y) (instH hp_12 x.2))) :=
  gd_quiet (E := E_12 N) (p := fun (x : aden ap_12 × hden hp_12) κ => p_12 N x (fun y => κ (Pat.inst (.tup (.fcons (.vec (.int .u64) 8) (.fcons (.int .i64) (.fnil)))) y))) mixed tyok (eok_12 N) Try.func12 (by kernel_rfl) (by kernel_rfl) (lok_12 N) (fun x k => run_12 N x k)

def lv_26_4 : Live := [(0, none), (14, none), (15, none), (16, none)]
def pt_26_4 : SPat := ⟨[(0, .ptr 0 []), (14, .ros (.sl (.int .u8))), (15, .int .i64), (16, .int .i64)], [some (.node (.fcons (.nilp) (.fcons (.vec (.int .u64) 8) (.fcons (.int .i64) (.fcons (.int .u64) (.fnil))))), 115), some (.lst (.str), 9)]⟩
def px_26_4_0 : SPat := ⟨[(0, .ptr 0 [])], [some (.node (.fcons (.nilp) (.fcons (.vec (.int .u64) 8) (.fcons (.int .i64) (.fcons (.int .u64) (.fnil))))), 115), some (.lst (.str), 9)]⟩
def lo_26_4 : Exit → Live
  | .exit 0 => [(0, none)]
  | _ => []
def B_26_4 {R : Type} (N : Nat) (rec : ((Unit × (List (List Int)) × Int × Int × Unit) × ((Unit × ((Nat → Int) × (Int × (Int × Unit)))) × (List ByteArray) × Unit)) → Option R) (x : ((Unit × (List (List Int)) × Int × Int × Unit) × ((Unit × ((Nat → Int) × (Int × (Int × Unit)))) × (List ByteArray) × Unit))) (κ0 : ((Unit × Unit) × ((Unit × ((Nat → Int) × (Int × (Int × Unit)))) × (List ByteArray) × Unit)) → Option R) : Option R :=
let l54 : (List (List Int)) := x.1.2.1
let i55 : Int := x.1.2.2.1
let i56 : Int := x.1.2.2.2.1
let a57 : (Nat → Int) := x.2.1.2.1
let i58 : Int := x.2.1.2.2.1
let i59 : Int := x.2.1.2.2.2.1
let l60 : (List ByteArray) := x.2.2.1
bif (decide (i56 < i55)) then (
bif decide (0 ≤ i56) then (
bif decide (i56 < ((List.length l54) : Int)) then (
let p61 : (List Int) := (List.getD l54 ((Int.toNat i56)) (Sch.zero (.sl (.int .u8))))
let i62 : Int := addA .u64 i59 128
p_12 N ((a57, p61, i62, false, ()), ()) (fun y767 =>
let a768 : (Nat → Int) := y767.1
let i769 : Int := y767.2.1
let i770 : Int := addA .i64 i56 1
rec (((), l54, i55, i770, ()), (((), (a768, (i58, (i62, ())))), l60, ())))) else none) else none) else (
κ0 (((), ()), (((), (a57, (i58, (i59, ())))), l60, ())))
def l_26_4 {R : Type} (N : Nat) : Nat → ((Unit × (List (List Int)) × Int × Int × Unit) × ((Unit × ((Nat → Int) × (Int × (Int × Unit)))) × (List ByteArray) × Unit)) → (((Unit × Unit) × ((Unit × ((Nat → Int) × (Int × (Int × Unit)))) × (List ByteArray) × Unit)) → Option R) → Option R
  | 0, _, _ => none
  | n + 1, x, κ0 => B_26_4 N (fun y => l_26_4 N n y κ0) x κ0
def ap_26 : List Pat := [.ptr 0 [], .sl 1]
def hp_26 : List (Option (Pat × Nat)) := [some (.node (.fcons (.nilp) (.fcons (.vec (.int .u64) 8) (.fcons (.int .i64) (.fcons (.int .u64) (.fnil))))), 115), some (.lst (.str), 9)]
def p_26 {R : Type} (N : Nat) (x : (Unit × Unit × Unit) × ((Unit × ((Nat → Int) × (Int × (Int × Unit)))) × (List ByteArray) × Unit)) (κ0 : (Unit × ((Unit × ((Nat → Int) × (Int × (Int × Unit)))) × (List ByteArray) × Unit)) → Option R) : Option R :=
let a45 : (Nat → Int) := x.2.1.2.1
let i46 : Int := x.2.1.2.2.1
let i47 : Int := x.2.1.2.2.2.1
let l48 : (List ByteArray) := x.2.2.1
p_57 N (((), (), ()), (l48, ())) (fun y50 =>
let l51 : (List (List Int)) := y50.1
let l52 : (List ByteArray) := y50.2.1
let i53 : Int := (((List.length l51) : Nat) : Int)
l_26_4 N N (((), l51, i53, 0, ()), (((), (a45, (i46, (i47, ())))), l52, ())) (fun y771 =>
let a772 : (Nat → Int) := y771.2.1.2.1
let i773 : Int := y771.2.1.2.2.1
let i774 : Int := y771.2.1.2.2.2.1
let l775 : (List ByteArray) := y771.2.2.1
κ0 ((), (((), (a772, (i773, (i774, ())))), l775, ()))))

abbrev Tl_26_4 (R : Type) : Type := ((Unit × (List (List Int)) × Int × Int × Unit) × ((Unit × ((Nat → Int) × (Int × (Int × Unit)))) × (List ByteArray) × Unit)) → (((Unit × Unit) × ((Unit × ((Nat → Int) × (Int × (Int × Unit)))) × (List ByteArray) × Unit)) → Option R) → Option R
abbrev Tp_26 (R : Type) : Type := (Unit × Unit × Unit) × ((Unit × ((Nat → Int) × (Int × (Int × Unit)))) × (List ByteArray) × Unit) → ((Unit × ((Unit × ((Nat → Int) × (Int × (Int × Unit)))) × (List ByteArray) × Unit)) → Option R) → Option R
def Q_26 {R : Type} (q_57 : Tp_57 R) (q_12 : Tp_12 R) (m_26_4 : Tl_26_4 R) (x : (Unit × Unit × Unit) × ((Unit × ((Nat → Int) × (Int × (Int × Unit)))) × (List ByteArray) × Unit)) (κ0 : (Unit × ((Unit × ((Nat → Int) × (Int × (Int × Unit)))) × (List ByteArray) × Unit)) → Option R) : Option R :=
let a45 : (Nat → Int) := x.2.1.2.1
let i46 : Int := x.2.1.2.2.1
let i47 : Int := x.2.1.2.2.2.1
let l48 : (List ByteArray) := x.2.2.1
q_57 (((), (), ()), (l48, ())) (fun y50 =>
let l51 : (List (List Int)) := y50.1
let l52 : (List ByteArray) := y50.2.1
let i53 : Int := (((List.length l51) : Nat) : Int)
m_26_4 (((), l51, i53, 0, ()), (((), (a45, (i46, (i47, ())))), l52, ())) (fun y771 =>
let a772 : (Nat → Int) := y771.2.1.2.1
let i773 : Int := y771.2.1.2.2.1
let i774 : Int := y771.2.1.2.2.2.1
let l775 : (List ByteArray) := y771.2.2.1
κ0 ((), (((), (a772, (i773, (i774, ())))), l775, ()))))
def C_26_4 {R : Type} (q_57 : Tp_57 R) (q_12 : Tp_12 R) (m_26_4 : Tl_26_4 R) (rec : ((Unit × (List (List Int)) × Int × Int × Unit) × ((Unit × ((Nat → Int) × (Int × (Int × Unit)))) × (List ByteArray) × Unit)) → Option R) (x : ((Unit × (List (List Int)) × Int × Int × Unit) × ((Unit × ((Nat → Int) × (Int × (Int × Unit)))) × (List ByteArray) × Unit))) (κ0 : ((Unit × Unit) × ((Unit × ((Nat → Int) × (Int × (Int × Unit)))) × (List ByteArray) × Unit)) → Option R) : Option R :=
let l54 : (List (List Int)) := x.1.2.1
let i55 : Int := x.1.2.2.1
let i56 : Int := x.1.2.2.2.1
let a57 : (Nat → Int) := x.2.1.2.1
let i58 : Int := x.2.1.2.2.1
let i59 : Int := x.2.1.2.2.2.1
let l60 : (List ByteArray) := x.2.2.1
bif (decide (i56 < i55)) then (
bif decide (0 ≤ i56) then (
bif decide (i56 < ((List.length l54) : Int)) then (
let p61 : (List Int) := (List.getD l54 ((Int.toNat i56)) (Sch.zero (.sl (.int .u8))))
let i62 : Int := addA .u64 i59 128
q_12 ((a57, p61, i62, false, ()), ()) (fun y767 =>
let a768 : (Nat → Int) := y767.1
let i769 : Int := y767.2.1
let i770 : Int := addA .i64 i56 1
rec (((), l54, i55, i770, ()), (((), (a768, (i58, (i62, ())))), l60, ())))) else none) else none) else (
κ0 (((), ()), (((), (a57, (i58, (i59, ())))), l60, ())))
def EG_26 {R : Type} (q_57 : Tp_57 R) (q_12 : Tp_12 R) : Env R := ((Env.base QQ LN).add 57 ap_57 hp_57 (fun (x : aden ap_57 × hden hp_57) k => q_57 x (fun y => k (Pat.inst (.ros (.sl (.int .u8))) y.1) (instH [some (.lst (.str), 9)] y.2)))).add 12 ap_12 hp_12 (fun (x : aden ap_12 × hden hp_12) k => q_12 x (fun y => k (Pat.inst (.tup (.fcons (.vec (.int .u64) 8) (.fcons (.int .i64) (.fnil)))) y) (instH hp_12 x.2)))
def LG_26 {R : Type} (m_26_4 : Tl_26_4 R) : Loops R := (Loops.none).add 4 (loopBy 2 lv_26_4 pt_26_4 (fun x k => m_26_4 x (fun y => k (.exit 0) (px_26_4_0.inst y))))
def E_26 {R : Type} (N : Nat) : Env R := EG_26 (p_57 N) (p_12 N)
theorem eok_26 {R : Type} (N : Nat) : EK Try.prog (E_26 (R := R) N) := ek_add (ek_add (ek_base _ _) (good_57 N)) (good_12 N)
def L_26 {R : Type} (N : Nat) : Loops R := LG_26 (l_26_4 N N)
theorem gstep_26_4 {R : Type} (q_57 : Tp_57 R) (q_12 : Tp_12 R) (m_26_4 : Tl_26_4 R) (n : Nat) (x : pt_26_4.den) (k : Exit → St → Option R) : iter 2 lv_26_4 lo_26_4 (aexec TT (EG_26 q_57 q_12) (drawAny TT WW) (LG_26 m_26_4) (loopAt 4 (bodyOf Try.f26))) (n + 1) (pt_26_4.inst x) k = C_26_4 q_57 q_12 m_26_4 (fun y => iter 2 lv_26_4 lo_26_4 (aexec TT (EG_26 q_57 q_12) (drawAny TT WW) (LG_26 m_26_4) (loopAt 4 (bodyOf Try.f26))) n (pt_26_4.inst y) k) x (fun y => k (.exit 0) (px_26_4_0.inst y)) := by kernel_rfl
theorem step_26_4 {R : Type} (N n : Nat) (x : pt_26_4.den) (k : Exit → St → Option R) : iter 2 lv_26_4 lo_26_4 (aexec TT (E_26 (R := R) N) (drawAny TT WW) (L_26 N) (loopAt 4 (bodyOf Try.f26))) (n + 1) (pt_26_4.inst x) k = B_26_4 N (fun y => iter 2 lv_26_4 lo_26_4 (aexec TT (E_26 (R := R) N) (drawAny TT WW) (L_26 N) (loopAt 4 (bodyOf Try.f26))) n (pt_26_4.inst y) k) x (fun y => k (.exit 0) (px_26_4_0.inst y)) := (gstep_26_4 (p_57 N) (p_12 N) (l_26_4 N N) n x k).trans (by kernel_rfl)
theorem eq_26_4 {R : Type} (N : Nat) : ∀ (n : Nat) (x : pt_26_4.den) (k : Exit → St → Option R), iter 2 lv_26_4 lo_26_4 (aexec TT (E_26 (R := R) N) (drawAny TT WW) (L_26 N) (loopAt 4 (bodyOf Try.f26))) n (pt_26_4.inst x) k = l_26_4 N n x (fun y => k (.exit 0) (px_26_4_0.inst y)) :=
  iter_eq (K := Exit → St → Option R) (ks := fun k => k) (l := fun n (x : pt_26_4.den) k => l_26_4 N n x (fun y => k (.exit 0) (px_26_4_0.inst y))) (B := fun (rec : pt_26_4.den → Option R) (x : pt_26_4.den) k => B_26_4 N rec x (fun y => k (.exit 0) (px_26_4_0.inst y))) (fun _ _ => rfl) (fun _ _ _ => rfl) (fun n x k => step_26_4 N n x k)
theorem rounds_26_4 {R : Type} (N : Nat) : Rounds 2 TT (E_26 (R := R) N) (drawAny TT WW) (L_26 N) 4 (loopAt 4 (bodyOf Try.f26)) :=
  rounds_of (p := pt_26_4) (l := fun (x : pt_26_4.den) k => l_26_4 N N x (fun y => k (.exit 0) (px_26_4_0.inst y))) (fun s k => rfl) (fun x k => eq_26_4 N N x k)
theorem loops_26 : loopsIn (bodyOf Try.f26) = [(4, loopAt 4 (bodyOf Try.f26))] := by kernel_rfl
theorem lok_26 {R : Type} (N : Nat) : LOK 2 TT (E_26 (R := R) N) (drawAny TT WW) (L_26 N) (bodyOf Try.f26) := loops_all loops_26 (by
  simp only [List.forall_mem_cons, List.not_mem_nil, false_implies, implies_true, and_true]
  exact rounds_26_4 N)
theorem grun_26 {R : Type} (q_57 : Tp_57 R) (q_12 : Tp_12 R) (m_26_4 : Tl_26_4 R) (x : aden ap_26 × hden hp_26) (k : KF R) : fnrun TT (EG_26 q_57 q_12) (drawAny TT WW) (LG_26 m_26_4) true Try.f26 (instA ap_26 x.1) (instH hp_26 x.2) k = Q_26 q_57 q_12 m_26_4 x (fun y => k (Pat.inst (.ptr 0 []) y.1) (instH [some (.node (.fcons (.nilp) (.fcons (.vec (.int .u64) 8) (.fcons (.int .i64) (.fcons (.int .u64) (.fnil))))), 115), some (.lst (.str), 9)] y.2)) := by kernel_rfl
theorem run_26 {R : Type} (N : Nat) (x : aden ap_26 × hden hp_26) (k : KF R) : fnrun TT (E_26 (R := R) N) (drawAny TT WW) (L_26 N) true Try.f26 (instA ap_26 x.1) (instH hp_26 x.2) k = p_26 N x (fun y => k (Pat.inst (.ptr 0 []) y.1) (instH [some (.node (.fcons (.nilp) (.fcons (.vec (.int .u64) 8) (.fcons (.int .i64) (.fcons (.int .u64) (.fnil))))), 115), some (.lst (.str), 9)] y.2)) := (grun_26 (p_57 N) (p_12 N) (l_26_4 N N) x k).trans (by kernel_rfl)
theorem good_26 {R : Type} (N : Nat) : GD (X := R) Try.prog QQ 26 ap_26 hp_26 (fun (x : aden ap_26 × hden hp_26) k => p_26 N x (fun y => k (Pat.inst (.ptr 0 []) y.1) (instH [some (.node (.fcons (.nilp) (.fcons (.vec (.int .u64) 8) (.fcons (.int .i64) (.fcons (.int .u64) (.fnil))))), 115), some (.lst (.str), 9)] y.2))) :=
  gd_loud (E := E_26 N) (p := fun (x : aden ap_26 × hden hp_26) k => p_26 N x (fun y => k (Pat.inst (.ptr 0 []) y.1) (instH [some (.node (.fcons (.nilp) (.fcons (.vec (.int .u64) 8) (.fcons (.int .i64) (.fcons (.int .u64) (.fnil))))), 115), some (.lst (.str), 9)] y.2))) mixed tyok (eok_26 N) Try.func26 (by kernel_rfl) (by kernel_rfl) (by kernel_rfl) (lok_26 N) (fun x k => run_26 N x k)

def ap_82 : List Pat := [.ptr 0 []]
def hp_82 : List (Option (Pat × Nat)) := [some (.node (.fcons (.int .i64) (.fcons (.bool) (.fcons (.sl 1) (.fcons (.int .i64) (.fnil))))), 151), some (.lst (.int .u8), 5)]
def p_82 {R : Type} (N : Nat) (x : (Unit × Unit) × ((Int × (Bool × (Unit × (Int × Unit)))) × (List Int) × Unit)) (κ0 : Bool → Option R) : Option R :=
let i835 : Int := x.2.1.1
let b836 : Bool := x.2.1.2.1
let i837 : Int := x.2.1.2.2.2.1
let l838 : (List Int) := x.2.2.1
bif b836 then (
let i839 : Int := (((List.length l838) : Nat) : Int)
κ0 ((decide (i839 > i835)))) else (
let i840 : Int := (((List.length l838) : Nat) : Int)
κ0 ((decide (i840 ≥ i835))))

abbrev Tp_82 (R : Type) : Type := (Unit × Unit) × ((Int × (Bool × (Unit × (Int × Unit)))) × (List Int) × Unit) → (Bool → Option R) → Option R
def Q_82 {R : Type} (x : (Unit × Unit) × ((Int × (Bool × (Unit × (Int × Unit)))) × (List Int) × Unit)) (κ0 : Bool → Option R) : Option R :=
let i835 : Int := x.2.1.1
let b836 : Bool := x.2.1.2.1
let i837 : Int := x.2.1.2.2.2.1
let l838 : (List Int) := x.2.2.1
bif b836 then (
let i839 : Int := (((List.length l838) : Nat) : Int)
κ0 ((decide (i839 > i835)))) else (
let i840 : Int := (((List.length l838) : Nat) : Int)
κ0 ((decide (i840 ≥ i835))))
def EG_82 {R : Type} : Env R := Env.base QQ LN
def LG_82 {R : Type} : Loops R := Loops.none
def E_82 {R : Type} (N : Nat) : Env R := EG_82
theorem eok_82 {R : Type} (N : Nat) : EK Try.prog (E_82 (R := R) N) := ek_base _ _
def L_82 {R : Type} (N : Nat) : Loops R := LG_82
theorem lok_82 {R : Type} (N : Nat) : LOK 2 TT (E_82 (R := R) N) (drawAny TT WW) (L_82 N) (bodyOf Try.f82) := loops_nil (by kernel_rfl)
theorem grun_82 {R : Type} (x : aden ap_82 × hden hp_82) (k : KF R) : fnrun TT (EG_82) (drawAny TT WW) (LG_82) true Try.f82 (instA ap_82 x.1) (instH hp_82 x.2) k = Q_82 x (fun y => k (Pat.inst (.bool) y) (instH hp_82 x.2)) := by kernel_rfl
theorem run_82 {R : Type} (N : Nat) (x : aden ap_82 × hden hp_82) (k : KF R) : fnrun TT (E_82 (R := R) N) (drawAny TT WW) (L_82 N) true Try.f82 (instA ap_82 x.1) (instH hp_82 x.2) k = p_82 N x (fun y => k (Pat.inst (.bool) y) (instH hp_82 x.2)) := (grun_82 x k).trans (by kernel_rfl)
theorem good_82 {R : Type} (N : Nat) : GD (X := R) Try.prog QQ 82 ap_82 hp_82 (fun (x : aden ap_82 × hden hp_82) k => p_82 N x (fun y => k (Pat.inst (.bool) y) (instH hp_82 x.2))) :=
  gd_quiet (E := E_82 N) (p := fun (x : aden ap_82 × hden hp_82) κ => p_82 N x (fun y => κ (Pat.inst (.bool) y))) mixed tyok (eok_82 N) Try.func82 (by kernel_rfl) (by kernel_rfl) (lok_82 N) (fun x k => run_82 N x k)

def lv_57_v1_9 : Live := [(0, none), (5, some (.sl (.int .u8), 24)), (17, none), (18, none), (19, none)]
def pt_57_v1_9 : SPat := ⟨[(0, .ptr 0 []), (5, .sl 4), (17, .sl 2), (18, .int .i64), (19, .int .i64)], [some (.node (.fcons (.int .i64) (.fcons (.bool) (.fcons (.sl 3) (.fcons (.int .i64) (.fnil))))), 151), none, some (.lst (.str), 9), some (.lst (.int .u8), 5), some (.lst (.sl (.int .u8)), 24)]⟩
def px_57_v1_9_0 : SPat := ⟨[(0, .ptr 0 []), (5, .sl 4), (17, .sl 2), (18, .int .i64), (19, .int .i64)], [some (.node (.fcons (.int .i64) (.fcons (.bool) (.fcons (.sl 3) (.fcons (.int .i64) (.fnil))))), 151), none, some (.lst (.str), 9), some (.lst (.int .u8), 5), some (.lst (.sl (.int .u8)), 24)]⟩
def lo_57_v1_9 : Exit → Live
  | .exit 2 => [(0, none), (5, none), (17, none), (18, none), (19, none)]
  | _ => []
def B_57_v1_9 {R : Type} (N : Nat) (rec : ((Unit × Unit × Unit × Int × Int × Unit) × ((Int × (Bool × (Unit × (Int × Unit)))) × (List ByteArray) × (List Int) × (List (List Int)) × Unit)) → Option R) (x : ((Unit × Unit × Unit × Int × Int × Unit) × ((Int × (Bool × (Unit × (Int × Unit)))) × (List ByteArray) × (List Int) × (List (List Int)) × Unit))) (κ0 : ((Unit × Unit × Unit × Int × Int × Unit) × ((Int × (Bool × (Unit × (Int × Unit)))) × (List ByteArray) × (List Int) × (List (List Int)) × Unit)) → Option R) : Option R :=
let i918 : Int := x.1.2.2.2.1
let i919 : Int := x.1.2.2.2.2.1
let i920 : Int := x.2.1.1
let b921 : Bool := x.2.1.2.1
let i922 : Int := x.2.1.2.2.2.1
let l923 : (List ByteArray) := x.2.2.1
let l924 : (List Int) := x.2.2.2.1
let l925 : (List (List Int)) := x.2.2.2.2.1
p_82 N (((), ()), ((i920, (b921, ((), (i922, ())))), l924, ())) (fun y926 =>
let b927 : Bool := y926
bif b927 then (
bif decide (0 ≤ i920) then (
bif decide (i920 ≤ (((List.length l924) : Nat) : Int)) then (
bif decide (0 ≤ i920) then (
bif decide (List.length ((List.take (((Int.toNat i920) - 0)) (List.drop 0 l924))) * 1 ≤ 140737488355328) then (
let l928 : (List Int) := (List.take (((Int.toNat i920) - 0)) (List.drop 0 l924))
let l929 : (List (List Int)) := [l928]
bif (decide ((List.length l925 + List.length l929) * 24 ≤ 140737488355328) && true) then (
let l930 : (List (List Int)) := (l925 ++ l929)
bif decide (0 ≤ (((List.length l924) : Nat) : Int)) then (
bif decide ((((List.length l924) : Nat) : Int) ≤ (((List.length l924) : Nat) : Int)) then (
bif decide (0 ≤ i920) then (
bif decide (i920 ≤ (((List.length l924) : Nat) : Int)) then (
bif decide (0 < ((List.length l924) - (Int.toNat i920))) then (
let l931 : (List Int) := List.take (((List.length l924) - (Int.toNat i920))) (List.drop ((Int.toNat i920)) l924)
rec (((), (), (), i918, i919, ()), ((i920, (b921, ((), (i922, ())))), l923, l931, l930, ()))) else none) else none) else none) else none) else none) else none) else none) else none) else none) else none) else (
κ0 (((), (), (), i918, i919, ()), ((i920, (b921, ((), (i922, ())))), l923, l924, l925, ()))))
def l_57_v1_9 {R : Type} (N : Nat) : Nat → ((Unit × Unit × Unit × Int × Int × Unit) × ((Int × (Bool × (Unit × (Int × Unit)))) × (List ByteArray) × (List Int) × (List (List Int)) × Unit)) → (((Unit × Unit × Unit × Int × Int × Unit) × ((Int × (Bool × (Unit × (Int × Unit)))) × (List ByteArray) × (List Int) × (List (List Int)) × Unit)) → Option R) → Option R
  | 0, _, _ => none
  | n + 1, x, κ0 => B_57_v1_9 N (fun y => l_57_v1_9 N n y κ0) x κ0
def lv_57_v1_5 : Live := [(0, some (.fnil, 2)), (5, some (.sl (.int .u8), 24)), (17, none), (18, none), (19, none)]
def pt_57_v1_5 : SPat := ⟨[(0, .ptr 0 []), (5, .sl 4), (17, .sl 2), (18, .int .i64), (19, .int .i64)], [some (.node (.fcons (.int .i64) (.fcons (.bool) (.fcons (.sl 3) (.fcons (.int .i64) (.fnil))))), 151), none, some (.lst (.str), 9), some (.lst (.int .u8), 5), some (.lst (.sl (.int .u8)), 24)]⟩
def px_57_v1_5_0 : SPat := ⟨[(0, .ptr 0 []), (5, .sl 4)], [some (.node (.fcons (.int .i64) (.fcons (.bool) (.fcons (.sl 3) (.fcons (.int .i64) (.fnil))))), 151), none, some (.lst (.str), 9), some (.lst (.int .u8), 5), some (.lst (.sl (.int .u8)), 24)]⟩
def lo_57_v1_5 : Exit → Live
  | .exit 0 => [(0, none), (5, none)]
  | _ => []
def B_57_v1_5 {R : Type} (N : Nat) (rec : ((Unit × Unit × Unit × Int × Int × Unit) × ((Int × (Bool × (Unit × (Int × Unit)))) × (List ByteArray) × (List Int) × (List (List Int)) × Unit)) → Option R) (x : ((Unit × Unit × Unit × Int × Int × Unit) × ((Int × (Bool × (Unit × (Int × Unit)))) × (List ByteArray) × (List Int) × (List (List Int)) × Unit))) (κ0 : ((Unit × Unit × Unit) × ((Int × (Bool × (Unit × (Int × Unit)))) × (List ByteArray) × (List Int) × (List (List Int)) × Unit)) → Option R) : Option R :=
let i906 : Int := x.1.2.2.2.1
let i907 : Int := x.1.2.2.2.2.1
let i908 : Int := x.2.1.1
let b909 : Bool := x.2.1.2.1
let i910 : Int := x.2.1.2.2.2.1
let l911 : (List ByteArray) := x.2.2.1
let l912 : (List Int) := x.2.2.2.1
let l913 : (List (List Int)) := x.2.2.2.2.1
bif (decide (i907 < i906)) then (
bif decide (0 ≤ i907) then (
bif decide (i907 < ((List.length l911) : Int)) then (
let s914 : ByteArray := (List.getD l911 ((Int.toNat i907)) (Sch.zero (.str)))
let i915 : Int := ((ByteArray.size s914 : Nat) : Int)
let i916 : Int := addA .i64 i910 i915
bif (decide ((List.length l912 + List.length (strList s914)) * 1 ≤ 140737488355328) && true) then (
let l917 : (List Int) := (l912 ++ strList s914)
l_57_v1_9 N N (((), (), (), i906, i907, ()), ((i908, (b909, ((), (i916, ())))), l911, l917, l913, ())) (fun y932 =>
let i933 : Int := y932.1.2.2.2.1
let i934 : Int := y932.1.2.2.2.2.1
let i935 : Int := y932.2.1.1
let b936 : Bool := y932.2.1.2.1
let i937 : Int := y932.2.1.2.2.2.1
let l938 : (List ByteArray) := y932.2.2.1
let l939 : (List Int) := y932.2.2.2.1
let l940 : (List (List Int)) := y932.2.2.2.2.1
let i941 : Int := addA .i64 i934 1
rec (((), (), (), i933, i941, ()), ((i935, (b936, ((), (i937, ())))), l938, l939, l940, ())))) else none) else none) else none) else (
κ0 (((), (), ()), ((i908, (b909, ((), (i910, ())))), l911, l912, l913, ())))
def l_57_v1_5 {R : Type} (N : Nat) : Nat → ((Unit × Unit × Unit × Int × Int × Unit) × ((Int × (Bool × (Unit × (Int × Unit)))) × (List ByteArray) × (List Int) × (List (List Int)) × Unit)) → (((Unit × Unit × Unit) × ((Int × (Bool × (Unit × (Int × Unit)))) × (List ByteArray) × (List Int) × (List (List Int)) × Unit)) → Option R) → Option R
  | 0, _, _ => none
  | n + 1, x, κ0 => B_57_v1_5 N (fun y => l_57_v1_5 N n y κ0) x κ0
def ap_57_v1 : List Pat := [.ptr 0 [], .sl 2]
def hp_57_v1 : List (Option (Pat × Nat)) := [some (.node (.fcons (.int .i64) (.fcons (.bool) (.fcons (.sl 1) (.fcons (.int .i64) (.fnil))))), 151), some (.lst (.int .u8), 5), some (.lst (.str), 9)]
def p_57_v1 {R : Type} (N : Nat) (x : (Unit × Unit × Unit) × ((Int × (Bool × (Unit × (Int × Unit)))) × (List Int) × (List ByteArray) × Unit)) (κ0 : ((List (List Int)) × ((Int × (Bool × (Unit × (Int × Unit)))) × (List Int) × (List ByteArray) × Unit)) → Option R) (κ1 : ((List (List Int)) × ((Int × (Bool × (Unit × (Int × Unit)))) × (List ByteArray) × (List Int) × Unit)) → Option R) : Option R :=
let i811 : Int := x.2.1.1
let b812 : Bool := x.2.1.2.1
let i813 : Int := x.2.1.2.2.2.1
let l814 : (List Int) := x.2.2.1
let l815 : (List ByteArray) := x.2.2.2.1
bif (i811 == 0) then (
κ0 ([], ((i811, (b812, ((), (i813, ())))), l814, l815, ()))) else (
let i816 : Int := (((List.length l815) : Nat) : Int)
l_57_v1_5 N N (((), (), (), i816, 0, ()), ((i811, (b812, ((), (i813, ())))), l815, l814, [], ())) (fun y942 =>
let i943 : Int := y942.2.1.1
let b944 : Bool := y942.2.1.2.1
let i945 : Int := y942.2.1.2.2.2.1
let l946 : (List ByteArray) := y942.2.2.1
let l947 : (List Int) := y942.2.2.2.1
let l948 : (List (List Int)) := y942.2.2.2.2.1
bif decide (List.length l947 * 1 ≤ 140737488355328) then (
κ1 (l948, ((i943, (b944, ((), (i945, ())))), l946, l947, ()))) else none))

abbrev Tl_57_v1_9 (R : Type) : Type := ((Unit × Unit × Unit × Int × Int × Unit) × ((Int × (Bool × (Unit × (Int × Unit)))) × (List ByteArray) × (List Int) × (List (List Int)) × Unit)) → (((Unit × Unit × Unit × Int × Int × Unit) × ((Int × (Bool × (Unit × (Int × Unit)))) × (List ByteArray) × (List Int) × (List (List Int)) × Unit)) → Option R) → Option R
abbrev Tl_57_v1_5 (R : Type) : Type := ((Unit × Unit × Unit × Int × Int × Unit) × ((Int × (Bool × (Unit × (Int × Unit)))) × (List ByteArray) × (List Int) × (List (List Int)) × Unit)) → (((Unit × Unit × Unit) × ((Int × (Bool × (Unit × (Int × Unit)))) × (List ByteArray) × (List Int) × (List (List Int)) × Unit)) → Option R) → Option R
abbrev Tp_57_v1 (R : Type) : Type := (Unit × Unit × Unit) × ((Int × (Bool × (Unit × (Int × Unit)))) × (List Int) × (List ByteArray) × Unit) → (((List (List Int)) × ((Int × (Bool × (Unit × (Int × Unit)))) × (List Int) × (List ByteArray) × Unit)) → Option R) → (((List (List Int)) × ((Int × (Bool × (Unit × (Int × Unit)))) × (List ByteArray) × (List Int) × Unit)) → Option R) → Option R
def Q_57_v1 {R : Type} (q_82 : Tp_82 R) (m_57_v1_9 : Tl_57_v1_9 R) (m_57_v1_5 : Tl_57_v1_5 R) (x : (Unit × Unit × Unit) × ((Int × (Bool × (Unit × (Int × Unit)))) × (List Int) × (List ByteArray) × Unit)) (κ0 : ((List (List Int)) × ((Int × (Bool × (Unit × (Int × Unit)))) × (List Int) × (List ByteArray) × Unit)) → Option R) (κ1 : ((List (List Int)) × ((Int × (Bool × (Unit × (Int × Unit)))) × (List ByteArray) × (List Int) × Unit)) → Option R) : Option R :=
let i811 : Int := x.2.1.1
let b812 : Bool := x.2.1.2.1
let i813 : Int := x.2.1.2.2.2.1
let l814 : (List Int) := x.2.2.1
let l815 : (List ByteArray) := x.2.2.2.1
bif (i811 == 0) then (
κ0 ([], ((i811, (b812, ((), (i813, ())))), l814, l815, ()))) else (
let i816 : Int := (((List.length l815) : Nat) : Int)
m_57_v1_5 (((), (), (), i816, 0, ()), ((i811, (b812, ((), (i813, ())))), l815, l814, [], ())) (fun y942 =>
let i943 : Int := y942.2.1.1
let b944 : Bool := y942.2.1.2.1
let i945 : Int := y942.2.1.2.2.2.1
let l946 : (List ByteArray) := y942.2.2.1
let l947 : (List Int) := y942.2.2.2.1
let l948 : (List (List Int)) := y942.2.2.2.2.1
bif decide (List.length l947 * 1 ≤ 140737488355328) then (
κ1 (l948, ((i943, (b944, ((), (i945, ())))), l946, l947, ()))) else none))
def C_57_v1_9 {R : Type} (q_82 : Tp_82 R) (m_57_v1_9 : Tl_57_v1_9 R) (m_57_v1_5 : Tl_57_v1_5 R) (rec : ((Unit × Unit × Unit × Int × Int × Unit) × ((Int × (Bool × (Unit × (Int × Unit)))) × (List ByteArray) × (List Int) × (List (List Int)) × Unit)) → Option R) (x : ((Unit × Unit × Unit × Int × Int × Unit) × ((Int × (Bool × (Unit × (Int × Unit)))) × (List ByteArray) × (List Int) × (List (List Int)) × Unit))) (κ0 : ((Unit × Unit × Unit × Int × Int × Unit) × ((Int × (Bool × (Unit × (Int × Unit)))) × (List ByteArray) × (List Int) × (List (List Int)) × Unit)) → Option R) : Option R :=
let i918 : Int := x.1.2.2.2.1
let i919 : Int := x.1.2.2.2.2.1
let i920 : Int := x.2.1.1
let b921 : Bool := x.2.1.2.1
let i922 : Int := x.2.1.2.2.2.1
let l923 : (List ByteArray) := x.2.2.1
let l924 : (List Int) := x.2.2.2.1
let l925 : (List (List Int)) := x.2.2.2.2.1
q_82 (((), ()), ((i920, (b921, ((), (i922, ())))), l924, ())) (fun y926 =>
let b927 : Bool := y926
bif b927 then (
bif decide (0 ≤ i920) then (
bif decide (i920 ≤ (((List.length l924) : Nat) : Int)) then (
bif decide (0 ≤ i920) then (
bif decide (List.length ((List.take (((Int.toNat i920) - 0)) (List.drop 0 l924))) * 1 ≤ 140737488355328) then (
let l928 : (List Int) := (List.take (((Int.toNat i920) - 0)) (List.drop 0 l924))
let l929 : (List (List Int)) := [l928]
bif (decide ((List.length l925 + List.length l929) * 24 ≤ 140737488355328) && true) then (
let l930 : (List (List Int)) := (l925 ++ l929)
bif decide (0 ≤ (((List.length l924) : Nat) : Int)) then (
bif decide ((((List.length l924) : Nat) : Int) ≤ (((List.length l924) : Nat) : Int)) then (
bif decide (0 ≤ i920) then (
bif decide (i920 ≤ (((List.length l924) : Nat) : Int)) then (
bif decide (0 < ((List.length l924) - (Int.toNat i920))) then (
let l931 : (List Int) := List.take (((List.length l924) - (Int.toNat i920))) (List.drop ((Int.toNat i920)) l924)
rec (((), (), (), i918, i919, ()), ((i920, (b921, ((), (i922, ())))), l923, l931, l930, ()))) else none) else none) else none) else none) else none) else none) else none) else none) else none) else none) else (
κ0 (((), (), (), i918, i919, ()), ((i920, (b921, ((), (i922, ())))), l923, l924, l925, ()))))
def C_57_v1_5 {R : Type} (q_82 : Tp_82 R) (m_57_v1_9 : Tl_57_v1_9 R) (m_57_v1_5 : Tl_57_v1_5 R) (rec : ((Unit × Unit × Unit × Int × Int × Unit) × ((Int × (Bool × (Unit × (Int × Unit)))) × (List ByteArray) × (List Int) × (List (List Int)) × Unit)) → Option R) (x : ((Unit × Unit × Unit × Int × Int × Unit) × ((Int × (Bool × (Unit × (Int × Unit)))) × (List ByteArray) × (List Int) × (List (List Int)) × Unit))) (κ0 : ((Unit × Unit × Unit) × ((Int × (Bool × (Unit × (Int × Unit)))) × (List ByteArray) × (List Int) × (List (List Int)) × Unit)) → Option R) : Option R :=
let i906 : Int := x.1.2.2.2.1
let i907 : Int := x.1.2.2.2.2.1
let i908 : Int := x.2.1.1
let b909 : Bool := x.2.1.2.1
let i910 : Int := x.2.1.2.2.2.1
let l911 : (List ByteArray) := x.2.2.1
let l912 : (List Int) := x.2.2.2.1
let l913 : (List (List Int)) := x.2.2.2.2.1
bif (decide (i907 < i906)) then (
bif decide (0 ≤ i907) then (
bif decide (i907 < ((List.length l911) : Int)) then (
let s914 : ByteArray := (List.getD l911 ((Int.toNat i907)) (Sch.zero (.str)))
let i915 : Int := ((ByteArray.size s914 : Nat) : Int)
let i916 : Int := addA .i64 i910 i915
bif (decide ((List.length l912 + List.length (strList s914)) * 1 ≤ 140737488355328) && true) then (
let l917 : (List Int) := (l912 ++ strList s914)
m_57_v1_9 (((), (), (), i906, i907, ()), ((i908, (b909, ((), (i916, ())))), l911, l917, l913, ())) (fun y932 =>
let i933 : Int := y932.1.2.2.2.1
let i934 : Int := y932.1.2.2.2.2.1
let i935 : Int := y932.2.1.1
let b936 : Bool := y932.2.1.2.1
let i937 : Int := y932.2.1.2.2.2.1
let l938 : (List ByteArray) := y932.2.2.1
let l939 : (List Int) := y932.2.2.2.1
let l940 : (List (List Int)) := y932.2.2.2.2.1
let i941 : Int := addA .i64 i934 1
rec (((), (), (), i933, i941, ()), ((i935, (b936, ((), (i937, ())))), l938, l939, l940, ())))) else none) else none) else none) else (
κ0 (((), (), ()), ((i908, (b909, ((), (i910, ())))), l911, l912, l913, ())))
def EG_57_v1 {R : Type} (q_82 : Tp_82 R) : Env R := (Env.base QQ LN).add 82 ap_82 hp_82 (fun (x : aden ap_82 × hden hp_82) k => q_82 x (fun y => k (Pat.inst (.bool) y) (instH hp_82 x.2)))
def LG_57_v1 {R : Type} (m_57_v1_9 : Tl_57_v1_9 R) (m_57_v1_5 : Tl_57_v1_5 R) : Loops R := ((Loops.none).add 9 (loopBy 3 lv_57_v1_9 pt_57_v1_9 (fun x k => m_57_v1_9 x (fun y => k (.exit 2) (px_57_v1_9_0.inst y))))).add 5 (loopBy 3 lv_57_v1_5 pt_57_v1_5 (fun x k => m_57_v1_5 x (fun y => k (.exit 0) (px_57_v1_5_0.inst y))))
def E_57_v1 {R : Type} (N : Nat) : Env R := EG_57_v1 (p_82 N)
theorem eok_57_v1 {R : Type} (N : Nat) : EK Try.prog (E_57_v1 (R := R) N) := ek_add (ek_base _ _) (good_82 N)
def L_57_v1 {R : Type} (N : Nat) : Loops R := LG_57_v1 (l_57_v1_9 N N) (l_57_v1_5 N N)
theorem gstep_57_v1_9 {R : Type} (q_82 : Tp_82 R) (m_57_v1_9 : Tl_57_v1_9 R) (m_57_v1_5 : Tl_57_v1_5 R) (n : Nat) (x : pt_57_v1_9.den) (k : Exit → St → Option R) : iter 3 lv_57_v1_9 lo_57_v1_9 (aexec TT (EG_57_v1 q_82) (drawAny TT WW) (LG_57_v1 m_57_v1_9 m_57_v1_5) (loopAt 9 (bodyOf Try.f57))) (n + 1) (pt_57_v1_9.inst x) k = C_57_v1_9 q_82 m_57_v1_9 m_57_v1_5 (fun y => iter 3 lv_57_v1_9 lo_57_v1_9 (aexec TT (EG_57_v1 q_82) (drawAny TT WW) (LG_57_v1 m_57_v1_9 m_57_v1_5) (loopAt 9 (bodyOf Try.f57))) n (pt_57_v1_9.inst y) k) x (fun y => k (.exit 2) (px_57_v1_9_0.inst y)) := by kernel_rfl
theorem step_57_v1_9 {R : Type} (N n : Nat) (x : pt_57_v1_9.den) (k : Exit → St → Option R) : iter 3 lv_57_v1_9 lo_57_v1_9 (aexec TT (E_57_v1 (R := R) N) (drawAny TT WW) (L_57_v1 N) (loopAt 9 (bodyOf Try.f57))) (n + 1) (pt_57_v1_9.inst x) k = B_57_v1_9 N (fun y => iter 3 lv_57_v1_9 lo_57_v1_9 (aexec TT (E_57_v1 (R := R) N) (drawAny TT WW) (L_57_v1 N) (loopAt 9 (bodyOf Try.f57))) n (pt_57_v1_9.inst y) k) x (fun y => k (.exit 2) (px_57_v1_9_0.inst y)) := (gstep_57_v1_9 (p_82 N) (l_57_v1_9 N N) (l_57_v1_5 N N) n x k).trans (by kernel_rfl)
theorem eq_57_v1_9 {R : Type} (N : Nat) : ∀ (n : Nat) (x : pt_57_v1_9.den) (k : Exit → St → Option R), iter 3 lv_57_v1_9 lo_57_v1_9 (aexec TT (E_57_v1 (R := R) N) (drawAny TT WW) (L_57_v1 N) (loopAt 9 (bodyOf Try.f57))) n (pt_57_v1_9.inst x) k = l_57_v1_9 N n x (fun y => k (.exit 2) (px_57_v1_9_0.inst y)) :=
  iter_eq (K := Exit → St → Option R) (ks := fun k => k) (l := fun n (x : pt_57_v1_9.den) k => l_57_v1_9 N n x (fun y => k (.exit 2) (px_57_v1_9_0.inst y))) (B := fun (rec : pt_57_v1_9.den → Option R) (x : pt_57_v1_9.den) k => B_57_v1_9 N rec x (fun y => k (.exit 2) (px_57_v1_9_0.inst y))) (fun _ _ => rfl) (fun _ _ _ => rfl) (fun n x k => step_57_v1_9 N n x k)
theorem rounds_57_v1_9 {R : Type} (N : Nat) : Rounds 3 TT (E_57_v1 (R := R) N) (drawAny TT WW) (L_57_v1 N) 9 (loopAt 9 (bodyOf Try.f57)) :=
  rounds_of (p := pt_57_v1_9) (l := fun (x : pt_57_v1_9.den) k => l_57_v1_9 N N x (fun y => k (.exit 2) (px_57_v1_9_0.inst y))) (fun s k => rfl) (fun x k => eq_57_v1_9 N N x k)
theorem gstep_57_v1_5 {R : Type} (q_82 : Tp_82 R) (m_57_v1_9 : Tl_57_v1_9 R) (m_57_v1_5 : Tl_57_v1_5 R) (n : Nat) (x : pt_57_v1_5.den) (k : Exit → St → Option R) : iter 3 lv_57_v1_5 lo_57_v1_5 (aexec TT (EG_57_v1 q_82) (drawAny TT WW) (LG_57_v1 m_57_v1_9 m_57_v1_5) (loopAt 5 (bodyOf Try.f57))) (n + 1) (pt_57_v1_5.inst x) k = C_57_v1_5 q_82 m_57_v1_9 m_57_v1_5 (fun y => iter 3 lv_57_v1_5 lo_57_v1_5 (aexec TT (EG_57_v1 q_82) (drawAny TT WW) (LG_57_v1 m_57_v1_9 m_57_v1_5) (loopAt 5 (bodyOf Try.f57))) n (pt_57_v1_5.inst y) k) x (fun y => k (.exit 0) (px_57_v1_5_0.inst y)) := by kernel_rfl
theorem step_57_v1_5 {R : Type} (N n : Nat) (x : pt_57_v1_5.den) (k : Exit → St → Option R) : iter 3 lv_57_v1_5 lo_57_v1_5 (aexec TT (E_57_v1 (R := R) N) (drawAny TT WW) (L_57_v1 N) (loopAt 5 (bodyOf Try.f57))) (n + 1) (pt_57_v1_5.inst x) k = B_57_v1_5 N (fun y => iter 3 lv_57_v1_5 lo_57_v1_5 (aexec TT (E_57_v1 (R := R) N) (drawAny TT WW) (L_57_v1 N) (loopAt 5 (bodyOf Try.f57))) n (pt_57_v1_5.inst y) k) x (fun y => k (.exit 0) (px_57_v1_5_0.inst y)) := (gstep_57_v1_5 (p_82 N) (l_57_v1_9 N N) (l_57_v1_5 N N) n x k).trans (by kernel_rfl)
theorem eq_57_v1_5 {R : Type} (N : Nat) : ∀ (n : Nat) (x : pt_57_v1_5.den) (k : Exit → St → Option R), iter 3 lv_57_v1_5 lo_57_v1_5 (aexec TT (E_57_v1 (R := R) N) (drawAny TT WW) (L_57_v1 N) (loopAt 5 (bodyOf Try.f57))) n (pt_57_v1_5.inst x) k = l_57_v1_5 N n x (fun y => k (.exit 0) (px_57_v1_5_0.inst y)) :=
  iter_eq (K := Exit → St → Option R) (ks := fun k => k) (l := fun n (x : pt_57_v1_5.den) k => l_57_v1_5 N n x (fun y => k (.exit 0) (px_57_v1_5_0.inst y))) (B := fun (rec : pt_57_v1_5.den → Option R) (x : pt_57_v1_5.den) k => B_57_v1_5 N rec x (fun y => k (.exit 0) (px_57_v1_5_0.inst y))) (fun _ _ => rfl) (fun _ _ _ => rfl) (fun n x k => step_57_v1_5 N n x k)
theorem rounds_57_v1_5 {R : Type} (N : Nat) : Rounds 3 TT (E_57_v1 (R := R) N) (drawAny TT WW) (L_57_v1 N) 5 (loopAt 5 (bodyOf Try.f57)) :=
  rounds_of (p := pt_57_v1_5) (l := fun (x : pt_57_v1_5.den) k => l_57_v1_5 N N x (fun y => k (.exit 0) (px_57_v1_5_0.inst y))) (fun s k => rfl) (fun x k => eq_57_v1_5 N N x k)
theorem loops_57_v1 : loopsIn (bodyOf Try.f57) = [(5, loopAt 5 (bodyOf Try.f57)), (9, loopAt 9 (bodyOf Try.f57))] := by kernel_rfl
theorem lok_57_v1 {R : Type} (N : Nat) : LOK 3 TT (E_57_v1 (R := R) N) (drawAny TT WW) (L_57_v1 N) (bodyOf Try.f57) := loops_all loops_57_v1 (by
  simp only [List.forall_mem_cons, List.not_mem_nil, false_implies, implies_true, and_true]
  exact ⟨rounds_57_v1_5 N, rounds_57_v1_9 N⟩)
theorem grun_57_v1 {R : Type} (q_82 : Tp_82 R) (m_57_v1_9 : Tl_57_v1_9 R) (m_57_v1_5 : Tl_57_v1_5 R) (x : aden ap_57_v1 × hden hp_57_v1) (k : KF R) : fnrun TT (EG_57_v1 q_82) (drawAny TT WW) (LG_57_v1 m_57_v1_9 m_57_v1_5) true Try.f57 (instA ap_57_v1 x.1) (instH hp_57_v1 x.2) k = Q_57_v1 q_82 m_57_v1_9 m_57_v1_5 x (fun y => k (Pat.inst (.ros (.sl (.int .u8))) y.1) (instH [some (.node (.fcons (.int .i64) (.fcons (.bool) (.fcons (.sl 1) (.fcons (.int .i64) (.fnil))))), 151), some (.lst (.int .u8), 5), some (.lst (.str), 9)] y.2)) (fun y => k (Pat.inst (.ros (.sl (.int .u8))) y.1) (instH [some (.node (.fcons (.int .i64) (.fcons (.bool) (.fcons (.sl 3) (.fcons (.int .i64) (.fnil))))), 151), none, some (.lst (.str), 9), some (.lst (.int .u8), 5)] y.2)) := by kernel_rfl
theorem run_57_v1 {R : Type} (N : Nat) (x : aden ap_57_v1 × hden hp_57_v1) (k : KF R) : fnrun TT (E_57_v1 (R := R) N) (drawAny TT WW) (L_57_v1 N) true Try.f57 (instA ap_57_v1 x.1) (instH hp_57_v1 x.2) k = p_57_v1 N x (fun y => k (Pat.inst (.ros (.sl (.int .u8))) y.1) (instH [some (.node (.fcons (.int .i64) (.fcons (.bool) (.fcons (.sl 1) (.fcons (.int .i64) (.fnil))))), 151), some (.lst (.int .u8), 5), some (.lst (.str), 9)] y.2)) (fun y => k (Pat.inst (.ros (.sl (.int .u8))) y.1) (instH [some (.node (.fcons (.int .i64) (.fcons (.bool) (.fcons (.sl 3) (.fcons (.int .i64) (.fnil))))), 151), none, some (.lst (.str), 9), some (.lst (.int .u8), 5)] y.2)) := (grun_57_v1 (p_82 N) (l_57_v1_9 N N) (l_57_v1_5 N N) x k).trans (by kernel_rfl)
theorem good_57_v1 {R : Type} (N : Nat) : GD (X := R) Try.prog QQ 57 ap_57_v1 hp_57_v1 (fun (x : aden ap_57_v1 × hden hp_57_v1) k => p_57_v1 N x (fun y => k (Pat.inst (.ros (.sl (.int .u8))) y.1) (instH [some (.node (.fcons (.int .i64) (.fcons (.bool) (.fcons (.sl 1) (.fcons (.int .i64) (.fnil))))), 151), some (.lst (.int .u8), 5), some (.lst (.str), 9)] y.2)) (fun y => k (Pat.inst (.ros (.sl (.int .u8))) y.1) (instH [some (.node (.fcons (.int .i64) (.fcons (.bool) (.fcons (.sl 3) (.fcons (.int .i64) (.fnil))))), 151), none, some (.lst (.str), 9), some (.lst (.int .u8), 5)] y.2))) :=
  gd_loud (E := E_57_v1 N) (p := fun (x : aden ap_57_v1 × hden hp_57_v1) k => p_57_v1 N x (fun y => k (Pat.inst (.ros (.sl (.int .u8))) y.1) (instH [some (.node (.fcons (.int .i64) (.fcons (.bool) (.fcons (.sl 1) (.fcons (.int .i64) (.fnil))))), 151), some (.lst (.int .u8), 5), some (.lst (.str), 9)] y.2)) (fun y => k (Pat.inst (.ros (.sl (.int .u8))) y.1) (instH [some (.node (.fcons (.int .i64) (.fcons (.bool) (.fcons (.sl 3) (.fcons (.int .i64) (.fnil))))), 151), none, some (.lst (.str), 9), some (.lst (.int .u8), 5)] y.2))) mixed tyok (eok_57_v1 N) Try.func57 (by kernel_rfl) (by kernel_rfl) (by kernel_rfl) (lok_57_v1 N) (fun x k => run_57_v1 N x k)

def lv_26_v1_4 : Live := [(0, none), (14, none), (15, none), (16, none)]
def pt_26_v1_4 : SPat := ⟨[(0, .ptr 0 []), (14, .ros (.sl (.int .u8))), (15, .int .i64), (16, .int .i64)], [some (.node (.fcons (.ptr 1 []) (.fcons (.vec (.int .u64) 8) (.fcons (.int .i64) (.fcons (.int .u64) (.fnil))))), 115), some (.node (.fcons (.int .i64) (.fcons (.bool) (.fcons (.sl 4) (.fcons (.int .i64) (.fnil))))), 151), none, some (.lst (.str), 9), some (.lst (.int .u8), 5)]⟩
def px_26_v1_4_0 : SPat := ⟨[(0, .ptr 0 [])], [some (.node (.fcons (.ptr 1 []) (.fcons (.vec (.int .u64) 8) (.fcons (.int .i64) (.fcons (.int .u64) (.fnil))))), 115), some (.node (.fcons (.int .i64) (.fcons (.bool) (.fcons (.sl 4) (.fcons (.int .i64) (.fnil))))), 151), none, some (.lst (.str), 9), some (.lst (.int .u8), 5)]⟩
def lo_26_v1_4 : Exit → Live
  | .exit 0 => [(0, none)]
  | _ => []
def B_26_v1_4 {R : Type} (N : Nat) (rec : ((Unit × (List (List Int)) × Int × Int × Unit) × ((Unit × ((Nat → Int) × (Int × (Int × Unit)))) × (Int × (Bool × (Unit × (Int × Unit)))) × (List ByteArray) × (List Int) × Unit)) → Option R) (x : ((Unit × (List (List Int)) × Int × Int × Unit) × ((Unit × ((Nat → Int) × (Int × (Int × Unit)))) × (Int × (Bool × (Unit × (Int × Unit)))) × (List ByteArray) × (List Int) × Unit))) (κ0 : ((Unit × Unit) × ((Unit × ((Nat → Int) × (Int × (Int × Unit)))) × (Int × (Bool × (Unit × (Int × Unit)))) × (List ByteArray) × (List Int) × Unit)) → Option R) : Option R :=
let l982 : (List (List Int)) := x.1.2.1
let i983 : Int := x.1.2.2.1
let i984 : Int := x.1.2.2.2.1
let a985 : (Nat → Int) := x.2.1.2.1
let i986 : Int := x.2.1.2.2.1
let i987 : Int := x.2.1.2.2.2.1
let i988 : Int := x.2.2.1.1
let b989 : Bool := x.2.2.1.2.1
let i990 : Int := x.2.2.1.2.2.2.1
let l991 : (List ByteArray) := x.2.2.2.1
let l992 : (List Int) := x.2.2.2.2.1
bif (decide (i984 < i983)) then (
bif decide (0 ≤ i984) then (
bif decide (i984 < ((List.length l982) : Int)) then (
let p993 : (List Int) := (List.getD l982 ((Int.toNat i984)) (Sch.zero (.sl (.int .u8))))
let i994 : Int := addA .u64 i987 128
p_12 N ((a985, p993, i994, false, ()), ()) (fun y995 =>
let a996 : (Nat → Int) := y995.1
let i997 : Int := y995.2.1
let i998 : Int := addA .i64 i984 1
rec (((), l982, i983, i998, ()), (((), (a996, (i986, (i994, ())))), (i988, (b989, ((), (i990, ())))), l991, l992, ())))) else none) else none) else (
κ0 (((), ()), (((), (a985, (i986, (i987, ())))), (i988, (b989, ((), (i990, ())))), l991, l992, ())))
def l_26_v1_4 {R : Type} (N : Nat) : Nat → ((Unit × (List (List Int)) × Int × Int × Unit) × ((Unit × ((Nat → Int) × (Int × (Int × Unit)))) × (Int × (Bool × (Unit × (Int × Unit)))) × (List ByteArray) × (List Int) × Unit)) → (((Unit × Unit) × ((Unit × ((Nat → Int) × (Int × (Int × Unit)))) × (Int × (Bool × (Unit × (Int × Unit)))) × (List ByteArray) × (List Int) × Unit)) → Option R) → Option R
  | 0, _, _ => none
  | n + 1, x, κ0 => B_26_v1_4 N (fun y => l_26_v1_4 N n y κ0) x κ0
def ap_26_v1 : List Pat := [.ptr 0 [], .sl 3]
def hp_26_v1 : List (Option (Pat × Nat)) := [some (.node (.fcons (.ptr 1 []) (.fcons (.vec (.int .u64) 8) (.fcons (.int .i64) (.fcons (.int .u64) (.fnil))))), 115), some (.node (.fcons (.int .i64) (.fcons (.bool) (.fcons (.sl 2) (.fcons (.int .i64) (.fnil))))), 151), some (.lst (.int .u8), 5), some (.lst (.str), 9)]
def p_26_v1 {R : Type} (N : Nat) (x : (Unit × Unit × Unit) × ((Unit × ((Nat → Int) × (Int × (Int × Unit)))) × (Int × (Bool × (Unit × (Int × Unit)))) × (List Int) × (List ByteArray) × Unit)) (κ0 : (Unit × ((Unit × ((Nat → Int) × (Int × (Int × Unit)))) × (Int × (Bool × (Unit × (Int × Unit)))) × (List ByteArray) × (List Int) × Unit)) → Option R) : Option R :=
let a803 : (Nat → Int) := x.2.1.2.1
let i804 : Int := x.2.1.2.2.1
let i805 : Int := x.2.1.2.2.2.1
let i806 : Int := x.2.2.1.1
let b807 : Bool := x.2.2.1.2.1
let i808 : Int := x.2.2.1.2.2.2.1
let l809 : (List Int) := x.2.2.2.1
let l810 : (List ByteArray) := x.2.2.2.2.1
p_57_v1 N (((), (), ()), ((i806, (b807, ((), (i808, ())))), l809, l810, ())) (fun y949 =>
let l950 : (List (List Int)) := y949.1
let i951 : Int := y949.2.1.1
let b952 : Bool := y949.2.1.2.1
let i953 : Int := y949.2.1.2.2.2.1
let l954 : (List Int) := y949.2.2.1
let l955 : (List ByteArray) := y949.2.2.2.1
let i956 : Int := (((List.length l950) : Nat) : Int)
none) (fun y974 =>
let l975 : (List (List Int)) := y974.1
let i976 : Int := y974.2.1.1
let b977 : Bool := y974.2.1.2.1
let i978 : Int := y974.2.1.2.2.2.1
let l979 : (List ByteArray) := y974.2.2.1
let l980 : (List Int) := y974.2.2.2.1
let i981 : Int := (((List.length l975) : Nat) : Int)
l_26_v1_4 N N (((), l975, i981, 0, ()), (((), (a803, (i804, (i805, ())))), (i976, (b977, ((), (i978, ())))), l979, l980, ())) (fun y999 =>
let a1000 : (Nat → Int) := y999.2.1.2.1
let i1001 : Int := y999.2.1.2.2.1
let i1002 : Int := y999.2.1.2.2.2.1
let i1003 : Int := y999.2.2.1.1
let b1004 : Bool := y999.2.2.1.2.1
let i1005 : Int := y999.2.2.1.2.2.2.1
let l1006 : (List ByteArray) := y999.2.2.2.1
let l1007 : (List Int) := y999.2.2.2.2.1
κ0 ((), (((), (a1000, (i1001, (i1002, ())))), (i1003, (b1004, ((), (i1005, ())))), l1006, l1007, ()))))

abbrev Tl_26_v1_4 (R : Type) : Type := ((Unit × (List (List Int)) × Int × Int × Unit) × ((Unit × ((Nat → Int) × (Int × (Int × Unit)))) × (Int × (Bool × (Unit × (Int × Unit)))) × (List ByteArray) × (List Int) × Unit)) → (((Unit × Unit) × ((Unit × ((Nat → Int) × (Int × (Int × Unit)))) × (Int × (Bool × (Unit × (Int × Unit)))) × (List ByteArray) × (List Int) × Unit)) → Option R) → Option R
abbrev Tp_26_v1 (R : Type) : Type := (Unit × Unit × Unit) × ((Unit × ((Nat → Int) × (Int × (Int × Unit)))) × (Int × (Bool × (Unit × (Int × Unit)))) × (List Int) × (List ByteArray) × Unit) → ((Unit × ((Unit × ((Nat → Int) × (Int × (Int × Unit)))) × (Int × (Bool × (Unit × (Int × Unit)))) × (List ByteArray) × (List Int) × Unit)) → Option R) → Option R
def Q_26_v1 {R : Type} (q_57_v1 : Tp_57_v1 R) (q_12 : Tp_12 R) (m_26_v1_4 : Tl_26_v1_4 R) (x : (Unit × Unit × Unit) × ((Unit × ((Nat → Int) × (Int × (Int × Unit)))) × (Int × (Bool × (Unit × (Int × Unit)))) × (List Int) × (List ByteArray) × Unit)) (κ0 : (Unit × ((Unit × ((Nat → Int) × (Int × (Int × Unit)))) × (Int × (Bool × (Unit × (Int × Unit)))) × (List ByteArray) × (List Int) × Unit)) → Option R) : Option R :=
let a803 : (Nat → Int) := x.2.1.2.1
let i804 : Int := x.2.1.2.2.1
let i805 : Int := x.2.1.2.2.2.1
let i806 : Int := x.2.2.1.1
let b807 : Bool := x.2.2.1.2.1
let i808 : Int := x.2.2.1.2.2.2.1
let l809 : (List Int) := x.2.2.2.1
let l810 : (List ByteArray) := x.2.2.2.2.1
q_57_v1 (((), (), ()), ((i806, (b807, ((), (i808, ())))), l809, l810, ())) (fun y949 =>
let l950 : (List (List Int)) := y949.1
let i951 : Int := y949.2.1.1
let b952 : Bool := y949.2.1.2.1
let i953 : Int := y949.2.1.2.2.2.1
let l954 : (List Int) := y949.2.2.1
let l955 : (List ByteArray) := y949.2.2.2.1
let i956 : Int := (((List.length l950) : Nat) : Int)
none) (fun y974 =>
let l975 : (List (List Int)) := y974.1
let i976 : Int := y974.2.1.1
let b977 : Bool := y974.2.1.2.1
let i978 : Int := y974.2.1.2.2.2.1
let l979 : (List ByteArray) := y974.2.2.1
let l980 : (List Int) := y974.2.2.2.1
let i981 : Int := (((List.length l975) : Nat) : Int)
m_26_v1_4 (((), l975, i981, 0, ()), (((), (a803, (i804, (i805, ())))), (i976, (b977, ((), (i978, ())))), l979, l980, ())) (fun y999 =>
let a1000 : (Nat → Int) := y999.2.1.2.1
let i1001 : Int := y999.2.1.2.2.1
let i1002 : Int := y999.2.1.2.2.2.1
let i1003 : Int := y999.2.2.1.1
let b1004 : Bool := y999.2.2.1.2.1
let i1005 : Int := y999.2.2.1.2.2.2.1
let l1006 : (List ByteArray) := y999.2.2.2.1
let l1007 : (List Int) := y999.2.2.2.2.1
κ0 ((), (((), (a1000, (i1001, (i1002, ())))), (i1003, (b1004, ((), (i1005, ())))), l1006, l1007, ()))))
def C_26_v1_4 {R : Type} (q_57_v1 : Tp_57_v1 R) (q_12 : Tp_12 R) (m_26_v1_4 : Tl_26_v1_4 R) (rec : ((Unit × (List (List Int)) × Int × Int × Unit) × ((Unit × ((Nat → Int) × (Int × (Int × Unit)))) × (Int × (Bool × (Unit × (Int × Unit)))) × (List ByteArray) × (List Int) × Unit)) → Option R) (x : ((Unit × (List (List Int)) × Int × Int × Unit) × ((Unit × ((Nat → Int) × (Int × (Int × Unit)))) × (Int × (Bool × (Unit × (Int × Unit)))) × (List ByteArray) × (List Int) × Unit))) (κ0 : ((Unit × Unit) × ((Unit × ((Nat → Int) × (Int × (Int × Unit)))) × (Int × (Bool × (Unit × (Int × Unit)))) × (List ByteArray) × (List Int) × Unit)) → Option R) : Option R :=
let l982 : (List (List Int)) := x.1.2.1
let i983 : Int := x.1.2.2.1
let i984 : Int := x.1.2.2.2.1
let a985 : (Nat → Int) := x.2.1.2.1
let i986 : Int := x.2.1.2.2.1
let i987 : Int := x.2.1.2.2.2.1
let i988 : Int := x.2.2.1.1
let b989 : Bool := x.2.2.1.2.1
let i990 : Int := x.2.2.1.2.2.2.1
let l991 : (List ByteArray) := x.2.2.2.1
let l992 : (List Int) := x.2.2.2.2.1
bif (decide (i984 < i983)) then (
bif decide (0 ≤ i984) then (
bif decide (i984 < ((List.length l982) : Int)) then (
let p993 : (List Int) := (List.getD l982 ((Int.toNat i984)) (Sch.zero (.sl (.int .u8))))
let i994 : Int := addA .u64 i987 128
q_12 ((a985, p993, i994, false, ()), ()) (fun y995 =>
let a996 : (Nat → Int) := y995.1
let i997 : Int := y995.2.1
let i998 : Int := addA .i64 i984 1
rec (((), l982, i983, i998, ()), (((), (a996, (i986, (i994, ())))), (i988, (b989, ((), (i990, ())))), l991, l992, ())))) else none) else none) else (
κ0 (((), ()), (((), (a985, (i986, (i987, ())))), (i988, (b989, ((), (i990, ())))), l991, l992, ())))
def EG_26_v1 {R : Type} (q_57_v1 : Tp_57_v1 R) (q_12 : Tp_12 R) : Env R := ((Env.base QQ LN).add 57 ap_57_v1 hp_57_v1 (fun (x : aden ap_57_v1 × hden hp_57_v1) k => q_57_v1 x (fun y => k (Pat.inst (.ros (.sl (.int .u8))) y.1) (instH [some (.node (.fcons (.int .i64) (.fcons (.bool) (.fcons (.sl 1) (.fcons (.int .i64) (.fnil))))), 151), some (.lst (.int .u8), 5), some (.lst (.str), 9)] y.2)) (fun y => k (Pat.inst (.ros (.sl (.int .u8))) y.1) (instH [some (.node (.fcons (.int .i64) (.fcons (.bool) (.fcons (.sl 3) (.fcons (.int .i64) (.fnil))))), 151), none, some (.lst (.str), 9), some (.lst (.int .u8), 5)] y.2)))).add 12 ap_12 hp_12 (fun (x : aden ap_12 × hden hp_12) k => q_12 x (fun y => k (Pat.inst (.tup (.fcons (.vec (.int .u64) 8) (.fcons (.int .i64) (.fnil)))) y) (instH hp_12 x.2)))
def LG_26_v1 {R : Type} (m_26_v1_4 : Tl_26_v1_4 R) : Loops R := (Loops.none).add 4 (loopBy 4 lv_26_v1_4 pt_26_v1_4 (fun x k => m_26_v1_4 x (fun y => k (.exit 0) (px_26_v1_4_0.inst y))))
def E_26_v1 {R : Type} (N : Nat) : Env R := EG_26_v1 (p_57_v1 N) (p_12 N)
theorem eok_26_v1 {R : Type} (N : Nat) : EK Try.prog (E_26_v1 (R := R) N) := ek_add (ek_add (ek_base _ _) (good_57_v1 N)) (good_12 N)
def L_26_v1 {R : Type} (N : Nat) : Loops R := LG_26_v1 (l_26_v1_4 N N)
theorem gstep_26_v1_4 {R : Type} (q_57_v1 : Tp_57_v1 R) (q_12 : Tp_12 R) (m_26_v1_4 : Tl_26_v1_4 R) (n : Nat) (x : pt_26_v1_4.den) (k : Exit → St → Option R) : iter 4 lv_26_v1_4 lo_26_v1_4 (aexec TT (EG_26_v1 q_57_v1 q_12) (drawAny TT WW) (LG_26_v1 m_26_v1_4) (loopAt 4 (bodyOf Try.f26))) (n + 1) (pt_26_v1_4.inst x) k = C_26_v1_4 q_57_v1 q_12 m_26_v1_4 (fun y => iter 4 lv_26_v1_4 lo_26_v1_4 (aexec TT (EG_26_v1 q_57_v1 q_12) (drawAny TT WW) (LG_26_v1 m_26_v1_4) (loopAt 4 (bodyOf Try.f26))) n (pt_26_v1_4.inst y) k) x (fun y => k (.exit 0) (px_26_v1_4_0.inst y)) := by kernel_rfl
theorem step_26_v1_4 {R : Type} (N n : Nat) (x : pt_26_v1_4.den) (k : Exit → St → Option R) : iter 4 lv_26_v1_4 lo_26_v1_4 (aexec TT (E_26_v1 (R := R) N) (drawAny TT WW) (L_26_v1 N) (loopAt 4 (bodyOf Try.f26))) (n + 1) (pt_26_v1_4.inst x) k = B_26_v1_4 N (fun y => iter 4 lv_26_v1_4 lo_26_v1_4 (aexec TT (E_26_v1 (R := R) N) (drawAny TT WW) (L_26_v1 N) (loopAt 4 (bodyOf Try.f26))) n (pt_26_v1_4.inst y) k) x (fun y => k (.exit 0) (px_26_v1_4_0.inst y)) := (gstep_26_v1_4 (p_57_v1 N) (p_12 N) (l_26_v1_4 N N) n x k).trans (by kernel_rfl)
theorem eq_26_v1_4 {R : Type} (N : Nat) : ∀ (n : Nat) (x : pt_26_v1_4.den) (k : Exit → St → Option R), iter 4 lv_26_v1_4 lo_26_v1_4 (aexec TT (E_26_v1 (R := R) N) (drawAny TT WW) (L_26_v1 N) (loopAt 4 (bodyOf Try.f26))) n (pt_26_v1_4.inst x) k = l_26_v1_4 N n x (fun y => k (.exit 0) (px_26_v1_4_0.inst y)) :=
  iter_eq (K := Exit → St → Option R) (ks := fun k => k) (l := fun n (x : pt_26_v1_4.den) k => l_26_v1_4 N n x (fun y => k (.exit 0) (px_26_v1_4_0.inst y))) (B := fun (rec : pt_26_v1_4.den → Option R) (x : pt_26_v1_4.den) k => B_26_v1_4 N rec x (fun y => k (.exit 0) (px_26_v1_4_0.inst y))) (fun _ _ => rfl) (fun _ _ _ => rfl) (fun n x k => step_26_v1_4 N n x k)
theorem rounds_26_v1_4 {R : Type} (N : Nat) : Rounds 4 TT (E_26_v1 (R := R) N) (drawAny TT WW) (L_26_v1 N) 4 (loopAt 4 (bodyOf Try.f26)) :=
  rounds_of (p := pt_26_v1_4) (l := fun (x : pt_26_v1_4.den) k => l_26_v1_4 N N x (fun y => k (.exit 0) (px_26_v1_4_0.inst y))) (fun s k => rfl) (fun x k => eq_26_v1_4 N N x k)
theorem loops_26_v1 : loopsIn (bodyOf Try.f26) = [(4, loopAt 4 (bodyOf Try.f26))] := by kernel_rfl
theorem lok_26_v1 {R : Type} (N : Nat) : LOK 4 TT (E_26_v1 (R := R) N) (drawAny TT WW) (L_26_v1 N) (bodyOf Try.f26) := loops_all loops_26_v1 (by
  simp only [List.forall_mem_cons, List.not_mem_nil, false_implies, implies_true, and_true]
  exact rounds_26_v1_4 N)
theorem grun_26_v1 {R : Type} (q_57_v1 : Tp_57_v1 R) (q_12 : Tp_12 R) (m_26_v1_4 : Tl_26_v1_4 R) (x : aden ap_26_v1 × hden hp_26_v1) (k : KF R) : fnrun TT (EG_26_v1 q_57_v1 q_12) (drawAny TT WW) (LG_26_v1 m_26_v1_4) true Try.f26 (instA ap_26_v1 x.1) (instH hp_26_v1 x.2) k = Q_26_v1 q_57_v1 q_12 m_26_v1_4 x (fun y => k (Pat.inst (.ptr 0 []) y.1) (instH [some (.node (.fcons (.ptr 1 []) (.fcons (.vec (.int .u64) 8) (.fcons (.int .i64) (.fcons (.int .u64) (.fnil))))), 115), some (.node (.fcons (.int .i64) (.fcons (.bool) (.fcons (.sl 4) (.fcons (.int .i64) (.fnil))))), 151), none, some (.lst (.str), 9), some (.lst (.int .u8), 5)] y.2)) := by kernel_rfl
theorem run_26_v1 {R : Type} (N : Nat) (x : aden ap_26_v1 × hden hp_26_v1) (k : KF R) : fnrun TT (E_26_v1 (R := R) N) (drawAny TT WW) (L_26_v1 N) true Try.f26 (instA ap_26_v1 x.1) (instH hp_26_v1 x.2) k = p_26_v1 N x (fun y => k (Pat.inst (.ptr 0 []) y.1) (instH [some (.node (.fcons (.ptr 1 []) (.fcons (.vec (.int .u64) 8) (.fcons (.int .i64) (.fcons (.int .u64) (.fnil))))), 115), some (.node (.fcons (.int .i64) (.fcons (.bool) (.fcons (.sl 4) (.fcons (.int .i64) (.fnil))))), 151), none, some (.lst (.str), 9), some (.lst (.int .u8), 5)] y.2)) := (grun_26_v1 (p_57_v1 N) (p_12 N) (l_26_v1_4 N N) x k).trans (by kernel_rfl)
theorem good_26_v1 {R : Type} (N : Nat) : GD (X := R) Try.prog QQ 26 ap_26_v1 hp_26_v1 (fun (x : aden ap_26_v1 × hden hp_26_v1) k => p_26_v1 N x (fun y => k (Pat.inst (.ptr 0 []) y.1) (instH [some (.node (.fcons (.ptr 1 []) (.fcons (.vec (.int .u64) 8) (.fcons (.int .i64) (.fcons (.int .u64) (.fnil))))), 115), some (.node (.fcons (.int .i64) (.fcons (.bool) (.fcons (.sl 4) (.fcons (.int .i64) (.fnil))))), 151), none, some (.lst (.str), 9), some (.lst (.int .u8), 5)] y.2))) :=
  gd_loud (E := E_26_v1 N) (p := fun (x : aden ap_26_v1 × hden hp_26_v1) k => p_26_v1 N x (fun y => k (Pat.inst (.ptr 0 []) y.1) (instH [some (.node (.fcons (.ptr 1 []) (.fcons (.vec (.int .u64) 8) (.fcons (.int .i64) (.fcons (.int .u64) (.fnil))))), 115), some (.node (.fcons (.int .i64) (.fcons (.bool) (.fcons (.sl 4) (.fcons (.int .i64) (.fnil))))), 151), none, some (.lst (.str), 9), some (.lst (.int .u8), 5)] y.2))) mixed tyok (eok_26_v1 N) Try.func26 (by kernel_rfl) (by kernel_rfl) (by kernel_rfl) (lok_26_v1 N) (fun x k => run_26_v1 N x k)

def ap_27 : List Pat := [.int .i64, .str]
def hp_27 : List (Option (Pat × Nat)) := []
def p_27 {R : Type} (N : Nat) (x : (Int × ByteArray × Unit) × (Unit)) (κ0 : ((Unit × (Int × Unit)) × (Unit)) → Option R) (κ1 : ((Unit × (Int × Unit)) × ((Unit × ((Nat → Int) × (Int × (Int × Unit)))) × Unit)) → Option R) (κ2 : ((Unit × (Int × Unit)) × ((Unit × ((Nat → Int) × (Int × (Int × Unit)))) × (Int × (Bool × (Unit × (Int × Unit)))) × (List Int) × Unit)) → Option R) : Option R :=
let i21 : Int := x.1.1
let s22 : ByteArray := x.1.2.1
bif (decide (i21 < 1)) then (
κ0 (((), (1, ())), ())) else (
bif (decide (i21 > 64)) then (
κ0 (((), (1, ())), ())) else (
let i23 : Int := ((ByteArray.size s22 : Nat) : Int)
bif (decide (i23 > 64)) then (
κ0 (((), (1, ())), ())) else (
p_58 N ((128, true, ()), ()) (fun y26 =>
let i27 : Int := y26.1.2.1
p_15 N ((), ()) (fun y29 =>
let a30 : (Nat → Int) := y29
let i31 : Int := (a30 0)
let i32 : Int := ((ByteArray.size s22 : Nat) : Int)
let i33 : Int := IntKind.wrap .u64 i32
let i34 : Int := shlA .u64 i33 8
let i35 : Int := xorA .u64 16842752 i34
let i36 : Int := IntKind.wrap .u64 i21
let i37 : Int := xorA .u64 i35 i36
let i38 : Int := xorA .u64 i31 i37
bif (!eqS s22 (⟨#[]⟩)) then (
let i39 : Int := ((ByteArray.size s22 : Nat) : Int)
let i40 : Int := subA .i64 128 i39
bif decide (0 ≤ i40) then (
bif decide (i40 ≤ i40) then (
bif decide (((1 : Nat) : Int) * i40 ≤ 281474976710656) then (
bif decide (i40 ≤ 9223372036854775807) then (
let l41 : (List Int) := List.replicate ((Int.toNat i40)) (Sch.zero (.int .u8))
let s42 : ByteArray := listStr l41
bif decide (ByteArray.size s22 + ByteArray.size s42 ≤ maxI64) then (
let s43 : ByteArray := (s22 ++ s42)
let l44 : (List ByteArray) := [s43]
p_26 N (((), (), ()), (((), ((upd a30 0 i38), (i21, (0, ())))), l44, ())) (fun y776 =>
let a777 : (Nat → Int) := y776.2.1.2.1
let i778 : Int := y776.2.1.2.2.1
let i779 : Int := y776.2.1.2.2.2.1
let l780 : (List ByteArray) := y776.2.2.1
κ1 (((), (0, ())), (((), (a777, (i778, (i779, ())))), ())))) else none) else none) else none) else none) else none) else (
κ1 (((), (0, ())), (((), ((upd a30 0 i38), (i21, (0, ())))), ()))))) (fun y781 =>
let i782 : Int := y781.1.2.1
let i783 : Int := y781.2.1.1
let b784 : Bool := y781.2.1.2.1
let i785 : Int := y781.2.1.2.2.2.1
let l786 : (List Int) := y781.2.2.1
p_15 N ((), ()) (fun y787 =>
let a788 : (Nat → Int) := y787
let i789 : Int := (a788 0)
let i790 : Int := ((ByteArray.size s22 : Nat) : Int)
let i791 : Int := IntKind.wrap .u64 i790
let i792 : Int := shlA .u64 i791 8
let i793 : Int := xorA .u64 16842752 i792
let i794 : Int := IntKind.wrap .u64 i21
let i795 : Int := xorA .u64 i793 i794
let i796 : Int := xorA .u64 i789 i795
bif (!eqS s22 (⟨#[]⟩)) then (
let i797 : Int := ((ByteArray.size s22 : Nat) : Int)
let i798 : Int := subA .i64 128 i797
bif decide (0 ≤ i798) then (
bif decide (i798 ≤ i798) then (
bif decide (((1 : Nat) : Int) * i798 ≤ 281474976710656) then (
bif decide (i798 ≤ 9223372036854775807) then (
let l799 : (List Int) := List.replicate ((Int.toNat i798)) (Sch.zero (.int .u8))
let s800 : ByteArray := listStr l799
bif decide (ByteArray.size s22 + ByteArray.size s800 ≤ maxI64) then (
let s801 : ByteArray := (s22 ++ s800)
let l802 : (List ByteArray) := [s801]
p_26_v1 N (((), (), ()), (((), ((upd a788 0 i796), (i21, (0, ())))), (i783, (b784, ((), (i785, ())))), l786, l802, ())) (fun y1008 =>
let a1009 : (Nat → Int) := y1008.2.1.2.1
let i1010 : Int := y1008.2.1.2.2.1
let i1011 : Int := y1008.2.1.2.2.2.1
let i1012 : Int := y1008.2.2.1.1
let b1013 : Bool := y1008.2.2.1.2.1
let i1014 : Int := y1008.2.2.1.2.2.2.1
let l1015 : (List ByteArray) := y1008.2.2.2.1
let l1016 : (List Int) := y1008.2.2.2.2.1
κ2 (((), (0, ())), (((), (a1009, (i1010, (i1011, ())))), (i1012, (b1013, ((), (i1014, ())))), l1016, ())))) else none) else none) else none) else none) else none) else (
κ2 (((), (0, ())), (((), ((upd a788 0 i796), (i21, (0, ())))), (i783, (b784, ((), (i785, ())))), l786, ()))))))))

abbrev Tp_27 (R : Type) : Type := (Int × ByteArray × Unit) × (Unit) → (((Unit × (Int × Unit)) × (Unit)) → Option R) → (((Unit × (Int × Unit)) × ((Unit × ((Nat → Int) × (Int × (Int × Unit)))) × Unit)) → Option R) → (((Unit × (Int × Unit)) × ((Unit × ((Nat → Int) × (Int × (Int × Unit)))) × (Int × (Bool × (Unit × (Int × Unit)))) × (List Int) × Unit)) → Option R) → Option R
def Q_27 {R : Type} (q_58 : Tp_58 R) (q_15 : Tp_15 R) (q_26 : Tp_26 R) (q_26_v1 : Tp_26_v1 R) (x : (Int × ByteArray × Unit) × (Unit)) (κ0 : ((Unit × (Int × Unit)) × (Unit)) → Option R) (κ1 : ((Unit × (Int × Unit)) × ((Unit × ((Nat → Int) × (Int × (Int × Unit)))) × Unit)) → Option R) (κ2 : ((Unit × (Int × Unit)) × ((Unit × ((Nat → Int) × (Int × (Int × Unit)))) × (Int × (Bool × (Unit × (Int × Unit)))) × (List Int) × Unit)) → Option R) : Option R :=
let i21 : Int := x.1.1
let s22 : ByteArray := x.1.2.1
bif (decide (i21 < 1)) then (
κ0 (((), (1, ())), ())) else (
bif (decide (i21 > 64)) then (
κ0 (((), (1, ())), ())) else (
let i23 : Int := ((ByteArray.size s22 : Nat) : Int)
bif (decide (i23 > 64)) then (
κ0 (((), (1, ())), ())) else (
q_58 ((128, true, ()), ()) (fun y26 =>
let i27 : Int := y26.1.2.1
q_15 ((), ()) (fun y29 =>
let a30 : (Nat → Int) := y29
let i31 : Int := (a30 0)
let i32 : Int := ((ByteArray.size s22 : Nat) : Int)
let i33 : Int := IntKind.wrap .u64 i32
let i34 : Int := shlA .u64 i33 8
let i35 : Int := xorA .u64 16842752 i34
let i36 : Int := IntKind.wrap .u64 i21
let i37 : Int := xorA .u64 i35 i36
let i38 : Int := xorA .u64 i31 i37
bif (!eqS s22 (⟨#[]⟩)) then (
let i39 : Int := ((ByteArray.size s22 : Nat) : Int)
let i40 : Int := subA .i64 128 i39
bif decide (0 ≤ i40) then (
bif decide (i40 ≤ i40) then (
bif decide (((1 : Nat) : Int) * i40 ≤ 281474976710656) then (
bif decide (i40 ≤ 9223372036854775807) then (
let l41 : (List Int) := List.replicate ((Int.toNat i40)) (Sch.zero (.int .u8))
let s42 : ByteArray := listStr l41
bif decide (ByteArray.size s22 + ByteArray.size s42 ≤ maxI64) then (
let s43 : ByteArray := (s22 ++ s42)
let l44 : (List ByteArray) := [s43]
q_26 (((), (), ()), (((), ((upd a30 0 i38), (i21, (0, ())))), l44, ())) (fun y776 =>
let a777 : (Nat → Int) := y776.2.1.2.1
let i778 : Int := y776.2.1.2.2.1
let i779 : Int := y776.2.1.2.2.2.1
let l780 : (List ByteArray) := y776.2.2.1
κ1 (((), (0, ())), (((), (a777, (i778, (i779, ())))), ())))) else none) else none) else none) else none) else none) else (
κ1 (((), (0, ())), (((), ((upd a30 0 i38), (i21, (0, ())))), ()))))) (fun y781 =>
let i782 : Int := y781.1.2.1
let i783 : Int := y781.2.1.1
let b784 : Bool := y781.2.1.2.1
let i785 : Int := y781.2.1.2.2.2.1
let l786 : (List Int) := y781.2.2.1
q_15 ((), ()) (fun y787 =>
let a788 : (Nat → Int) := y787
let i789 : Int := (a788 0)
let i790 : Int := ((ByteArray.size s22 : Nat) : Int)
let i791 : Int := IntKind.wrap .u64 i790
let i792 : Int := shlA .u64 i791 8
let i793 : Int := xorA .u64 16842752 i792
let i794 : Int := IntKind.wrap .u64 i21
let i795 : Int := xorA .u64 i793 i794
let i796 : Int := xorA .u64 i789 i795
bif (!eqS s22 (⟨#[]⟩)) then (
let i797 : Int := ((ByteArray.size s22 : Nat) : Int)
let i798 : Int := subA .i64 128 i797
bif decide (0 ≤ i798) then (
bif decide (i798 ≤ i798) then (
bif decide (((1 : Nat) : Int) * i798 ≤ 281474976710656) then (
bif decide (i798 ≤ 9223372036854775807) then (
let l799 : (List Int) := List.replicate ((Int.toNat i798)) (Sch.zero (.int .u8))
let s800 : ByteArray := listStr l799
bif decide (ByteArray.size s22 + ByteArray.size s800 ≤ maxI64) then (
let s801 : ByteArray := (s22 ++ s800)
let l802 : (List ByteArray) := [s801]
q_26_v1 (((), (), ()), (((), ((upd a788 0 i796), (i21, (0, ())))), (i783, (b784, ((), (i785, ())))), l786, l802, ())) (fun y1008 =>
let a1009 : (Nat → Int) := y1008.2.1.2.1
let i1010 : Int := y1008.2.1.2.2.1
let i1011 : Int := y1008.2.1.2.2.2.1
let i1012 : Int := y1008.2.2.1.1
let b1013 : Bool := y1008.2.2.1.2.1
let i1014 : Int := y1008.2.2.1.2.2.2.1
let l1015 : (List ByteArray) := y1008.2.2.2.1
let l1016 : (List Int) := y1008.2.2.2.2.1
κ2 (((), (0, ())), (((), (a1009, (i1010, (i1011, ())))), (i1012, (b1013, ((), (i1014, ())))), l1016, ())))) else none) else none) else none) else none) else none) else (
κ2 (((), (0, ())), (((), ((upd a788 0 i796), (i21, (0, ())))), (i783, (b784, ((), (i785, ())))), l786, ()))))))))
def EG_27 {R : Type} (q_58 : Tp_58 R) (q_15 : Tp_15 R) (q_26 : Tp_26 R) (q_26_v1 : Tp_26_v1 R) : Env R := ((((Env.base QQ LN).add 58 ap_58 hp_58 (fun (x : aden ap_58 × hden hp_58) k => q_58 x (fun y => k (Pat.inst (.tup (.fcons (.nilp) (.fcons (.int .i64) (.fnil)))) y.1) (instH [] y.2)) (fun y => k (Pat.inst (.tup (.fcons (.ptr 0 []) (.fcons (.int .i64) (.fnil)))) y.1) (instH [some (.node (.fcons (.int .i64) (.fcons (.bool) (.fcons (.sl 1) (.fcons (.int .i64) (.fnil))))), 151), some (.lst (.int .u8), 5)] y.2)))).add 15 ap_15 hp_15 (fun (x : aden ap_15 × hden hp_15) k => q_15 x (fun y => k (Pat.inst (.vec (.int .u64) 8) y) (instH hp_15 x.2)))).add 26 ap_26 hp_26 (fun (x : aden ap_26 × hden hp_26) k => q_26 x (fun y => k (Pat.inst (.ptr 0 []) y.1) (instH [some (.node (.fcons (.nilp) (.fcons (.vec (.int .u64) 8) (.fcons (.int .i64) (.fcons (.int .u64) (.fnil))))), 115), some (.lst (.str), 9)] y.2)))).add 26 ap_26_v1 hp_26_v1 (fun (x : aden ap_26_v1 × hden hp_26_v1) k => q_26_v1 x (fun y => k (Pat.inst (.ptr 0 []) y.1) (instH [some (.node (.fcons (.ptr 1 []) (.fcons (.vec (.int .u64) 8) (.fcons (.int .i64) (.fcons (.int .u64) (.fnil))))), 115), some (.node (.fcons (.int .i64) (.fcons (.bool) (.fcons (.sl 4) (.fcons (.int .i64) (.fnil))))), 151), none, some (.lst (.str), 9), some (.lst (.int .u8), 5)] y.2)))
def LG_27 {R : Type} : Loops R := Loops.none
def E_27 {R : Type} (N : Nat) : Env R := EG_27 (p_58 N) (p_15 N) (p_26 N) (p_26_v1 N)
theorem eok_27 {R : Type} (N : Nat) : EK Try.prog (E_27 (R := R) N) := ek_add (ek_add (ek_add (ek_add (ek_base _ _) (good_58 N)) (good_15 N)) (good_26 N)) (good_26_v1 N)
def L_27 {R : Type} (N : Nat) : Loops R := LG_27
theorem lok_27 {R : Type} (N : Nat) : LOK 0 TT (E_27 (R := R) N) (drawAny TT WW) (L_27 N) (bodyOf Try.f27) := loops_nil (by kernel_rfl)
theorem grun_27 {R : Type} (q_58 : Tp_58 R) (q_15 : Tp_15 R) (q_26 : Tp_26 R) (q_26_v1 : Tp_26_v1 R) (x : aden ap_27 × hden hp_27) (k : KF R) : fnrun TT (EG_27 q_58 q_15 q_26 q_26_v1) (drawAny TT WW) (LG_27) true Try.f27 (instA ap_27 x.1) (instH hp_27 x.2) k = Q_27 q_58 q_15 q_26 q_26_v1 x (fun y => k (Pat.inst (.tup (.fcons (.nilp) (.fcons (.int .i64) (.fnil)))) y.1) (instH [] y.2)) (fun y => k (Pat.inst (.tup (.fcons (.ptr 0 []) (.fcons (.int .i64) (.fnil)))) y.1) (instH [some (.node (.fcons (.nilp) (.fcons (.vec (.int .u64) 8) (.fcons (.int .i64) (.fcons (.int .u64) (.fnil))))), 115)] y.2)) (fun y => k (Pat.inst (.tup (.fcons (.ptr 0 []) (.fcons (.int .i64) (.fnil)))) y.1) (instH [some (.node (.fcons (.ptr 1 []) (.fcons (.vec (.int .u64) 8) (.fcons (.int .i64) (.fcons (.int .u64) (.fnil))))), 115), some (.node (.fcons (.int .i64) (.fcons (.bool) (.fcons (.sl 2) (.fcons (.int .i64) (.fnil))))), 151), some (.lst (.int .u8), 5)] y.2)) := by kernel_rfl
theorem run_27 {R : Type} (N : Nat) (x : aden ap_27 × hden hp_27) (k : KF R) : fnrun TT (E_27 (R := R) N) (drawAny TT WW) (L_27 N) true Try.f27 (instA ap_27 x.1) (instH hp_27 x.2) k = p_27 N x (fun y => k (Pat.inst (.tup (.fcons (.nilp) (.fcons (.int .i64) (.fnil)))) y.1) (instH [] y.2)) (fun y => k (Pat.inst (.tup (.fcons (.ptr 0 []) (.fcons (.int .i64) (.fnil)))) y.1) (instH [some (.node (.fcons (.nilp) (.fcons (.vec (.int .u64) 8) (.fcons (.int .i64) (.fcons (.int .u64) (.fnil))))), 115)] y.2)) (fun y => k (Pat.inst (.tup (.fcons (.ptr 0 []) (.fcons (.int .i64) (.fnil)))) y.1) (instH [some (.node (.fcons (.ptr 1 []) (.fcons (.vec (.int .u64) 8) (.fcons (.int .i64) (.fcons (.int .u64) (.fnil))))), 115), some (.node (.fcons (.int .i64) (.fcons (.bool) (.fcons (.sl 2) (.fcons (.int .i64) (.fnil))))), 151), some (.lst (.int .u8), 5)] y.2)) := (grun_27 (p_58 N) (p_15 N) (p_26 N) (p_26_v1 N) x k).trans (by kernel_rfl)
theorem good_27 {R : Type} (N : Nat) : GD (X := R) Try.prog QQ 27 ap_27 hp_27 (fun (x : aden ap_27 × hden hp_27) k => p_27 N x (fun y => k (Pat.inst (.tup (.fcons (.nilp) (.fcons (.int .i64) (.fnil)))) y.1) (instH [] y.2)) (fun y => k (Pat.inst (.tup (.fcons (.ptr 0 []) (.fcons (.int .i64) (.fnil)))) y.1) (instH [some (.node (.fcons (.nilp) (.fcons (.vec (.int .u64) 8) (.fcons (.int .i64) (.fcons (.int .u64) (.fnil))))), 115)] y.2)) (fun y => k (Pat.inst (.tup (.fcons (.ptr 0 []) (.fcons (.int .i64) (.fnil)))) y.1) (instH [some (.node (.fcons (.ptr 1 []) (.fcons (.vec (.int .u64) 8) (.fcons (.int .i64) (.fcons (.int .u64) (.fnil))))), 115), some (.node (.fcons (.int .i64) (.fcons (.bool) (.fcons (.sl 2) (.fcons (.int .i64) (.fnil))))), 151), some (.lst (.int .u8), 5)] y.2))) :=
  gd_loud (E := E_27 N) (p := fun (x : aden ap_27 × hden hp_27) k => p_27 N x (fun y => k (Pat.inst (.tup (.fcons (.nilp) (.fcons (.int .i64) (.fnil)))) y.1) (instH [] y.2)) (fun y => k (Pat.inst (.tup (.fcons (.ptr 0 []) (.fcons (.int .i64) (.fnil)))) y.1) (instH [some (.node (.fcons (.nilp) (.fcons (.vec (.int .u64) 8) (.fcons (.int .i64) (.fcons (.int .u64) (.fnil))))), 115)] y.2)) (fun y => k (Pat.inst (.tup (.fcons (.ptr 0 []) (.fcons (.int .i64) (.fnil)))) y.1) (instH [some (.node (.fcons (.ptr 1 []) (.fcons (.vec (.int .u64) 8) (.fcons (.int .i64) (.fcons (.int .u64) (.fnil))))), 115), some (.node (.fcons (.int .i64) (.fcons (.bool) (.fcons (.sl 2) (.fcons (.int .i64) (.fnil))))), 151), some (.lst (.int .u8), 5)] y.2))) mixed tyok (eok_27 N) Try.func27 (by kernel_rfl) (by kernel_rfl) (by kernel_rfl) (lok_27 N) (fun x k => run_27 N x k)

def lv_60_3 : Live := [(3, none), (10, none), (11, none), (12, none)]
def pt_60_3 : SPat := ⟨[(3, .sl 1), (10, .sl 0), (11, .int .i64), (12, .int .i64)], [some (.lst (.int .u32), 124), some (.lst (.int .u8), 5)]⟩
def px_60_3_0 : SPat := ⟨[(3, .sl 1)], [some (.lst (.int .u32), 124), some (.lst (.int .u8), 5)]⟩
def lo_60_3 : Exit → Live
  | .exit 0 => [(3, none)]
  | _ => []
def B_60_3 {R : Type} (N : Nat) (rec : ((Unit × Unit × Int × Int × Unit) × ((List Int) × (List Int) × Unit)) → Option R) (x : ((Unit × Unit × Int × Int × Unit) × ((List Int) × (List Int) × Unit))) (κ0 : ((Unit × Unit) × ((List Int) × (List Int) × Unit)) → Option R) : Option R :=
let i1026 : Int := x.1.2.2.1
let i1027 : Int := x.1.2.2.2.1
let l1028 : (List Int) := x.2.1
let l1029 : (List Int) := x.2.2.1
bif (decide (i1027 < i1026)) then (
bif decide (0 ≤ i1027) then (
bif decide (i1027 < ((List.length l1028) : Int)) then (
let i1030 : Int := (List.getD l1028 ((Int.toNat i1027)) (Sch.zero (.int .u32)))
let i1031 : Int := IntKind.wrap .u8 i1030
let i1032 : Int := shrA .u32 i1030 8
let i1033 : Int := IntKind.wrap .u8 i1032
let i1034 : Int := shrA .u32 i1030 16
let i1035 : Int := IntKind.wrap .u8 i1034
let i1036 : Int := shrA .u32 i1030 24
let i1037 : Int := IntKind.wrap .u8 i1036
let l1038 : (List Int) := [i1031, i1033, i1035, i1037]
bif (decide ((List.length l1029 + List.length l1038) * 1 ≤ 140737488355328) && true) then (
let l1039 : (List Int) := (l1029 ++ l1038)
let i1040 : Int := addA .i64 i1027 1
rec (((), (), i1026, i1040, ()), (l1028, l1039, ()))) else none) else none) else none) else (
κ0 (((), ()), (l1028, l1029, ())))
def l_60_3 {R : Type} (N : Nat) : Nat → ((Unit × Unit × Int × Int × Unit) × ((List Int) × (List Int) × Unit)) → (((Unit × Unit) × ((List Int) × (List Int) × Unit)) → Option R) → Option R
  | 0, _, _ => none
  | n + 1, x, κ0 => B_60_3 N (fun y => l_60_3 N n y κ0) x κ0
def ap_60 : List Pat := [.sl 0]
def hp_60 : List (Option (Pat × Nat)) := [some (.lst (.int .u32), 124)]
def p_60 {R : Type} (N : Nat) (x : (Unit × Unit) × ((List Int) × Unit)) (κ0 : ((List Int) × ((List Int) × Unit)) → Option R) : Option R :=
let l1021 : (List Int) := x.2.1
let i1022 : Int := (((List.length l1021) : Nat) : Int)
let i1023 : Int := mulA .i64 4 i1022
bif decide (0 ≤ i1023) then (
bif decide (((1 : Nat) : Int) * i1023 ≤ 281474976710656) then (
bif decide (i1023 ≤ 9223372036854775807) then (
let l1024 : (List Int) := List.replicate 0 (Sch.zero (.int .u8))
let i1025 : Int := (((List.length l1021) : Nat) : Int)
l_60_3 N N (((), (), i1025, 0, ()), (l1021, l1024, ())) (fun y1041 =>
let l1042 : (List Int) := y1041.2.1
let l1043 : (List Int) := y1041.2.2.1
κ0 (l1043, (l1042, ())))) else none) else none) else none

abbrev Tl_60_3 (R : Type) : Type := ((Unit × Unit × Int × Int × Unit) × ((List Int) × (List Int) × Unit)) → (((Unit × Unit) × ((List Int) × (List Int) × Unit)) → Option R) → Option R
abbrev Tp_60 (R : Type) : Type := (Unit × Unit) × ((List Int) × Unit) → (((List Int) × ((List Int) × Unit)) → Option R) → Option R
def Q_60 {R : Type} (m_60_3 : Tl_60_3 R) (x : (Unit × Unit) × ((List Int) × Unit)) (κ0 : ((List Int) × ((List Int) × Unit)) → Option R) : Option R :=
let l1021 : (List Int) := x.2.1
let i1022 : Int := (((List.length l1021) : Nat) : Int)
let i1023 : Int := mulA .i64 4 i1022
bif decide (0 ≤ i1023) then (
bif decide (((1 : Nat) : Int) * i1023 ≤ 281474976710656) then (
bif decide (i1023 ≤ 9223372036854775807) then (
let l1024 : (List Int) := List.replicate 0 (Sch.zero (.int .u8))
let i1025 : Int := (((List.length l1021) : Nat) : Int)
m_60_3 (((), (), i1025, 0, ()), (l1021, l1024, ())) (fun y1041 =>
let l1042 : (List Int) := y1041.2.1
let l1043 : (List Int) := y1041.2.2.1
κ0 (l1043, (l1042, ())))) else none) else none) else none
def C_60_3 {R : Type} (m_60_3 : Tl_60_3 R) (rec : ((Unit × Unit × Int × Int × Unit) × ((List Int) × (List Int) × Unit)) → Option R) (x : ((Unit × Unit × Int × Int × Unit) × ((List Int) × (List Int) × Unit))) (κ0 : ((Unit × Unit) × ((List Int) × (List Int) × Unit)) → Option R) : Option R :=
let i1026 : Int := x.1.2.2.1
let i1027 : Int := x.1.2.2.2.1
let l1028 : (List Int) := x.2.1
let l1029 : (List Int) := x.2.2.1
bif (decide (i1027 < i1026)) then (
bif decide (0 ≤ i1027) then (
bif decide (i1027 < ((List.length l1028) : Int)) then (
let i1030 : Int := (List.getD l1028 ((Int.toNat i1027)) (Sch.zero (.int .u32)))
let i1031 : Int := IntKind.wrap .u8 i1030
let i1032 : Int := shrA .u32 i1030 8
let i1033 : Int := IntKind.wrap .u8 i1032
let i1034 : Int := shrA .u32 i1030 16
let i1035 : Int := IntKind.wrap .u8 i1034
let i1036 : Int := shrA .u32 i1030 24
let i1037 : Int := IntKind.wrap .u8 i1036
let l1038 : (List Int) := [i1031, i1033, i1035, i1037]
bif (decide ((List.length l1029 + List.length l1038) * 1 ≤ 140737488355328) && true) then (
let l1039 : (List Int) := (l1029 ++ l1038)
let i1040 : Int := addA .i64 i1027 1
rec (((), (), i1026, i1040, ()), (l1028, l1039, ()))) else none) else none) else none) else (
κ0 (((), ()), (l1028, l1029, ())))
def EG_60 {R : Type} : Env R := Env.base QQ LN
def LG_60 {R : Type} (m_60_3 : Tl_60_3 R) : Loops R := (Loops.none).add 3 (loopBy 1 lv_60_3 pt_60_3 (fun x k => m_60_3 x (fun y => k (.exit 0) (px_60_3_0.inst y))))
def E_60 {R : Type} (N : Nat) : Env R := EG_60
theorem eok_60 {R : Type} (N : Nat) : EK Try.prog (E_60 (R := R) N) := ek_base _ _
def L_60 {R : Type} (N : Nat) : Loops R := LG_60 (l_60_3 N N)
theorem gstep_60_3 {R : Type} (m_60_3 : Tl_60_3 R) (n : Nat) (x : pt_60_3.den) (k : Exit → St → Option R) : iter 1 lv_60_3 lo_60_3 (aexec TT (EG_60) (drawAny TT WW) (LG_60 m_60_3) (loopAt 3 (bodyOf Try.f60))) (n + 1) (pt_60_3.inst x) k = C_60_3 m_60_3 (fun y => iter 1 lv_60_3 lo_60_3 (aexec TT (EG_60) (drawAny TT WW) (LG_60 m_60_3) (loopAt 3 (bodyOf Try.f60))) n (pt_60_3.inst y) k) x (fun y => k (.exit 0) (px_60_3_0.inst y)) := by kernel_rfl
theorem step_60_3 {R : Type} (N n : Nat) (x : pt_60_3.den) (k : Exit → St → Option R) : iter 1 lv_60_3 lo_60_3 (aexec TT (E_60 (R := R) N) (drawAny TT WW) (L_60 N) (loopAt 3 (bodyOf Try.f60))) (n + 1) (pt_60_3.inst x) k = B_60_3 N (fun y => iter 1 lv_60_3 lo_60_3 (aexec TT (E_60 (R := R) N) (drawAny TT WW) (L_60 N) (loopAt 3 (bodyOf Try.f60))) n (pt_60_3.inst y) k) x (fun y => k (.exit 0) (px_60_3_0.inst y)) := (gstep_60_3 (l_60_3 N N) n x k).trans (by kernel_rfl)
theorem eq_60_3 {R : Type} (N : Nat) : ∀ (n : Nat) (x : pt_60_3.den) (k : Exit → St → Option R), iter 1 lv_60_3 lo_60_3 (aexec TT (E_60 (R := R) N) (drawAny TT WW) (L_60 N) (loopAt 3 (bodyOf Try.f60))) n (pt_60_3.inst x) k = l_60_3 N n x (fun y => k (.exit 0) (px_60_3_0.inst y)) :=
  iter_eq (K := Exit → St → Option R) (ks := fun k => k) (l := fun n (x : pt_60_3.den) k => l_60_3 N n x (fun y => k (.exit 0) (px_60_3_0.inst y))) (B := fun (rec : pt_60_3.den → Option R) (x : pt_60_3.den) k => B_60_3 N rec x (fun y => k (.exit 0) (px_60_3_0.inst y))) (fun _ _ => rfl) (fun _ _ _ => rfl) (fun n x k => step_60_3 N n x k)
theorem rounds_60_3 {R : Type} (N : Nat) : Rounds 1 TT (E_60 (R := R) N) (drawAny TT WW) (L_60 N) 3 (loopAt 3 (bodyOf Try.f60)) :=
  rounds_of (p := pt_60_3) (l := fun (x : pt_60_3.den) k => l_60_3 N N x (fun y => k (.exit 0) (px_60_3_0.inst y))) (fun s k => rfl) (fun x k => eq_60_3 N N x k)
theorem loops_60 : loopsIn (bodyOf Try.f60) = [(3, loopAt 3 (bodyOf Try.f60))] := by kernel_rfl
theorem lok_60 {R : Type} (N : Nat) : LOK 1 TT (E_60 (R := R) N) (drawAny TT WW) (L_60 N) (bodyOf Try.f60) := loops_all loops_60 (by
  simp only [List.forall_mem_cons, List.not_mem_nil, false_implies, implies_true, and_true]
  exact rounds_60_3 N)
theorem grun_60 {R : Type} (m_60_3 : Tl_60_3 R) (x : aden ap_60 × hden hp_60) (k : KF R) : fnrun TT (EG_60) (drawAny TT WW) (LG_60 m_60_3) true Try.f60 (instA ap_60 x.1) (instH hp_60 x.2) k = Q_60 m_60_3 x (fun y => k (Pat.inst (.ros (.int .u8)) y.1) (instH [some (.lst (.int .u32), 124)] y.2)) := by kernel_rfl
theorem run_60 {R : Type} (N : Nat) (x : aden ap_60 × hden hp_60) (k : KF R) : fnrun TT (E_60 (R := R) N) (drawAny TT WW) (L_60 N) true Try.f60 (instA ap_60 x.1) (instH hp_60 x.2) k = p_60 N x (fun y => k (Pat.inst (.ros (.int .u8)) y.1) (instH [some (.lst (.int .u32), 124)] y.2)) := (grun_60 (l_60_3 N N) x k).trans (by kernel_rfl)
theorem good_60 {R : Type} (N : Nat) : GD (X := R) Try.prog QQ 60 ap_60 hp_60 (fun (x : aden ap_60 × hden hp_60) k => p_60 N x (fun y => k (Pat.inst (.ros (.int .u8)) y.1) (instH [some (.lst (.int .u32), 124)] y.2))) :=
  gd_loud (E := E_60 N) (p := fun (x : aden ap_60 × hden hp_60) k => p_60 N x (fun y => k (Pat.inst (.ros (.int .u8)) y.1) (instH [some (.lst (.int .u32), 124)] y.2))) mixed tyok (eok_60 N) Try.func60 (by kernel_rfl) (by kernel_rfl) (by kernel_rfl) (lok_60 N) (fun x k => run_60 N x k)

def ap_26_v2 : List Pat := [.nilp, .sl 0]
def hp_26_v2 : List (Option (Pat × Nat)) := [some (.lst (.str), 9)]
def p_26_v2 {R : Type} (N : Nat) (x : (Unit × Unit × Unit) × ((List ByteArray) × Unit)) (κ0 : (Unit × ((List ByteArray) × Unit)) → Option R) : Option R :=
let l1049 : (List ByteArray) := x.2.1
κ0 ((), (l1049, ()))

abbrev Tp_26_v2 (R : Type) : Type := (Unit × Unit × Unit) × ((List ByteArray) × Unit) → ((Unit × ((List ByteArray) × Unit)) → Option R) → Option R
def Q_26_v2 {R : Type} (x : (Unit × Unit × Unit) × ((List ByteArray) × Unit)) (κ0 : (Unit × ((List ByteArray) × Unit)) → Option R) : Option R :=
let l1049 : (List ByteArray) := x.2.1
κ0 ((), (l1049, ()))
def EG_26_v2 {R : Type} : Env R := Env.base QQ LN
def LG_26_v2 {R : Type} : Loops R := Loops.none
def E_26_v2 {R : Type} (N : Nat) : Env R := EG_26_v2
theorem eok_26_v2 {R : Type} (N : Nat) : EK Try.prog (E_26_v2 (R := R) N) := ek_base _ _
def L_26_v2 {R : Type} (N : Nat) : Loops R := LG_26_v2
theorem loops_26_v2 : loopsIn (bodyOf Try.f26) = [(4, loopAt 4 (bodyOf Try.f26))] := by kernel_rfl
theorem lok_26_v2 {R : Type} (N : Nat) : LOK 1 TT (E_26_v2 (R := R) N) (drawAny TT WW) (L_26_v2 N) (bodyOf Try.f26) := loops_all loops_26_v2 (by
  simp only [List.forall_mem_cons, List.not_mem_nil, false_implies, implies_true, and_true]
  exact rounds_none (fun _ _ => rfl))
theorem grun_26_v2 {R : Type} (x : aden ap_26_v2 × hden hp_26_v2) (k : KF R) : fnrun TT (EG_26_v2) (drawAny TT WW) (LG_26_v2) true Try.f26 (instA ap_26_v2 x.1) (instH hp_26_v2 x.2) k = Q_26_v2 x (fun y => k (Pat.inst (.nilp) y.1) (instH [some (.lst (.str), 9)] y.2)) := by kernel_rfl
theorem run_26_v2 {R : Type} (N : Nat) (x : aden ap_26_v2 × hden hp_26_v2) (k : KF R) : fnrun TT (E_26_v2 (R := R) N) (drawAny TT WW) (L_26_v2 N) true Try.f26 (instA ap_26_v2 x.1) (instH hp_26_v2 x.2) k = p_26_v2 N x (fun y => k (Pat.inst (.nilp) y.1) (instH [some (.lst (.str), 9)] y.2)) := (grun_26_v2 x k).trans (by kernel_rfl)
theorem good_26_v2 {R : Type} (N : Nat) : GD (X := R) Try.prog QQ 26 ap_26_v2 hp_26_v2 (fun (x : aden ap_26_v2 × hden hp_26_v2) k => p_26_v2 N x (fun y => k (Pat.inst (.nilp) y.1) (instH [some (.lst (.str), 9)] y.2))) :=
  gd_loud (E := E_26_v2 N) (p := fun (x : aden ap_26_v2 × hden hp_26_v2) k => p_26_v2 N x (fun y => k (Pat.inst (.nilp) y.1) (instH [some (.lst (.str), 9)] y.2))) mixed tyok (eok_26_v2 N) Try.func26 (by kernel_rfl) (by kernel_rfl) (by kernel_rfl) (lok_26_v2 N) (fun x k => run_26_v2 N x k)

def ap_25 : List Pat := [.nilp]
def hp_25 : List (Option (Pat × Nat)) := []
def p_25 {R : Type} (N : Nat) (x : (Unit × Unit) × (Unit)) (κ0 : (ByteArray × (Unit)) → Option R) : Option R :=
κ0 (⟨#[]⟩, ())

abbrev Tp_25 (R : Type) : Type := (Unit × Unit) × (Unit) → ((ByteArray × (Unit)) → Option R) → Option R
def Q_25 {R : Type} (x : (Unit × Unit) × (Unit)) (κ0 : (ByteArray × (Unit)) → Option R) : Option R :=
κ0 (⟨#[]⟩, ())
def EG_25 {R : Type} : Env R := Env.base QQ LN
def LG_25 {R : Type} : Loops R := Loops.none
def E_25 {R : Type} (N : Nat) : Env R := EG_25
theorem eok_25 {R : Type} (N : Nat) : EK Try.prog (E_25 (R := R) N) := ek_base _ _
def L_25 {R : Type} (N : Nat) : Loops R := LG_25
theorem lok_25 {R : Type} (N : Nat) : LOK 0 TT (E_25 (R := R) N) (drawAny TT WW) (L_25 N) (bodyOf Try.f25) := loops_nil (by kernel_rfl)
theorem grun_25 {R : Type} (x : aden ap_25 × hden hp_25) (k : KF R) : fnrun TT (EG_25) (drawAny TT WW) (LG_25) true Try.f25 (instA ap_25 x.1) (instH hp_25 x.2) k = Q_25 x (fun y => k (Pat.inst (.str) y.1) (instH [] y.2)) := by kernel_rfl
theorem run_25 {R : Type} (N : Nat) (x : aden ap_25 × hden hp_25) (k : KF R) : fnrun TT (E_25 (R := R) N) (drawAny TT WW) (L_25 N) true Try.f25 (instA ap_25 x.1) (instH hp_25 x.2) k = p_25 N x (fun y => k (Pat.inst (.str) y.1) (instH [] y.2)) := (grun_25 x k).trans (by kernel_rfl)
theorem good_25 {R : Type} (N : Nat) : GD (X := R) Try.prog QQ 25 ap_25 hp_25 (fun (x : aden ap_25 × hden hp_25) k => p_25 N x (fun y => k (Pat.inst (.str) y.1) (instH [] y.2))) :=
  gd_loud (E := E_25 N) (p := fun (x : aden ap_25 × hden hp_25) k => p_25 N x (fun y => k (Pat.inst (.str) y.1) (instH [] y.2))) mixed tyok (eok_25 N) Try.func25 (by kernel_rfl) (by kernel_rfl) (by kernel_rfl) (lok_25 N) (fun x k => run_25 N x k)

def ap_55 : List Pat := [.nilp]
def hp_55 : List (Option (Pat × Nat)) := []
def p_55 {R : Type} (N : Nat) (x : (Unit × Unit) × (Unit)) (κ0 : (Unit × (Unit)) → Option R) : Option R :=
κ0 ((), ())

abbrev Tp_55 (R : Type) : Type := (Unit × Unit) × (Unit) → ((Unit × (Unit)) → Option R) → Option R
def Q_55 {R : Type} (x : (Unit × Unit) × (Unit)) (κ0 : (Unit × (Unit)) → Option R) : Option R :=
κ0 ((), ())
def EG_55 {R : Type} : Env R := Env.base QQ LN
def LG_55 {R : Type} : Loops R := Loops.none
def E_55 {R : Type} (N : Nat) : Env R := EG_55
theorem eok_55 {R : Type} (N : Nat) : EK Try.prog (E_55 (R := R) N) := ek_base _ _
def L_55 {R : Type} (N : Nat) : Loops R := LG_55
theorem lok_55 {R : Type} (N : Nat) : LOK 0 TT (E_55 (R := R) N) (drawAny TT WW) (L_55 N) (bodyOf Try.f55) := loops_nil (by kernel_rfl)
theorem grun_55 {R : Type} (x : aden ap_55 × hden hp_55) (k : KF R) : fnrun TT (EG_55) (drawAny TT WW) (LG_55) false Try.f55 (instA ap_55 x.1) (instH hp_55 x.2) k = Q_55 x (fun y => k (Pat.inst (.nils) y.1) (instH [] y.2)) := by kernel_rfl
theorem run_55 {R : Type} (N : Nat) (x : aden ap_55 × hden hp_55) (k : KF R) : fnrun TT (E_55 (R := R) N) (drawAny TT WW) (L_55 N) false Try.f55 (instA ap_55 x.1) (instH hp_55 x.2) k = p_55 N x (fun y => k (Pat.inst (.nils) y.1) (instH [] y.2)) := (grun_55 x k).trans (by kernel_rfl)
theorem good_55 {R : Type} (N : Nat) : GD (X := R) Try.prog QQ 55 ap_55 hp_55 (fun (x : aden ap_55 × hden hp_55) k => p_55 N x (fun y => k (Pat.inst (.nils) y.1) (instH [] y.2))) :=
  gd_loud (E := E_55 N) (p := fun (x : aden ap_55 × hden hp_55) k => p_55 N x (fun y => k (Pat.inst (.nils) y.1) (instH [] y.2))) mixed tyok (eok_55 N) Try.func55 (by kernel_rfl) (by kernel_rfl) (by kernel_rfl) (lok_55 N) (fun x k => run_55 N x k)

def lv_56_6 : Live := [(3, none), (5, none), (11, none), (12, none), (13, none), (17, none)]
def pt_56_6 : SPat := ⟨[(3, .sl 0), (5, .int .u64), (11, .ros (.int .u64)), (12, .int .i64), (13, .int .i64), (17, .int .i64)], [some (.lst (.int .u8), 5)]⟩
def px_56_6_0 : SPat := ⟨[(3, .sl 0), (11, .ros (.int .u64)), (12, .int .i64), (13, .int .i64)], [some (.lst (.int .u8), 5)]⟩
def lo_56_6 : Exit → Live
  | .exit 2 => [(3, none), (11, none), (12, none), (13, none)]
  | _ => []
def B_56_6 {R : Type} (N : Nat) (rec : ((Unit × Int × (List Int) × Int × Int × Int × Unit) × ((List Int) × Unit)) → Option R) (x : ((Unit × Int × (List Int) × Int × Int × Int × Unit) × ((List Int) × Unit))) (κ0 : ((Unit × (List Int) × Int × Int × Unit) × ((List Int) × Unit)) → Option R) : Option R :=
let i1105 : Int := x.1.2.1
let l1106 : (List Int) := x.1.2.2.1
let i1107 : Int := x.1.2.2.2.1
let i1108 : Int := x.1.2.2.2.2.1
let i1109 : Int := x.1.2.2.2.2.2.1
let l1110 : (List Int) := x.2.1
bif (decide (i1109 < 8)) then (
let i1111 : Int := mulA .i64 8 i1109
bif decide (i1111 < 0) then none else (
let i1112 : Int := shrA .u64 i1105 i1111
let i1113 : Int := IntKind.wrap .u8 i1112
let l1114 : (List Int) := [i1113]
bif (decide ((List.length l1110 + List.length l1114) * 1 ≤ 140737488355328) && true) then (
let l1115 : (List Int) := (l1110 ++ l1114)
let i1116 : Int := addA .i64 i1109 1
rec (((), i1105, l1106, i1107, i1108, i1116, ()), (l1115, ()))) else none)) else (
κ0 (((), l1106, i1107, i1108, ()), (l1110, ())))
def l_56_6 {R : Type} (N : Nat) : Nat → ((Unit × Int × (List Int) × Int × Int × Int × Unit) × ((List Int) × Unit)) → (((Unit × (List Int) × Int × Int × Unit) × ((List Int) × Unit)) → Option R) → Option R
  | 0, _, _ => none
  | n + 1, x, κ0 => B_56_6 N (fun y => l_56_6 N n y κ0) x κ0
def lv_56_3 : Live := [(3, none), (11, none), (12, none), (13, none)]
def pt_56_3 : SPat := ⟨[(3, .sl 0), (11, .ros (.int .u64)), (12, .int .i64), (13, .int .i64)], [some (.lst (.int .u8), 5)]⟩
def px_56_3_0 : SPat := ⟨[(3, .sl 0)], [some (.lst (.int .u8), 5)]⟩
def lo_56_3 : Exit → Live
  | .exit 0 => [(3, none)]
  | _ => []
def B_56_3 {R : Type} (N : Nat) (rec : ((Unit × (List Int) × Int × Int × Unit) × ((List Int) × Unit)) → Option R) (x : ((Unit × (List Int) × Int × Int × Unit) × ((List Int) × Unit))) (κ0 : ((Unit × Unit) × ((List Int) × Unit)) → Option R) : Option R :=
let l1100 : (List Int) := x.1.2.1
let i1101 : Int := x.1.2.2.1
let i1102 : Int := x.1.2.2.2.1
let l1103 : (List Int) := x.2.1
bif (decide (i1102 < i1101)) then (
bif decide (0 ≤ i1102) then (
bif decide (i1102 < ((List.length l1100) : Int)) then (
let p1104 : Int := (List.getD l1100 ((Int.toNat i1102)) (Sch.zero (.int .u64)))
l_56_6 N N (((), p1104, l1100, i1101, i1102, 0, ()), (l1103, ())) (fun y1117 =>
let l1118 : (List Int) := y1117.1.2.1
let i1119 : Int := y1117.1.2.2.1
let i1120 : Int := y1117.1.2.2.2.1
let l1121 : (List Int) := y1117.2.1
let i1122 : Int := addA .i64 i1120 1
rec (((), l1118, i1119, i1122, ()), (l1121, ())))) else none) else none) else (
κ0 (((), ()), (l1103, ())))
def l_56_3 {R : Type} (N : Nat) : Nat → ((Unit × (List Int) × Int × Int × Unit) × ((List Int) × Unit)) → (((Unit × Unit) × ((List Int) × Unit)) → Option R) → Option R
  | 0, _, _ => none
  | n + 1, x, κ0 => B_56_3 N (fun y => l_56_3 N n y κ0) x κ0
def ap_56 : List Pat := [.ros (.int .u64)]
def hp_56 : List (Option (Pat × Nat)) := []
def p_56 {R : Type} (N : Nat) (x : ((List Int) × Unit) × (Unit)) (κ0 : (Unit × ((List Int) × Unit)) → Option R) : Option R :=
let l1095 : (List Int) := x.1.1
let i1096 : Int := (((List.length l1095) : Nat) : Int)
let i1097 : Int := mulA .i64 8 i1096
bif decide (0 ≤ i1097) then (
bif decide (((1 : Nat) : Int) * i1097 ≤ 281474976710656) then (
bif decide (i1097 ≤ 9223372036854775807) then (
let l1098 : (List Int) := List.replicate 0 (Sch.zero (.int .u8))
let i1099 : Int := (((List.length l1095) : Nat) : Int)
l_56_3 N N (((), l1095, i1099, 0, ()), (l1098, ())) (fun y1123 =>
let l1124 : (List Int) := y1123.2.1
κ0 ((), (l1124, ())))) else none) else none) else none

abbrev Tl_56_6 (R : Type) : Type := ((Unit × Int × (List Int) × Int × Int × Int × Unit) × ((List Int) × Unit)) → (((Unit × (List Int) × Int × Int × Unit) × ((List Int) × Unit)) → Option R) → Option R
abbrev Tl_56_3 (R : Type) : Type := ((Unit × (List Int) × Int × Int × Unit) × ((List Int) × Unit)) → (((Unit × Unit) × ((List Int) × Unit)) → Option R) → Option R
abbrev Tp_56 (R : Type) : Type := ((List Int) × Unit) × (Unit) → ((Unit × ((List Int) × Unit)) → Option R) → Option R
def Q_56 {R : Type} (m_56_6 : Tl_56_6 R) (m_56_3 : Tl_56_3 R) (x : ((List Int) × Unit) × (Unit)) (κ0 : (Unit × ((List Int) × Unit)) → Option R) : Option R :=
let l1095 : (List Int) := x.1.1
let i1096 : Int := (((List.length l1095) : Nat) : Int)
let i1097 : Int := mulA .i64 8 i1096
bif decide (0 ≤ i1097) then (
bif decide (((1 : Nat) : Int) * i1097 ≤ 281474976710656) then (
bif decide (i1097 ≤ 9223372036854775807) then (
let l1098 : (List Int) := List.replicate 0 (Sch.zero (.int .u8))
let i1099 : Int := (((List.length l1095) : Nat) : Int)
m_56_3 (((), l1095, i1099, 0, ()), (l1098, ())) (fun y1123 =>
let l1124 : (List Int) := y1123.2.1
κ0 ((), (l1124, ())))) else none) else none) else none
def C_56_6 {R : Type} (m_56_6 : Tl_56_6 R) (m_56_3 : Tl_56_3 R) (rec : ((Unit × Int × (List Int) × Int × Int × Int × Unit) × ((List Int) × Unit)) → Option R) (x : ((Unit × Int × (List Int) × Int × Int × Int × Unit) × ((List Int) × Unit))) (κ0 : ((Unit × (List Int) × Int × Int × Unit) × ((List Int) × Unit)) → Option R) : Option R :=
let i1105 : Int := x.1.2.1
let l1106 : (List Int) := x.1.2.2.1
let i1107 : Int := x.1.2.2.2.1
let i1108 : Int := x.1.2.2.2.2.1
let i1109 : Int := x.1.2.2.2.2.2.1
let l1110 : (List Int) := x.2.1
bif (decide (i1109 < 8)) then (
let i1111 : Int := mulA .i64 8 i1109
bif decide (i1111 < 0) then none else (
let i1112 : Int := shrA .u64 i1105 i1111
let i1113 : Int := IntKind.wrap .u8 i1112
let l1114 : (List Int) := [i1113]
bif (decide ((List.length l1110 + List.length l1114) * 1 ≤ 140737488355328) && true) then (
let l1115 : (List Int) := (l1110 ++ l1114)
let i1116 : Int := addA .i64 i1109 1
rec (((), i1105, l1106, i1107, i1108, i1116, ()), (l1115, ()))) else none)) else (
κ0 (((), l1106, i1107, i1108, ()), (l1110, ())))
def C_56_3 {R : Type} (m_56_6 : Tl_56_6 R) (m_56_3 : Tl_56_3 R) (rec : ((Unit × (List Int) × Int × Int × Unit) × ((List Int) × Unit)) → Option R) (x : ((Unit × (List Int) × Int × Int × Unit) × ((List Int) × Unit))) (κ0 : ((Unit × Unit) × ((List Int) × Unit)) → Option R) : Option R :=
let l1100 : (List Int) := x.1.2.1
let i1101 : Int := x.1.2.2.1
let i1102 : Int := x.1.2.2.2.1
let l1103 : (List Int) := x.2.1
bif (decide (i1102 < i1101)) then (
bif decide (0 ≤ i1102) then (
bif decide (i1102 < ((List.length l1100) : Int)) then (
let p1104 : Int := (List.getD l1100 ((Int.toNat i1102)) (Sch.zero (.int .u64)))
m_56_6 (((), p1104, l1100, i1101, i1102, 0, ()), (l1103, ())) (fun y1117 =>
let l1118 : (List Int) := y1117.1.2.1
let i1119 : Int := y1117.1.2.2.1
let i1120 : Int := y1117.1.2.2.2.1
let l1121 : (List Int) := y1117.2.1
let i1122 : Int := addA .i64 i1120 1
rec (((), l1118, i1119, i1122, ()), (l1121, ())))) else none) else none) else (
κ0 (((), ()), (l1103, ())))
def EG_56 {R : Type} : Env R := Env.base QQ LN
def LG_56 {R : Type} (m_56_6 : Tl_56_6 R) (m_56_3 : Tl_56_3 R) : Loops R := ((Loops.none).add 6 (loopBy 0 lv_56_6 pt_56_6 (fun x k => m_56_6 x (fun y => k (.exit 2) (px_56_6_0.inst y))))).add 3 (loopBy 0 lv_56_3 pt_56_3 (fun x k => m_56_3 x (fun y => k (.exit 0) (px_56_3_0.inst y))))
def E_56 {R : Type} (N : Nat) : Env R := EG_56
theorem eok_56 {R : Type} (N : Nat) : EK Try.prog (E_56 (R := R) N) := ek_base _ _
def L_56 {R : Type} (N : Nat) : Loops R := LG_56 (l_56_6 N N) (l_56_3 N N)
theorem gstep_56_6 {R : Type} (m_56_6 : Tl_56_6 R) (m_56_3 : Tl_56_3 R) (n : Nat) (x : pt_56_6.den) (k : Exit → St → Option R) : iter 0 lv_56_6 lo_56_6 (aexec TT (EG_56) (drawAny TT WW) (LG_56 m_56_6 m_56_3) (loopAt 6 (bodyOf Try.f56))) (n + 1) (pt_56_6.inst x) k = C_56_6 m_56_6 m_56_3 (fun y => iter 0 lv_56_6 lo_56_6 (aexec TT (EG_56) (drawAny TT WW) (LG_56 m_56_6 m_56_3) (loopAt 6 (bodyOf Try.f56))) n (pt_56_6.inst y) k) x (fun y => k (.exit 2) (px_56_6_0.inst y)) := by kernel_rfl
theorem step_56_6 {R : Type} (N n : Nat) (x : pt_56_6.den) (k : Exit → St → Option R) : iter 0 lv_56_6 lo_56_6 (aexec TT (E_56 (R := R) N) (drawAny TT WW) (L_56 N) (loopAt 6 (bodyOf Try.f56))) (n + 1) (pt_56_6.inst x) k = B_56_6 N (fun y => iter 0 lv_56_6 lo_56_6 (aexec TT (E_56 (R := R) N) (drawAny TT WW) (L_56 N) (loopAt 6 (bodyOf Try.f56))) n (pt_56_6.inst y) k) x (fun y => k (.exit 2) (px_56_6_0.inst y)) := (gstep_56_6 (l_56_6 N N) (l_56_3 N N) n x k).trans (by kernel_rfl)
theorem eq_56_6 {R : Type} (N : Nat) : ∀ (n : Nat) (x : pt_56_6.den) (k : Exit → St → Option R), iter 0 lv_56_6 lo_56_6 (aexec TT (E_56 (R := R) N) (drawAny TT WW) (L_56 N) (loopAt 6 (bodyOf Try.f56))) n (pt_56_6.inst x) k = l_56_6 N n x (fun y => k (.exit 2) (px_56_6_0.inst y)) :=
  iter_eq (K := Exit → St → Option R) (ks := fun k => k) (l := fun n (x : pt_56_6.den) k => l_56_6 N n x (fun y => k (.exit 2) (px_56_6_0.inst y))) (B := fun (rec : pt_56_6.den → Option R) (x : pt_56_6.den) k => B_56_6 N rec x (fun y => k (.exit 2) (px_56_6_0.inst y))) (fun _ _ => rfl) (fun _ _ _ => rfl) (fun n x k => step_56_6 N n x k)
theorem rounds_56_6 {R : Type} (N : Nat) : Rounds 0 TT (E_56 (R := R) N) (drawAny TT WW) (L_56 N) 6 (loopAt 6 (bodyOf Try.f56)) :=
  rounds_of (p := pt_56_6) (l := fun (x : pt_56_6.den) k => l_56_6 N N x (fun y => k (.exit 2) (px_56_6_0.inst y))) (fun s k => rfl) (fun x k => eq_56_6 N N x k)
theorem gstep_56_3 {R : Type} (m_56_6 : Tl_56_6 R) (m_56_3 : Tl_56_3 R) (n : Nat) (x : pt_56_3.den) (k : Exit → St → Option R) : iter 0 lv_56_3 lo_56_3 (aexec TT (EG_56) (drawAny TT WW) (LG_56 m_56_6 m_56_3) (loopAt 3 (bodyOf Try.f56))) (n + 1) (pt_56_3.inst x) k = C_56_3 m_56_6 m_56_3 (fun y => iter 0 lv_56_3 lo_56_3 (aexec TT (EG_56) (drawAny TT WW) (LG_56 m_56_6 m_56_3) (loopAt 3 (bodyOf Try.f56))) n (pt_56_3.inst y) k) x (fun y => k (.exit 0) (px_56_3_0.inst y)) := by kernel_rfl
theorem step_56_3 {R : Type} (N n : Nat) (x : pt_56_3.den) (k : Exit → St → Option R) : iter 0 lv_56_3 lo_56_3 (aexec TT (E_56 (R := R) N) (drawAny TT WW) (L_56 N) (loopAt 3 (bodyOf Try.f56))) (n + 1) (pt_56_3.inst x) k = B_56_3 N (fun y => iter 0 lv_56_3 lo_56_3 (aexec TT (E_56 (R := R) N) (drawAny TT WW) (L_56 N) (loopAt 3 (bodyOf Try.f56))) n (pt_56_3.inst y) k) x (fun y => k (.exit 0) (px_56_3_0.inst y)) := (gstep_56_3 (l_56_6 N N) (l_56_3 N N) n x k).trans (by kernel_rfl)
theorem eq_56_3 {R : Type} (N : Nat) : ∀ (n : Nat) (x : pt_56_3.den) (k : Exit → St → Option R), iter 0 lv_56_3 lo_56_3 (aexec TT (E_56 (R := R) N) (drawAny TT WW) (L_56 N) (loopAt 3 (bodyOf Try.f56))) n (pt_56_3.inst x) k = l_56_3 N n x (fun y => k (.exit 0) (px_56_3_0.inst y)) :=
  iter_eq (K := Exit → St → Option R) (ks := fun k => k) (l := fun n (x : pt_56_3.den) k => l_56_3 N n x (fun y => k (.exit 0) (px_56_3_0.inst y))) (B := fun (rec : pt_56_3.den → Option R) (x : pt_56_3.den) k => B_56_3 N rec x (fun y => k (.exit 0) (px_56_3_0.inst y))) (fun _ _ => rfl) (fun _ _ _ => rfl) (fun n x k => step_56_3 N n x k)
theorem rounds_56_3 {R : Type} (N : Nat) : Rounds 0 TT (E_56 (R := R) N) (drawAny TT WW) (L_56 N) 3 (loopAt 3 (bodyOf Try.f56)) :=
  rounds_of (p := pt_56_3) (l := fun (x : pt_56_3.den) k => l_56_3 N N x (fun y => k (.exit 0) (px_56_3_0.inst y))) (fun s k => rfl) (fun x k => eq_56_3 N N x k)
theorem loops_56 : loopsIn (bodyOf Try.f56) = [(3, loopAt 3 (bodyOf Try.f56)), (6, loopAt 6 (bodyOf Try.f56))] := by kernel_rfl
theorem lok_56 {R : Type} (N : Nat) : LOK 0 TT (E_56 (R := R) N) (drawAny TT WW) (L_56 N) (bodyOf Try.f56) := loops_all loops_56 (by
  simp only [List.forall_mem_cons, List.not_mem_nil, false_implies, implies_true, and_true]
  exact ⟨rounds_56_3 N, rounds_56_6 N⟩)
theorem grun_56 {R : Type} (m_56_6 : Tl_56_6 R) (m_56_3 : Tl_56_3 R) (x : aden ap_56 × hden hp_56) (k : KF R) : fnrun TT (EG_56) (drawAny TT WW) (LG_56 m_56_6 m_56_3) false Try.f56 (instA ap_56 x.1) (instH hp_56 x.2) k = Q_56 m_56_6 m_56_3 x (fun y => k (Pat.inst (.sl 0) y.1) (instH [some (.lst (.int .u8), 5)] y.2)) := by kernel_rfl
theorem run_56 {R : Type} (N : Nat) (x : aden ap_56 × hden hp_56) (k : KF R) : fnrun TT (E_56 (R := R) N) (drawAny TT WW) (L_56 N) false Try.f56 (instA ap_56 x.1) (instH hp_56 x.2) k = p_56 N x (fun y => k (Pat.inst (.sl 0) y.1) (instH [some (.lst (.int .u8), 5)] y.2)) := (grun_56 (l_56_6 N N) (l_56_3 N N) x k).trans (by kernel_rfl)
theorem good_56 {R : Type} (N : Nat) : GD (X := R) Try.prog QQ 56 ap_56 hp_56 (fun (x : aden ap_56 × hden hp_56) k => p_56 N x (fun y => k (Pat.inst (.sl 0) y.1) (instH [some (.lst (.int .u8), 5)] y.2))) :=
  gd_loud (E := E_56 N) (p := fun (x : aden ap_56 × hden hp_56) k => p_56 N x (fun y => k (Pat.inst (.sl 0) y.1) (instH [some (.lst (.int .u8), 5)] y.2))) mixed tyok (eok_56 N) Try.func56 (by kernel_rfl) (by kernel_rfl) (by kernel_rfl) (lok_56 N) (fun x k => run_56 N x k)

def ap_25_v1 : List Pat := [.ptr 0 []]
def hp_25_v1 : List (Option (Pat × Nat)) := [some (.node (.fcons (.nilp) (.fcons (.vec (.int .u64) 8) (.fcons (.int .i64) (.fcons (.int .u64) (.fnil))))), 115)]
def p_25_v1 {R : Type} (N : Nat) (x : (Unit × Unit) × ((Unit × ((Nat → Int) × (Int × (Int × Unit)))) × Unit)) (κ0 : (ByteArray × ((Unit × ((Nat → Int) × (Int × (Int × Unit)))) × Unit)) → Option R) : Option R :=
let a1084 : (Nat → Int) := x.2.1.2.1
let i1085 : Int := x.2.1.2.2.1
let i1086 : Int := x.2.1.2.2.2.1
p_55 N (((), ()), ()) (fun y1087 =>
let i1088 : Int := IntKind.wrap .u64 0
let i1089 : Int := addA .u64 i1086 i1088
let i1090 : Int := subA .i64 128 0
bif decide (0 ≤ i1090) then (
bif decide (i1090 ≤ 140737488355328) then (
bif decide (List.length (List.replicate ((Int.toNat i1090)) (Sch.zero (.int .u8))) * 1 ≤ 140737488355328) then (
let l1091 : (List Int) := List.replicate ((Int.toNat i1090)) (Sch.zero (.int .u8))
p_12 N ((a1084, l1091, i1089, true, ()), ()) (fun y1092 =>
let a1093 : (Nat → Int) := y1092.1
let i1094 : Int := y1092.2.1
p_56 N ((((List.range 8).map fun j => a1093 (0 + j)), ()), ()) (fun y1125 =>
let l1126 : (List Int) := y1125.2.1
bif decide (0 ≤ i1085) then (
bif decide (i1085 ≤ (((List.length l1126) : Nat) : Int)) then (
bif decide (0 ≤ i1085) then (
let l1127 : (List Int) := List.take ((Int.toNat i1085) - 0) (List.drop 0 l1126)
let s1128 : ByteArray := listStr l1127
κ0 (s1128, (((), (a1084, (i1085, (i1086, ())))), ()))) else none) else none) else none))) else none) else none) else none)

abbrev Tp_25_v1 (R : Type) : Type := (Unit × Unit) × ((Unit × ((Nat → Int) × (Int × (Int × Unit)))) × Unit) → ((ByteArray × ((Unit × ((Nat → Int) × (Int × (Int × Unit)))) × Unit)) → Option R) → Option R
def Q_25_v1 {R : Type} (q_55 : Tp_55 R) (q_12 : Tp_12 R) (q_56 : Tp_56 R) (x : (Unit × Unit) × ((Unit × ((Nat → Int) × (Int × (Int × Unit)))) × Unit)) (κ0 : (ByteArray × ((Unit × ((Nat → Int) × (Int × (Int × Unit)))) × Unit)) → Option R) : Option R :=
let a1084 : (Nat → Int) := x.2.1.2.1
let i1085 : Int := x.2.1.2.2.1
let i1086 : Int := x.2.1.2.2.2.1
q_55 (((), ()), ()) (fun y1087 =>
let i1088 : Int := IntKind.wrap .u64 0
let i1089 : Int := addA .u64 i1086 i1088
let i1090 : Int := subA .i64 128 0
bif decide (0 ≤ i1090) then (
bif decide (i1090 ≤ 140737488355328) then (
bif decide (List.length (List.replicate ((Int.toNat i1090)) (Sch.zero (.int .u8))) * 1 ≤ 140737488355328) then (
let l1091 : (List Int) := List.replicate ((Int.toNat i1090)) (Sch.zero (.int .u8))
q_12 ((a1084, l1091, i1089, true, ()), ()) (fun y1092 =>
let a1093 : (Nat → Int) := y1092.1
let i1094 : Int := y1092.2.1
q_56 ((((List.range 8).map fun j => a1093 (0 + j)), ()), ()) (fun y1125 =>
let l1126 : (List Int) := y1125.2.1
bif decide (0 ≤ i1085) then (
bif decide (i1085 ≤ (((List.length l1126) : Nat) : Int)) then (
bif decide (0 ≤ i1085) then (
let l1127 : (List Int) := List.take ((Int.toNat i1085) - 0) (List.drop 0 l1126)
let s1128 : ByteArray := listStr l1127
κ0 (s1128, (((), (a1084, (i1085, (i1086, ())))), ()))) else none) else none) else none))) else none) else none) else none)
def EG_25_v1 {R : Type} (q_55 : Tp_55 R) (q_12 : Tp_12 R) (q_56 : Tp_56 R) : Env R := (((Env.base QQ LN).add 55 ap_55 hp_55 (fun (x : aden ap_55 × hden hp_55) k => q_55 x (fun y => k (Pat.inst (.nils) y.1) (instH [] y.2)))).add 12 ap_12 hp_12 (fun (x : aden ap_12 × hden hp_12) k => q_12 x (fun y => k (Pat.inst (.tup (.fcons (.vec (.int .u64) 8) (.fcons (.int .i64) (.fnil)))) y) (instH hp_12 x.2)))).add 56 ap_56 hp_56 (fun (x : aden ap_56 × hden hp_56) k => q_56 x (fun y => k (Pat.inst (.sl 0) y.1) (instH [some (.lst (.int .u8), 5)] y.2)))
def LG_25_v1 {R : Type} : Loops R := Loops.none
def E_25_v1 {R : Type} (N : Nat) : Env R := EG_25_v1 (p_55 N) (p_12 N) (p_56 N)
theorem eok_25_v1 {R : Type} (N : Nat) : EK Try.prog (E_25_v1 (R := R) N) := ek_add (ek_add (ek_add (ek_base _ _) (good_55 N)) (good_12 N)) (good_56 N)
def L_25_v1 {R : Type} (N : Nat) : Loops R := LG_25_v1
theorem lok_25_v1 {R : Type} (N : Nat) : LOK 1 TT (E_25_v1 (R := R) N) (drawAny TT WW) (L_25_v1 N) (bodyOf Try.f25) := loops_nil (by kernel_rfl)
theorem grun_25_v1 {R : Type} (q_55 : Tp_55 R) (q_12 : Tp_12 R) (q_56 : Tp_56 R) (x : aden ap_25_v1 × hden hp_25_v1) (k : KF R) : fnrun TT (EG_25_v1 q_55 q_12 q_56) (drawAny TT WW) (LG_25_v1) true Try.f25 (instA ap_25_v1 x.1) (instH hp_25_v1 x.2) k = Q_25_v1 q_55 q_12 q_56 x (fun y => k (Pat.inst (.str) y.1) (instH [some (.node (.fcons (.nilp) (.fcons (.vec (.int .u64) 8) (.fcons (.int .i64) (.fcons (.int .u64) (.fnil))))), 115)] y.2)) := by kernel_rfl
theorem run_25_v1 {R : Type} (N : Nat) (x : aden ap_25_v1 × hden hp_25_v1) (k : KF R) : fnrun TT (E_25_v1 (R := R) N) (drawAny TT WW) (L_25_v1 N) true Try.f25 (instA ap_25_v1 x.1) (instH hp_25_v1 x.2) k = p_25_v1 N x (fun y => k (Pat.inst (.str) y.1) (instH [some (.node (.fcons (.nilp) (.fcons (.vec (.int .u64) 8) (.fcons (.int .i64) (.fcons (.int .u64) (.fnil))))), 115)] y.2)) := (grun_25_v1 (p_55 N) (p_12 N) (p_56 N) x k).trans (by kernel_rfl)
theorem good_25_v1 {R : Type} (N : Nat) : GD (X := R) Try.prog QQ 25 ap_25_v1 hp_25_v1 (fun (x : aden ap_25_v1 × hden hp_25_v1) k => p_25_v1 N x (fun y => k (Pat.inst (.str) y.1) (instH [some (.node (.fcons (.nilp) (.fcons (.vec (.int .u64) 8) (.fcons (.int .i64) (.fcons (.int .u64) (.fnil))))), 115)] y.2))) :=
  gd_loud (E := E_25_v1 N) (p := fun (x : aden ap_25_v1 × hden hp_25_v1) k => p_25_v1 N x (fun y => k (Pat.inst (.str) y.1) (instH [some (.node (.fcons (.nilp) (.fcons (.vec (.int .u64) 8) (.fcons (.int .i64) (.fcons (.int .u64) (.fnil))))), 115)] y.2))) mixed tyok (eok_25_v1 N) Try.func25 (by kernel_rfl) (by kernel_rfl) (by kernel_rfl) (lok_25_v1 N) (fun x k => run_25_v1 N x k)

def ap_55_v1 : List Pat := [.ptr 0 []]
def hp_55_v1 : List (Option (Pat × Nat)) := [some (.node (.fcons (.int .i64) (.fcons (.bool) (.fcons (.sl 1) (.fcons (.int .i64) (.fnil))))), 151), some (.lst (.int .u8), 5)]
def p_55_v1 {R : Type} (N : Nat) (x : (Unit × Unit) × ((Int × (Bool × (Unit × (Int × Unit)))) × (List Int) × Unit)) (κ0 : (Unit × ((Int × (Bool × (Unit × (Int × Unit)))) × (List Int) × (List Int) × Unit)) → Option R) : Option R :=
let i1159 : Int := x.2.1.1
let b1160 : Bool := x.2.1.2.1
let i1161 : Int := x.2.1.2.2.2.1
let l1162 : (List Int) := x.2.2.1
bif decide (List.length l1162 * 1 ≤ 140737488355328) then (
κ0 ((), ((i1159, (b1160, ((), (i1161, ())))), l1162, l1162, ()))) else none

abbrev Tp_55_v1 (R : Type) : Type := (Unit × Unit) × ((Int × (Bool × (Unit × (Int × Unit)))) × (List Int) × Unit) → ((Unit × ((Int × (Bool × (Unit × (Int × Unit)))) × (List Int) × (List Int) × Unit)) → Option R) → Option R
def Q_55_v1 {R : Type} (x : (Unit × Unit) × ((Int × (Bool × (Unit × (Int × Unit)))) × (List Int) × Unit)) (κ0 : (Unit × ((Int × (Bool × (Unit × (Int × Unit)))) × (List Int) × (List Int) × Unit)) → Option R) : Option R :=
let i1159 : Int := x.2.1.1
let b1160 : Bool := x.2.1.2.1
let i1161 : Int := x.2.1.2.2.2.1
let l1162 : (List Int) := x.2.2.1
bif decide (List.length l1162 * 1 ≤ 140737488355328) then (
κ0 ((), ((i1159, (b1160, ((), (i1161, ())))), l1162, l1162, ()))) else none
def EG_55_v1 {R : Type} : Env R := Env.base QQ LN
def LG_55_v1 {R : Type} : Loops R := Loops.none
def E_55_v1 {R : Type} (N : Nat) : Env R := EG_55_v1
theorem eok_55_v1 {R : Type} (N : Nat) : EK Try.prog (E_55_v1 (R := R) N) := ek_base _ _
def L_55_v1 {R : Type} (N : Nat) : Loops R := LG_55_v1
theorem lok_55_v1 {R : Type} (N : Nat) : LOK 2 TT (E_55_v1 (R := R) N) (drawAny TT WW) (L_55_v1 N) (bodyOf Try.f55) := loops_nil (by kernel_rfl)
theorem grun_55_v1 {R : Type} (x : aden ap_55_v1 × hden hp_55_v1) (k : KF R) : fnrun TT (EG_55_v1) (drawAny TT WW) (LG_55_v1) false Try.f55 (instA ap_55_v1 x.1) (instH hp_55_v1 x.2) k = Q_55_v1 x (fun y => k (Pat.inst (.sl 2) y.1) (instH [some (.node (.fcons (.int .i64) (.fcons (.bool) (.fcons (.sl 1) (.fcons (.int .i64) (.fnil))))), 151), some (.lst (.int .u8), 5), some (.lst (.int .u8), 5)] y.2)) := by kernel_rfl
theorem run_55_v1 {R : Type} (N : Nat) (x : aden ap_55_v1 × hden hp_55_v1) (k : KF R) : fnrun TT (E_55_v1 (R := R) N) (drawAny TT WW) (L_55_v1 N) false Try.f55 (instA ap_55_v1 x.1) (instH hp_55_v1 x.2) k = p_55_v1 N x (fun y => k (Pat.inst (.sl 2) y.1) (instH [some (.node (.fcons (.int .i64) (.fcons (.bool) (.fcons (.sl 1) (.fcons (.int .i64) (.fnil))))), 151), some (.lst (.int .u8), 5), some (.lst (.int .u8), 5)] y.2)) := (grun_55_v1 x k).trans (by kernel_rfl)
theorem good_55_v1 {R : Type} (N : Nat) : GD (X := R) Try.prog QQ 55 ap_55_v1 hp_55_v1 (fun (x : aden ap_55_v1 × hden hp_55_v1) k => p_55_v1 N x (fun y => k (Pat.inst (.sl 2) y.1) (instH [some (.node (.fcons (.int .i64) (.fcons (.bool) (.fcons (.sl 1) (.fcons (.int .i64) (.fnil))))), 151), some (.lst (.int .u8), 5), some (.lst (.int .u8), 5)] y.2))) :=
  gd_loud (E := E_55_v1 N) (p := fun (x : aden ap_55_v1 × hden hp_55_v1) k => p_55_v1 N x (fun y => k (Pat.inst (.sl 2) y.1) (instH [some (.node (.fcons (.int .i64) (.fcons (.bool) (.fcons (.sl 1) (.fcons (.int .i64) (.fnil))))), 151), some (.lst (.int .u8), 5), some (.lst (.int .u8), 5)] y.2))) mixed tyok (eok_55_v1 N) Try.func55 (by kernel_rfl) (by kernel_rfl) (by kernel_rfl) (lok_55_v1 N) (fun x k => run_55_v1 N x k)

def ap_25_v2 : List Pat := [.ptr 0 []]
def hp_25_v2 : List (Option (Pat × Nat)) := [some (.node (.fcons (.ptr 1 []) (.fcons (.vec (.int .u64) 8) (.fcons (.int .i64) (.fcons (.int .u64) (.fnil))))), 115), some (.node (.fcons (.int .i64) (.fcons (.bool) (.fcons (.sl 2) (.fcons (.int .i64) (.fnil))))), 151), some (.lst (.int .u8), 5)]
def p_25_v2 {R : Type} (N : Nat) (x : (Unit × Unit) × ((Unit × ((Nat → Int) × (Int × (Int × Unit)))) × (Int × (Bool × (Unit × (Int × Unit)))) × (List Int) × Unit)) (κ0 : (ByteArray × ((Unit × ((Nat → Int) × (Int × (Int × Unit)))) × (Int × (Bool × (Unit × (Int × Unit)))) × (List Int) × Unit)) → Option R) : Option R :=
let a1152 : (Nat → Int) := x.2.1.2.1
let i1153 : Int := x.2.1.2.2.1
let i1154 : Int := x.2.1.2.2.2.1
let i1155 : Int := x.2.2.1.1
let b1156 : Bool := x.2.2.1.2.1
let i1157 : Int := x.2.2.1.2.2.2.1
let l1158 : (List Int) := x.2.2.2.1
p_55_v1 N (((), ()), ((i1155, (b1156, ((), (i1157, ())))), l1158, ())) (fun y1163 =>
let i1164 : Int := y1163.2.1.1
let b1165 : Bool := y1163.2.1.2.1
let i1166 : Int := y1163.2.1.2.2.2.1
let l1167 : (List Int) := y1163.2.2.1
let l1168 : (List Int) := y1163.2.2.2.1
let i1169 : Int := (((List.length l1168) : Nat) : Int)
let i1170 : Int := IntKind.wrap .u64 i1169
let i1171 : Int := addA .u64 i1154 i1170
let i1172 : Int := (((List.length l1168) : Nat) : Int)
let i1173 : Int := subA .i64 128 i1172
bif decide (0 ≤ i1173) then (
bif decide (i1173 ≤ 140737488355328) then (
bif (decide ((List.length l1168 + List.length (List.replicate ((Int.toNat i1173)) (Sch.zero (.int .u8)))) * 1 ≤ 140737488355328) && true) then (
let l1174 : (List Int) := (l1168 ++ List.replicate ((Int.toNat i1173)) (Sch.zero (.int .u8)))
p_12 N ((a1152, l1174, i1171, true, ()), ()) (fun y1175 =>
let a1176 : (Nat → Int) := y1175.1
let i1177 : Int := y1175.2.1
p_56 N ((((List.range 8).map fun j => a1176 (0 + j)), ()), ()) (fun y1178 =>
let l1179 : (List Int) := y1178.2.1
bif decide (0 ≤ i1153) then (
bif decide (i1153 ≤ (((List.length l1179) : Nat) : Int)) then (
bif decide (0 ≤ i1153) then (
let l1180 : (List Int) := List.take ((Int.toNat i1153) - 0) (List.drop 0 l1179)
let s1181 : ByteArray := listStr l1180
κ0 (s1181, (((), (a1152, (i1153, (i1154, ())))), (i1164, (b1165, ((), (i1166, ())))), l1167, ()))) else none) else none) else none))) else none) else none) else none)

abbrev Tp_25_v2 (R : Type) : Type := (Unit × Unit) × ((Unit × ((Nat → Int) × (Int × (Int × Unit)))) × (Int × (Bool × (Unit × (Int × Unit)))) × (List Int) × Unit) → ((ByteArray × ((Unit × ((Nat → Int) × (Int × (Int × Unit)))) × (Int × (Bool × (Unit × (Int × Unit)))) × (List Int) × Unit)) → Option R) → Option R
def Q_25_v2 {R : Type} (q_55_v1 : Tp_55_v1 R) (q_12 : Tp_12 R) (q_56 : Tp_56 R) (x : (Unit × Unit) × ((Unit × ((Nat → Int) × (Int × (Int × Unit)))) × (Int × (Bool × (Unit × (Int × Unit)))) × (List Int) × Unit)) (κ0 : (ByteArray × ((Unit × ((Nat → Int) × (Int × (Int × Unit)))) × (Int × (Bool × (Unit × (Int × Unit)))) × (List Int) × Unit)) → Option R) : Option R :=
let a1152 : (Nat → Int) := x.2.1.2.1
let i1153 : Int := x.2.1.2.2.1
let i1154 : Int := x.2.1.2.2.2.1
let i1155 : Int := x.2.2.1.1
let b1156 : Bool := x.2.2.1.2.1
let i1157 : Int := x.2.2.1.2.2.2.1
let l1158 : (List Int) := x.2.2.2.1
q_55_v1 (((), ()), ((i1155, (b1156, ((), (i1157, ())))), l1158, ())) (fun y1163 =>
let i1164 : Int := y1163.2.1.1
let b1165 : Bool := y1163.2.1.2.1
let i1166 : Int := y1163.2.1.2.2.2.1
let l1167 : (List Int) := y1163.2.2.1
let l1168 : (List Int) := y1163.2.2.2.1
let i1169 : Int := (((List.length l1168) : Nat) : Int)
let i1170 : Int := IntKind.wrap .u64 i1169
let i1171 : Int := addA .u64 i1154 i1170
let i1172 : Int := (((List.length l1168) : Nat) : Int)
let i1173 : Int := subA .i64 128 i1172
bif decide (0 ≤ i1173) then (
bif decide (i1173 ≤ 140737488355328) then (
bif (decide ((List.length l1168 + List.length (List.replicate ((Int.toNat i1173)) (Sch.zero (.int .u8)))) * 1 ≤ 140737488355328) && true) then (
let l1174 : (List Int) := (l1168 ++ List.replicate ((Int.toNat i1173)) (Sch.zero (.int .u8)))
q_12 ((a1152, l1174, i1171, true, ()), ()) (fun y1175 =>
let a1176 : (Nat → Int) := y1175.1
let i1177 : Int := y1175.2.1
q_56 ((((List.range 8).map fun j => a1176 (0 + j)), ()), ()) (fun y1178 =>
let l1179 : (List Int) := y1178.2.1
bif decide (0 ≤ i1153) then (
bif decide (i1153 ≤ (((List.length l1179) : Nat) : Int)) then (
bif decide (0 ≤ i1153) then (
let l1180 : (List Int) := List.take ((Int.toNat i1153) - 0) (List.drop 0 l1179)
let s1181 : ByteArray := listStr l1180
κ0 (s1181, (((), (a1152, (i1153, (i1154, ())))), (i1164, (b1165, ((), (i1166, ())))), l1167, ()))) else none) else none) else none))) else none) else none) else none)
def EG_25_v2 {R : Type} (q_55_v1 : Tp_55_v1 R) (q_12 : Tp_12 R) (q_56 : Tp_56 R) : Env R := (((Env.base QQ LN).add 55 ap_55_v1 hp_55_v1 (fun (x : aden ap_55_v1 × hden hp_55_v1) k => q_55_v1 x (fun y => k (Pat.inst (.sl 2) y.1) (instH [some (.node (.fcons (.int .i64) (.fcons (.bool) (.fcons (.sl 1) (.fcons (.int .i64) (.fnil))))), 151), some (.lst (.int .u8), 5), some (.lst (.int .u8), 5)] y.2)))).add 12 ap_12 hp_12 (fun (x : aden ap_12 × hden hp_12) k => q_12 x (fun y => k (Pat.inst (.tup (.fcons (.vec (.int .u64) 8) (.fcons (.int .i64) (.fnil)))) y) (instH hp_12 x.2)))).add 56 ap_56 hp_56 (fun (x : aden ap_56 × hden hp_56) k => q_56 x (fun y => k (Pat.inst (.sl 0) y.1) (instH [some (.lst (.int .u8), 5)] y.2)))
def LG_25_v2 {R : Type} : Loops R := Loops.none
def E_25_v2 {R : Type} (N : Nat) : Env R := EG_25_v2 (p_55_v1 N) (p_12 N) (p_56 N)
theorem eok_25_v2 {R : Type} (N : Nat) : EK Try.prog (E_25_v2 (R := R) N) := ek_add (ek_add (ek_add (ek_base _ _) (good_55_v1 N)) (good_12 N)) (good_56 N)
def L_25_v2 {R : Type} (N : Nat) : Loops R := LG_25_v2
theorem lok_25_v2 {R : Type} (N : Nat) : LOK 3 TT (E_25_v2 (R := R) N) (drawAny TT WW) (L_25_v2 N) (bodyOf Try.f25) := loops_nil (by kernel_rfl)
theorem grun_25_v2 {R : Type} (q_55_v1 : Tp_55_v1 R) (q_12 : Tp_12 R) (q_56 : Tp_56 R) (x : aden ap_25_v2 × hden hp_25_v2) (k : KF R) : fnrun TT (EG_25_v2 q_55_v1 q_12 q_56) (drawAny TT WW) (LG_25_v2) true Try.f25 (instA ap_25_v2 x.1) (instH hp_25_v2 x.2) k = Q_25_v2 q_55_v1 q_12 q_56 x (fun y => k (Pat.inst (.str) y.1) (instH [some (.node (.fcons (.ptr 1 []) (.fcons (.vec (.int .u64) 8) (.fcons (.int .i64) (.fcons (.int .u64) (.fnil))))), 115), some (.node (.fcons (.int .i64) (.fcons (.bool) (.fcons (.sl 2) (.fcons (.int .i64) (.fnil))))), 151), some (.lst (.int .u8), 5)] y.2)) := by kernel_rfl
theorem run_25_v2 {R : Type} (N : Nat) (x : aden ap_25_v2 × hden hp_25_v2) (k : KF R) : fnrun TT (E_25_v2 (R := R) N) (drawAny TT WW) (L_25_v2 N) true Try.f25 (instA ap_25_v2 x.1) (instH hp_25_v2 x.2) k = p_25_v2 N x (fun y => k (Pat.inst (.str) y.1) (instH [some (.node (.fcons (.ptr 1 []) (.fcons (.vec (.int .u64) 8) (.fcons (.int .i64) (.fcons (.int .u64) (.fnil))))), 115), some (.node (.fcons (.int .i64) (.fcons (.bool) (.fcons (.sl 2) (.fcons (.int .i64) (.fnil))))), 151), some (.lst (.int .u8), 5)] y.2)) := (grun_25_v2 (p_55_v1 N) (p_12 N) (p_56 N) x k).trans (by kernel_rfl)
theorem good_25_v2 {R : Type} (N : Nat) : GD (X := R) Try.prog QQ 25 ap_25_v2 hp_25_v2 (fun (x : aden ap_25_v2 × hden hp_25_v2) k => p_25_v2 N x (fun y => k (Pat.inst (.str) y.1) (instH [some (.node (.fcons (.ptr 1 []) (.fcons (.vec (.int .u64) 8) (.fcons (.int .i64) (.fcons (.int .u64) (.fnil))))), 115), some (.node (.fcons (.int .i64) (.fcons (.bool) (.fcons (.sl 2) (.fcons (.int .i64) (.fnil))))), 151), some (.lst (.int .u8), 5)] y.2))) :=
  gd_loud (E := E_25_v2 N) (p := fun (x : aden ap_25_v2 × hden hp_25_v2) k => p_25_v2 N x (fun y => k (Pat.inst (.str) y.1) (instH [some (.node (.fcons (.ptr 1 []) (.fcons (.vec (.int .u64) 8) (.fcons (.int .i64) (.fcons (.int .u64) (.fnil))))), 115), some (.node (.fcons (.int .i64) (.fcons (.bool) (.fcons (.sl 2) (.fcons (.int .i64) (.fnil))))), 151), some (.lst (.int .u8), 5)] y.2))) mixed tyok (eok_25_v2 N) Try.func25 (by kernel_rfl) (by kernel_rfl) (by kernel_rfl) (lok_25_v2 N) (fun x k => run_25_v2 N x k)

def ap_22 : List Pat := [.int .i64, .str, .sl 0]
def hp_22 : List (Option (Pat × Nat)) := [some (.lst (.str), 9)]
def p_22 {R : Type} (N : Nat) (x : (Int × ByteArray × Unit × Unit) × ((List ByteArray) × Unit)) (κ0 : ((ByteArray × (Int × Unit)) × ((List ByteArray) × Unit)) → Option R) : Option R :=
let i1065 : Int := x.1.1
let s1066 : ByteArray := x.1.2.1
let l1067 : (List ByteArray) := x.2.1
p_27 N ((i1065, s1066, ()), ()) (fun y1068 =>
let i1069 : Int := y1068.1.2.1
bif (i1069 != 0) then (
κ0 ((⟨#[]⟩, (i1069, ())), (l1067, ()))) else (
p_26_v2 N (((), (), ()), (l1067, ())) (fun y1070 =>
let l1071 : (List ByteArray) := y1070.2.1
p_25 N (((), ()), ()) (fun y1072 =>
let s1073 : ByteArray := y1072.1
κ0 ((s1073, (0, ())), (l1071, ())))))) (fun y1074 =>
let i1075 : Int := y1074.1.2.1
let a1076 : (Nat → Int) := y1074.2.1.2.1
let i1077 : Int := y1074.2.1.2.2.1
let i1078 : Int := y1074.2.1.2.2.2.1
bif (i1075 != 0) then (
κ0 ((⟨#[]⟩, (i1075, ())), (l1067, ()))) else (
p_26 N (((), (), ()), (((), (a1076, (i1077, (i1078, ())))), l1067, ())) (fun y1079 =>
let a1080 : (Nat → Int) := y1079.2.1.2.1
let i1081 : Int := y1079.2.1.2.2.1
let i1082 : Int := y1079.2.1.2.2.2.1
let l1083 : (List ByteArray) := y1079.2.2.1
p_25_v1 N (((), ()), (((), (a1080, (i1081, (i1082, ())))), ())) (fun y1129 =>
let s1130 : ByteArray := y1129.1
let a1131 : (Nat → Int) := y1129.2.1.2.1
let i1132 : Int := y1129.2.1.2.2.1
let i1133 : Int := y1129.2.1.2.2.2.1
κ0 ((s1130, (0, ())), (l1083, ())))))) (fun y1134 =>
let i1135 : Int := y1134.1.2.1
let a1136 : (Nat → Int) := y1134.2.1.2.1
let i1137 : Int := y1134.2.1.2.2.1
let i1138 : Int := y1134.2.1.2.2.2.1
let i1139 : Int := y1134.2.2.1.1
let b1140 : Bool := y1134.2.2.1.2.1
let i1141 : Int := y1134.2.2.1.2.2.2.1
let l1142 : (List Int) := y1134.2.2.2.1
bif (i1135 != 0) then (
κ0 ((⟨#[]⟩, (i1135, ())), (l1067, ()))) else (
p_26_v1 N (((), (), ()), (((), (a1136, (i1137, (i1138, ())))), (i1139, (b1140, ((), (i1141, ())))), l1142, l1067, ())) (fun y1143 =>
let a1144 : (Nat → Int) := y1143.2.1.2.1
let i1145 : Int := y1143.2.1.2.2.1
let i1146 : Int := y1143.2.1.2.2.2.1
let i1147 : Int := y1143.2.2.1.1
let b1148 : Bool := y1143.2.2.1.2.1
let i1149 : Int := y1143.2.2.1.2.2.2.1
let l1150 : (List ByteArray) := y1143.2.2.2.1
let l1151 : (List Int) := y1143.2.2.2.2.1
p_25_v2 N (((), ()), (((), (a1144, (i1145, (i1146, ())))), (i1147, (b1148, ((), (i1149, ())))), l1151, ())) (fun y1182 =>
let s1183 : ByteArray := y1182.1
let a1184 : (Nat → Int) := y1182.2.1.2.1
let i1185 : Int := y1182.2.1.2.2.1
let i1186 : Int := y1182.2.1.2.2.2.1
let i1187 : Int := y1182.2.2.1.1
let b1188 : Bool := y1182.2.2.1.2.1
let i1189 : Int := y1182.2.2.1.2.2.2.1
let l1190 : (List Int) := y1182.2.2.2.1
κ0 ((s1183, (0, ())), (l1150, ()))))))

abbrev Tp_22 (R : Type) : Type := (Int × ByteArray × Unit × Unit) × ((List ByteArray) × Unit) → (((ByteArray × (Int × Unit)) × ((List ByteArray) × Unit)) → Option R) → Option R
def Q_22 {R : Type} (q_27 : Tp_27 R) (q_26_v2 : Tp_26_v2 R) (q_25 : Tp_25 R) (q_26 : Tp_26 R) (q_25_v1 : Tp_25_v1 R) (q_26_v1 : Tp_26_v1 R) (q_25_v2 : Tp_25_v2 R) (x : (Int × ByteArray × Unit × Unit) × ((List ByteArray) × Unit)) (κ0 : ((ByteArray × (Int × Unit)) × ((List ByteArray) × Unit)) → Option R) : Option R :=
let i1065 : Int := x.1.1
let s1066 : ByteArray := x.1.2.1
let l1067 : (List ByteArray) := x.2.1
q_27 ((i1065, s1066, ()), ()) (fun y1068 =>
let i1069 : Int := y1068.1.2.1
bif (i1069 != 0) then (
κ0 ((⟨#[]⟩, (i1069, ())), (l1067, ()))) else (
q_26_v2 (((), (), ()), (l1067, ())) (fun y1070 =>
let l1071 : (List ByteArray) := y1070.2.1
q_25 (((), ()), ()) (fun y1072 =>
let s1073 : ByteArray := y1072.1
κ0 ((s1073, (0, ())), (l1071, ())))))) (fun y1074 =>
let i1075 : Int := y1074.1.2.1
let a1076 : (Nat → Int) := y1074.2.1.2.1
let i1077 : Int := y1074.2.1.2.2.1
let i1078 : Int := y1074.2.1.2.2.2.1
bif (i1075 != 0) then (
κ0 ((⟨#[]⟩, (i1075, ())), (l1067, ()))) else (
q_26 (((), (), ()), (((), (a1076, (i1077, (i1078, ())))), l1067, ())) (fun y1079 =>
let a1080 : (Nat → Int) := y1079.2.1.2.1
let i1081 : Int := y1079.2.1.2.2.1
let i1082 : Int := y1079.2.1.2.2.2.1
let l1083 : (List ByteArray) := y1079.2.2.1
q_25_v1 (((), ()), (((), (a1080, (i1081, (i1082, ())))), ())) (fun y1129 =>
let s1130 : ByteArray := y1129.1
let a1131 : (Nat → Int) := y1129.2.1.2.1
let i1132 : Int := y1129.2.1.2.2.1
let i1133 : Int := y1129.2.1.2.2.2.1
κ0 ((s1130, (0, ())), (l1083, ())))))) (fun y1134 =>
let i1135 : Int := y1134.1.2.1
let a1136 : (Nat → Int) := y1134.2.1.2.1
let i1137 : Int := y1134.2.1.2.2.1
let i1138 : Int := y1134.2.1.2.2.2.1
let i1139 : Int := y1134.2.2.1.1
let b1140 : Bool := y1134.2.2.1.2.1
let i1141 : Int := y1134.2.2.1.2.2.2.1
let l1142 : (List Int) := y1134.2.2.2.1
bif (i1135 != 0) then (
κ0 ((⟨#[]⟩, (i1135, ())), (l1067, ()))) else (
q_26_v1 (((), (), ()), (((), (a1136, (i1137, (i1138, ())))), (i1139, (b1140, ((), (i1141, ())))), l1142, l1067, ())) (fun y1143 =>
let a1144 : (Nat → Int) := y1143.2.1.2.1
let i1145 : Int := y1143.2.1.2.2.1
let i1146 : Int := y1143.2.1.2.2.2.1
let i1147 : Int := y1143.2.2.1.1
let b1148 : Bool := y1143.2.2.1.2.1
let i1149 : Int := y1143.2.2.1.2.2.2.1
let l1150 : (List ByteArray) := y1143.2.2.2.1
let l1151 : (List Int) := y1143.2.2.2.2.1
q_25_v2 (((), ()), (((), (a1144, (i1145, (i1146, ())))), (i1147, (b1148, ((), (i1149, ())))), l1151, ())) (fun y1182 =>
let s1183 : ByteArray := y1182.1
let a1184 : (Nat → Int) := y1182.2.1.2.1
let i1185 : Int := y1182.2.1.2.2.1
let i1186 : Int := y1182.2.1.2.2.2.1
let i1187 : Int := y1182.2.2.1.1
let b1188 : Bool := y1182.2.2.1.2.1
let i1189 : Int := y1182.2.2.1.2.2.2.1
let l1190 : (List Int) := y1182.2.2.2.1
κ0 ((s1183, (0, ())), (l1150, ()))))))
def EG_22 {R : Type} (q_27 : Tp_27 R) (q_26_v2 : Tp_26_v2 R) (q_25 : Tp_25 R) (q_26 : Tp_26 R) (q_25_v1 : Tp_25_v1 R) (q_26_v1 : Tp_26_v1 R) (q_25_v2 : Tp_25_v2 R) : Env R := (((((((Env.base QQ LN).add 27 ap_27 hp_27 (fun (x : aden ap_27 × hden hp_27) k => q_27 x (fun y => k (Pat.inst (.tup (.fcons (.nilp) (.fcons (.int .i64) (.fnil)))) y.1) (instH [] y.2)) (fun y => k (Pat.inst (.tup (.fcons (.ptr 0 []) (.fcons (.int .i64) (.fnil)))) y.1) (instH [some (.node (.fcons (.nilp) (.fcons (.vec (.int .u64) 8) (.fcons (.int .i64) (.fcons (.int .u64) (.fnil))))), 115)] y.2)) (fun y => k (Pat.inst (.tup (.fcons (.ptr 0 []) (.fcons (.int .i64) (.fnil)))) y.1) (instH [some (.node (.fcons (.ptr 1 []) (.fcons (.vec (.int .u64) 8) (.fcons (.int .i64) (.fcons (.int .u64) (.fnil))))), 115), some (.node (.fcons (.int .i64) (.fcons (.bool) (.fcons (.sl 2) (.fcons (.int .i64) (.fnil))))), 151), some (.lst (.int .u8), 5)] y.2)))).add 26 ap_26_v2 hp_26_v2 (fun (x : aden ap_26_v2 × hden hp_26_v2) k => q_26_v2 x (fun y => k (Pat.inst (.nilp) y.1) (instH [some (.lst (.str), 9)] y.2)))).add 25 ap_25 hp_25 (fun (x : aden ap_25 × hden hp_25) k => q_25 x (fun y => k (Pat.inst (.str) y.1) (instH [] y.2)))).add 26 ap_26 hp_26 (fun (x : aden ap_26 × hden hp_26) k => q_26 x (fun y => k (Pat.inst (.ptr 0 []) y.1) (instH [some (.node (.fcons (.nilp) (.fcons (.vec (.int .u64) 8) (.fcons (.int .i64) (.fcons (.int .u64) (.fnil))))), 115), some (.lst (.str), 9)] y.2)))).add 25 ap_25_v1 hp_25_v1 (fun (x : aden ap_25_v1 × hden hp_25_v1) k => q_25_v1 x (fun y => k (Pat.inst (.str) y.1) (instH [some (.node (.fcons (.nilp) (.fcons (.vec (.int .u64) 8) (.fcons (.int .i64) (.fcons (.int .u64) (.fnil))))), 115)] y.2)))).add 26 ap_26_v1 hp_26_v1 (fun (x : aden ap_26_v1 × hden hp_26_v1) k => q_26_v1 x (fun y => k (Pat.inst (.ptr 0 []) y.1) (instH [some (.node (.fcons (.ptr 1 []) (.fcons (.vec (.int .u64) 8) (.fcons (.int .i64) (.fcons (.int .u64) (.fnil))))), 115), some (.node (.fcons (.int .i64) (.fcons (.bool) (.fcons (.sl 4) (.fcons (.int .i64) (.fnil))))), 151), none, some (.lst (.str), 9), some (.lst (.int .u8), 5)] y.2)))).add 25 ap_25_v2 hp_25_v2 (fun (x : aden ap_25_v2 × hden hp_25_v2) k => q_25_v2 x (fun y => k (Pat.inst (.str) y.1) (instH [some (.node (.fcons (.ptr 1 []) (.fcons (.vec (.int .u64) 8) (.fcons (.int .i64) (.fcons (.int .u64) (.fnil))))), 115), some (.node (.fcons (.int .i64) (.fcons (.bool) (.fcons (.sl 2) (.fcons (.int .i64) (.fnil))))), 151), some (.lst (.int .u8), 5)] y.2)))
def LG_22 {R : Type} : Loops R := Loops.none
def E_22 {R : Type} (N : Nat) : Env R := EG_22 (p_27 N) (p_26_v2 N) (p_25 N) (p_26 N) (p_25_v1 N) (p_26_v1 N) (p_25_v2 N)
theorem eok_22 {R : Type} (N : Nat) : EK Try.prog (E_22 (R := R) N) := ek_add (ek_add (ek_add (ek_add (ek_add (ek_add (ek_add (ek_base _ _) (good_27 N)) (good_26_v2 N)) (good_25 N)) (good_26 N)) (good_25_v1 N)) (good_26_v1 N)) (good_25_v2 N)
def L_22 {R : Type} (N : Nat) : Loops R := LG_22
theorem lok_22 {R : Type} (N : Nat) : LOK 1 TT (E_22 (R := R) N) (drawAny TT WW) (L_22 N) (bodyOf Try.f22) := loops_nil (by kernel_rfl)
theorem grun_22 {R : Type} (q_27 : Tp_27 R) (q_26_v2 : Tp_26_v2 R) (q_25 : Tp_25 R) (q_26 : Tp_26 R) (q_25_v1 : Tp_25_v1 R) (q_26_v1 : Tp_26_v1 R) (q_25_v2 : Tp_25_v2 R) (x : aden ap_22 × hden hp_22) (k : KF R) : fnrun TT (EG_22 q_27 q_26_v2 q_25 q_26 q_25_v1 q_26_v1 q_25_v2) (drawAny TT WW) (LG_22) true Try.f22 (instA ap_22 x.1) (instH hp_22 x.2) k = Q_22 q_27 q_26_v2 q_25 q_26 q_25_v1 q_26_v1 q_25_v2 x (fun y => k (Pat.inst (.tup (.fcons (.str) (.fcons (.int .i64) (.fnil)))) y.1) (instH [some (.lst (.str), 9)] y.2)) := by kernel_rfl
theorem run_22 {R : Type} (N : Nat) (x : aden ap_22 × hden hp_22) (k : KF R) : fnrun TT (E_22 (R := R) N) (drawAny TT WW) (L_22 N) true Try.f22 (instA ap_22 x.1) (instH hp_22 x.2) k = p_22 N x (fun y => k (Pat.inst (.tup (.fcons (.str) (.fcons (.int .i64) (.fnil)))) y.1) (instH [some (.lst (.str), 9)] y.2)) := (grun_22 (p_27 N) (p_26_v2 N) (p_25 N) (p_26 N) (p_25_v1 N) (p_26_v1 N) (p_25_v2 N) x k).trans (by kernel_rfl)
theorem good_22 {R : Type} (N : Nat) : GD (X := R) Try.prog QQ 22 ap_22 hp_22 (fun (x : aden ap_22 × hden hp_22) k => p_22 N x (fun y => k (Pat.inst (.tup (.fcons (.str) (.fcons (.int .i64) (.fnil)))) y.1) (instH [some (.lst (.str), 9)] y.2))) :=
  gd_loud (E := E_22 N) (p := fun (x : aden ap_22 × hden hp_22) k => p_22 N x (fun y => k (Pat.inst (.tup (.fcons (.str) (.fcons (.int .i64) (.fnil)))) y.1) (instH [some (.lst (.str), 9)] y.2))) mixed tyok (eok_22 N) Try.func22 (by kernel_rfl) (by kernel_rfl) (by kernel_rfl) (lok_22 N) (fun x k => run_22 N x k)

def lv_29_8 : Live := [(0, none), (8, none), (9, none)]
def pt_29_8 : SPat := ⟨[(0, .int .i64), (8, .str), (9, .sl 1)], [some (.lst (.str), 9), some (.lst (.int .u8), 5)]⟩
def px_29_8_0 : SPat := ⟨[(0, .int .i64), (8, .str), (9, .sl 1)], [some (.lst (.str), 9), some (.lst (.int .u8), 5)]⟩
def lo_29_8 : Exit → Live
  | .exit 0 => [(0, none), (8, none), (9, none)]
  | _ => []
def B_29_8 {R : Type} (N : Nat) (rec : ((Int × ByteArray × Unit × Unit) × ((List ByteArray) × (List Int) × Unit)) → Option R) (x : ((Int × ByteArray × Unit × Unit) × ((List ByteArray) × (List Int) × Unit))) (κ0 : ((Int × ByteArray × Unit × Unit) × ((List ByteArray) × (List Int) × Unit)) → Option R) : Option R :=
let i1312 : Int := x.1.1
let s1313 : ByteArray := x.1.2.1
let l1314 : (List ByteArray) := x.2.1
let l1315 : (List Int) := x.2.2.1
let i1316 : Int := (((List.length l1315) : Nat) : Int)
let i1317 : Int := subA .i64 i1312 i1316
bif (decide (i1317 > 64)) then (
let l1318 : (List ByteArray) := [s1313]
p_22 N ((64, ⟨#[]⟩, (), ()), (l1318, ())) (fun y1319 =>
let s1320 : ByteArray := y1319.1.1
let i1321 : Int := y1319.1.2.1
let l1322 : (List ByteArray) := y1319.2.1
bif decide (32 ≤ ((ByteArray.size s1320 : Nat) : Int)) then (
let s1323 : ByteArray := ByteArray.extract s1320 0 32
bif (decide ((List.length l1315 + List.length (strList s1323)) * 1 ≤ 140737488355328) && true) then (
let l1324 : (List Int) := (l1315 ++ strList s1323)
rec ((i1312, s1320, (), ()), (l1314, l1324, ()))) else none) else none)) else (
κ0 ((i1312, s1313, (), ()), (l1314, l1315, ())))
def l_29_8 {R : Type} (N : Nat) : Nat → ((Int × ByteArray × Unit × Unit) × ((List ByteArray) × (List Int) × Unit)) → (((Int × ByteArray × Unit × Unit) × ((List ByteArray) × (List Int) × Unit)) → Option R) → Option R
  | 0, _, _ => none
  | n + 1, x, κ0 => B_29_8 N (fun y => l_29_8 N n y κ0) x κ0
def ap_29 : List Pat := [.int .i64, .sl 0]
def hp_29 : List (Option (Pat × Nat)) := [some (.lst (.str), 9)]
def p_29 {R : Type} (N : Nat) (x : (Int × Unit × Unit) × ((List ByteArray) × Unit)) (κ0 : ((ByteArray × (Int × Unit)) × ((List ByteArray) × Unit)) → Option R) : Option R :=
let i18 : Int := x.1.1
let l19 : (List ByteArray) := x.2.1
bif (decide (i18 < 1)) then (
κ0 ((⟨#[]⟩, (1, ())), (l19, ()))) else (
bif (decide (i18 > 65536)) then (
κ0 ((⟨#[]⟩, (1, ())), (l19, ()))) else (
let i20 : Int := minA i18 64
p_27 N ((i20, ⟨#[]⟩, ()), ()) (fun y1017 =>
let i1018 : Int := y1017.1.2.1
let i1019 : Int := IntKind.wrap .u32 i18
let l1020 : (List Int) := [i1019]
p_60 N (((), ()), (l1020, ())) (fun y1044 =>
let l1045 : (List Int) := y1044.1
let l1046 : (List Int) := y1044.2.1
let s1047 : ByteArray := listStr l1045
let l1048 : (List ByteArray) := [s1047]
p_26_v2 N (((), (), ()), (l1048, ())) (fun y1050 =>
let l1051 : (List ByteArray) := y1050.2.1
p_26_v2 N (((), (), ()), (l19, ())) (fun y1052 =>
let l1053 : (List ByteArray) := y1052.2.1
p_25 N (((), ()), ()) (fun y1054 =>
let s1055 : ByteArray := y1054.1
bif (decide (i18 ≤ 64)) then (
κ0 ((s1055, (0, ())), (l1053, ()))) else (
bif decide (32 ≤ ((ByteArray.size s1055 : Nat) : Int)) then (
let s1056 : ByteArray := ByteArray.extract s1055 0 32
bif decide (ByteArray.size s1056 ≤ maxI64) then (
let l1057 : (List Int) := strList s1056
l_29_8 N N ((i18, s1055, (), ()), (l1053, l1057, ())) (fun y1197 =>
let i1198 : Int := y1197.1.1
let s1199 : ByteArray := y1197.1.2.1
let l1200 : (List ByteArray) := y1197.2.1
let l1201 : (List Int) := y1197.2.2.1
let i1202 : Int := (((List.length l1201) : Nat) : Int)
let i1203 : Int := subA .i64 i1198 i1202
let l1204 : (List ByteArray) := [s1199]
p_22 N ((i1203, ⟨#[]⟩, (), ()), (l1204, ())) (fun y1205 =>
let s1206 : ByteArray := y1205.1.1
let i1207 : Int := y1205.1.2.1
let l1208 : (List ByteArray) := y1205.2.1
bif (decide ((List.length l1201 + List.length (strList s1206)) * 1 ≤ 140737488355328) && true) then (
let l1209 : (List Int) := (l1201 ++ strList s1206)
let s1210 : ByteArray := listStr l1209
κ0 ((s1210, (0, ())), (l1200, ()))) else none))) else none) else none)))))) (fun y1211 =>
let i1212 : Int := y1211.1.2.1
let a1213 : (Nat → Int) := y1211.2.1.2.1
let i1214 : Int := y1211.2.1.2.2.1
let i1215 : Int := y1211.2.1.2.2.2.1
let i1216 : Int := IntKind.wrap .u32 i18
let l1217 : (List Int) := [i1216]
p_60 N (((), ()), (l1217, ())) (fun y1218 =>
let l1219 : (List Int) := y1218.1
let l1220 : (List Int) := y1218.2.1
let s1221 : ByteArray := listStr l1219
let l1222 : (List ByteArray) := [s1221]
p_26 N (((), (), ()), (((), (a1213, (i1214, (i1215, ())))), l1222, ())) (fun y1223 =>
let a1224 : (Nat → Int) := y1223.2.1.2.1
let i1225 : Int := y1223.2.1.2.2.1
let i1226 : Int := y1223.2.1.2.2.2.1
let l1227 : (List ByteArray) := y1223.2.2.1
p_26 N (((), (), ()), (((), (a1224, (i1225, (i1226, ())))), l19, ())) (fun y1228 =>
let a1229 : (Nat → Int) := y1228.2.1.2.1
let i1230 : Int := y1228.2.1.2.2.1
let i1231 : Int := y1228.2.1.2.2.2.1
let l1232 : (List ByteArray) := y1228.2.2.1
p_25_v1 N (((), ()), (((), (a1229, (i1230, (i1231, ())))), ())) (fun y1233 =>
let s1234 : ByteArray := y1233.1
let a1235 : (Nat → Int) := y1233.2.1.2.1
let i1236 : Int := y1233.2.1.2.2.1
let i1237 : Int := y1233.2.1.2.2.2.1
bif (decide (i18 ≤ 64)) then (
κ0 ((s1234, (0, ())), (l1232, ()))) else (
bif decide (32 ≤ ((ByteArray.size s1234 : Nat) : Int)) then (
let s1238 : ByteArray := ByteArray.extract s1234 0 32
bif decide (ByteArray.size s1238 ≤ maxI64) then (
let l1239 : (List Int) := strList s1238
l_29_8 N N ((i18, s1234, (), ()), (l1232, l1239, ())) (fun y1253 =>
let i1254 : Int := y1253.1.1
let s1255 : ByteArray := y1253.1.2.1
let l1256 : (List ByteArray) := y1253.2.1
let l1257 : (List Int) := y1253.2.2.1
let i1258 : Int := (((List.length l1257) : Nat) : Int)
let i1259 : Int := subA .i64 i1254 i1258
let l1260 : (List ByteArray) := [s1255]
p_22 N ((i1259, ⟨#[]⟩, (), ()), (l1260, ())) (fun y1261 =>
let s1262 : ByteArray := y1261.1.1
let i1263 : Int := y1261.1.2.1
let l1264 : (List ByteArray) := y1261.2.1
bif (decide ((List.length l1257 + List.length (strList s1262)) * 1 ≤ 140737488355328) && true) then (
let l1265 : (List Int) := (l1257 ++ strList s1262)
let s1266 : ByteArray := listStr l1265
κ0 ((s1266, (0, ())), (l1256, ()))) else none))) else none) else none)))))) (fun y1267 =>
let i1268 : Int := y1267.1.2.1
let a1269 : (Nat → Int) := y1267.2.1.2.1
let i1270 : Int := y1267.2.1.2.2.1
let i1271 : Int := y1267.2.1.2.2.2.1
let i1272 : Int := y1267.2.2.1.1
let b1273 : Bool := y1267.2.2.1.2.1
let i1274 : Int := y1267.2.2.1.2.2.2.1
let l1275 : (List Int) := y1267.2.2.2.1
let i1276 : Int := IntKind.wrap .u32 i18
let l1277 : (List Int) := [i1276]
p_60 N (((), ()), (l1277, ())) (fun y1278 =>
let l1279 : (List Int) := y1278.1
let l1280 : (List Int) := y1278.2.1
let s1281 : ByteArray := listStr l1279
let l1282 : (List ByteArray) := [s1281]
p_26_v1 N (((), (), ()), (((), (a1269, (i1270, (i1271, ())))), (i1272, (b1273, ((), (i1274, ())))), l1275, l1282, ())) (fun y1283 =>
let a1284 : (Nat → Int) := y1283.2.1.2.1
let i1285 : Int := y1283.2.1.2.2.1
let i1286 : Int := y1283.2.1.2.2.2.1
let i1287 : Int := y1283.2.2.1.1
let b1288 : Bool := y1283.2.2.1.2.1
let i1289 : Int := y1283.2.2.1.2.2.2.1
let l1290 : (List ByteArray) := y1283.2.2.2.1
let l1291 : (List Int) := y1283.2.2.2.2.1
p_26_v1 N (((), (), ()), (((), (a1284, (i1285, (i1286, ())))), (i1287, (b1288, ((), (i1289, ())))), l1291, l19, ())) (fun y1292 =>
let a1293 : (Nat → Int) := y1292.2.1.2.1
let i1294 : Int := y1292.2.1.2.2.1
let i1295 : Int := y1292.2.1.2.2.2.1
let i1296 : Int := y1292.2.2.1.1
let b1297 : Bool := y1292.2.2.1.2.1
let i1298 : Int := y1292.2.2.1.2.2.2.1
let l1299 : (List ByteArray) := y1292.2.2.2.1
let l1300 : (List Int) := y1292.2.2.2.2.1
p_25_v2 N (((), ()), (((), (a1293, (i1294, (i1295, ())))), (i1296, (b1297, ((), (i1298, ())))), l1300, ())) (fun y1301 =>
let s1302 : ByteArray := y1301.1
let a1303 : (Nat → Int) := y1301.2.1.2.1
let i1304 : Int := y1301.2.1.2.2.1
let i1305 : Int := y1301.2.1.2.2.2.1
let i1306 : Int := y1301.2.2.1.1
let b1307 : Bool := y1301.2.2.1.2.1
let i1308 : Int := y1301.2.2.1.2.2.2.1
let l1309 : (List Int) := y1301.2.2.2.1
bif (decide (i18 ≤ 64)) then (
κ0 ((s1302, (0, ())), (l1299, ()))) else (
bif decide (32 ≤ ((ByteArray.size s1302 : Nat) : Int)) then (
let s1310 : ByteArray := ByteArray.extract s1302 0 32
bif decide (ByteArray.size s1310 ≤ maxI64) then (
let l1311 : (List Int) := strList s1310
l_29_8 N N ((i18, s1302, (), ()), (l1299, l1311, ())) (fun y1325 =>
let i1326 : Int := y1325.1.1
let s1327 : ByteArray := y1325.1.2.1
let l1328 : (List ByteArray) := y1325.2.1
let l1329 : (List Int) := y1325.2.2.1
let i1330 : Int := (((List.length l1329) : Nat) : Int)
let i1331 : Int := subA .i64 i1326 i1330
let l1332 : (List ByteArray) := [s1327]
p_22 N ((i1331, ⟨#[]⟩, (), ()), (l1332, ())) (fun y1333 =>
let s1334 : ByteArray := y1333.1.1
let i1335 : Int := y1333.1.2.1
let l1336 : (List ByteArray) := y1333.2.1
bif (decide ((List.length l1329 + List.length (strList s1334)) * 1 ≤ 140737488355328) && true) then (
let l1337 : (List Int) := (l1329 ++ strList s1334)
let s1338 : ByteArray := listStr l1337
κ0 ((s1338, (0, ())), (l1328, ()))) else none))) else none) else none))))))))

abbrev Tl_29_8 (R : Type) : Type := ((Int × ByteArray × Unit × Unit) × ((List ByteArray) × (List Int) × Unit)) → (((Int × ByteArray × Unit × Unit) × ((List ByteArray) × (List Int) × Unit)) → Option R) → Option R
abbrev Tp_29 (R : Type) : Type := (Int × Unit × Unit) × ((List ByteArray) × Unit) → (((ByteArray × (Int × Unit)) × ((List ByteArray) × Unit)) → Option R) → Option R
def Q_29 {R : Type} (q_27 : Tp_27 R) (q_60 : Tp_60 R) (q_26_v2 : Tp_26_v2 R) (q_25 : Tp_25 R) (q_22 : Tp_22 R) (q_26 : Tp_26 R) (q_25_v1 : Tp_25_v1 R) (q_26_v1 : Tp_26_v1 R) (q_25_v2 : Tp_25_v2 R) (m_29_8 : Tl_29_8 R) (x : (Int × Unit × Unit) × ((List ByteArray) × Unit)) (κ0 : ((ByteArray × (Int × Unit)) × ((List ByteArray) × Unit)) → Option R) : Option R :=
let i18 : Int := x.1.1
let l19 : (List ByteArray) := x.2.1
bif (decide (i18 < 1)) then (
κ0 ((⟨#[]⟩, (1, ())), (l19, ()))) else (
bif (decide (i18 > 65536)) then (
κ0 ((⟨#[]⟩, (1, ())), (l19, ()))) else (
let i20 : Int := minA i18 64
q_27 ((i20, ⟨#[]⟩, ()), ()) (fun y1017 =>
let i1018 : Int := y1017.1.2.1
let i1019 : Int := IntKind.wrap .u32 i18
let l1020 : (List Int) := [i1019]
q_60 (((), ()), (l1020, ())) (fun y1044 =>
let l1045 : (List Int) := y1044.1
let l1046 : (List Int) := y1044.2.1
let s1047 : ByteArray := listStr l1045
let l1048 : (List ByteArray) := [s1047]
q_26_v2 (((), (), ()), (l1048, ())) (fun y1050 =>
let l1051 : (List ByteArray) := y1050.2.1
q_26_v2 (((), (), ()), (l19, ())) (fun y1052 =>
let l1053 : (List ByteArray) := y1052.2.1
q_25 (((), ()), ()) (fun y1054 =>
let s1055 : ByteArray := y1054.1
bif (decide (i18 ≤ 64)) then (
κ0 ((s1055, (0, ())), (l1053, ()))) else (
bif decide (32 ≤ ((ByteArray.size s1055 : Nat) : Int)) then (
let s1056 : ByteArray := ByteArray.extract s1055 0 32
bif decide (ByteArray.size s1056 ≤ maxI64) then (
let l1057 : (List Int) := strList s1056
m_29_8 ((i18, s1055, (), ()), (l1053, l1057, ())) (fun y1197 =>
let i1198 : Int := y1197.1.1
let s1199 : ByteArray := y1197.1.2.1
let l1200 : (List ByteArray) := y1197.2.1
let l1201 : (List Int) := y1197.2.2.1
let i1202 : Int := (((List.length l1201) : Nat) : Int)
let i1203 : Int := subA .i64 i1198 i1202
let l1204 : (List ByteArray) := [s1199]
q_22 ((i1203, ⟨#[]⟩, (), ()), (l1204, ())) (fun y1205 =>
let s1206 : ByteArray := y1205.1.1
let i1207 : Int := y1205.1.2.1
let l1208 : (List ByteArray) := y1205.2.1
bif (decide ((List.length l1201 + List.length (strList s1206)) * 1 ≤ 140737488355328) && true) then (
let l1209 : (List Int) := (l1201 ++ strList s1206)
let s1210 : ByteArray := listStr l1209
κ0 ((s1210, (0, ())), (l1200, ()))) else none))) else none) else none)))))) (fun y1211 =>
let i1212 : Int := y1211.1.2.1
let a1213 : (Nat → Int) := y1211.2.1.2.1
let i1214 : Int := y1211.2.1.2.2.1
let i1215 : Int := y1211.2.1.2.2.2.1
let i1216 : Int := IntKind.wrap .u32 i18
let l1217 : (List Int) := [i1216]
q_60 (((), ()), (l1217, ())) (fun y1218 =>
let l1219 : (List Int) := y1218.1
let l1220 : (List Int) := y1218.2.1
let s1221 : ByteArray := listStr l1219
let l1222 : (List ByteArray) := [s1221]
q_26 (((), (), ()), (((), (a1213, (i1214, (i1215, ())))), l1222, ())) (fun y1223 =>
let a1224 : (Nat → Int) := y1223.2.1.2.1
let i1225 : Int := y1223.2.1.2.2.1
let i1226 : Int := y1223.2.1.2.2.2.1
let l1227 : (List ByteArray) := y1223.2.2.1
q_26 (((), (), ()), (((), (a1224, (i1225, (i1226, ())))), l19, ())) (fun y1228 =>
let a1229 : (Nat → Int) := y1228.2.1.2.1
let i1230 : Int := y1228.2.1.2.2.1
let i1231 : Int := y1228.2.1.2.2.2.1
let l1232 : (List ByteArray) := y1228.2.2.1
q_25_v1 (((), ()), (((), (a1229, (i1230, (i1231, ())))), ())) (fun y1233 =>
let s1234 : ByteArray := y1233.1
let a1235 : (Nat → Int) := y1233.2.1.2.1
let i1236 : Int := y1233.2.1.2.2.1
let i1237 : Int := y1233.2.1.2.2.2.1
bif (decide (i18 ≤ 64)) then (
κ0 ((s1234, (0, ())), (l1232, ()))) else (
bif decide (32 ≤ ((ByteArray.size s1234 : Nat) : Int)) then (
let s1238 : ByteArray := ByteArray.extract s1234 0 32
bif decide (ByteArray.size s1238 ≤ maxI64) then (
let l1239 : (List Int) := strList s1238
m_29_8 ((i18, s1234, (), ()), (l1232, l1239, ())) (fun y1253 =>
let i1254 : Int := y1253.1.1
let s1255 : ByteArray := y1253.1.2.1
let l1256 : (List ByteArray) := y1253.2.1
let l1257 : (List Int) := y1253.2.2.1
let i1258 : Int := (((List.length l1257) : Nat) : Int)
let i1259 : Int := subA .i64 i1254 i1258
let l1260 : (List ByteArray) := [s1255]
q_22 ((i1259, ⟨#[]⟩, (), ()), (l1260, ())) (fun y1261 =>
let s1262 : ByteArray := y1261.1.1
let i1263 : Int := y1261.1.2.1
let l1264 : (List ByteArray) := y1261.2.1
bif (decide ((List.length l1257 + List.length (strList s1262)) * 1 ≤ 140737488355328) && true) then (
let l1265 : (List Int) := (l1257 ++ strList s1262)
let s1266 : ByteArray := listStr l1265
κ0 ((s1266, (0, ())), (l1256, ()))) else none))) else none) else none)))))) (fun y1267 =>
let i1268 : Int := y1267.1.2.1
let a1269 : (Nat → Int) := y1267.2.1.2.1
let i1270 : Int := y1267.2.1.2.2.1
let i1271 : Int := y1267.2.1.2.2.2.1
let i1272 : Int := y1267.2.2.1.1
let b1273 : Bool := y1267.2.2.1.2.1
let i1274 : Int := y1267.2.2.1.2.2.2.1
let l1275 : (List Int) := y1267.2.2.2.1
let i1276 : Int := IntKind.wrap .u32 i18
let l1277 : (List Int) := [i1276]
q_60 (((), ()), (l1277, ())) (fun y1278 =>
let l1279 : (List Int) := y1278.1
let l1280 : (List Int) := y1278.2.1
let s1281 : ByteArray := listStr l1279
let l1282 : (List ByteArray) := [s1281]
q_26_v1 (((), (), ()), (((), (a1269, (i1270, (i1271, ())))), (i1272, (b1273, ((), (i1274, ())))), l1275, l1282, ())) (fun y1283 =>
let a1284 : (Nat → Int) := y1283.2.1.2.1
let i1285 : Int := y1283.2.1.2.2.1
let i1286 : Int := y1283.2.1.2.2.2.1
let i1287 : Int := y1283.2.2.1.1
let b1288 : Bool := y1283.2.2.1.2.1
let i1289 : Int := y1283.2.2.1.2.2.2.1
let l1290 : (List ByteArray) := y1283.2.2.2.1
let l1291 : (List Int) := y1283.2.2.2.2.1
q_26_v1 (((), (), ()), (((), (a1284, (i1285, (i1286, ())))), (i1287, (b1288, ((), (i1289, ())))), l1291, l19, ())) (fun y1292 =>
let a1293 : (Nat → Int) := y1292.2.1.2.1
let i1294 : Int := y1292.2.1.2.2.1
let i1295 : Int := y1292.2.1.2.2.2.1
let i1296 : Int := y1292.2.2.1.1
let b1297 : Bool := y1292.2.2.1.2.1
let i1298 : Int := y1292.2.2.1.2.2.2.1
let l1299 : (List ByteArray) := y1292.2.2.2.1
let l1300 : (List Int) := y1292.2.2.2.2.1
q_25_v2 (((), ()), (((), (a1293, (i1294, (i1295, ())))), (i1296, (b1297, ((), (i1298, ())))), l1300, ())) (fun y1301 =>
let s1302 : ByteArray := y1301.1
let a1303 : (Nat → Int) := y1301.2.1.2.1
let i1304 : Int := y1301.2.1.2.2.1
let i1305 : Int := y1301.2.1.2.2.2.1
let i1306 : Int := y1301.2.2.1.1
let b1307 : Bool := y1301.2.2.1.2.1
let i1308 : Int := y1301.2.2.1.2.2.2.1
let l1309 : (List Int) := y1301.2.2.2.1
bif (decide (i18 ≤ 64)) then (
κ0 ((s1302, (0, ())), (l1299, ()))) else (
bif decide (32 ≤ ((ByteArray.size s1302 : Nat) : Int)) then (
let s1310 : ByteArray := ByteArray.extract s1302 0 32
bif decide (ByteArray.size s1310 ≤ maxI64) then (
let l1311 : (List Int) := strList s1310
m_29_8 ((i18, s1302, (), ()), (l1299, l1311, ())) (fun y1325 =>
let i1326 : Int := y1325.1.1
let s1327 : ByteArray := y1325.1.2.1
let l1328 : (List ByteArray) := y1325.2.1
let l1329 : (List Int) := y1325.2.2.1
let i1330 : Int := (((List.length l1329) : Nat) : Int)
let i1331 : Int := subA .i64 i1326 i1330
let l1332 : (List ByteArray) := [s1327]
q_22 ((i1331, ⟨#[]⟩, (), ()), (l1332, ())) (fun y1333 =>
let s1334 : ByteArray := y1333.1.1
let i1335 : Int := y1333.1.2.1
let l1336 : (List ByteArray) := y1333.2.1
bif (decide ((List.length l1329 + List.length (strList s1334)) * 1 ≤ 140737488355328) && true) then (
let l1337 : (List Int) := (l1329 ++ strList s1334)
let s1338 : ByteArray := listStr l1337
κ0 ((s1338, (0, ())), (l1328, ()))) else none))) else none) else none))))))))
def C_29_8 {R : Type} (q_27 : Tp_27 R) (q_60 : Tp_60 R) (q_26_v2 : Tp_26_v2 R) (q_25 : Tp_25 R) (q_22 : Tp_22 R) (q_26 : Tp_26 R) (q_25_v1 : Tp_25_v1 R) (q_26_v1 : Tp_26_v1 R) (q_25_v2 : Tp_25_v2 R) (m_29_8 : Tl_29_8 R) (rec : ((Int × ByteArray × Unit × Unit) × ((List ByteArray) × (List Int) × Unit)) → Option R) (x : ((Int × ByteArray × Unit × Unit) × ((List ByteArray) × (List Int) × Unit))) (κ0 : ((Int × ByteArray × Unit × Unit) × ((List ByteArray) × (List Int) × Unit)) → Option R) : Option R :=
let i1312 : Int := x.1.1
let s1313 : ByteArray := x.1.2.1
let l1314 : (List ByteArray) := x.2.1
let l1315 : (List Int) := x.2.2.1
let i1316 : Int := (((List.length l1315) : Nat) : Int)
let i1317 : Int := subA .i64 i1312 i1316
bif (decide (i1317 > 64)) then (
let l1318 : (List ByteArray) := [s1313]
q_22 ((64, ⟨#[]⟩, (), ()), (l1318, ())) (fun y1319 =>
let s1320 : ByteArray := y1319.1.1
let i1321 : Int := y1319.1.2.1
let l1322 : (List ByteArray) := y1319.2.1
bif decide (32 ≤ ((ByteArray.size s1320 : Nat) : Int)) then (
let s1323 : ByteArray := ByteArray.extract s1320 0 32
bif (decide ((List.length l1315 + List.length (strList s1323)) * 1 ≤ 140737488355328) && true) then (
let l1324 : (List Int) := (l1315 ++ strList s1323)
rec ((i1312, s1320, (), ()), (l1314, l1324, ()))) else none) else none)) else (
κ0 ((i1312, s1313, (), ()), (l1314, l1315, ())))
def EG_29 {R : Type} (q_27 : Tp_27 R) (q_60 : Tp_60 R) (q_26_v2 : Tp_26_v2 R) (q_25 : Tp_25 R) (q_22 : Tp_22 R) (q_26 : Tp_26 R) (q_25_v1 : Tp_25_v1 R) (q_26_v1 : Tp_26_v1 R) (q_25_v2 : Tp_25_v2 R) : Env R := (((((((((Env.base QQ LN).add 27 ap_27 hp_27 (fun (x : aden ap_27 × hden hp_27) k => q_27 x (fun y => k (Pat.inst (.tup (.fcons (.nilp) (.fcons (.int .i64) (.fnil)))) y.1) (instH [] y.2)) (fun y => k (Pat.inst (.tup (.fcons (.ptr 0 []) (.fcons (.int .i64) (.fnil)))) y.1) (instH [some (.node (.fcons (.nilp) (.fcons (.vec (.int .u64) 8) (.fcons (.int .i64) (.fcons (.int .u64) (.fnil))))), 115)] y.2)) (fun y => k (Pat.inst (.tup (.fcons (.ptr 0 []) (.fcons (.int .i64) (.fnil)))) y.1) (instH [some (.node (.fcons (.ptr 1 []) (.fcons (.vec (.int .u64) 8) (.fcons (.int .i64) (.fcons (.int .u64) (.fnil))))), 115), some (.node (.fcons (.int .i64) (.fcons (.bool) (.fcons (.sl 2) (.fcons (.int .i64) (.fnil))))), 151), some (.lst (.int .u8), 5)] y.2)))).add 60 ap_60 hp_60 (fun (x : aden ap_60 × hden hp_60) k => q_60 x (fun y => k (Pat.inst (.ros (.int .u8)) y.1) (instH [some (.lst (.int .u32), 124)] y.2)))).add 26 ap_26_v2 hp_26_v2 (fun (x : aden ap_26_v2 × hden hp_26_v2) k => q_26_v2 x (fun y => k (Pat.inst (.nilp) y.1) (instH [some (.lst (.str), 9)] y.2)))).add 25 ap_25 hp_25 (fun (x : aden ap_25 × hden hp_25) k => q_25 x (fun y => k (Pat.inst (.str) y.1) (instH [] y.2)))).add 22 ap_22 hp_22 (fun (x : aden ap_22 × hden hp_22) k => q_22 x (fun y => k (Pat.inst (.tup (.fcons (.str) (.fcons (.int .i64) (.fnil)))) y.1) (instH [some (.lst (.str), 9)] y.2)))).add 26 ap_26 hp_26 (fun (x : aden ap_26 × hden hp_26) k => q_26 x (fun y => k (Pat.inst (.ptr 0 []) y.1) (instH [some (.node (.fcons (.nilp) (.fcons (.vec (.int .u64) 8) (.fcons (.int .i64) (.fcons (.int .u64) (.fnil))))), 115), some (.lst (.str), 9)] y.2)))).add 25 ap_25_v1 hp_25_v1 (fun (x : aden ap_25_v1 × hden hp_25_v1) k => q_25_v1 x (fun y => k (Pat.inst (.str) y.1) (instH [some (.node (.fcons (.nilp) (.fcons (.vec (.int .u64) 8) (.fcons (.int .i64) (.fcons (.int .u64) (.fnil))))), 115)] y.2)))).add 26 ap_26_v1 hp_26_v1 (fun (x : aden ap_26_v1 × hden hp_26_v1) k => q_26_v1 x (fun y => k (Pat.inst (.ptr 0 []) y.1) (instH [some (.node (.fcons (.ptr 1 []) (.fcons (.vec (.int .u64) 8) (.fcons (.int .i64) (.fcons (.int .u64) (.fnil))))), 115), some (.node (.fcons (.int .i64) (.fcons (.bool) (.fcons (.sl 4) (.fcons (.int .i64) (.fnil))))), 151), none, some (.lst (.str), 9), some (.lst (.int .u8), 5)] y.2)))).add 25 ap_25_v2 hp_25_v2 (fun (x : aden ap_25_v2 × hden hp_25_v2) k => q_25_v2 x (fun y => k (Pat.inst (.str) y.1) (instH [some (.node (.fcons (.ptr 1 []) (.fcons (.vec (.int .u64) 8) (.fcons (.int .i64) (.fcons (.int .u64) (.fnil))))), 115), some (.node (.fcons (.int .i64) (.fcons (.bool) (.fcons (.sl 2) (.fcons (.int .i64) (.fnil))))), 151), some (.lst (.int .u8), 5)] y.2)))
def LG_29 {R : Type} (m_29_8 : Tl_29_8 R) : Loops R := (Loops.none).add 8 (loopBy 1 lv_29_8 pt_29_8 (fun x k => m_29_8 x (fun y => k (.exit 0) (px_29_8_0.inst y))))
def E_29 {R : Type} (N : Nat) : Env R := EG_29 (p_27 N) (p_60 N) (p_26_v2 N) (p_25 N) (p_22 N) (p_26 N) (p_25_v1 N) (p_26_v1 N) (p_25_v2 N)
theorem eok_29 {R : Type} (N : Nat) : EK Try.prog (E_29 (R := R) N) := ek_add (ek_add (ek_add (ek_add (ek_add (ek_add (ek_add (ek_add (ek_add (ek_base _ _) (good_27 N)) (good_60 N)) (good_26_v2 N)) (good_25 N)) (good_22 N)) (good_26 N)) (good_25_v1 N)) (good_26_v1 N)) (good_25_v2 N)
def L_29 {R : Type} (N : Nat) : Loops R := LG_29 (l_29_8 N N)
theorem gstep_29_8 {R : Type} (q_27 : Tp_27 R) (q_60 : Tp_60 R) (q_26_v2 : Tp_26_v2 R) (q_25 : Tp_25 R) (q_22 : Tp_22 R) (q_26 : Tp_26 R) (q_25_v1 : Tp_25_v1 R) (q_26_v1 : Tp_26_v1 R) (q_25_v2 : Tp_25_v2 R) (m_29_8 : Tl_29_8 R) (n : Nat) (x : pt_29_8.den) (k : Exit → St → Option R) : iter 1 lv_29_8 lo_29_8 (aexec TT (EG_29 q_27 q_60 q_26_v2 q_25 q_22 q_26 q_25_v1 q_26_v1 q_25_v2) (drawAny TT WW) (LG_29 m_29_8) (loopAt 8 (bodyOf Try.f29))) (n + 1) (pt_29_8.inst x) k = C_29_8 q_27 q_60 q_26_v2 q_25 q_22 q_26 q_25_v1 q_26_v1 q_25_v2 m_29_8 (fun y => iter 1 lv_29_8 lo_29_8 (aexec TT (EG_29 q_27 q_60 q_26_v2 q_25 q_22 q_26 q_25_v1 q_26_v1 q_25_v2) (drawAny TT WW) (LG_29 m_29_8) (loopAt 8 (bodyOf Try.f29))) n (pt_29_8.inst y) k) x (fun y => k (.exit 0) (px_29_8_0.inst y)) := by kernel_rfl
theorem step_29_8 {R : Type} (N n : Nat) (x : pt_29_8.den) (k : Exit → St → Option R) : iter 1 lv_29_8 lo_29_8 (aexec TT (E_29 (R := R) N) (drawAny TT WW) (L_29 N) (loopAt 8 (bodyOf Try.f29))) (n + 1) (pt_29_8.inst x) k = B_29_8 N (fun y => iter 1 lv_29_8 lo_29_8 (aexec TT (E_29 (R := R) N) (drawAny TT WW) (L_29 N) (loopAt 8 (bodyOf Try.f29))) n (pt_29_8.inst y) k) x (fun y => k (.exit 0) (px_29_8_0.inst y)) := (gstep_29_8 (p_27 N) (p_60 N) (p_26_v2 N) (p_25 N) (p_22 N) (p_26 N) (p_25_v1 N) (p_26_v1 N) (p_25_v2 N) (l_29_8 N N) n x k).trans (by kernel_rfl)
theorem eq_29_8 {R : Type} (N : Nat) : ∀ (n : Nat) (x : pt_29_8.den) (k : Exit → St → Option R), iter 1 lv_29_8 lo_29_8 (aexec TT (E_29 (R := R) N) (drawAny TT WW) (L_29 N) (loopAt 8 (bodyOf Try.f29))) n (pt_29_8.inst x) k = l_29_8 N n x (fun y => k (.exit 0) (px_29_8_0.inst y)) :=
  iter_eq (K := Exit → St → Option R) (ks := fun k => k) (l := fun n (x : pt_29_8.den) k => l_29_8 N n x (fun y => k (.exit 0) (px_29_8_0.inst y))) (B := fun (rec : pt_29_8.den → Option R) (x : pt_29_8.den) k => B_29_8 N rec x (fun y => k (.exit 0) (px_29_8_0.inst y))) (fun _ _ => rfl) (fun _ _ _ => rfl) (fun n x k => step_29_8 N n x k)
theorem rounds_29_8 {R : Type} (N : Nat) : Rounds 1 TT (E_29 (R := R) N) (drawAny TT WW) (L_29 N) 8 (loopAt 8 (bodyOf Try.f29)) :=
  rounds_of (p := pt_29_8) (l := fun (x : pt_29_8.den) k => l_29_8 N N x (fun y => k (.exit 0) (px_29_8_0.inst y))) (fun s k => rfl) (fun x k => eq_29_8 N N x k)
theorem loops_29 : loopsIn (bodyOf Try.f29) = [(8, loopAt 8 (bodyOf Try.f29))] := by kernel_rfl
theorem lok_29 {R : Type} (N : Nat) : LOK 1 TT (E_29 (R := R) N) (drawAny TT WW) (L_29 N) (bodyOf Try.f29) := loops_all loops_29 (by
  simp only [List.forall_mem_cons, List.not_mem_nil, false_implies, implies_true, and_true]
  exact rounds_29_8 N)
theorem grun_29 {R : Type} (q_27 : Tp_27 R) (q_60 : Tp_60 R) (q_26_v2 : Tp_26_v2 R) (q_25 : Tp_25 R) (q_22 : Tp_22 R) (q_26 : Tp_26 R) (q_25_v1 : Tp_25_v1 R) (q_26_v1 : Tp_26_v1 R) (q_25_v2 : Tp_25_v2 R) (m_29_8 : Tl_29_8 R) (x : aden ap_29 × hden hp_29) (k : KF R) : fnrun TT (EG_29 q_27 q_60 q_26_v2 q_25 q_22 q_26 q_25_v1 q_26_v1 q_25_v2) (drawAny TT WW) (LG_29 m_29_8) true Try.f29 (instA ap_29 x.1) (instH hp_29 x.2) k = Q_29 q_27 q_60 q_26_v2 q_25 q_22 q_26 q_25_v1 q_26_v1 q_25_v2 m_29_8 x (fun y => k (Pat.inst (.tup (.fcons (.str) (.fcons (.int .i64) (.fnil)))) y.1) (instH [some (.lst (.str), 9)] y.2)) := by kernel_rfl
theorem run_29 {R : Type} (N : Nat) (x : aden ap_29 × hden hp_29) (k : KF R) : fnrun TT (E_29 (R := R) N) (drawAny TT WW) (L_29 N) true Try.f29 (instA ap_29 x.1) (instH hp_29 x.2) k = p_29 N x (fun y => k (Pat.inst (.tup (.fcons (.str) (.fcons (.int .i64) (.fnil)))) y.1) (instH [some (.lst (.str), 9)] y.2)) := (grun_29 (p_27 N) (p_60 N) (p_26_v2 N) (p_25 N) (p_22 N) (p_26 N) (p_25_v1 N) (p_26_v1 N) (p_25_v2 N) (l_29_8 N N) x k).trans (by kernel_rfl)
theorem good_29 {R : Type} (N : Nat) : GD (X := R) Try.prog QQ 29 ap_29 hp_29 (fun (x : aden ap_29 × hden hp_29) k => p_29 N x (fun y => k (Pat.inst (.tup (.fcons (.str) (.fcons (.int .i64) (.fnil)))) y.1) (instH [some (.lst (.str), 9)] y.2))) :=
  gd_loud (E := E_29 N) (p := fun (x : aden ap_29 × hden hp_29) k => p_29 N x (fun y => k (Pat.inst (.tup (.fcons (.str) (.fcons (.int .i64) (.fnil)))) y.1) (instH [some (.lst (.str), 9)] y.2))) mixed tyok (eok_29 N) Try.func29 (by kernel_rfl) (by kernel_rfl) (by kernel_rfl) (lok_29 N) (fun x k => run_29 N x k)

def ap_59 : List Pat := [.sl 0]
def hp_59 : List (Option (Pat × Nat)) := [some (.lst (.str), 9)]
def p_59 {R : Type} (N : Nat) (x : (Unit × Unit) × ((List ByteArray) × Unit)) (κ0 : (ByteArray × ((List ByteArray) × Unit)) → Option R) : Option R :=
let l17 : (List ByteArray) := x.2.1
p_29 N ((1024, (), ()), (l17, ())) (fun y1339 =>
let s1340 : ByteArray := y1339.1.1
let i1341 : Int := y1339.1.2.1
let l1342 : (List ByteArray) := y1339.2.1
κ0 (s1340, (l1342, ())))

abbrev Tp_59 (R : Type) : Type := (Unit × Unit) × ((List ByteArray) × Unit) → ((ByteArray × ((List ByteArray) × Unit)) → Option R) → Option R
def Q_59 {R : Type} (q_29 : Tp_29 R) (x : (Unit × Unit) × ((List ByteArray) × Unit)) (κ0 : (ByteArray × ((List ByteArray) × Unit)) → Option R) : Option R :=
let l17 : (List ByteArray) := x.2.1
q_29 ((1024, (), ()), (l17, ())) (fun y1339 =>
let s1340 : ByteArray := y1339.1.1
let i1341 : Int := y1339.1.2.1
let l1342 : (List ByteArray) := y1339.2.1
κ0 (s1340, (l1342, ())))
def EG_59 {R : Type} (q_29 : Tp_29 R) : Env R := (Env.base QQ LN).add 29 ap_29 hp_29 (fun (x : aden ap_29 × hden hp_29) k => q_29 x (fun y => k (Pat.inst (.tup (.fcons (.str) (.fcons (.int .i64) (.fnil)))) y.1) (instH [some (.lst (.str), 9)] y.2)))
def LG_59 {R : Type} : Loops R := Loops.none
def E_59 {R : Type} (N : Nat) : Env R := EG_59 (p_29 N)
theorem eok_59 {R : Type} (N : Nat) : EK Try.prog (E_59 (R := R) N) := ek_add (ek_base _ _) (good_29 N)
def L_59 {R : Type} (N : Nat) : Loops R := LG_59
theorem lok_59 {R : Type} (N : Nat) : LOK 1 TT (E_59 (R := R) N) (drawAny TT WW) (L_59 N) (bodyOf Try.f59) := loops_nil (by kernel_rfl)
theorem grun_59 {R : Type} (q_29 : Tp_29 R) (x : aden ap_59 × hden hp_59) (k : KF R) : fnrun TT (EG_59 q_29) (drawAny TT WW) (LG_59) true Try.f59 (instA ap_59 x.1) (instH hp_59 x.2) k = Q_59 q_29 x (fun y => k (Pat.inst (.str) y.1) (instH [some (.lst (.str), 9)] y.2)) := by kernel_rfl
theorem run_59 {R : Type} (N : Nat) (x : aden ap_59 × hden hp_59) (k : KF R) : fnrun TT (E_59 (R := R) N) (drawAny TT WW) (L_59 N) true Try.f59 (instA ap_59 x.1) (instH hp_59 x.2) k = p_59 N x (fun y => k (Pat.inst (.str) y.1) (instH [some (.lst (.str), 9)] y.2)) := (grun_59 (p_29 N) x k).trans (by kernel_rfl)
theorem good_59 {R : Type} (N : Nat) : GD (X := R) Try.prog QQ 59 ap_59 hp_59 (fun (x : aden ap_59 × hden hp_59) k => p_59 N x (fun y => k (Pat.inst (.str) y.1) (instH [some (.lst (.str), 9)] y.2))) :=
  gd_loud (E := E_59 N) (p := fun (x : aden ap_59 × hden hp_59) k => p_59 N x (fun y => k (Pat.inst (.str) y.1) (instH [some (.lst (.str), 9)] y.2))) mixed tyok (eok_59 N) Try.func59 (by kernel_rfl) (by kernel_rfl) (by kernel_rfl) (lok_59 N) (fun x k => run_59 N x k)

def ap_28 : List Pat := []
def hp_28 : List (Option (Pat × Nat)) := []
def p_28 {R : Type} (N : Nat) (x : (Unit) × (Unit)) (κ0 : Bool → Option R) : Option R :=
p_31 N ((64, ()), ()) (fun y7 =>
let i8 : Int := y7.1
let i9 : Int := y7.2.1
p_31 N ((65, ()), ()) (fun y10 =>
let i11 : Int := y10.1
let i12 : Int := y10.2.1
p_31 N ((1024, ()), ()) (fun y13 =>
let i14 : Int := y13.1
let i15 : Int := y13.2.1
bif (i9 == 0) then (
bif (i8 == 0) then (
bif (i11 == 1) then (
bif (i14 == 30) then (
let l16 : (List ByteArray) := [⟨#[97]⟩]
p_59 N (((), ()), (l16, ())) (fun y1343 =>
let s1344 : ByteArray := y1343.1
let l1345 : (List ByteArray) := y1343.2.1
let i1346 : Int := ((ByteArray.size s1344 : Nat) : Int)
κ0 ((i1346 == 1024)))) else (
κ0 false)) else (
κ0 false)) else (
κ0 false)) else (
κ0 false))))

abbrev Tp_28 (R : Type) : Type := (Unit) × (Unit) → (Bool → Option R) → Option R
def Q_28 {R : Type} (q_31 : Tp_31 R) (q_59 : Tp_59 R) (x : (Unit) × (Unit)) (κ0 : Bool → Option R) : Option R :=
q_31 ((64, ()), ()) (fun y7 =>
let i8 : Int := y7.1
let i9 : Int := y7.2.1
q_31 ((65, ()), ()) (fun y10 =>
let i11 : Int := y10.1
let i12 : Int := y10.2.1
q_31 ((1024, ()), ()) (fun y13 =>
let i14 : Int := y13.1
let i15 : Int := y13.2.1
bif (i9 == 0) then (
bif (i8 == 0) then (
bif (i11 == 1) then (
bif (i14 == 30) then (
let l16 : (List ByteArray) := [⟨#[97]⟩]
q_59 (((), ()), (l16, ())) (fun y1343 =>
let s1344 : ByteArray := y1343.1
let l1345 : (List ByteArray) := y1343.2.1
let i1346 : Int := ((ByteArray.size s1344 : Nat) : Int)
κ0 ((i1346 == 1024)))) else (
κ0 false)) else (
κ0 false)) else (
κ0 false)) else (
κ0 false))))
def EG_28 {R : Type} (q_31 : Tp_31 R) (q_59 : Tp_59 R) : Env R := ((Env.base QQ LN).add 31 ap_31 hp_31 (fun (x : aden ap_31 × hden hp_31) k => q_31 x (fun y => k (Pat.inst (.tup (.fcons (.int .i64) (.fcons (.int .i64) (.fnil)))) y) (instH hp_31 x.2)))).add 59 ap_59 hp_59 (fun (x : aden ap_59 × hden hp_59) k => q_59 x (fun y => k (Pat.inst (.str) y.1) (instH [some (.lst (.str), 9)] y.2)))
def LG_28 {R : Type} : Loops R := Loops.none
def E_28 {R : Type} (N : Nat) : Env R := EG_28 (p_31 N) (p_59 N)
theorem eok_28 {R : Type} (N : Nat) : EK Try.prog (E_28 (R := R) N) := ek_add (ek_add (ek_base _ _) (good_31 N)) (good_59 N)
def L_28 {R : Type} (N : Nat) : Loops R := LG_28
theorem lok_28 {R : Type} (N : Nat) : LOK 0 TT (E_28 (R := R) N) (drawAny TT WW) (L_28 N) (bodyOf Try.f28) := loops_nil (by kernel_rfl)
theorem grun_28 {R : Type} (q_31 : Tp_31 R) (q_59 : Tp_59 R) (x : aden ap_28 × hden hp_28) (k : KF R) : fnrun TT (EG_28 q_31 q_59) (drawAny TT WW) (LG_28) true Try.f28 (instA ap_28 x.1) (instH hp_28 x.2) k = Q_28 q_31 q_59 x (fun y => k (Pat.inst (.bool) y) (instH hp_28 x.2)) := by kernel_rfl
theorem run_28 {R : Type} (N : Nat) (x : aden ap_28 × hden hp_28) (k : KF R) : fnrun TT (E_28 (R := R) N) (drawAny TT WW) (L_28 N) true Try.f28 (instA ap_28 x.1) (instH hp_28 x.2) k = p_28 N x (fun y => k (Pat.inst (.bool) y) (instH hp_28 x.2)) := (grun_28 (p_31 N) (p_59 N) x k).trans (by kernel_rfl)
theorem good_28 {R : Type} (N : Nat) : GD (X := R) Try.prog QQ 28 ap_28 hp_28 (fun (x : aden ap_28 × hden hp_28) k => p_28 N x (fun y => k (Pat.inst (.bool) y) (instH hp_28 x.2))) :=
  gd_quiet (E := E_28 N) (p := fun (x : aden ap_28 × hden hp_28) κ => p_28 N x (fun y => κ (Pat.inst (.bool) y))) mixed tyok (eok_28 N) Try.func28 (by kernel_rfl) (by kernel_rfl) (lok_28 N) (fun x k => run_28 N x k)

def lv_32_2 : Live := [(0, none), (3, none)]
def pt_32_2 : SPat := ⟨[(0, .int .i64), (3, .int .i64)], []⟩
def px_32_2_0 : SPat := ⟨[(3, .int .i64)], []⟩
def lo_32_2 : Exit → Live
  | .exit 0 => [(3, none)]
  | _ => []
def B_32_2 {R : Type} (N : Nat) (rec : ((Int × Int × Unit) × (Unit)) → Option R) (x : ((Int × Int × Unit) × (Unit))) (κ0 : ((Int × Unit) × (Unit)) → Option R) : Option R :=
let i1353 : Int := x.1.1
let i1354 : Int := x.1.2.1
bif (decide (i1353 > 64)) then (
let i1355 : Int := subA .i64 i1353 32
let i1356 : Int := addA .i64 i1354 1
rec ((i1355, i1356, ()), ())) else (
κ0 ((i1354, ()), ()))
def l_32_2 {R : Type} (N : Nat) : Nat → ((Int × Int × Unit) × (Unit)) → (((Int × Unit) × (Unit)) → Option R) → Option R
  | 0, _, _ => none
  | n + 1, x, κ0 => B_32_2 N (fun y => l_32_2 N n y κ0) x κ0
def ap_32 : List Pat := [.int .i64]
def hp_32 : List (Option (Pat × Nat)) := []
def p_32 {R : Type} (N : Nat) (x : (Int × Unit) × (Unit)) (κ0 : Int → Option R) : Option R :=
let i1352 : Int := x.1.1
l_32_2 N N ((i1352, 0, ()), ()) (fun y1357 =>
let i1358 : Int := y1357.1.1
κ0 i1358)

abbrev Tl_32_2 (R : Type) : Type := ((Int × Int × Unit) × (Unit)) → (((Int × Unit) × (Unit)) → Option R) → Option R
abbrev Tp_32 (R : Type) : Type := (Int × Unit) × (Unit) → (Int → Option R) → Option R
def Q_32 {R : Type} (m_32_2 : Tl_32_2 R) (x : (Int × Unit) × (Unit)) (κ0 : Int → Option R) : Option R :=
let i1352 : Int := x.1.1
m_32_2 ((i1352, 0, ()), ()) (fun y1357 =>
let i1358 : Int := y1357.1.1
κ0 i1358)
def C_32_2 {R : Type} (m_32_2 : Tl_32_2 R) (rec : ((Int × Int × Unit) × (Unit)) → Option R) (x : ((Int × Int × Unit) × (Unit))) (κ0 : ((Int × Unit) × (Unit)) → Option R) : Option R :=
let i1353 : Int := x.1.1
let i1354 : Int := x.1.2.1
bif (decide (i1353 > 64)) then (
let i1355 : Int := subA .i64 i1353 32
let i1356 : Int := addA .i64 i1354 1
rec ((i1355, i1356, ()), ())) else (
κ0 ((i1354, ()), ()))
def EG_32 {R : Type} : Env R := Env.base QQ LN
def LG_32 {R : Type} (m_32_2 : Tl_32_2 R) : Loops R := (Loops.none).add 2 (loopBy 0 lv_32_2 pt_32_2 (fun x k => m_32_2 x (fun y => k (.exit 0) (px_32_2_0.inst y))))
def E_32 {R : Type} (N : Nat) : Env R := EG_32
theorem eok_32 {R : Type} (N : Nat) : EK Try.prog (E_32 (R := R) N) := ek_base _ _
def L_32 {R : Type} (N : Nat) : Loops R := LG_32 (l_32_2 N N)
theorem gstep_32_2 {R : Type} (m_32_2 : Tl_32_2 R) (n : Nat) (x : pt_32_2.den) (k : Exit → St → Option R) : iter 0 lv_32_2 lo_32_2 (aexec TT (EG_32) (drawAny TT WW) (LG_32 m_32_2) (loopAt 2 (bodyOf Try.f32))) (n + 1) (pt_32_2.inst x) k = C_32_2 m_32_2 (fun y => iter 0 lv_32_2 lo_32_2 (aexec TT (EG_32) (drawAny TT WW) (LG_32 m_32_2) (loopAt 2 (bodyOf Try.f32))) n (pt_32_2.inst y) k) x (fun y => k (.exit 0) (px_32_2_0.inst y)) := by kernel_rfl
theorem step_32_2 {R : Type} (N n : Nat) (x : pt_32_2.den) (k : Exit → St → Option R) : iter 0 lv_32_2 lo_32_2 (aexec TT (E_32 (R := R) N) (drawAny TT WW) (L_32 N) (loopAt 2 (bodyOf Try.f32))) (n + 1) (pt_32_2.inst x) k = B_32_2 N (fun y => iter 0 lv_32_2 lo_32_2 (aexec TT (E_32 (R := R) N) (drawAny TT WW) (L_32 N) (loopAt 2 (bodyOf Try.f32))) n (pt_32_2.inst y) k) x (fun y => k (.exit 0) (px_32_2_0.inst y)) := (gstep_32_2 (l_32_2 N N) n x k).trans (by kernel_rfl)
theorem eq_32_2 {R : Type} (N : Nat) : ∀ (n : Nat) (x : pt_32_2.den) (k : Exit → St → Option R), iter 0 lv_32_2 lo_32_2 (aexec TT (E_32 (R := R) N) (drawAny TT WW) (L_32 N) (loopAt 2 (bodyOf Try.f32))) n (pt_32_2.inst x) k = l_32_2 N n x (fun y => k (.exit 0) (px_32_2_0.inst y)) :=
  iter_eq (K := Exit → St → Option R) (ks := fun k => k) (l := fun n (x : pt_32_2.den) k => l_32_2 N n x (fun y => k (.exit 0) (px_32_2_0.inst y))) (B := fun (rec : pt_32_2.den → Option R) (x : pt_32_2.den) k => B_32_2 N rec x (fun y => k (.exit 0) (px_32_2_0.inst y))) (fun _ _ => rfl) (fun _ _ _ => rfl) (fun n x k => step_32_2 N n x k)
theorem rounds_32_2 {R : Type} (N : Nat) : Rounds 0 TT (E_32 (R := R) N) (drawAny TT WW) (L_32 N) 2 (loopAt 2 (bodyOf Try.f32)) :=
  rounds_of (p := pt_32_2) (l := fun (x : pt_32_2.den) k => l_32_2 N N x (fun y => k (.exit 0) (px_32_2_0.inst y))) (fun s k => rfl) (fun x k => eq_32_2 N N x k)
theorem loops_32 : loopsIn (bodyOf Try.f32) = [(2, loopAt 2 (bodyOf Try.f32))] := by kernel_rfl
theorem lok_32 {R : Type} (N : Nat) : LOK 0 TT (E_32 (R := R) N) (drawAny TT WW) (L_32 N) (bodyOf Try.f32) := loops_all loops_32 (by
  simp only [List.forall_mem_cons, List.not_mem_nil, false_implies, implies_true, and_true]
  exact rounds_32_2 N)
theorem grun_32 {R : Type} (m_32_2 : Tl_32_2 R) (x : aden ap_32 × hden hp_32) (k : KF R) : fnrun TT (EG_32) (drawAny TT WW) (LG_32 m_32_2) true Try.f32 (instA ap_32 x.1) (instH hp_32 x.2) k = Q_32 m_32_2 x (fun y => k (Pat.inst (.int .i64) y) (instH hp_32 x.2)) := by kernel_rfl
theorem run_32 {R : Type} (N : Nat) (x : aden ap_32 × hden hp_32) (k : KF R) : fnrun TT (E_32 (R := R) N) (drawAny TT WW) (L_32 N) true Try.f32 (instA ap_32 x.1) (instH hp_32 x.2) k = p_32 N x (fun y => k (Pat.inst (.int .i64) y) (instH hp_32 x.2)) := (grun_32 (l_32_2 N N) x k).trans (by kernel_rfl)
theorem good_32 {R : Type} (N : Nat) : GD (X := R) Try.prog QQ 32 ap_32 hp_32 (fun (x : aden ap_32 × hden hp_32) k => p_32 N x (fun y => k (Pat.inst (.int .i64) y) (instH hp_32 x.2))) :=
  gd_quiet (E := E_32 N) (p := fun (x : aden ap_32 × hden hp_32) κ => p_32 N x (fun y => κ (Pat.inst (.int .i64) y))) mixed tyok (eok_32 N) Try.func32 (by kernel_rfl) (by kernel_rfl) (lok_32 N) (fun x k => run_32 N x k)

end Go.Proofs.Ytnfhngcdddjilaa.Eng
