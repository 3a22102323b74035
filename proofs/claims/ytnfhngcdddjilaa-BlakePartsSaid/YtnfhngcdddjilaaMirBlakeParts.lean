/-
Plain functions that the functions of the program are shown to come to, printed by a program of the prover; each with its proof.
Conditions: none.
-/
import Derived.Test.YtnfhngcdddjilaaProg
import Derived.Test.YtnfhngcdddjilaaEngY
import Derived.KernelRfl
set_option linter.unusedVariables false
namespace Go.Proofs.Ytnfhngcdddjilaa.Eng
def TT : Types := [(3, ⟨.int .i64, 1, 8, .int .i64 0, some (.int .i64), false, false⟩),
  (9, ⟨.str, 1, 16, .str ⟨#[]⟩, some (.str), false, false⟩),
  (42, ⟨.slice 9, 1, 24, .nils, some (.sl (.str)), false, false⟩),
  (4, ⟨.bool, 1, 1, .bool false, some (.bool), false, false⟩),
  (26, ⟨.int .i64, 1, 8, .int .i64 0, some (.int .i64), false, false⟩),
  (49, ⟨.ptr 115, 1, 8, .nilp, none, false, false⟩),
  (113, ⟨.ptr 151, 1, 8, .nilp, none, false, false⟩),
  (151, ⟨.stru [(3, 0), (4, 1), (24, 2), (3, 3)], 4, 48, .node (.fcons (.int .i64 0) (.fcons (.bool false) (.fcons (.nils) (.fcons (.int .i64 0) (.fnil))))), some (.stru (.fcons (.int .i64) (.fcons (.bool) (.fcons (.sl (.int .u8)) (.fcons (.int .i64) (.fnil)))))), false, true⟩),
  (24, ⟨.slice 5, 1, 24, .nils, some (.sl (.int .u8)), false, false⟩),
  (23, ⟨.arr 8 22, 8, 64, .vec (.int .u64) 8 (Sch.zero (.arr 8 (.int .u64))), some (.arr 8 (.int .u64)), true, false⟩),
  (115, ⟨.stru [(113, 0), (23, 1), (3, 9), (22, 10)], 11, 88, .node (.fcons (.nilp) (.fcons (.vec (.int .u64) 8 (Sch.zero (.arr 8 (.int .u64)))) (.fcons (.int .i64 0) (.fcons (.int .u64 0) (.fnil))))), none, false, false⟩),
  (22, ⟨.int .u64, 1, 8, .int .u64 0, some (.int .u64), false, false⟩),
  (5, ⟨.int .u8, 1, 1, .int .u8 0, some (.int .u8), false, false⟩),
  (117, ⟨.slice 24, 1, 24, .nils, some (.sl (.sl (.int .u8))), false, false⟩),
  (94, ⟨.slice 22, 1, 24, .nils, some (.sl (.int .u64)), false, false⟩),
  (97, ⟨.arr 16 22, 16, 128, .vec (.int .u64) 16 (Sch.zero (.arr 16 (.int .u64))), some (.arr 16 (.int .u64)), true, false⟩),
  (99, ⟨.arr 8 98, 32, 256, .vec (.arr 4 (.int .i64)) 8 (Sch.zero (.arr 8 (.arr 4 (.int .i64)))), some (.arr 8 (.arr 4 (.int .i64))), true, false⟩),
  (98, ⟨.arr 4 3, 4, 32, .vec (.int .i64) 4 (Sch.zero (.arr 4 (.int .i64))), some (.arr 4 (.int .i64)), true, false⟩),
  (38, ⟨.arr 16 3, 16, 128, .vec (.int .i64) 16 (Sch.zero (.arr 16 (.int .i64))), some (.arr 16 (.int .i64)), true, false⟩),
  (109, ⟨.arr 10 9, 10, 160, .vec (.str) 10 (Sch.zero (.arr 10 (.str))), some (.arr 10 (.str)), true, false⟩),
  (121, ⟨.int .u64, 1, 8, .int .u64 0, some (.int .u64), false, false⟩)]
theorem tyok : TyOk Try.prog TT := TyOk.of (by kernel_rfl)
theorem mixed : Try.prog.follows .mixedOrders = true := by kernel_rfl
def QQ : FuncId → Bool := fun f => memN [11, 12, 15, 17, 19, 21, 24, 46, 51, 82] f
def LN : FuncId → Bool := fun f => memN [12, 56] f
def WW : FuncId → Bool := fun f => QQ f || LN f
def ap_58 : List Pat := [.int .i64, .bool]
def hp_58 : List (Option (Pat × Nat)) := []
def p_58 {R : Type} (N : Nat) (x : (Int × Bool × Unit) × (Unit)) (κ0 : ((Unit × (Int × Unit)) × (Unit)) → Option R) (κ1 : ((Unit × (Int × Unit)) × ((Int × (Bool × (Unit × (Int × Unit)))) × (List Int) × Unit)) → Option R) : Option R :=
let i12 : Int := x.1.1
let b13 : Bool := x.1.2.1
bif (decide (i12 < 1)) then (
κ0 (((), (1, ())), ())) else (
bif (decide (i12 > 65536)) then (
κ0 (((), (1, ())), ())) else (
κ1 (((), (0, ())), ((i12, (b13, ((), (0, ())))), ([] : List Int), ()))))

abbrev Tp_58 (R : Type) : Type := (Int × Bool × Unit) × (Unit) → (((Unit × (Int × Unit)) × (Unit)) → Option R) → (((Unit × (Int × Unit)) × ((Int × (Bool × (Unit × (Int × Unit)))) × (List Int) × Unit)) → Option R) → Option R
def Q_58 {R : Type} (x : (Int × Bool × Unit) × (Unit)) (κ0 : ((Unit × (Int × Unit)) × (Unit)) → Option R) (κ1 : ((Unit × (Int × Unit)) × ((Int × (Bool × (Unit × (Int × Unit)))) × (List Int) × Unit)) → Option R) : Option R :=
let i12 : Int := x.1.1
let b13 : Bool := x.1.2.1
bif (decide (i12 < 1)) then (
κ0 (((), (1, ())), ())) else (
bif (decide (i12 > 65536)) then (
κ0 (((), (1, ())), ())) else (
κ1 (((), (0, ())), ((i12, (b13, ((), (0, ())))), ([] : List Int), ()))))
def EG_58 {R : Type} : Env R := Env.base QQ LN
def LG_58 {R : Type} : Loops R := Loops.none
def E_58 {R : Type} (N : Nat) : Env R := EG_58
theorem eok_58 {R : Type} (N : Nat) : EK Try.prog (E_58 (R := R) N) := ek_base _ _
def L_58 {R : Type} (N : Nat) : Loops R := LG_58
theorem lok_58 {R : Type} (N : Nat) : LOK 0 TT (E_58 (R := R) N) (drawAny TT WW) (L_58 N) (bodyOf Try.f58) := loops_nil (by kernel_rfl)
theorem grun_58 {R : Type} (x : aden ap_58 × hden hp_58) (k : KF R) : fnrun TT (EG_58) (drawAny TT WW) (LG_58) true Try.f58 (instA ap_58 x.1) (instH hp_58 x.2) k = Q_58 x (fun y => k (Pat.inst (.tup (.fcons (.nilp) (.fcons (.int .i64) (.fnil)))) y.1) (instH [] y.2)) (fun y => k (Pat.inst (.tup (.fcons (.ptr 0 []) (.fcons (.int .i64) (.fnil)))) y.1) (instH [some (.node (.fcons (.int .i64) (.fcons (.bool) (.fcons (.sl 1) (.fcons (.int .i64) (.fnil))))), 151), some (.lst (.int .u8), 5)] y.2)) := by kernel_rfl
theorem run_58 {R : Type} (N : Nat) (x : aden ap_58 × hden hp_58) (k : KF R) : fnrun TT (E_58 (R := R) N) (drawAny TT WW) (L_58 N) true Try.f58 (instA ap_58 x.1) (instH hp_58 x.2) k = p_58 N x (fun y => k (Pat.inst (.tup (.fcons (.nilp) (.fcons (.int .i64) (.fnil)))) y.1) (instH [] y.2)) (fun y => k (Pat.inst (.tup (.fcons (.ptr 0 []) (.fcons (.int .i64) (.fnil)))) y.1) (instH [some (.node (.fcons (.int .i64) (.fcons (.bool) (.fcons (.sl 1) (.fcons (.int .i64) (.fnil))))), 151), some (.lst (.int .u8), 5)] y.2)) := (grun_58 x k).trans (by kernel_rfl)
theorem good_58 {R : Type} (N : Nat) : GD (X := R) Try.prog QQ 58 ap_58 hp_58 (fun (x : aden ap_58 × hden hp_58) k => p_58 N x (fun y => k (Pat.inst (.tup (.fcons (.nilp) (.fcons (.int .i64) (.fnil)))) y.1) (instH [] y.2)) (fun y => k (Pat.inst (.tup (.fcons (.ptr 0 []) (.fcons (.int .i64) (.fnil)))) y.1) (instH [some (.node (.fcons (.int .i64) (.fcons (.bool) (.fcons (.sl 1) (.fcons (.int .i64) (.fnil))))), 151), some (.lst (.int .u8), 5)] y.2))) :=
  gd_loud (E := E_58 N) (p := fun (x : aden ap_58 × hden hp_58) k => p_58 N x (fun y => k (Pat.inst (.tup (.fcons (.nilp) (.fcons (.int .i64) (.fnil)))) y.1) (instH [] y.2)) (fun y => k (Pat.inst (.tup (.fcons (.ptr 0 []) (.fcons (.int .i64) (.fnil)))) y.1) (instH [some (.node (.fcons (.int .i64) (.fcons (.bool) (.fcons (.sl 1) (.fcons (.int .i64) (.fnil))))), 151), some (.lst (.int .u8), 5)] y.2))) mixed tyok (eok_58 N) Try.func58 (by kernel_rfl) (by kernel_rfl) (by kernel_rfl) (lok_58 N) (fun x k => run_58 N x k)

def ap_15 : List Pat := []
def hp_15 : List (Option (Pat × Nat)) := []
def p_15 {R : Type} (N : Nat) (x : (Unit) × (Unit)) (κ0 : (Nat → Int) → Option R) : Option R :=
let a16 : (Nat → Int) := (upd ((upd ((upd ((upd ((upd ((upd ((upd ((upd ((Sch.zero (.arr 8 (.int .u64)))) 0 7640891576956012808)) 1 13503953896175478587)) 2 4354685564936845355)) 3 11912009170470909681)) 4 5840696475078001361)) 5 11170449401992604703)) 6 2270897969802886507)) 7 6620516959819538809)
κ0 a16

abbrev Tp_15 (R : Type) : Type := (Unit) × (Unit) → ((Nat → Int) → Option R) → Option R
def Q_15 {R : Type} (x : (Unit) × (Unit)) (κ0 : (Nat → Int) → Option R) : Option R :=
let a16 : (Nat → Int) := (upd ((upd ((upd ((upd ((upd ((upd ((upd ((upd ((Sch.zero (.arr 8 (.int .u64)))) 0 7640891576956012808)) 1 13503953896175478587)) 2 4354685564936845355)) 3 11912009170470909681)) 4 5840696475078001361)) 5 11170449401992604703)) 6 2270897969802886507)) 7 6620516959819538809)
κ0 a16
def EG_15 {R : Type} : Env R := Env.base QQ LN
def LG_15 {R : Type} : Loops R := Loops.none
def E_15 {R : Type} (N : Nat) : Env R := EG_15
theorem eok_15 {R : Type} (N : Nat) : EK Try.prog (E_15 (R := R) N) := ek_base _ _
def L_15 {R : Type} (N : Nat) : Loops R := LG_15
theorem lok_15 {R : Type} (N : Nat) : LOK 0 TT (E_15 (R := R) N) (drawAny TT WW) (L_15 N) (bodyOf Try.f15) := loops_nil (by kernel_rfl)
theorem grun_15 {R : Type} (x : aden ap_15 × hden hp_15) (k : KF R) : fnrun TT (EG_15) (drawAny TT WW) (LG_15) true Try.f15 (instA ap_15 x.1) (instH hp_15 x.2) k = Q_15 x (fun y => k (Pat.inst (.vec (.int .u64) 8) y) (instH hp_15 x.2)) := by kernel_rfl
theorem run_15 {R : Type} (N : Nat) (x : aden ap_15 × hden hp_15) (k : KF R) : fnrun TT (E_15 (R := R) N) (drawAny TT WW) (L_15 N) true Try.f15 (instA ap_15 x.1) (instH hp_15 x.2) k = p_15 N x (fun y => k (Pat.inst (.vec (.int .u64) 8) y) (instH hp_15 x.2)) := (grun_15 x k).trans (by kernel_rfl)
theorem good_15 {R : Type} (N : Nat) : GD (X := R) Try.prog QQ 15 ap_15 hp_15 (fun (x : aden ap_15 × hden hp_15) k => p_15 N x (fun y => k (Pat.inst (.vec (.int .u64) 8) y) (instH hp_15 x.2))) :=
  gd_quiet (E := E_15 N) (p := fun (x : aden ap_15 × hden hp_15) κ => p_15 N x (fun y => κ (Pat.inst (.vec (.int .u64) 8) y))) mixed tyok (eok_15 N) Try.func15 (by kernel_rfl) (by kernel_rfl) (lok_15 N) (fun x k => run_15 N x k)

def ap_57 : List Pat := [.nilp, .sl 0]
def hp_57 : List (Option (Pat × Nat)) := [some (.lst (.str), 9)]
def p_57 {R : Type} (N : Nat) (x : (Unit × Unit × Unit) × ((List ByteArray) × Unit)) (κ0 : ((List (List Int)) × ((List ByteArray) × Unit)) → Option R) : Option R :=
let l37 : (List ByteArray) := x.2.1
κ0 ([], (l37, ()))

abbrev Tp_57 (R : Type) : Type := (Unit × Unit × Unit) × ((List ByteArray) × Unit) → (((List (List Int)) × ((List ByteArray) × Unit)) → Option R) → Option R
def Q_57 {R : Type} (x : (Unit × Unit × Unit) × ((List ByteArray) × Unit)) (κ0 : ((List (List Int)) × ((List ByteArray) × Unit)) → Option R) : Option R :=
let l37 : (List ByteArray) := x.2.1
κ0 ([], (l37, ()))
def EG_57 {R : Type} : Env R := Env.base QQ LN
def LG_57 {R : Type} : Loops R := Loops.none
def E_57 {R : Type} (N : Nat) : Env R := EG_57
theorem eok_57 {R : Type} (N : Nat) : EK Try.prog (E_57 (R := R) N) := ek_base _ _
def L_57 {R : Type} (N : Nat) : Loops R := LG_57
theorem loops_57 : loopsIn (bodyOf Try.f57) = [(5, loopAt 5 (bodyOf Try.f57)), (9, loopAt 9 (bodyOf Try.f57))] := by kernel_rfl
theorem lok_57 {R : Type} (N : Nat) : LOK 1 TT (E_57 (R := R) N) (drawAny TT WW) (L_57 N) (bodyOf Try.f57) := loops_all loops_57 (by
  simp only [List.forall_mem_cons, List.not_mem_nil, false_implies, implies_true, and_true]
  exact ⟨rounds_none (fun _ _ => rfl), rounds_none (fun _ _ => rfl)⟩)
theorem grun_57 {R : Type} (x : aden ap_57 × hden hp_57) (k : KF R) : fnrun TT (EG_57) (drawAny TT WW) (LG_57) true Try.f57 (instA ap_57 x.1) (instH hp_57 x.2) k = Q_57 x (fun y => k (Pat.inst (.ros (.sl (.int .u8))) y.1) (instH [some (.lst (.str), 9)] y.2)) := by kernel_rfl
theorem run_57 {R : Type} (N : Nat) (x : aden ap_57 × hden hp_57) (k : KF R) : fnrun TT (E_57 (R := R) N) (drawAny TT WW) (L_57 N) true Try.f57 (instA ap_57 x.1) (instH hp_57 x.2) k = p_57 N x (fun y => k (Pat.inst (.ros (.sl (.int .u8))) y.1) (instH [some (.lst (.str), 9)] y.2)) := (grun_57 x k).trans (by kernel_rfl)
theorem good_57 {R : Type} (N : Nat) : GD (X := R) Try.prog QQ 57 ap_57 hp_57 (fun (x : aden ap_57 × hden hp_57) k => p_57 N x (fun y => k (Pat.inst (.ros (.sl (.int .u8))) y.1) (instH [some (.lst (.str), 9)] y.2))) :=
  gd_loud (E := E_57 N) (p := fun (x : aden ap_57 × hden hp_57) k => p_57 N x (fun y => k (Pat.inst (.ros (.sl (.int .u8))) y.1) (instH [some (.lst (.str), 9)] y.2))) mixed tyok (eok_57 N) Try.func57 (by kernel_rfl) (by kernel_rfl) (by kernel_rfl) (lok_57 N) (fun x k => run_57 N x k)

def lv_45_5 : Live := [(4, none), (15, none), (16, none), (17, none)]
def pt_45_5 : SPat := ⟨[(4, .sl 0), (15, .ros (.int .u8)), (16, .int .i64), (17, .int .i64)], [some (.lst (.int .u64), 22)]⟩
def px_45_5_0 : SPat := ⟨[(4, .sl 0)], [some (.lst (.int .u64), 22)]⟩
def lo_45_5 : Exit → Live
  | .exit 0 => [(4, none)]
  | _ => []
def B_45_5 {R : Type} (N : Nat) (rec : ((Unit × (List Int) × Int × Int × Unit) × ((List Int) × Unit)) → Option R) (x : ((Unit × (List Int) × Int × Int × Unit) × ((List Int) × Unit))) (κ0 : ((Unit × Unit) × ((List Int) × Unit)) → Option R) : Option R :=
let l64 : (List Int) := x.1.2.1
let i65 : Int := x.1.2.2.1
let i66 : Int := x.1.2.2.2.1
let l67 : (List Int) := x.2.1
bif (decide (i66 < i65)) then (
bif decide (0 ≤ i66) then (
bif decide (i66 < ((List.length l64) : Int)) then (
let p68 : Int := (List.getD l64 ((Int.toNat i66)) (Sch.zero (.int .u8)))
let i69 : Int := quoA .i64 i66 8
bif decide (0 ≤ i69) then (
bif decide (i69 < ((List.length l67) : Int)) then (
let i70 : Int := (List.getD l67 ((Int.toNat i69)) (Sch.zero (.int .u64)))
let i71 : Int := IntKind.wrap .u64 p68
let i72 : Int := remA .i64 i66 8
let i73 : Int := mulA .i64 8 i72
bif decide (i73 < 0) then none else (
let i74 : Int := shlA .u64 i71 i73
let i75 : Int := orA .u64 i70 i74
bif decide (0 ≤ i69) then (
bif decide (i69 < ((List.length l67) : Int)) then (
let l76 : (List Int) := (List.set l67 ((Int.toNat i69)) i75)
let i77 : Int := addA .i64 i66 1
rec (((), l64, i65, i77, ()), (l76, ()))) else none) else none)) else none) else none) else none) else none) else (
κ0 (((), ()), (l67, ())))
def l_45_5 {R : Type} (N : Nat) : Nat → ((Unit × (List Int) × Int × Int × Unit) × ((List Int) × Unit)) → (((Unit × Unit) × ((List Int) × Unit)) → Option R) → Option R
  | 0, _, _ => none
  | n + 1, x, κ0 => B_45_5 N (fun y => l_45_5 N n y κ0) x κ0
def ap_45 : List Pat := [.ros (.int .u8)]
def hp_45 : List (Option (Pat × Nat)) := []
def p_45 {R : Type} (N : Nat) (x : ((List Int) × Unit) × (Unit)) (κ0 : (((List Int) × (Int × Unit)) × (Unit)) → Option R) : Option R :=
let l57 : (List Int) := x.1.1
let i58 : Int := (((List.length l57) : Nat) : Int)
let i59 : Int := remA .i64 i58 8
bif (i59 != 0) then (
κ0 (([], (9, ())), ())) else (
let i60 : Int := (((List.length l57) : Nat) : Int)
let i61 : Int := quoA .i64 i60 8
bif decide (0 ≤ i61) then (
bif decide (i61 ≤ i61) then (
bif decide (((8 : Nat) : Int) * i61 ≤ 281474976710656) then (
bif decide (i61 ≤ 9223372036854775807) then (
let l62 : (List Int) := List.replicate ((Int.toNat i61)) (Sch.zero (.int .u64))
let i63 : Int := (((List.length l57) : Nat) : Int)
l_45_5 N N (((), l57, i63, 0, ()), (l62, ())) (fun y78 =>
let l79 : (List Int) := y78.2.1
κ0 ((l79, (0, ())), ()))) else none) else none) else none) else none)

abbrev Tl_45_5 (R : Type) : Type := ((Unit × (List Int) × Int × Int × Unit) × ((List Int) × Unit)) → (((Unit × Unit) × ((List Int) × Unit)) → Option R) → Option R
abbrev Tp_45 (R : Type) : Type := ((List Int) × Unit) × (Unit) → ((((List Int) × (Int × Unit)) × (Unit)) → Option R) → Option R
def Q_45 {R : Type} (m_45_5 : Tl_45_5 R) (x : ((List Int) × Unit) × (Unit)) (κ0 : (((List Int) × (Int × Unit)) × (Unit)) → Option R) : Option R :=
let l57 : (List Int) := x.1.1
let i58 : Int := (((List.length l57) : Nat) : Int)
let i59 : Int := remA .i64 i58 8
bif (i59 != 0) then (
κ0 (([], (9, ())), ())) else (
let i60 : Int := (((List.length l57) : Nat) : Int)
let i61 : Int := quoA .i64 i60 8
bif decide (0 ≤ i61) then (
bif decide (i61 ≤ i61) then (
bif decide (((8 : Nat) : Int) * i61 ≤ 281474976710656) then (
bif decide (i61 ≤ 9223372036854775807) then (
let l62 : (List Int) := List.replicate ((Int.toNat i61)) (Sch.zero (.int .u64))
let i63 : Int := (((List.length l57) : Nat) : Int)
m_45_5 (((), l57, i63, 0, ()), (l62, ())) (fun y78 =>
let l79 : (List Int) := y78.2.1
κ0 ((l79, (0, ())), ()))) else none) else none) else none) else none)
def C_45_5 {R : Type} (m_45_5 : Tl_45_5 R) (rec : ((Unit × (List Int) × Int × Int × Unit) × ((List Int) × Unit)) → Option R) (x : ((Unit × (List Int) × Int × Int × Unit) × ((List Int) × Unit))) (κ0 : ((Unit × Unit) × ((List Int) × Unit)) → Option R) : Option R :=
let l64 : (List Int) := x.1.2.1
let i65 : Int := x.1.2.2.1
let i66 : Int := x.1.2.2.2.1
let l67 : (List Int) := x.2.1
bif (decide (i66 < i65)) then (
bif decide (0 ≤ i66) then (
bif decide (i66 < ((List.length l64) : Int)) then (
let p68 : Int := (List.getD l64 ((Int.toNat i66)) (Sch.zero (.int .u8)))
let i69 : Int := quoA .i64 i66 8
bif decide (0 ≤ i69) then (
bif decide (i69 < ((List.length l67) : Int)) then (
let i70 : Int := (List.getD l67 ((Int.toNat i69)) (Sch.zero (.int .u64)))
let i71 : Int := IntKind.wrap .u64 p68
let i72 : Int := remA .i64 i66 8
let i73 : Int := mulA .i64 8 i72
bif decide (i73 < 0) then none else (
let i74 : Int := shlA .u64 i71 i73
let i75 : Int := orA .u64 i70 i74
bif decide (0 ≤ i69) then (
bif decide (i69 < ((List.length l67) : Int)) then (
let l76 : (List Int) := (List.set l67 ((Int.toNat i69)) i75)
let i77 : Int := addA .i64 i66 1
rec (((), l64, i65, i77, ()), (l76, ()))) else none) else none)) else none) else none) else none) else none) else (
κ0 (((), ()), (l67, ())))
def EG_45 {R : Type} : Env R := Env.base QQ LN
def LG_45 {R : Type} (m_45_5 : Tl_45_5 R) : Loops R := (Loops.none).add 5 (loopBy 0 lv_45_5 pt_45_5 (fun x k => m_45_5 x (fun y => k (.exit 0) (px_45_5_0.inst y))))
def E_45 {R : Type} (N : Nat) : Env R := EG_45
theorem eok_45 {R : Type} (N : Nat) : EK Try.prog (E_45 (R := R) N) := ek_base _ _
def L_45 {R : Type} (N : Nat) : Loops R := LG_45 (l_45_5 N N)
theorem gstep_45_5 {R : Type} (m_45_5 : Tl_45_5 R) (n : Nat) (x : pt_45_5.den) (k : Exit → St → Option R) : iter 0 lv_45_5 lo_45_5 (aexec TT (EG_45) (drawAny TT WW) (LG_45 m_45_5) (loopAt 5 (bodyOf Try.f45))) (n + 1) (pt_45_5.inst x) k = C_45_5 m_45_5 (fun y => iter 0 lv_45_5 lo_45_5 (aexec TT (EG_45) (drawAny TT WW) (LG_45 m_45_5) (loopAt 5 (bodyOf Try.f45))) n (pt_45_5.inst y) k) x (fun y => k (.exit 0) (px_45_5_0.inst y)) := by kernel_rfl
theorem step_45_5 {R : Type} (N n : Nat) (x : pt_45_5.den) (k : Exit → St → Option R) : iter 0 lv_45_5 lo_45_5 (aexec TT (E_45 (R := R) N) (drawAny TT WW) (L_45 N) (loopAt 5 (bodyOf Try.f45))) (n + 1) (pt_45_5.inst x) k = B_45_5 N (fun y => iter 0 lv_45_5 lo_45_5 (aexec TT (E_45 (R := R) N) (drawAny TT WW) (L_45 N) (loopAt 5 (bodyOf Try.f45))) n (pt_45_5.inst y) k) x (fun y => k (.exit 0) (px_45_5_0.inst y)) := (gstep_45_5 (l_45_5 N N) n x k).trans (by kernel_rfl)
theorem eq_45_5 {R : Type} (N : Nat) : ∀ (n : Nat) (x : pt_45_5.den) (k : Exit → St → Option R), iter 0 lv_45_5 lo_45_5 (aexec TT (E_45 (R := R) N) (drawAny TT WW) (L_45 N) (loopAt 5 (bodyOf Try.f45))) n (pt_45_5.inst x) k = l_45_5 N n x (fun y => k (.exit 0) (px_45_5_0.inst y)) :=
  iter_eq (K := Exit → St → Option R) (ks := fun k => k) (l := fun n (x : pt_45_5.den) k => l_45_5 N n x (fun y => k (.exit 0) (px_45_5_0.inst y))) (B := fun (rec : pt_45_5.den → Option R) (x : pt_45_5.den) k => B_45_5 N rec x (fun y => k (.exit 0) (px_45_5_0.inst y))) (fun _ _ => rfl) (fun _ _ _ => rfl) (fun n x k => step_45_5 N n x k)
theorem rounds_45_5 {R : Type} (N : Nat) : Rounds 0 TT (E_45 (R := R) N) (drawAny TT WW) (L_45 N) 5 (loopAt 5 (bodyOf Try.f45)) :=
  rounds_of (p := pt_45_5) (l := fun (x : pt_45_5.den) k => l_45_5 N N x (fun y => k (.exit 0) (px_45_5_0.inst y))) (fun s k => rfl) (fun x k => eq_45_5 N N x k)
theorem loops_45 : loopsIn (bodyOf Try.f45) = [(5, loopAt 5 (bodyOf Try.f45))] := by kernel_rfl
theorem lok_45 {R : Type} (N : Nat) : LOK 0 TT (E_45 (R := R) N) (drawAny TT WW) (L_45 N) (bodyOf Try.f45) := loops_all loops_45 (by
  simp only [List.forall_mem_cons, List.not_mem_nil, false_implies, implies_true, and_true]
  exact rounds_45_5 N)
theorem grun_45 {R : Type} (m_45_5 : Tl_45_5 R) (x : aden ap_45 × hden hp_45) (k : KF R) : fnrun TT (EG_45) (drawAny TT WW) (LG_45 m_45_5) true Try.f45 (instA ap_45 x.1) (instH hp_45 x.2) k = Q_45 m_45_5 x (fun y => k (Pat.inst (.tup (.fcons (.ros (.int .u64)) (.fcons (.int .i64) (.fnil)))) y.1) (instH [] y.2)) := by kernel_rfl
theorem run_45 {R : Type} (N : Nat) (x : aden ap_45 × hden hp_45) (k : KF R) : fnrun TT (E_45 (R := R) N) (drawAny TT WW) (L_45 N) true Try.f45 (instA ap_45 x.1) (instH hp_45 x.2) k = p_45 N x (fun y => k (Pat.inst (.tup (.fcons (.ros (.int .u64)) (.fcons (.int .i64) (.fnil)))) y.1) (instH [] y.2)) := (grun_45 (l_45_5 N N) x k).trans (by kernel_rfl)
theorem good_45 {R : Type} (N : Nat) : GD (X := R) Try.prog QQ 45 ap_45 hp_45 (fun (x : aden ap_45 × hden hp_45) k => p_45 N x (fun y => k (Pat.inst (.tup (.fcons (.ros (.int .u64)) (.fcons (.int .i64) (.fnil)))) y.1) (instH [] y.2))) :=
  gd_loud (E := E_45 N) (p := fun (x : aden ap_45 × hden hp_45) k => p_45 N x (fun y => k (Pat.inst (.tup (.fcons (.ros (.int .u64)) (.fcons (.int .i64) (.fnil)))) y.1) (instH [] y.2))) mixed tyok (eok_45 N) Try.func45 (by kernel_rfl) (by kernel_rfl) (by kernel_rfl) (lok_45 N) (fun x k => run_45 N x k)

def ap_46 : List Pat := []
def hp_46 : List (Option (Pat × Nat)) := []
def p_46 {R : Type} (N : Nat) (x : (Unit) × (Unit)) (κ0 : (Nat → (Nat → Int)) → Option R) : Option R :=
let a95 : (Nat → Int) := (upd ((upd ((upd ((upd ((Sch.zero (.arr 4 (.int .i64)))) 0 0)) 1 4)) 2 8)) 3 12)
let a96 : (Nat → Int) := (upd ((upd ((upd ((upd ((Sch.zero (.arr 4 (.int .i64)))) 0 1)) 1 5)) 2 9)) 3 13)
let a97 : (Nat → Int) := (upd ((upd ((upd ((upd ((Sch.zero (.arr 4 (.int .i64)))) 0 2)) 1 6)) 2 10)) 3 14)
let a98 : (Nat → Int) := (upd ((upd ((upd ((upd ((Sch.zero (.arr 4 (.int .i64)))) 0 3)) 1 7)) 2 11)) 3 15)
let a99 : (Nat → Int) := (upd ((upd ((upd ((upd ((Sch.zero (.arr 4 (.int .i64)))) 0 0)) 1 5)) 2 10)) 3 15)
let a100 : (Nat → Int) := (upd ((upd ((upd ((upd ((Sch.zero (.arr 4 (.int .i64)))) 0 1)) 1 6)) 2 11)) 3 12)
let a101 : (Nat → Int) := (upd ((upd ((upd ((upd ((Sch.zero (.arr 4 (.int .i64)))) 0 2)) 1 7)) 2 8)) 3 13)
let a102 : (Nat → Int) := (upd ((upd ((upd ((upd ((Sch.zero (.arr 4 (.int .i64)))) 0 3)) 1 4)) 2 9)) 3 14)
let a103 : (Nat → (Nat → Int)) := (upd ((upd ((upd ((upd ((upd ((upd ((upd ((upd ((Sch.zero (.arr 8 (.arr 4 (.int .i64))))) 0 a95)) 1 a96)) 2 a97)) 3 a98)) 4 a99)) 5 a100)) 6 a101)) 7 a102)
κ0 a103

abbrev Tp_46 (R : Type) : Type := (Unit) × (Unit) → ((Nat → (Nat → Int)) → Option R) → Option R
def Q_46 {R : Type} (x : (Unit) × (Unit)) (κ0 : (Nat → (Nat → Int)) → Option R) : Option R :=
let a95 : (Nat → Int) := (upd ((upd ((upd ((upd ((Sch.zero (.arr 4 (.int .i64)))) 0 0)) 1 4)) 2 8)) 3 12)
let a96 : (Nat → Int) := (upd ((upd ((upd ((upd ((Sch.zero (.arr 4 (.int .i64)))) 0 1)) 1 5)) 2 9)) 3 13)
let a97 : (Nat → Int) := (upd ((upd ((upd ((upd ((Sch.zero (.arr 4 (.int .i64)))) 0 2)) 1 6)) 2 10)) 3 14)
let a98 : (Nat → Int) := (upd ((upd ((upd ((upd ((Sch.zero (.arr 4 (.int .i64)))) 0 3)) 1 7)) 2 11)) 3 15)
let a99 : (Nat → Int) := (upd ((upd ((upd ((upd ((Sch.zero (.arr 4 (.int .i64)))) 0 0)) 1 5)) 2 10)) 3 15)
let a100 : (Nat → Int) := (upd ((upd ((upd ((upd ((Sch.zero (.arr 4 (.int .i64)))) 0 1)) 1 6)) 2 11)) 3 12)
let a101 : (Nat → Int) := (upd ((upd ((upd ((upd ((Sch.zero (.arr 4 (.int .i64)))) 0 2)) 1 7)) 2 8)) 3 13)
let a102 : (Nat → Int) := (upd ((upd ((upd ((upd ((Sch.zero (.arr 4 (.int .i64)))) 0 3)) 1 4)) 2 9)) 3 14)
let a103 : (Nat → (Nat → Int)) := (upd ((upd ((upd ((upd ((upd ((upd ((upd ((upd ((Sch.zero (.arr 8 (.arr 4 (.int .i64))))) 0 a95)) 1 a96)) 2 a97)) 3 a98)) 4 a99)) 5 a100)) 6 a101)) 7 a102)
κ0 a103
def EG_46 {R : Type} : Env R := Env.base QQ LN
def LG_46 {R : Type} : Loops R := Loops.none
def E_46 {R : Type} (N : Nat) : Env R := EG_46
theorem eok_46 {R : Type} (N : Nat) : EK Try.prog (E_46 (R := R) N) := ek_base _ _
def L_46 {R : Type} (N : Nat) : Loops R := LG_46
theorem lok_46 {R : Type} (N : Nat) : LOK 0 TT (E_46 (R := R) N) (drawAny TT WW) (L_46 N) (bodyOf Try.f46) := loops_nil (by kernel_rfl)
theorem grun_46 {R : Type} (x : aden ap_46 × hden hp_46) (k : KF R) : fnrun TT (EG_46) (drawAny TT WW) (LG_46) true Try.f46 (instA ap_46 x.1) (instH hp_46 x.2) k = Q_46 x (fun y => k (Pat.inst (.vec (.arr 4 (.int .i64)) 8) y) (instH hp_46 x.2)) := by kernel_rfl
theorem run_46 {R : Type} (N : Nat) (x : aden ap_46 × hden hp_46) (k : KF R) : fnrun TT (E_46 (R := R) N) (drawAny TT WW) (L_46 N) true Try.f46 (instA ap_46 x.1) (instH hp_46 x.2) k = p_46 N x (fun y => k (Pat.inst (.vec (.arr 4 (.int .i64)) 8) y) (instH hp_46 x.2)) := (grun_46 x k).trans (by kernel_rfl)
theorem good_46 {R : Type} (N : Nat) : GD (X := R) Try.prog QQ 46 ap_46 hp_46 (fun (x : aden ap_46 × hden hp_46) k => p_46 N x (fun y => k (Pat.inst (.vec (.arr 4 (.int .i64)) 8) y) (instH hp_46 x.2))) :=
  gd_quiet (E := E_46 N) (p := fun (x : aden ap_46 × hden hp_46) κ => p_46 N x (fun y => κ (Pat.inst (.vec (.arr 4 (.int .i64)) 8) y))) mixed tyok (eok_46 N) Try.func46 (by kernel_rfl) (by kernel_rfl) (lok_46 N) (fun x k => run_46 N x k)

def lv_19_7 : Live := [(2, none), (4, none), (5, none), (16, none)]
def pt_19_7 : SPat := ⟨[(2, .ptr 0 []), (4, .ptr 1 []), (5, .str), (16, .int .i64)], [some (.vec (.int .i64) 16, 38), some (.vec (.int .i64) 16, 38)]⟩
def px_19_7_0 : SPat := ⟨[(2, .ptr 0 []), (4, .ptr 1 [])], [some (.vec (.int .i64) 16, 38), some (.vec (.int .i64) 16, 38)]⟩
def lo_19_7 : Exit → Live
  | .exit 0 => [(2, none), (4, none)]
  | _ => []
def B_19_7 {R : Type} (N : Nat) (rec : ((Unit × Unit × ByteArray × Int × Unit) × ((Nat → Int) × (Nat → Int) × Unit)) → Option R) (x : ((Unit × Unit × ByteArray × Int × Unit) × ((Nat → Int) × (Nat → Int) × Unit))) (κ0 : ((Unit × Unit × Unit) × ((Nat → Int) × (Nat → Int) × Unit)) → Option R) : Option R :=
let s117 : ByteArray := x.1.2.2.1
let i118 : Int := x.1.2.2.2.1
let a119 : (Nat → Int) := x.2.1
let a120 : (Nat → Int) := x.2.2.1
bif (decide (i118 < 16)) then (
bif decide (0 ≤ i118) then (
bif decide (i118 < (ByteArray.size s117 : Int)) then (
let i121 : Int := byteAt s117 ((Int.toNat i118))
let i122 : Int := IntKind.wrap .i64 i121
bif (decide (i122 ≥ 97)) then (
let i123 : Int := subA .i64 i122 97
let i124 : Int := addA .i64 i123 10
bif decide (0 ≤ i118) then (
bif decide (i118 < (16 : Int)) then (
let a125 : (Nat → Int) := (upd a120 ((Int.toNat i118)) i124)
let i126 : Int := addA .i64 i118 1
rec (((), (), s117, i126, ()), (a119, a125, ()))) else none) else none) else (
let i127 : Int := subA .i64 i122 48
bif decide (0 ≤ i118) then (
bif decide (i118 < (16 : Int)) then (
let a128 : (Nat → Int) := (upd a120 ((Int.toNat i118)) i127)
let i129 : Int := addA .i64 i118 1
rec (((), (), s117, i129, ()), (a119, a128, ()))) else none) else none)) else none) else none) else (
κ0 (((), (), ()), (a119, a120, ())))
def l_19_7 {R : Type} (N : Nat) : Nat → ((Unit × Unit × ByteArray × Int × Unit) × ((Nat → Int) × (Nat → Int) × Unit)) → (((Unit × Unit × Unit) × ((Nat → Int) × (Nat → Int) × Unit)) → Option R) → Option R
  | 0, _, _ => none
  | n + 1, x, κ0 => B_19_7 N (fun y => l_19_7 N n y κ0) x κ0
def ap_19 : List Pat := [.int .i64]
def hp_19 : List (Option (Pat × Nat)) := []
def p_19 {R : Type} (N : Nat) (x : (Int × Unit) × (Unit)) (κ0 : (Nat → Int) → Option R) : Option R :=
let i112 : Int := x.1.1
let a113 : (Nat → ByteArray) := (upd ((upd ((upd ((upd ((upd ((upd ((upd ((upd ((upd ((upd ((Sch.zero (.arr 10 (.str)))) 0 (⟨#[48, 49, 50, 51, 52, 53, 54, 55, 56, 57, 97, 98, 99, 100, 101, 102]⟩))) 1 (⟨#[101, 97, 52, 56, 57, 102, 100, 54, 49, 99, 48, 50, 98, 55, 53, 51]⟩))) 2 (⟨#[98, 56, 99, 48, 53, 50, 102, 100, 97, 101, 51, 54, 55, 49, 57, 52]⟩))) 3 (⟨#[55, 57, 51, 49, 100, 99, 98, 101, 50, 54, 53, 97, 52, 48, 102, 56]⟩))) 4 (⟨#[57, 48, 53, 55, 50, 52, 97, 102, 101, 49, 98, 99, 54, 56, 51, 100]⟩))) 5 (⟨#[50, 99, 54, 97, 48, 98, 56, 51, 52, 100, 55, 53, 102, 101, 49, 57]⟩))) 6 (⟨#[99, 53, 49, 102, 101, 100, 52, 97, 48, 55, 54, 51, 57, 50, 56, 98]⟩))) 7 (⟨#[100, 98, 55, 101, 99, 49, 51, 57, 53, 48, 102, 52, 56, 54, 50, 97]⟩))) 8 (⟨#[54, 102, 101, 57, 98, 51, 48, 56, 99, 50, 100, 55, 49, 52, 97, 53]⟩))) 9 (⟨#[97, 50, 56, 52, 55, 54, 49, 53, 102, 98, 57, 101, 51, 99, 100, 48]⟩))
bif (decide (i112 < 0)) then (
let a114 : (Nat → Int) := (Sch.zero (.arr 16 (.int .i64)))
κ0 a114) else (
let i115 : Int := remA .i64 i112 10
bif decide (0 ≤ i115) then (
bif decide (i115 < (10 : Int)) then (
let s116 : ByteArray := (a113 ((Int.toNat i115)))
l_19_7 N N (((), (), s116, 0, ()), ((Sch.zero (.arr 16 (.int .i64))), (Sch.zero (.arr 16 (.int .i64))), ())) (fun y130 =>
let a131 : (Nat → Int) := y130.2.1
let a132 : (Nat → Int) := y130.2.2.1
κ0 a132)) else none) else none)

abbrev Tl_19_7 (R : Type) : Type := ((Unit × Unit × ByteArray × Int × Unit) × ((Nat → Int) × (Nat → Int) × Unit)) → (((Unit × Unit × Unit) × ((Nat → Int) × (Nat → Int) × Unit)) → Option R) → Option R
abbrev Tp_19 (R : Type) : Type := (Int × Unit) × (Unit) → ((Nat → Int) → Option R) → Option R
def Q_19 {R : Type} (m_19_7 : Tl_19_7 R) (x : (Int × Unit) × (Unit)) (κ0 : (Nat → Int) → Option R) : Option R :=
let i112 : Int := x.1.1
let a113 : (Nat → ByteArray) := (upd ((upd ((upd ((upd ((upd ((upd ((upd ((upd ((upd ((upd ((Sch.zero (.arr 10 (.str)))) 0 (⟨#[48, 49, 50, 51, 52, 53, 54, 55, 56, 57, 97, 98, 99, 100, 101, 102]⟩))) 1 (⟨#[101, 97, 52, 56, 57, 102, 100, 54, 49, 99, 48, 50, 98, 55, 53, 51]⟩))) 2 (⟨#[98, 56, 99, 48, 53, 50, 102, 100, 97, 101, 51, 54, 55, 49, 57, 52]⟩))) 3 (⟨#[55, 57, 51, 49, 100, 99, 98, 101, 50, 54, 53, 97, 52, 48, 102, 56]⟩))) 4 (⟨#[57, 48, 53, 55, 50, 52, 97, 102, 101, 49, 98, 99, 54, 56, 51, 100]⟩))) 5 (⟨#[50, 99, 54, 97, 48, 98, 56, 51, 52, 100, 55, 53, 102, 101, 49, 57]⟩))) 6 (⟨#[99, 53, 49, 102, 101, 100, 52, 97, 48, 55, 54, 51, 57, 50, 56, 98]⟩))) 7 (⟨#[100, 98, 55, 101, 99, 49, 51, 57, 53, 48, 102, 52, 56, 54, 50, 97]⟩))) 8 (⟨#[54, 102, 101, 57, 98, 51, 48, 56, 99, 50, 100, 55, 49, 52, 97, 53]⟩))) 9 (⟨#[97, 50, 56, 52, 55, 54, 49, 53, 102, 98, 57, 101, 51, 99, 100, 48]⟩))
bif (decide (i112 < 0)) then (
let a114 : (Nat → Int) := (Sch.zero (.arr 16 (.int .i64)))
κ0 a114) else (
let i115 : Int := remA .i64 i112 10
bif decide (0 ≤ i115) then (
bif decide (i115 < (10 : Int)) then (
let s116 : ByteArray := (a113 ((Int.toNat i115)))
m_19_7 (((), (), s116, 0, ()), ((Sch.zero (.arr 16 (.int .i64))), (Sch.zero (.arr 16 (.int .i64))), ())) (fun y130 =>
let a131 : (Nat → Int) := y130.2.1
let a132 : (Nat → Int) := y130.2.2.1
κ0 a132)) else none) else none)
def C_19_7 {R : Type} (m_19_7 : Tl_19_7 R) (rec : ((Unit × Unit × ByteArray × Int × Unit) × ((Nat → Int) × (Nat → Int) × Unit)) → Option R) (x : ((Unit × Unit × ByteArray × Int × Unit) × ((Nat → Int) × (Nat → Int) × Unit))) (κ0 : ((Unit × Unit × Unit) × ((Nat → Int) × (Nat → Int) × Unit)) → Option R) : Option R :=
let s117 : ByteArray := x.1.2.2.1
let i118 : Int := x.1.2.2.2.1
let a119 : (Nat → Int) := x.2.1
let a120 : (Nat → Int) := x.2.2.1
bif (decide (i118 < 16)) then (
bif decide (0 ≤ i118) then (
bif decide (i118 < (ByteArray.size s117 : Int)) then (
let i121 : Int := byteAt s117 ((Int.toNat i118))
let i122 : Int := IntKind.wrap .i64 i121
bif (decide (i122 ≥ 97)) then (
let i123 : Int := subA .i64 i122 97
let i124 : Int := addA .i64 i123 10
bif decide (0 ≤ i118) then (
bif decide (i118 < (16 : Int)) then (
let a125 : (Nat → Int) := (upd a120 ((Int.toNat i118)) i124)
let i126 : Int := addA .i64 i118 1
rec (((), (), s117, i126, ()), (a119, a125, ()))) else none) else none) else (
let i127 : Int := subA .i64 i122 48
bif decide (0 ≤ i118) then (
bif decide (i118 < (16 : Int)) then (
let a128 : (Nat → Int) := (upd a120 ((Int.toNat i118)) i127)
let i129 : Int := addA .i64 i118 1
rec (((), (), s117, i129, ()), (a119, a128, ()))) else none) else none)) else none) else none) else (
κ0 (((), (), ()), (a119, a120, ())))
def EG_19 {R : Type} : Env R := Env.base QQ LN
def LG_19 {R : Type} (m_19_7 : Tl_19_7 R) : Loops R := (Loops.none).add 7 (loopBy 0 lv_19_7 pt_19_7 (fun x k => m_19_7 x (fun y => k (.exit 0) (px_19_7_0.inst y))))
def E_19 {R : Type} (N : Nat) : Env R := EG_19
theorem eok_19 {R : Type} (N : Nat) : EK Try.prog (E_19 (R := R) N) := ek_base _ _
def L_19 {R : Type} (N : Nat) : Loops R := LG_19 (l_19_7 N N)
theorem gstep_19_7 {R : Type} (m_19_7 : Tl_19_7 R) (n : Nat) (x : pt_19_7.den) (k : Exit → St → Option R) : iter 0 lv_19_7 lo_19_7 (aexec TT (EG_19) (drawAny TT WW) (LG_19 m_19_7) (loopAt 7 (bodyOf Try.f19))) (n + 1) (pt_19_7.inst x) k = C_19_7 m_19_7 (fun y => iter 0 lv_19_7 lo_19_7 (aexec TT (EG_19) (drawAny TT WW) (LG_19 m_19_7) (loopAt 7 (bodyOf Try.f19))) n (pt_19_7.inst y) k) x (fun y => k (.exit 0) (px_19_7_0.inst y)) := by kernel_rfl
theorem step_19_7 {R : Type} (N n : Nat) (x : pt_19_7.den) (k : Exit → St → Option R) : iter 0 lv_19_7 lo_19_7 (aexec TT (E_19 (R := R) N) (drawAny TT WW) (L_19 N) (loopAt 7 (bodyOf Try.f19))) (n + 1) (pt_19_7.inst x) k = B_19_7 N (fun y => iter 0 lv_19_7 lo_19_7 (aexec TT (E_19 (R := R) N) (drawAny TT WW) (L_19 N) (loopAt 7 (bodyOf Try.f19))) n (pt_19_7.inst y) k) x (fun y => k (.exit 0) (px_19_7_0.inst y)) := (gstep_19_7 (l_19_7 N N) n x k).trans (by kernel_rfl)
theorem eq_19_7 {R : Type} (N : Nat) : ∀ (n : Nat) (x : pt_19_7.den) (k : Exit → St → Option R), iter 0 lv_19_7 lo_19_7 (aexec TT (E_19 (R := R) N) (drawAny TT WW) (L_19 N) (loopAt 7 (bodyOf Try.f19))) n (pt_19_7.inst x) k = l_19_7 N n x (fun y => k (.exit 0) (px_19_7_0.inst y)) :=
  iter_eq (K := Exit → St → Option R) (ks := fun k => k) (l := fun n (x : pt_19_7.den) k => l_19_7 N n x (fun y => k (.exit 0) (px_19_7_0.inst y))) (B := fun (rec : pt_19_7.den → Option R) (x : pt_19_7.den) k => B_19_7 N rec x (fun y => k (.exit 0) (px_19_7_0.inst y))) (fun _ _ => rfl) (fun _ _ _ => rfl) (fun n x k => step_19_7 N n x k)
theorem rounds_19_7 {R : Type} (N : Nat) : Rounds 0 TT (E_19 (R := R) N) (drawAny TT WW) (L_19 N) 7 (loopAt 7 (bodyOf Try.f19)) :=
  rounds_of (p := pt_19_7) (l := fun (x : pt_19_7.den) k => l_19_7 N N x (fun y => k (.exit 0) (px_19_7_0.inst y))) (fun s k => rfl) (fun x k => eq_19_7 N N x k)
theorem loops_19 : loopsIn (bodyOf Try.f19) = [(7, loopAt 7 (bodyOf Try.f19))] := by kernel_rfl
theorem lok_19 {R : Type} (N : Nat) : LOK 0 TT (E_19 (R := R) N) (drawAny TT WW) (L_19 N) (bodyOf Try.f19) := loops_all loops_19 (by
  simp only [List.forall_mem_cons, List.not_mem_nil, false_implies, implies_true, and_true]
  exact rounds_19_7 N)
theorem grun_19 {R : Type} (m_19_7 : Tl_19_7 R) (x : aden ap_19 × hden hp_19) (k : KF R) : fnrun TT (EG_19) (drawAny TT WW) (LG_19 m_19_7) true Try.f19 (instA ap_19 x.1) (instH hp_19 x.2) k = Q_19 m_19_7 x (fun y => k (Pat.inst (.vec (.int .i64) 16) y) (instH hp_19 x.2)) := by kernel_rfl
theorem run_19 {R : Type} (N : Nat) (x : aden ap_19 × hden hp_19) (k : KF R) : fnrun TT (E_19 (R := R) N) (drawAny TT WW) (L_19 N) true Try.f19 (instA ap_19 x.1) (instH hp_19 x.2) k = p_19 N x (fun y => k (Pat.inst (.vec (.int .i64) 16) y) (instH hp_19 x.2)) := (grun_19 (l_19_7 N N) x k).trans (by kernel_rfl)
theorem good_19 {R : Type} (N : Nat) : GD (X := R) Try.prog QQ 19 ap_19 hp_19 (fun (x : aden ap_19 × hden hp_19) k => p_19 N x (fun y => k (Pat.inst (.vec (.int .i64) 16) y) (instH hp_19 x.2))) :=
  gd_quiet (E := E_19 N) (p := fun (x : aden ap_19 × hden hp_19) κ => p_19 N x (fun y => κ (Pat.inst (.vec (.int .i64) 16) y))) mixed tyok (eok_19 N) Try.func19 (by kernel_rfl) (by kernel_rfl) (lok_19 N) (fun x k => run_19 N x k)

def ap_51 : List Pat := [.int .u64, .int .i64]
def hp_51 : List (Option (Pat × Nat)) := []
def p_51 {R : Type} (N : Nat) (x : (Int × Int × Unit) × (Unit)) (κ0 : Int → Option R) : Option R :=
let i169 : Int := x.1.1
let i170 : Int := x.1.2.1
let i171 : Int := IntKind.wrap .u64 i170
let i172 : Int := remA .u64 i171 64
bif decide (i172 < 0) then none else (
let i173 : Int := shrA .u64 i169 i172
let i174 : Int := subA .u64 64 i172
bif decide (i174 < 0) then none else (
let i175 : Int := shlA .u64 i169 i174
let i176 : Int := orA .u64 i173 i175
κ0 i176))

abbrev Tp_51 (R : Type) : Type := (Int × Int × Unit) × (Unit) → (Int → Option R) → Option R
def Q_51 {R : Type} (x : (Int × Int × Unit) × (Unit)) (κ0 : Int → Option R) : Option R :=
let i169 : Int := x.1.1
let i170 : Int := x.1.2.1
let i171 : Int := IntKind.wrap .u64 i170
let i172 : Int := remA .u64 i171 64
bif decide (i172 < 0) then none else (
let i173 : Int := shrA .u64 i169 i172
let i174 : Int := subA .u64 64 i172
bif decide (i174 < 0) then none else (
let i175 : Int := shlA .u64 i169 i174
let i176 : Int := orA .u64 i173 i175
κ0 i176))
def EG_51 {R : Type} : Env R := Env.base QQ LN
def LG_51 {R : Type} : Loops R := Loops.none
def E_51 {R : Type} (N : Nat) : Env R := EG_51
theorem eok_51 {R : Type} (N : Nat) : EK Try.prog (E_51 (R := R) N) := ek_base _ _
def L_51 {R : Type} (N : Nat) : Loops R := LG_51
theorem lok_51 {R : Type} (N : Nat) : LOK 0 TT (E_51 (R := R) N) (drawAny TT WW) (L_51 N) (bodyOf Try.f51) := loops_nil (by kernel_rfl)
theorem grun_51 {R : Type} (x : aden ap_51 × hden hp_51) (k : KF R) : fnrun TT (EG_51) (drawAny TT WW) (LG_51) true Try.f51 (instA ap_51 x.1) (instH hp_51 x.2) k = Q_51 x (fun y => k (Pat.inst (.int .u64) y) (instH hp_51 x.2)) := by kernel_rfl
theorem run_51 {R : Type} (N : Nat) (x : aden ap_51 × hden hp_51) (k : KF R) : fnrun TT (E_51 (R := R) N) (drawAny TT WW) (L_51 N) true Try.f51 (instA ap_51 x.1) (instH hp_51 x.2) k = p_51 N x (fun y => k (Pat.inst (.int .u64) y) (instH hp_51 x.2)) := (grun_51 x k).trans (by kernel_rfl)
theorem good_51 {R : Type} (N : Nat) : GD (X := R) Try.prog QQ 51 ap_51 hp_51 (fun (x : aden ap_51 × hden hp_51) k => p_51 N x (fun y => k (Pat.inst (.int .u64) y) (instH hp_51 x.2))) :=
  gd_quiet (E := E_51 N) (p := fun (x : aden ap_51 × hden hp_51) κ => p_51 N x (fun y => κ (Pat.inst (.int .u64) y))) mixed tyok (eok_51 N) Try.func51 (by kernel_rfl) (by kernel_rfl) (lok_51 N) (fun x k => run_51 N x k)

def ap_17 : List Pat := [.int .u64, .int .u64, .int .u64, .int .u64, .int .u64, .int .u64]
def hp_17 : List (Option (Pat × Nat)) := []
def p_17 {R : Type} (N : Nat) (x : (Int × Int × Int × Int × Int × Int × Unit) × (Unit)) (κ0 : (Int × (Int × (Int × (Int × Unit)))) → Option R) : Option R :=
let i160 : Int := x.1.1
let i161 : Int := x.1.2.1
let i162 : Int := x.1.2.2.1
let i163 : Int := x.1.2.2.2.1
let i164 : Int := x.1.2.2.2.2.1
let i165 : Int := x.1.2.2.2.2.2.1
let i166 : Int := addA .u64 i161 i164
let i167 : Int := addA .u64 i160 i166
let i168 : Int := xorA .u64 i163 i167
p_51 N ((i168, 32, ()), ()) (fun y177 =>
let i178 : Int := y177
let i179 : Int := addA .u64 i162 i178
let i180 : Int := xorA .u64 i161 i179
p_51 N ((i180, 24, ()), ()) (fun y181 =>
let i182 : Int := y181
let i183 : Int := addA .u64 i182 i165
let i184 : Int := addA .u64 i167 i183
let i185 : Int := xorA .u64 i178 i184
p_51 N ((i185, 16, ()), ()) (fun y186 =>
let i187 : Int := y186
let i188 : Int := addA .u64 i179 i187
let i189 : Int := xorA .u64 i182 i188
p_51 N ((i189, 63, ()), ()) (fun y190 =>
let i191 : Int := y190
κ0 ((i184, (i191, (i188, (i187, ())))))))))

abbrev Tp_17 (R : Type) : Type := (Int × Int × Int × Int × Int × Int × Unit) × (Unit) → ((Int × (Int × (Int × (Int × Unit)))) → Option R) → Option R
def Q_17 {R : Type} (q_51 : Tp_51 R) (x : (Int × Int × Int × Int × Int × Int × Unit) × (Unit)) (κ0 : (Int × (Int × (Int × (Int × Unit)))) → Option R) : Option R :=
let i160 : Int := x.1.1
let i161 : Int := x.1.2.1
let i162 : Int := x.1.2.2.1
let i163 : Int := x.1.2.2.2.1
let i164 : Int := x.1.2.2.2.2.1
let i165 : Int := x.1.2.2.2.2.2.1
let i166 : Int := addA .u64 i161 i164
let i167 : Int := addA .u64 i160 i166
let i168 : Int := xorA .u64 i163 i167
q_51 ((i168, 32, ()), ()) (fun y177 =>
let i178 : Int := y177
let i179 : Int := addA .u64 i162 i178
let i180 : Int := xorA .u64 i161 i179
q_51 ((i180, 24, ()), ()) (fun y181 =>
let i182 : Int := y181
let i183 : Int := addA .u64 i182 i165
let i184 : Int := addA .u64 i167 i183
let i185 : Int := xorA .u64 i178 i184
q_51 ((i185, 16, ()), ()) (fun y186 =>
let i187 : Int := y186
let i188 : Int := addA .u64 i179 i187
let i189 : Int := xorA .u64 i182 i188
q_51 ((i189, 63, ()), ()) (fun y190 =>
let i191 : Int := y190
κ0 ((i184, (i191, (i188, (i187, ())))))))))
def EG_17 {R : Type} (q_51 : Tp_51 R) : Env R := (Env.base QQ LN).add 51 ap_51 hp_51 (fun (x : aden ap_51 × hden hp_51) k => q_51 x (fun y => k (Pat.inst (.int .u64) y) (instH hp_51 x.2)))
def LG_17 {R : Type} : Loops R := Loops.none
def E_17 {R : Type} (N : Nat) : Env R := EG_17 (p_51 N)
theorem eok_17 {R : Type} (N : Nat) : EK Try.prog (E_17 (R := R) N) := ek_add (ek_base _ _) (good_51 N)
def L_17 {R : Type} (N : Nat) : Loops R := LG_17
theorem lok_17 {R : Type} (N : Nat) : LOK 0 TT (E_17 (R := R) N) (drawAny TT WW) (L_17 N) (bodyOf Try.f17) := loops_nil (by kernel_rfl)
theorem grun_17 {R : Type} (q_51 : Tp_51 R) (x : aden ap_17 × hden hp_17) (k : KF R) : fnrun TT (EG_17 q_51) (drawAny TT WW) (LG_17) true Try.f17 (instA ap_17 x.1) (instH hp_17 x.2) k = Q_17 q_51 x (fun y => k (Pat.inst (.tup (.fcons (.int .u64) (.fcons (.int .u64) (.fcons (.int .u64) (.fcons (.int .u64) (.fnil)))))) y) (instH hp_17 x.2)) := by kernel_rfl
theorem run_17 {R : Type} (N : Nat) (x : aden ap_17 × hden hp_17) (k : KF R) : fnrun TT (E_17 (R := R) N) (drawAny TT WW) (L_17 N) true Try.f17 (instA ap_17 x.1) (instH hp_17 x.2) k = p_17 N x (fun y => k (Pat.inst (.tup (.fcons (.int .u64) (.fcons (.int .u64) (.fcons (.int .u64) (.fcons (.int .u64) (.fnil)))))) y) (instH hp_17 x.2)) := (grun_17 (p_51 N) x k).trans (by kernel_rfl)
theorem good_17 {R : Type} (N : Nat) : GD (X := R) Try.prog QQ 17 ap_17 hp_17 (fun (x : aden ap_17 × hden hp_17) k => p_17 N x (fun y => k (Pat.inst (.tup (.fcons (.int .u64) (.fcons (.int .u64) (.fcons (.int .u64) (.fcons (.int .u64) (.fnil)))))) y) (instH hp_17 x.2))) :=
  gd_quiet (E := E_17 N) (p := fun (x : aden ap_17 × hden hp_17) κ => p_17 N x (fun y => κ (Pat.inst (.tup (.fcons (.int .u64) (.fcons (.int .u64) (.fcons (.int .u64) (.fcons (.int .u64) (.fnil)))))) y))) mixed tyok (eok_17 N) Try.func17 (by kernel_rfl) (by kernel_rfl) (lok_17 N) (fun x k => run_17 N x k)

def lv_12_17 : Live := [(4, none), (8, none), (10, none), (12, none), (14, none), (16, none), (51, none), (56, none), (57, none)]
def pt_12_17 : SPat := ⟨[(4, .ptr 0 []), (8, .ptr 1 []), (10, .ros (.int .u64)), (12, .ptr 2 []), (14, .ptr 3 []), (16, .ptr 4 []), (51, .int .i64), (56, .vec (.arr 4 (.int .i64)) 8), (57, .int .i64)], [some (.vec (.int .u64) 8, 23), some (.vec (.int .u64) 8, 23), some (.vec (.int .u64) 16, 97), some (.vec (.arr 4 (.int .i64)) 8, 99), some (.vec (.int .i64) 16, 38)]⟩
def px_12_17_0 : SPat := ⟨[(4, .ptr 0 []), (8, .ptr 1 []), (10, .ros (.int .u64)), (12, .ptr 2 []), (14, .ptr 3 []), (51, .int .i64)], [some (.vec (.int .u64) 8, 23), some (.vec (.int .u64) 8, 23), some (.vec (.int .u64) 16, 97), some (.vec (.arr 4 (.int .i64)) 8, 99)]⟩
def lo_12_17 : Exit → Live
  | .exit 2 => [(4, none), (8, none), (10, none), (12, none), (14, none), (51, none)]
  | _ => []
def B_12_17 {R : Type} (N : Nat) (rec : ((Unit × Unit × (List Int) × Unit × Unit × Unit × Int × (Nat → (Nat → Int)) × Int × Unit) × ((Nat → Int) × (Nat → Int) × (Nat → Int) × (Nat → (Nat → Int)) × (Nat → Int) × Unit)) → Option R) (x : ((Unit × Unit × (List Int) × Unit × Unit × Unit × Int × (Nat → (Nat → Int)) × Int × Unit) × ((Nat → Int) × (Nat → Int) × (Nat → Int) × (Nat → (Nat → Int)) × (Nat → Int) × Unit))) (κ0 : ((Unit × Unit × (List Int) × Unit × Unit × Int × Unit) × ((Nat → Int) × (Nat → Int) × (Nat → Int) × (Nat → (Nat → Int)) × Unit)) → Option R) : Option R :=
let l693 : (List Int) := x.1.2.2.1
let i694 : Int := x.1.2.2.2.2.2.2.1
let a695 : (Nat → (Nat → Int)) := x.1.2.2.2.2.2.2.2.1
let i696 : Int := x.1.2.2.2.2.2.2.2.2.1
let a697 : (Nat → Int) := x.2.1
let a698 : (Nat → Int) := x.2.2.1
let a699 : (Nat → Int) := x.2.2.2.1
let a700 : (Nat → (Nat → Int)) := x.2.2.2.2.1
let a701 : (Nat → Int) := x.2.2.2.2.2.1
bif (decide (i696 < 8)) then (
bif decide (0 ≤ i696) then (
bif decide (i696 < (8 : Int)) then (
let a702 : (Nat → Int) := (a695 ((Int.toNat i696)))
let i703 : Int := (a702 0)
let i704 : Int := (a702 1)
let i705 : Int := (a702 2)
let i706 : Int := (a702 3)
bif decide (0 ≤ i703) then (
bif decide (i703 < (16 : Int)) then (
let i707 : Int := (a699 ((Int.toNat i703)))
bif decide (0 ≤ i704) then (
bif decide (i704 < (16 : Int)) then (
let i708 : Int := (a699 ((Int.toNat i704)))
bif decide (0 ≤ i705) then (
bif decide (i705 < (16 : Int)) then (
let i709 : Int := (a699 ((Int.toNat i705)))
bif decide (0 ≤ i706) then (
bif decide (i706 < (16 : Int)) then (
let i710 : Int := (a699 ((Int.toNat i706)))
let i711 : Int := mulA .i64 2 i696
bif decide (0 ≤ i711) then (
bif decide (i711 < (16 : Int)) then (
let i712 : Int := (a701 ((Int.toNat i711)))
bif decide (0 ≤ i712) then (
bif decide (i712 < ((List.length l693) : Int)) then (
let p713 : Int := (List.getD l693 ((Int.toNat i712)) (Sch.zero (.int .u64)))
let i714 : Int := mulA .i64 2 i696
let i715 : Int := addA .i64 i714 1
bif decide (0 ≤ i715) then (
bif decide (i715 < (16 : Int)) then (
let i716 : Int := (a701 ((Int.toNat i715)))
bif decide (0 ≤ i716) then (
bif decide (i716 < ((List.length l693) : Int)) then (
let p717 : Int := (List.getD l693 ((Int.toNat i716)) (Sch.zero (.int .u64)))
p_17 N ((i707, i708, i709, i710, p713, p717, ()), ()) (fun y718 =>
let i719 : Int := y718.1
let i720 : Int := y718.2.1
let i721 : Int := y718.2.2.1
let i722 : Int := y718.2.2.2.1
bif decide (0 ≤ i703) then (
bif decide (i703 < (16 : Int)) then (
let a723 : (Nat → Int) := (upd a699 ((Int.toNat i703)) i719)
bif decide (0 ≤ i704) then (
bif decide (i704 < (16 : Int)) then (
let a724 : (Nat → Int) := (upd a723 ((Int.toNat i704)) i720)
bif decide (0 ≤ i705) then (
bif decide (i705 < (16 : Int)) then (
let a725 : (Nat → Int) := (upd a724 ((Int.toNat i705)) i721)
bif decide (0 ≤ i706) then (
bif decide (i706 < (16 : Int)) then (
let a726 : (Nat → Int) := (upd a725 ((Int.toNat i706)) i722)
let i727 : Int := addA .i64 i696 1
rec (((), (), l693, (), (), (), i694, a695, i727, ()), (a697, a698, a726, a700, a701, ()))) else none) else none) else none) else none) else none) else none) else none) else none)) else none) else none) else none) else none) else none) else none) else none) else none) else none) else none) else none) else none) else none) else none) else none) else none) else none) else none) else (
κ0 (((), (), l693, (), (), i694, ()), (a697, a698, a699, a700, ())))
def l_12_17 {R : Type} (N : Nat) : Nat → ((Unit × Unit × (List Int) × Unit × Unit × Unit × Int × (Nat → (Nat → Int)) × Int × Unit) × ((Nat → Int) × (Nat → Int) × (Nat → Int) × (Nat → (Nat → Int)) × (Nat → Int) × Unit)) → (((Unit × Unit × (List Int) × Unit × Unit × Int × Unit) × ((Nat → Int) × (Nat → Int) × (Nat → Int) × (Nat → (Nat → Int)) × Unit)) → Option R) → Option R
  | 0, _, _ => none
  | n + 1, x, κ0 => B_12_17 N (fun y => l_12_17 N n y κ0) x κ0
def lv_12_13 : Live := [(4, none), (8, none), (10, none), (12, none), (14, none), (51, none)]
def pt_12_13 : SPat := ⟨[(4, .ptr 0 []), (8, .ptr 1 []), (10, .ros (.int .u64)), (12, .ptr 2 []), (14, .ptr 3 []), (51, .int .i64)], [some (.vec (.int .u64) 8, 23), some (.vec (.int .u64) 8, 23), some (.vec (.int .u64) 16, 97), some (.vec (.arr 4 (.int .i64)) 8, 99)]⟩
def px_12_13_0 : SPat := ⟨[(4, .ptr 0 []), (8, .ptr 1 []), (12, .ptr 2 [])], [some (.vec (.int .u64) 8, 23), some (.vec (.int .u64) 8, 23), some (.vec (.int .u64) 16, 97)]⟩
def lo_12_13 : Exit → Live
  | .exit 0 => [(4, none), (8, none), (12, none)]
  | _ => []
def B_12_13 {R : Type} (N : Nat) (rec : ((Unit × Unit × (List Int) × Unit × Unit × Int × Unit) × ((Nat → Int) × (Nat → Int) × (Nat → Int) × (Nat → (Nat → Int)) × Unit)) → Option R) (x : ((Unit × Unit × (List Int) × Unit × Unit × Int × Unit) × ((Nat → Int) × (Nat → Int) × (Nat → Int) × (Nat → (Nat → Int)) × Unit))) (κ0 : ((Unit × Unit × Unit × Unit) × ((Nat → Int) × (Nat → Int) × (Nat → Int) × Unit)) → Option R) : Option R :=
let l685 : (List Int) := x.1.2.2.1
let i686 : Int := x.1.2.2.2.2.2.1
let a687 : (Nat → Int) := x.2.1
let a688 : (Nat → Int) := x.2.2.1
let a689 : (Nat → Int) := x.2.2.2.1
let a690 : (Nat → (Nat → Int)) := x.2.2.2.2.1
bif (decide (i686 < 12)) then (
p_19 N ((i686, ()), ()) (fun y691 =>
let a692 : (Nat → Int) := y691
l_12_17 N N (((), (), l685, (), (), (), i686, a690, 0, ()), (a687, a688, a689, a690, a692, ())) (fun y728 =>
let l729 : (List Int) := y728.1.2.2.1
let i730 : Int := y728.1.2.2.2.2.2.1
let a731 : (Nat → Int) := y728.2.1
let a732 : (Nat → Int) := y728.2.2.1
let a733 : (Nat → Int) := y728.2.2.2.1
let a734 : (Nat → (Nat → Int)) := y728.2.2.2.2.1
let i735 : Int := addA .i64 i730 1
rec (((), (), l729, (), (), i735, ()), (a731, a732, a733, a734, ()))))) else (
κ0 (((), (), (), ()), (a687, a688, a689, ())))
def l_12_13 {R : Type} (N : Nat) : Nat → ((Unit × Unit × (List Int) × Unit × Unit × Int × Unit) × ((Nat → Int) × (Nat → Int) × (Nat → Int) × (Nat → (Nat → Int)) × Unit)) → (((Unit × Unit × Unit × Unit) × ((Nat → Int) × (Nat → Int) × (Nat → Int) × Unit)) → Option R) → Option R
  | 0, _, _ => none
  | n + 1, x, κ0 => B_12_13 N (fun y => l_12_13 N n y κ0) x κ0
def lv_12_24 : Live := [(4, none), (8, none), (12, none), (112, none)]
def pt_12_24 : SPat := ⟨[(4, .ptr 0 []), (8, .ptr 1 []), (12, .ptr 2 []), (112, .int .i64)], [some (.vec (.int .u64) 8, 23), some (.vec (.int .u64) 8, 23), some (.vec (.int .u64) 16, 97)]⟩
def px_12_24_0 : SPat := ⟨[(4, .ptr 0 []), (8, .ptr 1 [])], [some (.vec (.int .u64) 8, 23), some (.vec (.int .u64) 8, 23)]⟩
def lo_12_24 : Exit → Live
  | .exit 4 => [(4, none), (8, none)]
  | _ => []
def B_12_24 {R : Type} (N : Nat) (rec : ((Unit × Unit × Unit × Int × Unit) × ((Nat → Int) × (Nat → Int) × (Nat → Int) × Unit)) → Option R) (x : ((Unit × Unit × Unit × Int × Unit) × ((Nat → Int) × (Nat → Int) × (Nat → Int) × Unit))) (κ0 : ((Unit × Unit × Unit) × ((Nat → Int) × (Nat → Int) × Unit)) → Option R) : Option R :=
let i740 : Int := x.1.2.2.2.1
let a741 : (Nat → Int) := x.2.1
let a742 : (Nat → Int) := x.2.2.1
let a743 : (Nat → Int) := x.2.2.2.1
bif (decide (i740 < 8)) then (
bif decide (0 ≤ i740) then (
bif decide (i740 < (8 : Int)) then (
let i744 : Int := (a741 ((Int.toNat i740)))
bif decide (0 ≤ i740) then (
bif decide (i740 < (16 : Int)) then (
let i745 : Int := (a743 ((Int.toNat i740)))
let i746 : Int := addA .i64 i740 8
bif decide (0 ≤ i746) then (
bif decide (i746 < (16 : Int)) then (
let i747 : Int := (a743 ((Int.toNat i746)))
let i748 : Int := xorA .u64 i745 i747
let i749 : Int := xorA .u64 i744 i748
bif decide (0 ≤ i740) then (
bif decide (i740 < (8 : Int)) then (
let a750 : (Nat → Int) := (upd a741 ((Int.toNat i740)) i749)
let i751 : Int := addA .i64 i740 1
rec (((), (), (), i751, ()), (a750, a742, a743, ()))) else none) else none) else none) else none) else none) else none) else none) else none) else (
κ0 (((), (), ()), (a741, a742, ())))
def l_12_24 {R : Type} (N : Nat) : Nat → ((Unit × Unit × Unit × Int × Unit) × ((Nat → Int) × (Nat → Int) × (Nat → Int) × Unit)) → (((Unit × Unit × Unit) × ((Nat → Int) × (Nat → Int) × Unit)) → Option R) → Option R
  | 0, _, _ => none
  | n + 1, x, κ0 => B_12_24 N (fun y => l_12_24 N n y κ0) x κ0
def ap_12 : List Pat := [.vec (.int .u64) 8, .ros (.int .u8), .int .u64, .bool]
def hp_12 : List (Option (Pat × Nat)) := []
def p_12 {R : Type} (N : Nat) (x : ((Nat → Int) × (List Int) × Int × Bool × Unit) × (Unit)) (κ0 : ((Nat → Int) × (Int × Unit)) → Option R) : Option R :=
let a51 : (Nat → Int) := x.1.1
let l52 : (List Int) := x.1.2.1
let i53 : Int := x.1.2.2.1
let b54 : Bool := x.1.2.2.2.1
let i55 : Int := (((List.length l52) : Nat) : Int)
bif (i55 != 128) then (
let a56 : (Nat → Int) := (Sch.zero (.arr 8 (.int .u64)))
κ0 ((a56, (9, ())))) else (
p_45 N ((l52, ()), ()) (fun y80 =>
let l81 : (List Int) := y80.1.1
let i82 : Int := y80.1.2.1
let l83 : (List Int) := ((List.range 8).map fun j => a51 (0 + j))
bif decide (0 < Nat.min (List.length l83) 8) then (
let a84 : (Nat → Int) := copyF ((Sch.zero (.arr 16 (.int .u64)))) 0 (Nat.min (List.length l83) 8) l83 (Sch.zero (.int .u64))
p_15 N ((), ()) (fun y85 =>
let a86 : (Nat → Int) := y85
let l87 : (List Int) := ((List.range 8).map fun j => a86 (0 + j))
bif decide (0 < Nat.min (List.length l87) 8) then (
let a88 : (Nat → Int) := copyF a84 8 (Nat.min (List.length l87) 8) l87 (Sch.zero (.int .u64))
let i89 : Int := (a88 12)
let i90 : Int := xorA .u64 i89 i53
let a91 : (Nat → Int) := (upd a88 12 i90)
bif b54 then (
let i92 : Int := (a91 14)
let i93 : Int := xorA .u64 18446744073709551615 i92
let a94 : (Nat → Int) := (upd a91 14 i93)
p_46 N ((), ()) (fun y104 =>
let a105 : (Nat → (Nat → Int)) := y104
l_12_13 N N (((), (), l81, (), (), 0, ()), (a51, (Sch.zero (.arr 8 (.int .u64))), a94, a105, ())) (fun y210 =>
let a211 : (Nat → Int) := y210.2.1
let a212 : (Nat → Int) := y210.2.2.1
let a213 : (Nat → Int) := y210.2.2.2.1
l_12_24 N N (((), (), (), 0, ()), (a211, a212, a213, ())) (fun y226 =>
let a227 : (Nat → Int) := y226.2.1
let a228 : (Nat → Int) := y226.2.2.1
κ0 ((a227, (0, ()))))))) else (
p_46 N ((), ()) (fun y229 =>
let a230 : (Nat → (Nat → Int)) := y229
l_12_13 N N (((), (), l81, (), (), 0, ()), (a51, (Sch.zero (.arr 8 (.int .u64))), a91, a230, ())) (fun y282 =>
let a283 : (Nat → Int) := y282.2.1
let a284 : (Nat → Int) := y282.2.2.1
let a285 : (Nat → Int) := y282.2.2.2.1
l_12_24 N N (((), (), (), 0, ()), (a283, a284, a285, ())) (fun y298 =>
let a299 : (Nat → Int) := y298.2.1
let a300 : (Nat → Int) := y298.2.2.1
κ0 ((a299, (0, ())))))))) else (
let i301 : Int := (a84 12)
let i302 : Int := xorA .u64 i301 i53
let a303 : (Nat → Int) := (upd a84 12 i302)
bif b54 then (
let i304 : Int := (a303 14)
let i305 : Int := xorA .u64 18446744073709551615 i304
let a306 : (Nat → Int) := (upd a303 14 i305)
p_46 N ((), ()) (fun y307 =>
let a308 : (Nat → (Nat → Int)) := y307
l_12_13 N N (((), (), l81, (), (), 0, ()), (a51, (Sch.zero (.arr 8 (.int .u64))), a306, a308, ())) (fun y360 =>
let a361 : (Nat → Int) := y360.2.1
let a362 : (Nat → Int) := y360.2.2.1
let a363 : (Nat → Int) := y360.2.2.2.1
l_12_24 N N (((), (), (), 0, ()), (a361, a362, a363, ())) (fun y376 =>
let a377 : (Nat → Int) := y376.2.1
let a378 : (Nat → Int) := y376.2.2.1
κ0 ((a377, (0, ()))))))) else (
p_46 N ((), ()) (fun y379 =>
let a380 : (Nat → (Nat → Int)) := y379
l_12_13 N N (((), (), l81, (), (), 0, ()), (a51, (Sch.zero (.arr 8 (.int .u64))), a303, a380, ())) (fun y432 =>
let a433 : (Nat → Int) := y432.2.1
let a434 : (Nat → Int) := y432.2.2.1
let a435 : (Nat → Int) := y432.2.2.2.1
l_12_24 N N (((), (), (), 0, ()), (a433, a434, a435, ())) (fun y448 =>
let a449 : (Nat → Int) := y448.2.1
let a450 : (Nat → Int) := y448.2.2.1
κ0 ((a449, (0, ())))))))))) else (
p_15 N ((), ()) (fun y451 =>
let a452 : (Nat → Int) := y451
let l453 : (List Int) := ((List.range 8).map fun j => a452 (0 + j))
bif decide (0 < Nat.min (List.length l453) 8) then (
let a454 : (Nat → Int) := copyF ((Sch.zero (.arr 16 (.int .u64)))) 8 (Nat.min (List.length l453) 8) l453 (Sch.zero (.int .u64))
let i455 : Int := (a454 12)
let i456 : Int := xorA .u64 i455 i53
let a457 : (Nat → Int) := (upd a454 12 i456)
bif b54 then (
let i458 : Int := (a457 14)
let i459 : Int := xorA .u64 18446744073709551615 i458
let a460 : (Nat → Int) := (upd a457 14 i459)
p_46 N ((), ()) (fun y461 =>
let a462 : (Nat → (Nat → Int)) := y461
l_12_13 N N (((), (), l81, (), (), 0, ()), (a51, (Sch.zero (.arr 8 (.int .u64))), a460, a462, ())) (fun y514 =>
let a515 : (Nat → Int) := y514.2.1
let a516 : (Nat → Int) := y514.2.2.1
let a517 : (Nat → Int) := y514.2.2.2.1
l_12_24 N N (((), (), (), 0, ()), (a515, a516, a517, ())) (fun y530 =>
let a531 : (Nat → Int) := y530.2.1
let a532 : (Nat → Int) := y530.2.2.1
κ0 ((a531, (0, ()))))))) else (
p_46 N ((), ()) (fun y533 =>
let a534 : (Nat → (Nat → Int)) := y533
l_12_13 N N (((), (), l81, (), (), 0, ()), (a51, (Sch.zero (.arr 8 (.int .u64))), a457, a534, ())) (fun y586 =>
let a587 : (Nat → Int) := y586.2.1
let a588 : (Nat → Int) := y586.2.2.1
let a589 : (Nat → Int) := y586.2.2.2.1
l_12_24 N N (((), (), (), 0, ()), (a587, a588, a589, ())) (fun y602 =>
let a603 : (Nat → Int) := y602.2.1
let a604 : (Nat → Int) := y602.2.2.1
κ0 ((a603, (0, ())))))))) else (
let i605 : Int := (((Sch.zero (.arr 16 (.int .u64)))) 12)
let i606 : Int := xorA .u64 i605 i53
let a607 : (Nat → Int) := (upd ((Sch.zero (.arr 16 (.int .u64)))) 12 i606)
bif b54 then (
let i608 : Int := (a607 14)
let i609 : Int := xorA .u64 18446744073709551615 i608
let a610 : (Nat → Int) := (upd a607 14 i609)
p_46 N ((), ()) (fun y611 =>
let a612 : (Nat → (Nat → Int)) := y611
l_12_13 N N (((), (), l81, (), (), 0, ()), (a51, (Sch.zero (.arr 8 (.int .u64))), a610, a612, ())) (fun y664 =>
let a665 : (Nat → Int) := y664.2.1
let a666 : (Nat → Int) := y664.2.2.1
let a667 : (Nat → Int) := y664.2.2.2.1
l_12_24 N N (((), (), (), 0, ()), (a665, a666, a667, ())) (fun y680 =>
let a681 : (Nat → Int) := y680.2.1
let a682 : (Nat → Int) := y680.2.2.1
κ0 ((a681, (0, ()))))))) else (
p_46 N ((), ()) (fun y683 =>
let a684 : (Nat → (Nat → Int)) := y683
l_12_13 N N (((), (), l81, (), (), 0, ()), (a51, (Sch.zero (.arr 8 (.int .u64))), a607, a684, ())) (fun y736 =>
let a737 : (Nat → Int) := y736.2.1
let a738 : (Nat → Int) := y736.2.2.1
let a739 : (Nat → Int) := y736.2.2.2.1
l_12_24 N N (((), (), (), 0, ()), (a737, a738, a739, ())) (fun y752 =>
let a753 : (Nat → Int) := y752.2.1
let a754 : (Nat → Int) := y752.2.2.1
κ0 ((a753, (0, ()))))))))))))

abbrev Tl_12_17 (R : Type) : Type := ((Unit × Unit × (List Int) × Unit × Unit × Unit × Int × (Nat → (Nat → Int)) × Int × Unit) × ((Nat → Int) × (Nat → Int) × (Nat → Int) × (Nat → (Nat → Int)) × (Nat → Int) × Unit)) → (((Unit × Unit × (List Int) × Unit × Unit × Int × Unit) × ((Nat → Int) × (Nat → Int) × (Nat → Int) × (Nat → (Nat → Int)) × Unit)) → Option R) → Option R
abbrev Tl_12_13 (R : Type) : Type := ((Unit × Unit × (List Int) × Unit × Unit × Int × Unit) × ((Nat → Int) × (Nat → Int) × (Nat → Int) × (Nat → (Nat → Int)) × Unit)) → (((Unit × Unit × Unit × Unit) × ((Nat → Int) × (Nat → Int) × (Nat → Int) × Unit)) → Option R) → Option R
abbrev Tl_12_24 (R : Type) : Type := ((Unit × Unit × Unit × Int × Unit) × ((Nat → Int) × (Nat → Int) × (Nat → Int) × Unit)) → (((Unit × Unit × Unit) × ((Nat → Int) × (Nat → Int) × Unit)) → Option R) → Option R
abbrev Tp_12 (R : Type) : Type := ((Nat → Int) × (List Int) × Int × Bool × Unit) × (Unit) → (((Nat → Int) × (Int × Unit)) → Option R) → Option R
def Q_12 {R : Type} (q_45 : Tp_45 R) (q_15 : Tp_15 R) (q_46 : Tp_46 R) (q_17 : Tp_17 R) (q_19 : Tp_19 R) (m_12_17 : Tl_12_17 R) (m_12_13 : Tl_12_13 R) (m_12_24 : Tl_12_24 R) (x : ((Nat → Int) × (List Int) × Int × Bool × Unit) × (Unit)) (κ0 : ((Nat → Int) × (Int × Unit)) → Option R) : Option R :=
let a51 : (Nat → Int) := x.1.1
let l52 : (List Int) := x.1.2.1
let i53 : Int := x.1.2.2.1
let b54 : Bool := x.1.2.2.2.1
let i55 : Int := (((List.length l52) : Nat) : Int)
bif (i55 != 128) then (
let a56 : (Nat → Int) := (Sch.zero (.arr 8 (.int .u64)))
κ0 ((a56, (9, ())))) else (
q_45 ((l52, ()), ()) (fun y80 =>
let l81 : (List Int) := y80.1.1
let i82 : Int := y80.1.2.1
let l83 : (List Int) := ((List.range 8).map fun j => a51 (0 + j))
bif decide (0 < Nat.min (List.length l83) 8) then (
let a84 : (Nat → Int) := copyF ((Sch.zero (.arr 16 (.int .u64)))) 0 (Nat.min (List.length l83) 8) l83 (Sch.zero (.int .u64))
q_15 ((), ()) (fun y85 =>
let a86 : (Nat → Int) := y85
let l87 : (List Int) := ((List.range 8).map fun j => a86 (0 + j))
bif decide (0 < Nat.min (List.length l87) 8) then (
let a88 : (Nat → Int) := copyF a84 8 (Nat.min (List.length l87) 8) l87 (Sch.zero (.int .u64))
let i89 : Int := (a88 12)
let i90 : Int := xorA .u64 i89 i53
let a91 : (Nat → Int) := (upd a88 12 i90)
bif b54 then (
let i92 : Int := (a91 14)
let i93 : Int := xorA .u64 18446744073709551615 i92
let a94 : (Nat → Int) := (upd a91 14 i93)
q_46 ((), ()) (fun y104 =>
let a105 : (Nat → (Nat → Int)) := y104
m_12_13 (((), (), l81, (), (), 0, ()), (a51, (Sch.zero (.arr 8 (.int .u64))), a94, a105, ())) (fun y210 =>
let a211 : (Nat → Int) := y210.2.1
let a212 : (Nat → Int) := y210.2.2.1
let a213 : (Nat → Int) := y210.2.2.2.1
m_12_24 (((), (), (), 0, ()), (a211, a212, a213, ())) (fun y226 =>
let a227 : (Nat → Int) := y226.2.1
let a228 : (Nat → Int) := y226.2.2.1
κ0 ((a227, (0, ()))))))) else (
q_46 ((), ()) (fun y229 =>
let a230 : (Nat → (Nat → Int)) := y229
m_12_13 (((), (), l81, (), (), 0, ()), (a51, (Sch.zero (.arr 8 (.int .u64))), a91, a230, ())) (fun y282 =>
let a283 : (Nat → Int) := y282.2.1
let a284 : (Nat → Int) := y282.2.2.1
let a285 : (Nat → Int) := y282.2.2.2.1
m_12_24 (((), (), (), 0, ()), (a283, a284, a285, ())) (fun y298 =>
let a299 : (Nat → Int) := y298.2.1
let a300 : (Nat → Int) := y298.2.2.1
κ0 ((a299, (0, ())))))))) else (
let i301 : Int := (a84 12)
let i302 : Int := xorA .u64 i301 i53
let a303 : (Nat → Int) := (upd a84 12 i302)
bif b54 then (
let i304 : Int := (a303 14)
let i305 : Int := xorA .u64 18446744073709551615 i304
let a306 : (Nat → Int) := (upd a303 14 i305)
q_46 ((), ()) (fun y307 =>
let a308 : (Nat → (Nat → Int)) := y307
m_12_13 (((), (), l81, (), (), 0, ()), (a51, (Sch.zero (.arr 8 (.int .u64))), a306, a308, ())) (fun y360 =>
let a361 : (Nat → Int) := y360.2.1
let a362 : (Nat → Int) := y360.2.2.1
let a363 : (Nat → Int) := y360.2.2.2.1
m_12_24 (((), (), (), 0, ()), (a361, a362, a363, ())) (fun y376 =>
let a377 : (Nat → Int) := y376.2.1
let a378 : (Nat → Int) := y376.2.2.1
κ0 ((a377, (0, ()))))))) else (
q_46 ((), ()) (fun y379 =>
let a380 : (Nat → (Nat → Int)) := y379
m_12_13 (((), (), l81, (), (), 0, ()), (a51, (Sch.zero (.arr 8 (.int .u64))), a303, a380, ())) (fun y432 =>
let a433 : (Nat → Int) := y432.2.1
let a434 : (Nat → Int) := y432.2.2.1
let a435 : (Nat → Int) := y432.2.2.2.1
m_12_24 (((), (), (), 0, ()), (a433, a434, a435, ())) (fun y448 =>
let a449 : (Nat → Int) := y448.2.1
let a450 : (Nat → Int) := y448.2.2.1
κ0 ((a449, (0, ())))))))))) else (
q_15 ((), ()) (fun y451 =>
let a452 : (Nat → Int) := y451
let l453 : (List Int) := ((List.range 8).map fun j => a452 (0 + j))
bif decide (0 < Nat.min (List.length l453) 8) then (
let a454 : (Nat → Int) := copyF ((Sch.zero (.arr 16 (.int .u64)))) 8 (Nat.min (List.length l453) 8) l453 (Sch.zero (.int .u64))
let i455 : Int := (a454 12)
let i456 : Int := xorA .u64 i455 i53
let a457 : (Nat → Int) := (upd a454 12 i456)
bif b54 then (
let i458 : Int := (a457 14)
let i459 : Int := xorA .u64 18446744073709551615 i458
let a460 : (Nat → Int) := (upd a457 14 i459)
q_46 ((), ()) (fun y461 =>
let a462 : (Nat → (Nat → Int)) := y461
m_12_13 (((), (), l81, (), (), 0, ()), (a51, (Sch.zero (.arr 8 (.int .u64))), a460, a462, ())) (fun y514 =>
let a515 : (Nat → Int) := y514.2.1
let a516 : (Nat → Int) := y514.2.2.1
let a517 : (Nat → Int) := y514.2.2.2.1
m_12_24 (((), (), (), 0, ()), (a515, a516, a517, ())) (fun y530 =>
let a531 : (Nat → Int) := y530.2.1
let a532 : (Nat → Int) := y530.2.2.1
κ0 ((a531, (0, ()))))))) else (
q_46 ((), ()) (fun y533 =>
let a534 : (Nat → (Nat → Int)) := y533
m_12_13 (((), (), l81, (), (), 0, ()), (a51, (Sch.zero (.arr 8 (.int .u64))), a457, a534, ())) (fun y586 =>
let a587 : (Nat → Int) := y586.2.1
let a588 : (Nat → Int) := y586.2.2.1
let a589 : (Nat → Int) := y586.2.2.2.1
m_12_24 (((), (), (), 0, ()), (a587, a588, a589, ())) (fun y602 =>
let a603 : (Nat → Int) := y602.2.1
let a604 : (Nat → Int) := y602.2.2.1
κ0 ((a603, (0, ())))))))) else (
let i605 : Int := (((Sch.zero (.arr 16 (.int .u64)))) 12)
let i606 : Int := xorA .u64 i605 i53
let a607 : (Nat → Int) := (upd ((Sch.zero (.arr 16 (.int .u64)))) 12 i606)
bif b54 then (
let i608 : Int := (a607 14)
let i609 : Int := xorA .u64 18446744073709551615 i608
let a610 : (Nat → Int) := (upd a607 14 i609)
q_46 ((), ()) (fun y611 =>
let a612 : (Nat → (Nat → Int)) := y611
m_12_13 (((), (), l81, (), (), 0, ()), (a51, (Sch.zero (.arr 8 (.int .u64))), a610, a612, ())) (fun y664 =>
let a665 : (Nat → Int) := y664.2.1
let a666 : (Nat → Int) := y664.2.2.1
let a667 : (Nat → Int) := y664.2.2.2.1
m_12_24 (((), (), (), 0, ()), (a665, a666, a667, ())) (fun y680 =>
let a681 : (Nat → Int) := y680.2.1
let a682 : (Nat → Int) := y680.2.2.1
κ0 ((a681, (0, ()))))))) else (
q_46 ((), ()) (fun y683 =>
let a684 : (Nat → (Nat → Int)) := y683
m_12_13 (((), (), l81, (), (), 0, ()), (a51, (Sch.zero (.arr 8 (.int .u64))), a607, a684, ())) (fun y736 =>
let a737 : (Nat → Int) := y736.2.1
let a738 : (Nat → Int) := y736.2.2.1
let a739 : (Nat → Int) := y736.2.2.2.1
m_12_24 (((), (), (), 0, ()), (a737, a738, a739, ())) (fun y752 =>
let a753 : (Nat → Int) := y752.2.1
let a754 : (Nat → Int) := y752.2.2.1
κ0 ((a753, (0, ()))))))))))))
def C_12_17 {R : Type} (q_45 : Tp_45 R) (q_15 : Tp_15 R) (q_46 : Tp_46 R) (q_17 : Tp_17 R) (q_19 : Tp_19 R) (m_12_17 : Tl_12_17 R) (m_12_13 : Tl_12_13 R) (m_12_24 : Tl_12_24 R) (rec : ((Unit × Unit × (List Int) × Unit × Unit × Unit × Int × (Nat → (Nat → Int)) × Int × Unit) × ((Nat → Int) × (Nat → Int) × (Nat → Int) × (Nat → (Nat → Int)) × (Nat → Int) × Unit)) → Option R) (x : ((Unit × Unit × (List Int) × Unit × Unit × Unit × Int × (Nat → (Nat → Int)) × Int × Unit) × ((Nat → Int) × (Nat → Int) × (Nat → Int) × (Nat → (Nat → Int)) × (Nat → Int) × Unit))) (κ0 : ((Unit × Unit × (List Int) × Unit × Unit × Int × Unit) × ((Nat → Int) × (Nat → Int) × (Nat → Int) × (Nat → (Nat → Int)) × Unit)) → Option R) : Option R :=
let l693 : (List Int) := x.1.2.2.1
let i694 : Int := x.1.2.2.2.2.2.2.1
let a695 : (Nat → (Nat → Int)) := x.1.2.2.2.2.2.2.2.1
let i696 : Int := x.1.2.2.2.2.2.2.2.2.1
let a697 : (Nat → Int) := x.2.1
let a698 : (Nat → Int) := x.2.2.1
let a699 : (Nat → Int) := x.2.2.2.1
let a700 : (Nat → (Nat → Int)) := x.2.2.2.2.1
let a701 : (Nat → Int) := x.2.2.2.2.2.1
bif (decide (i696 < 8)) then (
bif decide (0 ≤ i696) then (
bif decide (i696 < (8 : Int)) then (
let a702 : (Nat → Int) := (a695 ((Int.toNat i696)))
let i703 : Int := (a702 0)
let i704 : Int := (a702 1)
let i705 : Int := (a702 2)
let i706 : Int := (a702 3)
bif decide (0 ≤ i703) then (
bif decide (i703 < (16 : Int)) then (
let i707 : Int := (a699 ((Int.toNat i703)))
bif decide (0 ≤ i704) then (
bif decide (i704 < (16 : Int)) then (
let i708 : Int := (a699 ((Int.toNat i704)))
bif decide (0 ≤ i705) then (
bif decide (i705 < (16 : Int)) then (
let i709 : Int := (a699 ((Int.toNat i705)))
bif decide (0 ≤ i706) then (
bif decide (i706 < (16 : Int)) then (
let i710 : Int := (a699 ((Int.toNat i706)))
let i711 : Int := mulA .i64 2 i696
bif decide (0 ≤ i711) then (
bif decide (i711 < (16 : Int)) then (
let i712 : Int := (a701 ((Int.toNat i711)))
bif decide (0 ≤ i712) then (
bif decide (i712 < ((List.length l693) : Int)) then (
let p713 : Int := (List.getD l693 ((Int.toNat i712)) (Sch.zero (.int .u64)))
let i714 : Int := mulA .i64 2 i696
let i715 : Int := addA .i64 i714 1
bif decide (0 ≤ i715) then (
bif decide (i715 < (16 : Int)) then (
let i716 : Int := (a701 ((Int.toNat i715)))
bif decide (0 ≤ i716) then (
bif decide (i716 < ((List.length l693) : Int)) then (
let p717 : Int := (List.getD l693 ((Int.toNat i716)) (Sch.zero (.int .u64)))
q_17 ((i707, i708, i709, i710, p713, p717, ()), ()) (fun y718 =>
let i719 : Int := y718.1
let i720 : Int := y718.2.1
let i721 : Int := y718.2.2.1
let i722 : Int := y718.2.2.2.1
bif decide (0 ≤ i703) then (
bif decide (i703 < (16 : Int)) then (
let a723 : (Nat → Int) := (upd a699 ((Int.toNat i703)) i719)
bif decide (0 ≤ i704) then (
bif decide (i704 < (16 : Int)) then (
let a724 : (Nat → Int) := (upd a723 ((Int.toNat i704)) i720)
bif decide (0 ≤ i705) then (
bif decide (i705 < (16 : Int)) then (
let a725 : (Nat → Int) := (upd a724 ((Int.toNat i705)) i721)
bif decide (0 ≤ i706) then (
bif decide (i706 < (16 : Int)) then (
let a726 : (Nat → Int) := (upd a725 ((Int.toNat i706)) i722)
let i727 : Int := addA .i64 i696 1
rec (((), (), l693, (), (), (), i694, a695, i727, ()), (a697, a698, a726, a700, a701, ()))) else none) else none) else none) else none) else none) else none) else none) else none)) else none) else none) else none) else none) else none) else none) else none) else none) else none) else none) else none) else none) else none) else none) else none) else none) else none) else none) else (
κ0 (((), (), l693, (), (), i694, ()), (a697, a698, a699, a700, ())))
def C_12_13 {R : Type} (q_45 : Tp_45 R) (q_15 : Tp_15 R) (q_46 : Tp_46 R) (q_17 : Tp_17 R) (q_19 : Tp_19 R) (m_12_17 : Tl_12_17 R) (m_12_13 : Tl_12_13 R) (m_12_24 : Tl_12_24 R) (rec : ((Unit × Unit × (List Int) × Unit × Unit × Int × Unit) × ((Nat → Int) × (Nat → Int) × (Nat → Int) × (Nat → (Nat → Int)) × Unit)) → Option R) (x : ((Unit × Unit × (List Int) × Unit × Unit × Int × Unit) × ((Nat → Int) × (Nat → Int) × (Nat → Int) × (Nat → (Nat → Int)) × Unit))) (κ0 : ((Unit × Unit × Unit × Unit) × ((Nat → Int) × (Nat → Int) × (Nat → Int) × Unit)) → Option R) : Option R :=
let l685 : (List Int) := x.1.2.2.1
let i686 : Int := x.1.2.2.2.2.2.1
let a687 : (Nat → Int) := x.2.1
let a688 : (Nat → Int) := x.2.2.1
let a689 : (Nat → Int) := x.2.2.2.1
let a690 : (Nat → (Nat → Int)) := x.2.2.2.2.1
bif (decide (i686 < 12)) then (
q_19 ((i686, ()), ()) (fun y691 =>
let a692 : (Nat → Int) := y691
m_12_17 (((), (), l685, (), (), (), i686, a690, 0, ()), (a687, a688, a689, a690, a692, ())) (fun y728 =>
let l729 : (List Int) := y728.1.2.2.1
let i730 : Int := y728.1.2.2.2.2.2.1
let a731 : (Nat → Int) := y728.2.1
let a732 : (Nat → Int) := y728.2.2.1
let a733 : (Nat → Int) := y728.2.2.2.1
let a734 : (Nat → (Nat → Int)) := y728.2.2.2.2.1
let i735 : Int := addA .i64 i730 1
rec (((), (), l729, (), (), i735, ()), (a731, a732, a733, a734, ()))))) else (
κ0 (((), (), (), ()), (a687, a688, a689, ())))
def C_12_24 {R : Type} (q_45 : Tp_45 R) (q_15 : Tp_15 R) (q_46 : Tp_46 R) (q_17 : Tp_17 R) (q_19 : Tp_19 R) (m_12_17 : Tl_12_17 R) (m_12_13 : Tl_12_13 R) (m_12_24 : Tl_12_24 R) (rec : ((Unit × Unit × Unit × Int × Unit) × ((Nat → Int) × (Nat → Int) × (Nat → Int) × Unit)) → Option R) (x : ((Unit × Unit × Unit × Int × Unit) × ((Nat → Int) × (Nat → Int) × (Nat → Int) × Unit))) (κ0 : ((Unit × Unit × Unit) × ((Nat → Int) × (Nat → Int) × Unit)) → Option R) : Option R :=
let i740 : Int := x.1.2.2.2.1
let a741 : (Nat → Int) := x.2.1
let a742 : (Nat → Int) := x.2.2.1
let a743 : (Nat → Int) := x.2.2.2.1
bif (decide (i740 < 8)) then (
bif decide (0 ≤ i740) then (
bif decide (i740 < (8 : Int)) then (
let i744 : Int := (a741 ((Int.toNat i740)))
bif decide (0 ≤ i740) then (
bif decide (i740 < (16 : Int)) then (
let i745 : Int := (a743 ((Int.toNat i740)))
let i746 : Int := addA .i64 i740 8
bif decide (0 ≤ i746) then (
bif decide (i746 < (16 : Int)) then (
let i747 : Int := (a743 ((Int.toNat i746)))
let i748 : Int := xorA .u64 i745 i747
let i749 : Int := xorA .u64 i744 i748
bif decide (0 ≤ i740) then (
bif decide (i740 < (8 : Int)) then (
let a750 : (Nat → Int) := (upd a741 ((Int.toNat i740)) i749)
let i751 : Int := addA .i64 i740 1
rec (((), (), (), i751, ()), (a750, a742, a743, ()))) else none) else none) else none) else none) else none) else none) else none) else none) else (
κ0 (((), (), ()), (a741, a742, ())))
def EG_12 {R : Type} (q_45 : Tp_45 R) (q_15 : Tp_15 R) (q_46 : Tp_46 R) (q_17 : Tp_17 R) (q_19 : Tp_19 R) : Env R := (((((Env.base QQ LN).add 45 ap_45 hp_45 (fun (x : aden ap_45 × hden hp_45) k => q_45 x (fun y => k (Pat.inst (.tup (.fcons (.ros (.int .u64)) (.fcons (.int .i64) (.fnil)))) y.1) (instH [] y.2)))).add 15 ap_15 hp_15 (fun (x : aden ap_15 × hden hp_15) k => q_15 x (fun y => k (Pat.inst (.vec (.int .u64) 8) y) (instH hp_15 x.2)))).add 46 ap_46 hp_46 (fun (x : aden ap_46 × hden hp_46) k => q_46 x (fun y => k (Pat.inst (.vec (.arr 4 (.int .i64)) 8) y) (instH hp_46 x.2)))).add 17 ap_17 hp_17 (fun (x : aden ap_17 × hden hp_17) k => q_17 x (fun y => k (Pat.inst (.tup (.fcons (.int .u64) (.fcons (.int .u64) (.fcons (.int .u64) (.fcons (.int .u64) (.fnil)))))) y) (instH hp_17 x.2)))).add 19 ap_19 hp_19 (fun (x : aden ap_19 × hden hp_19) k => q_19 x (fun y => k (Pat.inst (.vec (.int .i64) 16) y) (instH hp_19 x.2)))
def LG_12 {R : Type} (m_12_17 : Tl_12_17 R) (m_12_13 : Tl_12_13 R) (m_12_24 : Tl_12_24 R) : Loops R := (((Loops.none).add 17 (loopBy 0 lv_12_17 pt_12_17 (fun x k => m_12_17 x (fun y => k (.exit 2) (px_12_17_0.inst y))))).add 13 (loopBy 0 lv_12_13 pt_12_13 (fun x k => m_12_13 x (fun y => k (.exit 0) (px_12_13_0.inst y))))).add 24 (loopBy 0 lv_12_24 pt_12_24 (fun x k => m_12_24 x (fun y => k (.exit 4) (px_12_24_0.inst y))))
def E_12 {R : Type} (N : Nat) : Env R := EG_12 (p_45 N) (p_15 N) (p_46 N) (p_17 N) (p_19 N)
theorem eok_12 {R : Type} (N : Nat) : EK Try.prog (E_12 (R := R) N) := ek_add (ek_add (ek_add (ek_add (ek_add (ek_base _ _) (good_45 N)) (good_15 N)) (good_46 N)) (good_17 N)) (good_19 N)
def L_12 {R : Type} (N : Nat) : Loops R := LG_12 (l_12_17 N N) (l_12_13 N N) (l_12_24 N N)
theorem gstep_12_17 {R : Type} (q_45 : Tp_45 R) (q_15 : Tp_15 R) (q_46 : Tp_46 R) (q_17 : Tp_17 R) (q_19 : Tp_19 R) (m_12_17 : Tl_12_17 R) (m_12_13 : Tl_12_13 R) (m_12_24 : Tl_12_24 R) (n : Nat) (x : pt_12_17.den) (k : Exit → St → Option R) : iter 0 lv_12_17 lo_12_17 (aexec TT (EG_12 q_45 q_15 q_46 q_17 q_19) (drawAny TT WW) (LG_12 m_12_17 m_12_13 m_12_24) (loopAt 17 (bodyOf Try.f12))) (n + 1) (pt_12_17.inst x) k = C_12_17 q_45 q_15 q_46 q_17 q_19 m_12_17 m_12_13 m_12_24 (fun y => iter 0 lv_12_17 lo_12_17 (aexec TT (EG_12 q_45 q_15 q_46 q_17 q_19) (drawAny TT WW) (LG_12 m_12_17 m_12_13 m_12_24) (loopAt 17 (bodyOf Try.f12))) n (pt_12_17.inst y) k) x (fun y => k (.exit 2) (px_12_17_0.inst y)) := by kernel_rfl
theorem step_12_17 {R : Type} (N n : Nat) (x : pt_12_17.den) (k : Exit → St → Option R) : iter 0 lv_12_17 lo_12_17 (aexec TT (E_12 (R := R) N) (drawAny TT WW) (L_12 N) (loopAt 17 (bodyOf Try.f12))) (n + 1) (pt_12_17.inst x) k = B_12_17 N (fun y => iter 0 lv_12_17 lo_12_17 (aexec TT (E_12 (R := R) N) (drawAny TT WW) (L_12 N) (loopAt 17 (bodyOf Try.f12))) n (pt_12_17.inst y) k) x (fun y => k (.exit 2) (px_12_17_0.inst y)) := (gstep_12_17 (p_45 N) (p_15 N) (p_46 N) (p_17 N) (p_19 N) (l_12_17 N N) (l_12_13 N N) (l_12_24 N N) n x k).trans (by kernel_rfl)
theorem eq_12_17 {R : Type} (N : Nat) : ∀ (n : Nat) (x : pt_12_17.den) (k : Exit → St → Option R), iter 0 lv_12_17 lo_12_17 (aexec TT (E_12 (R := R) N) (drawAny TT WW) (L_12 N) (loopAt 17 (bodyOf Try.f12))) n (pt_12_17.inst x) k = l_12_17 N n x (fun y => k (.exit 2) (px_12_17_0.inst y)) :=
  iter_eq (K := Exit → St → Option R) (ks := fun k => k) (l := fun n (x : pt_12_17.den) k => l_12_17 N n x (fun y => k (.exit 2) (px_12_17_0.inst y))) (B := fun (rec : pt_12_17.den → Option R) (x : pt_12_17.den) k => B_12_17 N rec x (fun y => k (.exit 2) (px_12_17_0.inst y))) (fun _ _ => rfl) (fun _ _ _ => rfl) (fun n x k => step_12_17 N n x k)
theorem rounds_12_17 {R : Type} (N : Nat) : Rounds 0 TT (E_12 (R := R) N) (drawAny TT WW) (L_12 N) 17 (loopAt 17 (bodyOf Try.f12)) :=
  rounds_of (p := pt_12_17) (l := fun (x : pt_12_17.den) k => l_12_17 N N x (fun y => k (.exit 2) (px_12_17_0.inst y))) (fun s k => rfl) (fun x k => eq_12_17 N N x k)
theorem gstep_12_13 {R : Type} (q_45 : Tp_45 R) (q_15 : Tp_15 R) (q_46 : Tp_46 R) (q_17 : Tp_17 R) (q_19 : Tp_19 R) (m_12_17 : Tl_12_17 R) (m_12_13 : Tl_12_13 R) (m_12_24 : Tl_12_24 R) (n : Nat) (x : pt_12_13.den) (k : Exit → St → Option R) : iter 0 lv_12_13 lo_12_13 (aexec TT (EG_12 q_45 q_15 q_46 q_17 q_19) (drawAny TT WW) (LG_12 m_12_17 m_12_13 m_12_24) (loopAt 13 (bodyOf Try.f12))) (n + 1) (pt_12_13.inst x) k = C_12_13 q_45 q_15 q_46 q_17 q_19 m_12_17 m_12_13 m_12_24 (fun y => iter 0 lv_12_13 lo_12_13 (aexec TT (EG_12 q_45 q_15 q_46 q_17 q_19) (drawAny TT WW) (LG_12 m_12_17 m_12_13 m_12_24) (loopAt 13 (bodyOf Try.f12))) n (pt_12_13.inst y) k) x (fun y => k (.exit 0) (px_12_13_0.inst y)) := by kernel_rfl
theorem step_12_13 {R : Type} (N n : Nat) (x : pt_12_13.den) (k : Exit → St → Option R) : iter 0 lv_12_13 lo_12_13 (aexec TT (E_12 (R := R) N) (drawAny TT WW) (L_12 N) (loopAt 13 (bodyOf Try.f12))) (n + 1) (pt_12_13.inst x) k = B_12_13 N (fun y => iter 0 lv_12_13 lo_12_13 (aexec TT (E_12 (R := R) N) (drawAny TT WW) (L_12 N) (loopAt 13 (bodyOf Try.f12))) n (pt_12_13.inst y) k) x (fun y => k (.exit 0) (px_12_13_0.inst y)) := (gstep_12_13 (p_45 N) (p_15 N) (p_46 N) (p_17 N) (p_19 N) (l_12_17 N N) (l_12_13 N N) (l_12_24 N N) n x k).trans (by kernel_rfl)
theorem eq_12_13 {R : Type} (N : Nat) : ∀ (n : Nat) (x : pt_12_13.den) (k : Exit → St → Option R), iter 0 lv_12_13 lo_12_13 (aexec TT (E_12 (R := R) N) (drawAny TT WW) (L_12 N) (loopAt 13 (bodyOf Try.f12))) n (pt_12_13.inst x) k = l_12_13 N n x (fun y => k (.exit 0) (px_12_13_0.inst y)) :=
  iter_eq (K := Exit → St → Option R) (ks := fun k => k) (l := fun n (x : pt_12_13.den) k => l_12_13 N n x (fun y => k (.exit 0) (px_12_13_0.inst y))) (B := fun (rec : pt_12_13.den → Option R) (x : pt_12_13.den) k => B_12_13 N rec x (fun y => k (.exit 0) (px_12_13_0.inst y))) (fun _ _ => rfl) (fun _ _ _ => rfl) (fun n x k => step_12_13 N n x k)
theorem rounds_12_13 {R : Type} (N : Nat) : Rounds 0 TT (E_12 (R := R) N) (drawAny TT WW) (L_12 N) 13 (loopAt 13 (bodyOf Try.f12)) :=
  rounds_of (p := pt_12_13) (l := fun (x : pt_12_13.den) k => l_12_13 N N x (fun y => k (.exit 0) (px_12_13_0.inst y))) (fun s k => rfl) (fun x k => eq_12_13 N N x k)
theorem gstep_12_24 {R : Type} (q_45 : Tp_45 R) (q_15 : Tp_15 R) (q_46 : Tp_46 R) (q_17 : Tp_17 R) (q_19 : Tp_19 R) (m_12_17 : Tl_12_17 R) (m_12_13 : Tl_12_13 R) (m_12_24 : Tl_12_24 R) (n : Nat) (x : pt_12_24.den) (k : Exit → St → Option R) : iter 0 lv_12_24 lo_12_24 (aexec TT (EG_12 q_45 q_15 q_46 q_17 q_19) (drawAny TT WW) (LG_12 m_12_17 m_12_13 m_12_24) (loopAt 24 (bodyOf Try.f12))) (n + 1) (pt_12_24.inst x) k = C_12_24 q_45 q_15 q_46 q_17 q_19 m_12_17 m_12_13 m_12_24 (fun y => iter 0 lv_12_24 lo_12_24 (aexec TT (EG_12 q_45 q_15 q_46 q_17 q_19) (drawAny TT WW) (LG_12 m_12_17 m_12_13 m_12_24) (loopAt 24 (bodyOf Try.f12))) n (pt_12_24.inst y) k) x (fun y => k (.exit 4) (px_12_24_0.inst y)) := by kernel_rfl
theorem step_12_24 {R : Type} (N n : Nat) (x : pt_12_24.den) (k : Exit → St → Option R) : iter 0 lv_12_24 lo_12_24 (aexec TT (E_12 (R := R) N) (drawAny TT WW) (L_12 N) (loopAt 24 (bodyOf Try.f12))) (n + 1) (pt_12_24.inst x) k = B_12_24 N (fun y => iter 0 lv_12_24 lo_12_24 (aexec TT (E_12 (R := R) N) (drawAny TT WW) (L_12 N) (loopAt 24 (bodyOf Try.f12))) n (pt_12_24.inst y) k) x (fun y => k (.exit 4) (px_12_24_0.inst y)) := (gstep_12_24 (p_45 N) (p_15 N) (p_46 N) (p_17 N) (p_19 N) (l_12_17 N N) (l_12_13 N N) (l_12_24 N N) n x k).trans (by kernel_rfl)
theorem eq_12_24 {R : Type} (N : Nat) : ∀ (n : Nat) (x : pt_12_24.den) (k : Exit → St → Option R), iter 0 lv_12_24 lo_12_24 (aexec TT (E_12 (R := R) N) (drawAny TT WW) (L_12 N) (loopAt 24 (bodyOf Try.f12))) n (pt_12_24.inst x) k = l_12_24 N n x (fun y => k (.exit 4) (px_12_24_0.inst y)) :=
  iter_eq (K := Exit → St → Option R) (ks := fun k => k) (l := fun n (x : pt_12_24.den) k => l_12_24 N n x (fun y => k (.exit 4) (px_12_24_0.inst y))) (B := fun (rec : pt_12_24.den → Option R) (x : pt_12_24.den) k => B_12_24 N rec x (fun y => k (.exit 4) (px_12_24_0.inst y))) (fun _ _ => rfl) (fun _ _ _ => rfl) (fun n x k => step_12_24 N n x k)
theorem rounds_12_24 {R : Type} (N : Nat) : Rounds 0 TT (E_12 (R := R) N) (drawAny TT WW) (L_12 N) 24 (loopAt 24 (bodyOf Try.f12)) :=
  rounds_of (p := pt_12_24) (l := fun (x : pt_12_24.den) k => l_12_24 N N x (fun y => k (.exit 4) (px_12_24_0.inst y))) (fun s k => rfl) (fun x k => eq_12_24 N N x k)
theorem loops_12 : loopsIn (bodyOf Try.f12) = [(13, loopAt 13 (bodyOf Try.f12)), (17, loopAt 17 (bodyOf Try.f12)), (24, loopAt 24 (bodyOf Try.f12))] := by kernel_rfl
theorem lok_12 {R : Type} (N : Nat) : LOK 0 TT (E_12 (R := R) N) (drawAny TT WW) (L_12 N) (bodyOf Try.f12) := loops_all loops_12 (by
  simp only [List.forall_mem_cons, List.not_mem_nil, false_implies, implies_true, and_true]
  exact ⟨rounds_12_13 N, rounds_12_17 N, rounds_12_24 N⟩)
theorem grun_12 {R : Type} (q_45 : Tp_45 R) (q_15 : Tp_15 R) (q_46 : Tp_46 R) (q_17 : Tp_17 R) (q_19 : Tp_19 R) (m_12_17 : Tl_12_17 R) (m_12_13 : Tl_12_13 R) (m_12_24 : Tl_12_24 R) (x : aden ap_12 × hden hp_12) (k : KF R) : fnrun TT (EG_12 q_45 q_15 q_46 q_17 q_19) (drawAny TT WW) (LG_12 m_12_17 m_12_13 m_12_24) true Try.f12 (instA ap_12 x.1) (instH hp_12 x.2) k = Q_12 q_45 q_15 q_46 q_17 q_19 m_12_17 m_12_13 m_12_24 x (fun y => k (Pat.inst (.tup (.fcons (.vec (.int .u64) 8) (.fcons (.int .i64) (.fnil)))) y) (instH hp_12 x.2)) := by kernel_rfl
theorem run_12 {R : Type} (N : Nat) (x : aden ap_12 × hden hp_12) (k : KF R) : fnrun TT (E_12 (R := R) N) (drawAny TT WW) (L_12 N) true Try.f12 (instA ap_12 x.1) (instH hp_12 x.2) k = p_12 N x (fun y => k (Pat.inst (.tup (.fcons (.vec (.int .u64) 8) (.fcons (.int .i64) (.fnil)))) y) (instH hp_12 x.2)) := (grun_12 (p_45 N) (p_15 N) (p_46 N) (p_17 N) (p_19 N) (l_12_17 N N) (l_12_13 N N) (l_12_24 N N) x k).trans (by kernel_rfl)
theorem good_12 {R : Type} (N : Nat) : GD (X := R) Try.prog QQ 12 ap_12 hp_12 (fun (x : aden ap_12 × hden hp_12) k => p_12 N x (fun y => k (Pat.inst (.tup (.fcons (.vec (.int .u64) 8) (.fcons (.int .i64) (.fnil)))) y) (instH hp_12 x.2))) :=
  gd_quiet (E := E_12 N) (p := fun (x : aden ap_12 × hden hp_12) κ => p_12 N x (fun y => κ (Pat.inst (.tup (.fcons (.vec (.int .u64) 8) (.fcons (.int .i64) (.fnil)))) y))) mixed tyok (eok_12 N) Try.func12 (by kernel_rfl) (by kernel_rfl) (lok_12 N) (fun x k => run_12 N x k)

def lv_26_4 : Live := [(0, none), (14, none), (15, none), (16, none)]
def pt_26_4 : SPat := ⟨[(0, .ptr 0 []), (14, .ros (.sl (.int .u8))), (15, .int .i64), (16, .int .i64)], [some (.node (.fcons (.nilp) (.fcons (.vec (.int .u64) 8) (.fcons (.int .i64) (.fcons (.int .u64) (.fnil))))), 115), some (.lst (.str), 9)]⟩
def px_26_4_0 : SPat := ⟨[(0, .ptr 0 [])], [some (.node (.fcons (.nilp) (.fcons (.vec (.int .u64) 8) (.fcons (.int .i64) (.fcons (.int .u64) (.fnil))))), 115), some (.lst (.str), 9)]⟩
def lo_26_4 : Exit → Live
  | .exit 0 => [(0, none)]
  | _ => []
def B_26_4 {R : Type} (N : Nat) (rec : ((Unit × (List (List Int)) × Int × Int × Unit) × ((Unit × ((Nat → Int) × (Int × (Int × Unit)))) × (List ByteArray) × Unit)) → Option R) (x : ((Unit × (List (List Int)) × Int × Int × Unit) × ((Unit × ((Nat → Int) × (Int × (Int × Unit)))) × (List ByteArray) × Unit))) (κ0 : ((Unit × Unit) × ((Unit × ((Nat → Int) × (Int × (Int × Unit)))) × (List ByteArray) × Unit)) → Option R) : Option R :=
let l42 : (List (List Int)) := x.1.2.1
let i43 : Int := x.1.2.2.1
let i44 : Int := x.1.2.2.2.1
let a45 : (Nat → Int) := x.2.1.2.1
let i46 : Int := x.2.1.2.2.1
let i47 : Int := x.2.1.2.2.2.1
let l48 : (List ByteArray) := x.2.2.1
bif (decide (i44 < i43)) then (
bif decide (0 ≤ i44) then (
bif decide (i44 < ((List.length l42) : Int)) then (
let p49 : (List Int) := (List.getD l42 ((Int.toNat i44)) (Sch.zero (.sl (.int .u8))))
let i50 : Int := addA .u64 i47 128
p_12 N ((a45, p49, i50, false, ()), ()) (fun y755 =>
let a756 : (Nat → Int) := y755.1
let i757 : Int := y755.2.1
let i758 : Int := addA .i64 i44 1
rec (((), l42, i43, i758, ()), (((), (a756, (i46, (i50, ())))), l48, ())))) else none) else none) else (
κ0 (((), ()), (((), (a45, (i46, (i47, ())))), l48, ())))
def l_26_4 {R : Type} (N : Nat) : Nat → ((Unit × (List (List Int)) × Int × Int × Unit) × ((Unit × ((Nat → Int) × (Int × (Int × Unit)))) × (List ByteArray) × Unit)) → (((Unit × Unit) × ((Unit × ((Nat → Int) × (Int × (Int × Unit)))) × (List ByteArray) × Unit)) → Option R) → Option R
  | 0, _, _ => none
  | n + 1, x, κ0 => B_26_4 N (fun y => l_26_4 N n y κ0) x κ0
def ap_26 : List Pat := [.ptr 0 [], .sl 1]
def hp_26 : List (Option (Pat × Nat)) := [some (.node (.fcons (.nilp) (.fcons (.vec (.int .u64) 8) (.fcons (.int .i64) (.fcons (.int .u64) (.fnil))))), 115), some (.lst (.str), 9)]
def p_26 {R : Type} (N : Nat) (x : (Unit × Unit × Unit) × ((Unit × ((Nat → Int) × (Int × (Int × Unit)))) × (List ByteArray) × Unit)) (κ0 : (Unit × ((Unit × ((Nat → Int) × (Int × (Int × Unit)))) × (List ByteArray) × Unit)) → Option R) : Option R :=
let a33 : (Nat → Int) := x.2.1.2.1
let i34 : Int := x.2.1.2.2.1
let i35 : Int := x.2.1.2.2.2.1
let l36 : (List ByteArray) := x.2.2.1
p_57 N (((), (), ()), (l36, ())) (fun y38 =>
let l39 : (List (List Int)) := y38.1
let l40 : (List ByteArray) := y38.2.1
let i41 : Int := (((List.length l39) : Nat) : Int)
l_26_4 N N (((), l39, i41, 0, ()), (((), (a33, (i34, (i35, ())))), l40, ())) (fun y759 =>
let a760 : (Nat → Int) := y759.2.1.2.1
let i761 : Int := y759.2.1.2.2.1
let i762 : Int := y759.2.1.2.2.2.1
let l763 : (List ByteArray) := y759.2.2.1
κ0 ((), (((), (a760, (i761, (i762, ())))), l763, ()))))

abbrev Tl_26_4 (R : Type) : Type := ((Unit × (List (List Int)) × Int × Int × Unit) × ((Unit × ((Nat → Int) × (Int × (Int × Unit)))) × (List ByteArray) × Unit)) → (((Unit × Unit) × ((Unit × ((Nat → Int) × (Int × (Int × Unit)))) × (List ByteArray) × Unit)) → Option R) → Option R
abbrev Tp_26 (R : Type) : Type := (Unit × Unit × Unit) × ((Unit × ((Nat → Int) × (Int × (Int × Unit)))) × (List ByteArray) × Unit) → ((Unit × ((Unit × ((Nat → Int) × (Int × (Int × Unit)))) × (List ByteArray) × Unit)) → Option R) → Option R
def Q_26 {R : Type} (q_57 : Tp_57 R) (q_12 : Tp_12 R) (m_26_4 : Tl_26_4 R) (x : (Unit × Unit × Unit) × ((Unit × ((Nat → Int) × (Int × (Int × Unit)))) × (List ByteArray) × Unit)) (κ0 : (Unit × ((Unit × ((Nat → Int) × (Int × (Int × Unit)))) × (List ByteArray) × Unit)) → Option R) : Option R :=
let a33 : (Nat → Int) := x.2.1.2.1
let i34 : Int := x.2.1.2.2.1
let i35 : Int := x.2.1.2.2.2.1
let l36 : (List ByteArray) := x.2.2.1
q_57 (((), (), ()), (l36, ())) (fun y38 =>
let l39 : (List (List Int)) := y38.1
let l40 : (List ByteArray) := y38.2.1
let i41 : Int := (((List.length l39) : Nat) : Int)
m_26_4 (((), l39, i41, 0, ()), (((), (a33, (i34, (i35, ())))), l40, ())) (fun y759 =>
let a760 : (Nat → Int) := y759.2.1.2.1
let i761 : Int := y759.2.1.2.2.1
let i762 : Int := y759.2.1.2.2.2.1
let l763 : (List ByteArray) := y759.2.2.1
κ0 ((), (((), (a760, (i761, (i762, ())))), l763, ()))))
def C_26_4 {R : Type} (q_57 : Tp_57 R) (q_12 : Tp_12 R) (m_26_4 : Tl_26_4 R) (rec : ((Unit × (List (List Int)) × Int × Int × Unit) × ((Unit × ((Nat → Int) × (Int × (Int × Unit)))) × (List ByteArray) × Unit)) → Option R) (x : ((Unit × (List (List Int)) × Int × Int × Unit) × ((Unit × ((Nat → Int) × (Int × (Int × Unit)))) × (List ByteArray) × Unit))) (κ0 : ((Unit × Unit) × ((Unit × ((Nat → Int) × (Int × (Int × Unit)))) × (List ByteArray) × Unit)) → Option R) : Option R :=
let l42 : (List (List Int)) := x.1.2.1
let i43 : Int := x.1.2.2.1
let i44 : Int := x.1.2.2.2.1
let a45 : (Nat → Int) := x.2.1.2.1
let i46 : Int := x.2.1.2.2.1
let i47 : Int := x.2.1.2.2.2.1
let l48 : (List ByteArray) := x.2.2.1
bif (decide (i44 < i43)) then (
bif decide (0 ≤ i44) then (
bif decide (i44 < ((List.length l42) : Int)) then (
let p49 : (List Int) := (List.getD l42 ((Int.toNat i44)) (Sch.zero (.sl (.int .u8))))
let i50 : Int := addA .u64 i47 128
q_12 ((a45, p49, i50, false, ()), ()) (fun y755 =>
let a756 : (Nat → Int) := y755.1
let i757 : Int := y755.2.1
let i758 : Int := addA .i64 i44 1
rec (((), l42, i43, i758, ()), (((), (a756, (i46, (i50, ())))), l48, ())))) else none) else none) else (
κ0 (((), ()), (((), (a45, (i46, (i47, ())))), l48, ())))
def EG_26 {R : Type} (q_57 : Tp_57 R) (q_12 : Tp_12 R) : Env R := ((Env.base QQ LN).add 57 ap_57 hp_57 (fun (x : aden ap_57 × hden hp_57) k => q_57 x (fun y => k (Pat.inst (.ros (.sl (.int .u8))) y.1) (instH [some (.lst (.str), 9)] y.2)))).add 12 ap_12 hp_12 (fun (x : aden ap_12 × hden hp_12) k => q_12 x (fun y => k (Pat.inst (.tup (.fcons (.vec (.int .u64) 8) (.fcons (.int .i64) (.fnil)))) y) (instH hp_12 x.2)))
def LG_26 {R : Type} (m_26_4 : Tl_26_4 R) : Loops R := (Loops.none).add 4 (loopBy 2 lv_26_4 pt_26_4 (fun x k => m_26_4 x (fun y => k (.exit 0) (px_26_4_0.inst y))))
def E_26 {R : Type} (N : Nat) : Env R := EG_26 (p_57 N) (p_12 N)
theorem eok_26 {R : Type} (N : Nat) : EK Try.prog (E_26 (R := R) N) := ek_add (ek_add (ek_base _ _) (good_57 N)) (good_12 N)
def L_26 {R : Type} (N : Nat) : Loops R := LG_26 (l_26_4 N N)
theorem gstep_26_4 {R : Type} (q_57 : Tp_57 R) (q_12 : Tp_12 R) (m_26_4 : Tl_26_4 R) (n : Nat) (x : pt_26_4.den) (k : Exit → St → Option R) : iter 2 lv_26_4 lo_26_4 (aexec TT (EG_26 q_57 q_12) (drawAny TT WW) (LG_26 m_26_4) (loopAt 4 (bodyOf Try.f26))) (n + 1) (pt_26_4.inst x) k = C_26_4 q_57 q_12 m_26_4 (fun y => iter 2 lv_26_4 lo_26_4 (aexec TT (EG_26 q_57 q_12) (drawAny TT WW) (LG_26 m_26_4) (loopAt 4 (bodyOf Try.f26))) n (pt_26_4.inst y) k) x (fun y => k (.exit 0) (px_26_4_0.inst y)) := by kernel_rfl
theorem step_26_4 {R : Type} (N n : Nat) (x : pt_26_4.den) (k : Exit → St → Option R) : iter 2 lv_26_4 lo_26_4 (aexec TT (E_26 (R := R) N) (drawAny TT WW) (L_26 N) (loopAt 4 (bodyOf Try.f26))) (n + 1) (pt_26_4.inst x) k = B_26_4 N (fun y => iter 2 lv_26_4 lo_26_4 (aexec TT (E_26 (R := R) N) (drawAny TT WW) (L_26 N) (loopAt 4 (bodyOf Try.f26))) n (pt_26_4.inst y) k) x (fun y => k (.exit 0) (px_26_4_0.inst y)) := (gstep_26_4 (p_57 N) (p_12 N) (l_26_4 N N) n x k).trans (by kernel_rfl)
theorem eq_26_4 {R : Type} (N : Nat) : ∀ (n : Nat) (x : pt_26_4.den) (k : Exit → St → Option R), iter 2 lv_26_4 lo_26_4 (aexec TT (E_26 (R := R) N) (drawAny TT WW) (L_26 N) (loopAt 4 (bodyOf Try.f26))) n (pt_26_4.inst x) k = l_26_4 N n x (fun y => k (.exit 0) (px_26_4_0.inst y)) :=
  iter_eq (K := Exit → St → Option R) (ks := fun k => k) (l := fun n (x : pt_26_4.den) k => l_26_4 N n x (fun y => k (.exit 0) (px_26_4_0.inst y))) (B := fun (rec : pt_26_4.den → Option R) (x : pt_26_4.den) k => B_26_4 N rec x (fun y => k (.exit 0) (px_26_4_0.inst y))) (fun _ _ => rfl) (fun _ _ _ => rfl) (fun n x k => step_26_4 N n x k)
theorem rounds_26_4 {R : Type} (N : Nat) : Rounds 2 TT (E_26 (R := R) N) (drawAny TT WW) (L_26 N) 4 (loopAt 4 (bodyOf Try.f26)) :=
  rounds_of (p := pt_26_4) (l := fun (x : pt_26_4.den) k => l_26_4 N N x (fun y => k (.exit 0) (px_26_4_0.inst y))) (fun s k => rfl) (fun x k => eq_26_4 N N x k)
theorem loops_26 : loopsIn (bodyOf Try.f26) = [(4, loopAt 4 (bodyOf Try.f26))] := by kernel_rfl
theorem lok_26 {R : Type} (N : Nat) : LOK 2 TT (E_26 (R := R) N) (drawAny TT WW) (L_26 N) (bodyOf Try.f26) := loops_all loops_26 (by
  simp only [List.forall_mem_cons, List.not_mem_nil, false_implies, implies_true, and_true]
  exact rounds_26_4 N)
theorem grun_26 {R : Type} (q_57 : Tp_57 R) (q_12 : Tp_12 R) (m_26_4 : Tl_26_4 R) (x : aden ap_26 × hden hp_26) (k : KF R) : fnrun TT (EG_26 q_57 q_12) (drawAny TT WW) (LG_26 m_26_4) true Try.f26 (instA ap_26 x.1) (instH hp_26 x.2) k = Q_26 q_57 q_12 m_26_4 x (fun y => k (Pat.inst (.ptr 0 []) y.1) (instH [some (.node (.fcons (.nilp) (.fcons (.vec (.int .u64) 8) (.fcons (.int .i64) (.fcons (.int .u64) (.fnil))))), 115), some (.lst (.str), 9)] y.2)) := by kernel_rfl
theorem run_26 {R : Type} (N : Nat) (x : aden ap_26 × hden hp_26) (k : KF R) : fnrun TT (E_26 (R := R) N) (drawAny TT WW) (L_26 N) true Try.f26 (instA ap_26 x.1) (instH hp_26 x.2) k = p_26 N x (fun y => k (Pat.inst (.ptr 0 []) y.1) (instH [some (.node (.fcons (.nilp) (.fcons (.vec (.int .u64) 8) (.fcons (.int .i64) (.fcons (.int .u64) (.fnil))))), 115), some (.lst (.str), 9)] y.2)) := (grun_26 (p_57 N) (p_12 N) (l_26_4 N N) x k).trans (by kernel_rfl)
theorem good_26 {R : Type} (N : Nat) : GD (X := R) Try.prog QQ 26 ap_26 hp_26 (fun (x : aden ap_26 × hden hp_26) k => p_26 N x (fun y => k (Pat.inst (.ptr 0 []) y.1) (instH [some (.node (.fcons (.nilp) (.fcons (.vec (.int .u64) 8) (.fcons (.int .i64) (.fcons (.int .u64) (.fnil))))), 115), some (.lst (.str), 9)] y.2))) :=
  gd_loud (E := E_26 N) (p := fun (x : aden ap_26 × hden hp_26) k => p_26 N x (fun y => k (Pat.inst (.ptr 0 []) y.1) (instH [some (.node (.fcons (.nilp) (.fcons (.vec (.int .u64) 8) (.fcons (.int .i64) (.fcons (.int .u64) (.fnil))))), 115), some (.lst (.str), 9)] y.2))) mixed tyok (eok_26 N) Try.func26 (by kernel_rfl) (by kernel_rfl) (by kernel_rfl) (lok_26 N) (fun x k => run_26 N x k)

def ap_82 : List Pat := [.ptr 0 []]
def hp_82 : List (Option (Pat × Nat)) := [some (.node (.fcons (.int .i64) (.fcons (.bool) (.fcons (.sl 1) (.fcons (.int .i64) (.fnil))))), 151), some (.lst (.int .u8), 5)]
def p_82 {R : Type} (N : Nat) (x : (Unit × Unit) × ((Int × (Bool × (Unit × (Int × Unit)))) × (List Int) × Unit)) (κ0 : Bool → Option R) : Option R :=
let i823 : Int := x.2.1.1
let b824 : Bool := x.2.1.2.1
let i825 : Int := x.2.1.2.2.2.1
let l826 : (List Int) := x.2.2.1
bif b824 then (
let i827 : Int := (((List.length l826) : Nat) : Int)
κ0 ((decide (i827 > i823)))) else (
let i828 : Int := (((List.length l826) : Nat) : Int)
κ0 ((decide (i828 ≥ i823))))

abbrev Tp_82 (R : Type) : Type := (Unit × Unit) × ((Int × (Bool × (Unit × (Int × Unit)))) × (List Int) × Unit) → (Bool → Option R) → Option R
def Q_82 {R : Type} (x : (Unit × Unit) × ((Int × (Bool × (Unit × (Int × Unit)))) × (List Int) × Unit)) (κ0 : Bool → Option R) : Option R :=
let i823 : Int := x.2.1.1
let b824 : Bool := x.2.1.2.1
let i825 : Int := x.2.1.2.2.2.1
let l826 : (List Int) := x.2.2.1
bif b824 then (
let i827 : Int := (((List.length l826) : Nat) : Int)
κ0 ((decide (i827 > i823)))) else (
let i828 : Int := (((List.length l826) : Nat) : Int)
κ0 ((decide (i828 ≥ i823))))
def EG_82 {R : Type} : Env R := Env.base QQ LN
def LG_82 {R : Type} : Loops R := Loops.none
def E_82 {R : Type} (N : Nat) : Env R := EG_82
theorem eok_82 {R : Type} (N : Nat) : EK Try.prog (E_82 (R := R) N) := ek_base _ _
def L_82 {R : Type} (N : Nat) : Loops R := LG_82
theorem lok_82 {R : Type} (N : Nat) : LOK 2 TT (E_82 (R := R) N) (drawAny TT WW) (L_82 N) (bodyOf Try.f82) := loops_nil (by kernel_rfl)
theorem grun_82 {R : Type} (x : aden ap_82 × hden hp_82) (k : KF R) : fnrun TT (EG_82) (drawAny TT WW) (LG_82) true Try.f82 (instA ap_82 x.1) (instH hp_82 x.2) k = Q_82 x (fun y => k (Pat.inst (.bool) y) (instH hp_82 x.2)) := by kernel_rfl
theorem run_82 {R : Type} (N : Nat) (x : aden ap_82 × hden hp_82) (k : KF R) : fnrun TT (E_82 (R := R) N) (drawAny TT WW) (L_82 N) true Try.f82 (instA ap_82 x.1) (instH hp_82 x.2) k = p_82 N x (fun y => k (Pat.inst (.bool) y) (instH hp_82 x.2)) := (grun_82 x k).trans (by kernel_rfl)
theorem good_82 {R : Type} (N : Nat) : GD (X := R) Try.prog QQ 82 ap_82 hp_82 (fun (x : aden ap_82 × hden hp_82) k => p_82 N x (fun y => k (Pat.inst (.bool) y) (instH hp_82 x.2))) :=
  gd_quiet (E := E_82 N) (p := fun (x : aden ap_82 × hden hp_82) κ => p_82 N x (fun y => κ (Pat.inst (.bool) y))) mixed tyok (eok_82 N) Try.func82 (by kernel_rfl) (by kernel_rfl) (lok_82 N) (fun x k => run_82 N x k)

def lv_57_v1_9 : Live := [(0, none), (5, some (.sl (.int .u8), 24)), (17, none), (18, none), (19, none)]
def pt_57_v1_9 : SPat := ⟨[(0, .ptr 0 []), (5, .sl 4), (17, .sl 2), (18, .int .i64), (19, .int .i64)], [some (.node (.fcons (.int .i64) (.fcons (.bool) (.fcons (.sl 3) (.fcons (.int .i64) (.fnil))))), 151), none, some (.lst (.str), 9), some (.lst (.int .u8), 5), some (.lst (.sl (.int .u8)), 24)]⟩
def px_57_v1_9_0 : SPat := ⟨[(0, .ptr 0 []), (5, .sl 4), (17, .sl 2), (18, .int .i64), (19, .int .i64)], [some (.node (.fcons (.int .i64) (.fcons (.bool) (.fcons (.sl 3) (.fcons (.int .i64) (.fnil))))), 151), none, some (.lst (.str), 9), some (.lst (.int .u8), 5), some (.lst (.sl (.int .u8)), 24)]⟩
def lo_57_v1_9 : Exit → Live
  | .exit 2 => [(0, none), (5, none), (17, none), (18, none), (19, none)]
  | _ => []
def B_57_v1_9 {R : Type} (N : Nat) (rec : ((Unit × Unit × Unit × Int × Int × Unit) × ((Int × (Bool × (Unit × (Int × Unit)))) × (List ByteArray) × (List Int) × (List (List Int)) × Unit)) → Option R) (x : ((Unit × Unit × Unit × Int × Int × Unit) × ((Int × (Bool × (Unit × (Int × Unit)))) × (List ByteArray) × (List Int) × (List (List Int)) × Unit))) (κ0 : ((Unit × Unit × Unit × Int × Int × Unit) × ((Int × (Bool × (Unit × (Int × Unit)))) × (List ByteArray) × (List Int) × (List (List Int)) × Unit)) → Option R) : Option R :=
let i906 : Int := x.1.2.2.2.1
let i907 : Int := x.1.2.2.2.2.1
let i908 : Int := x.2.1.1
let b909 : Bool := x.2.1.2.1
let i910 : Int := x.2.1.2.2.2.1
let l911 : (List ByteArray) := x.2.2.1
let l912 : (List Int) := x.2.2.2.1
let l913 : (List (List Int)) := x.2.2.2.2.1
p_82 N (((), ()), ((i908, (b909, ((), (i910, ())))), l912, ())) (fun y914 =>
let b915 : Bool := y914
bif b915 then (
bif decide (0 ≤ i908) then (
bif decide (i908 ≤ (((List.length l912) : Nat) : Int)) then (
bif decide (0 ≤ i908) then (
bif decide (List.length ((List.take (((Int.toNat i908) - 0)) (List.drop 0 l912))) * 1 ≤ 140737488355328) then (
let l916 : (List Int) := (List.take (((Int.toNat i908) - 0)) (List.drop 0 l912))
let l917 : (List (List Int)) := [l916]
bif (decide ((List.length l913 + List.length l917) * 24 ≤ 140737488355328) && true) then (
let l918 : (List (List Int)) := (l913 ++ l917)
bif decide (0 ≤ (((List.length l912) : Nat) : Int)) then (
bif decide ((((List.length l912) : Nat) : Int) ≤ (((List.length l912) : Nat) : Int)) then (
bif decide (0 ≤ i908) then (
bif decide (i908 ≤ (((List.length l912) : Nat) : Int)) then (
bif decide (0 < ((List.length l912) - (Int.toNat i908))) then (
let l919 : (List Int) := List.take (((List.length l912) - (Int.toNat i908))) (List.drop ((Int.toNat i908)) l912)
rec (((), (), (), i906, i907, ()), ((i908, (b909, ((), (i910, ())))), l911, l919, l918, ()))) else none) else none) else none) else none) else none) else none) else none) else none) else none) else none) else (
κ0 (((), (), (), i906, i907, ()), ((i908, (b909, ((), (i910, ())))), l911, l912, l913, ()))))
def l_57_v1_9 {R : Type} (N : Nat) : Nat → ((Unit × Unit × Unit × Int × Int × Unit) × ((Int × (Bool × (Unit × (Int × Unit)))) × (List ByteArray) × (List Int) × (List (List Int)) × Unit)) → (((Unit × Unit × Unit × Int × Int × Unit) × ((Int × (Bool × (Unit × (Int × Unit)))) × (List ByteArray) × (List Int) × (List (List Int)) × Unit)) → Option R) → Option R
  | 0, _, _ => none
  | n + 1, x, κ0 => B_57_v1_9 N (fun y => l_57_v1_9 N n y κ0) x κ0
def lv_57_v1_5 : Live := [(0, some (.fnil, 2)), (5, some (.sl (.int .u8), 24)), (17, none), (18, none), (19, none)]
def pt_57_v1_5 : SPat := ⟨[(0, .ptr 0 []), (5, .sl 4), (17, .sl 2), (18, .int .i64), (19, .int .i64)], [some (.node (.fcons (.int .i64) (.fcons (.bool) (.fcons (.sl 3) (.fcons (.int .i64) (.fnil))))), 151), none, some (.lst (.str), 9), some (.lst (.int .u8), 5), some (.lst (.sl (.int .u8)), 24)]⟩
def px_57_v1_5_0 : SPat := ⟨[(0, .ptr 0 []), (5, .sl 4)], [some (.node (.fcons (.int .i64) (.fcons (.bool) (.fcons (.sl 3) (.fcons (.int .i64) (.fnil))))), 151), none, some (.lst (.str), 9), some (.lst (.int .u8), 5), some (.lst (.sl (.int .u8)), 24)]⟩
def lo_57_v1_5 : Exit → Live
  | .exit 0 => [(0, none), (5, none)]
  | _ => []
def B_57_v1_5 {R : Type} (N : Nat) (rec : ((Unit × Unit × Unit × Int × Int × Unit) × ((Int × (Bool × (Unit × (Int × Unit)))) × (List ByteArray) × (List Int) × (List (List Int)) × Unit)) → Option R) (x : ((Unit × Unit × Unit × Int × Int × Unit) × ((Int × (Bool × (Unit × (Int × Unit)))) × (List ByteArray) × (List Int) × (List (List Int)) × Unit))) (κ0 : ((Unit × Unit × Unit) × ((Int × (Bool × (Unit × (Int × Unit)))) × (List ByteArray) × (List Int) × (List (List Int)) × Unit)) → Option R) : Option R :=
let i894 : Int := x.1.2.2.2.1
let i895 : Int := x.1.2.2.2.2.1
let i896 : Int := x.2.1.1
let b897 : Bool := x.2.1.2.1
let i898 : Int := x.2.1.2.2.2.1
let l899 : (List ByteArray) := x.2.2.1
let l900 : (List Int) := x.2.2.2.1
let l901 : (List (List Int)) := x.2.2.2.2.1
bif (decide (i895 < i894)) then (
bif decide (0 ≤ i895) then (
bif decide (i895 < ((List.length l899) : Int)) then (
let s902 : ByteArray := (List.getD l899 ((Int.toNat i895)) (Sch.zero (.str)))
let i903 : Int := ((ByteArray.size s902 : Nat) : Int)
let i904 : Int := addA .i64 i898 i903
bif (decide ((List.length l900 + List.length (strList s902)) * 1 ≤ 140737488355328) && true) then (
let l905 : (List Int) := (l900 ++ strList s902)
l_57_v1_9 N N (((), (), (), i894, i895, ()), ((i896, (b897, ((), (i904, ())))), l899, l905, l901, ())) (fun y920 =>
let i921 : Int := y920.1.2.2.2.1
let i922 : Int := y920.1.2.2.2.2.1
let i923 : Int := y920.2.1.1
let b924 : Bool := y920.2.1.2.1
let i925 : Int := y920.2.1.2.2.2.1
let l926 : (List ByteArray) := y920.2.2.1
let l927 : (List Int) := y920.2.2.2.1
let l928 : (List (List Int)) := y920.2.2.2.2.1
let i929 : Int := addA .i64 i922 1
rec (((), (), (), i921, i929, ()), ((i923, (b924, ((), (i925, ())))), l926, l927, l928, ())))) else none) else none) else none) else (
κ0 (((), (), ()), ((i896, (b897, ((), (i898, ())))), l899, l900, l901, ())))
def l_57_v1_5 {R : Type} (N : Nat) : Nat → ((Unit × Unit × Unit × Int × Int × Unit) × ((Int × (Bool × (Unit × (Int × Unit)))) × (List ByteArray) × (List Int) × (List (List Int)) × Unit)) → (((Unit × Unit × Unit) × ((Int × (Bool × (Unit × (Int × Unit)))) × (List ByteArray) × (List Int) × (List (List Int)) × Unit)) → Option R) → Option R
  | 0, _, _ => none
  | n + 1, x, κ0 => B_57_v1_5 N (fun y => l_57_v1_5 N n y κ0) x κ0
def ap_57_v1 : List Pat := [.ptr 0 [], .sl 2]
def hp_57_v1 : List (Option (Pat × Nat)) := [some (.node (.fcons (.int .i64) (.fcons (.bool) (.fcons (.sl 1) (.fcons (.int .i64) (.fnil))))), 151), some (.lst (.int .u8), 5), some (.lst (.str), 9)]
def p_57_v1 {R : Type} (N : Nat) (x : (Unit × Unit × Unit) × ((Int × (Bool × (Unit × (Int × Unit)))) × (List Int) × (List ByteArray) × Unit)) (κ0 : ((List (List Int)) × ((Int × (Bool × (Unit × (Int × Unit)))) × (List Int) × (List ByteArray) × Unit)) → Option R) (κ1 : ((List (List Int)) × ((Int × (Bool × (Unit × (Int × Unit)))) × (List ByteArray) × (List Int) × Unit)) → Option R) : Option R :=
let i799 : Int := x.2.1.1
let b800 : Bool := x.2.1.2.1
let i801 : Int := x.2.1.2.2.2.1
let l802 : (List Int) := x.2.2.1
let l803 : (List ByteArray) := x.2.2.2.1
bif (i799 == 0) then (
κ0 ([], ((i799, (b800, ((), (i801, ())))), l802, l803, ()))) else (
let i804 : Int := (((List.length l803) : Nat) : Int)
l_57_v1_5 N N (((), (), (), i804, 0, ()), ((i799, (b800, ((), (i801, ())))), l803, l802, [], ())) (fun y930 =>
let i931 : Int := y930.2.1.1
let b932 : Bool := y930.2.1.2.1
let i933 : Int := y930.2.1.2.2.2.1
let l934 : (List ByteArray) := y930.2.2.1
let l935 : (List Int) := y930.2.2.2.1
let l936 : (List (List Int)) := y930.2.2.2.2.1
bif decide (List.length l935 * 1 ≤ 140737488355328) then (
κ1 (l936, ((i931, (b932, ((), (i933, ())))), l934, l935, ()))) else none))

abbrev Tl_57_v1_9 (R : Type) : Type := ((Unit × Unit × Unit × Int × Int × Unit) × ((Int × (Bool × (Unit × (Int × Unit)))) × (List ByteArray) × (List Int) × (List (List Int)) × Unit)) → (((Unit × Unit × Unit × Int × Int × Unit) × ((Int × (Bool × (Unit × (Int × Unit)))) × (List ByteArray) × (List Int) × (List (List Int)) × Unit)) → Option R) → Option R
abbrev Tl_57_v1_5 (R : Type) : Type := ((Unit × Unit × Unit × Int × Int × Unit) × ((Int × (Bool × (Unit × (Int × Unit)))) × (List ByteArray) × (List Int) × (List (List Int)) × Unit)) → (((Unit × Unit × Unit) × ((Int × (Bool × (Unit × (Int × Unit)))) × (List ByteArray) × (List Int) × (List (List Int)) × Unit)) → Option R) → Option R
abbrev Tp_57_v1 (R : Type) : Type := (Unit × Unit × Unit) × ((Int × (Bool × (Unit × (Int × Unit)))) × (List Int) × (List ByteArray) × Unit) → (((List (List Int)) × ((Int × (Bool × (Unit × (Int × Unit)))) × (List Int) × (List ByteArray) × Unit)) → Option R) → (((List (List Int)) × ((Int × (Bool × (Unit × (Int × Unit)))) × (List ByteArray) × (List Int) × Unit)) → Option R) → Option R
def Q_57_v1 {R : Type} (q_82 : Tp_82 R) (m_57_v1_9 : Tl_57_v1_9 R) (m_57_v1_5 : Tl_57_v1_5 R) (x : (Unit × Unit × Unit) × ((Int × (Bool × (Unit × (Int × Unit)))) × (List Int) × (List ByteArray) × Unit)) (κ0 : ((List (List Int)) × ((Int × (Bool × (Unit × (Int × Unit)))) × (List Int) × (List ByteArray) × Unit)) → Option R) (κ1 : ((List (List Int)) × ((Int × (Bool × (Unit × (Int × Unit)))) × (List ByteArray) × (List Int) × Unit)) → Option R) : Option R :=
let i799 : Int := x.2.1.1
let b800 : Bool := x.2.1.2.1
let i801 : Int := x.2.1.2.2.2.1
let l802 : (List Int) := x.2.2.1
let l803 : (List ByteArray) := x.2.2.2.1
bif (i799 == 0) then (
κ0 ([], ((i799, (b800, ((), (i801, ())))), l802, l803, ()))) else (
let i804 : Int := (((List.length l803) : Nat) : Int)
m_57_v1_5 (((), (), (), i804, 0, ()), ((i799, (b800, ((), (i801, ())))), l803, l802, [], ())) (fun y930 =>
let i931 : Int := y930.2.1.1
let b932 : Bool := y930.2.1.2.1
let i933 : Int := y930.2.1.2.2.2.1
let l934 : (List ByteArray) := y930.2.2.1
let l935 : (List Int) := y930.2.2.2.1
let l936 : (List (List Int)) := y930.2.2.2.2.1
bif decide (List.length l935 * 1 ≤ 140737488355328) then (
κ1 (l936, ((i931, (b932, ((), (i933, ())))), l934, l935, ()))) else none))
def C_57_v1_9 {R : Type} (q_82 : Tp_82 R) (m_57_v1_9 : Tl_57_v1_9 R) (m_57_v1_5 : Tl_57_v1_5 R) (rec : ((Unit × Unit × Unit × Int × Int × Unit) × ((Int × (Bool × (Unit × (Int × Unit)))) × (List ByteArray) × (List Int) × (List (List Int)) × Unit)) → Option R) (x : ((Unit × Unit × Unit × Int × Int × Unit) × ((Int × (Bool × (Unit × (Int × Unit)))) × (List ByteArray) × (List Int) × (List (List Int)) × Unit))) (κ0 : ((Unit × Unit × Unit × Int × Int × Unit) × ((Int × (Bool × (Unit × (Int × Unit)))) × (List ByteArray) × (List Int) × (List (List Int)) × Unit)) → Option R) : Option R :=
let i906 : Int := x.1.2.2.2.1
let i907 : Int := x.1.2.2.2.2.1
let i908 : Int := x.2.1.1
let b909 : Bool := x.2.1.2.1
let i910 : Int := x.2.1.2.2.2.1
let l911 : (List ByteArray) := x.2.2.1
let l912 : (List Int) := x.2.2.2.1
let l913 : (List (List Int)) := x.2.2.2.2.1
q_82 (((), ()), ((i908, (b909, ((), (i910, ())))), l912, ())) (fun y914 =>
let b915 : Bool := y914
bif b915 then (
bif decide (0 ≤ i908) then (
bif decide (i908 ≤ (((List.length l912) : Nat) : Int)) then (
bif decide (0 ≤ i908) then (
bif decide (List.length ((List.take (((Int.toNat i908) - 0)) (List.drop 0 l912))) * 1 ≤ 140737488355328) then (
let l916 : (List Int) := (List.take (((Int.toNat i908) - 0)) (List.drop 0 l912))
let l917 : (List (List Int)) := [l916]
bif (decide ((List.length l913 + List.length l917) * 24 ≤ 140737488355328) && true) then (
let l918 : (List (List Int)) := (l913 ++ l917)
bif decide (0 ≤ (((List.length l912) : Nat) : Int)) then (
bif decide ((((List.length l912) : Nat) : Int) ≤ (((List.length l912) : Nat) : Int)) then (
bif decide (0 ≤ i908) then (
bif decide (i908 ≤ (((List.length l912) : Nat) : Int)) then (
bif decide (0 < ((List.length l912) - (Int.toNat i908))) then (
let l919 : (List Int) := List.take (((List.length l912) - (Int.toNat i908))) (List.drop ((Int.toNat i908)) l912)
rec (((), (), (), i906, i907, ()), ((i908, (b909, ((), (i910, ())))), l911, l919, l918, ()))) else none) else none) else none) else none) else none) else none) else none) else none) else none) else none) else (
κ0 (((), (), (), i906, i907, ()), ((i908, (b909, ((), (i910, ())))), l911, l912, l913, ()))))
def C_57_v1_5 {R : Type} (q_82 : Tp_82 R) (m_57_v1_9 : Tl_57_v1_9 R) (m_57_v1_5 : Tl_57_v1_5 R) (rec : ((Unit × Unit × Unit × Int × Int × Unit) × ((Int × (Bool × (Unit × (Int × Unit)))) × (List ByteArray) × (List Int) × (List (List Int)) × Unit)) → Option R) (x : ((Unit × Unit × Unit × Int × Int × Unit) × ((Int × (Bool × (Unit × (Int × Unit)))) × (List ByteArray) × (List Int) × (List (List Int)) × Unit))) (κ0 : ((Unit × Unit × Unit) × ((Int × (Bool × (Unit × (Int × Unit)))) × (List ByteArray) × (List Int) × (List (List Int)) × Unit)) → Option R) : Option R :=
let i894 : Int := x.1.2.2.2.1
let i895 : Int := x.1.2.2.2.2.1
let i896 : Int := x.2.1.1
let b897 : Bool := x.2.1.2.1
let i898 : Int := x.2.1.2.2.2.1
let l899 : (List ByteArray) := x.2.2.1
let l900 : (List Int) := x.2.2.2.1
let l901 : (List (List Int)) := x.2.2.2.2.1
bif (decide (i895 < i894)) then (
bif decide (0 ≤ i895) then (
bif decide (i895 < ((List.length l899) : Int)) then (
let s902 : ByteArray := (List.getD l899 ((Int.toNat i895)) (Sch.zero (.str)))
let i903 : Int := ((ByteArray.size s902 : Nat) : Int)
let i904 : Int := addA .i64 i898 i903
bif (decide ((List.length l900 + List.length (strList s902)) * 1 ≤ 140737488355328) && true) then (
let l905 : (List Int) := (l900 ++ strList s902)
m_57_v1_9 (((), (), (), i894, i895, ()), ((i896, (b897, ((), (i904, ())))), l899, l905, l901, ())) (fun y920 =>
let i921 : Int := y920.1.2.2.2.1
let i922 : Int := y920.1.2.2.2.2.1
let i923 : Int := y920.2.1.1
let b924 : Bool := y920.2.1.2.1
let i925 : Int := y920.2.1.2.2.2.1
let l926 : (List ByteArray) := y920.2.2.1
let l927 : (List Int) := y920.2.2.2.1
let l928 : (List (List Int)) := y920.2.2.2.2.1
let i929 : Int := addA .i64 i922 1
rec (((), (), (), i921, i929, ()), ((i923, (b924, ((), (i925, ())))), l926, l927, l928, ())))) else none) else none) else none) else (
κ0 (((), (), ()), ((i896, (b897, ((), (i898, ())))), l899, l900, l901, ())))
def EG_57_v1 {R : Type} (q_82 : Tp_82 R) : Env R := (Env.base QQ LN).add 82 ap_82 hp_82 (fun (x : aden ap_82 × hden hp_82) k => q_82 x (fun y => k (Pat.inst (.bool) y) (instH hp_82 x.2)))
def LG_57_v1 {R : Type} (m_57_v1_9 : Tl_57_v1_9 R) (m_57_v1_5 : Tl_57_v1_5 R) : Loops R := ((Loops.none).add 9 (loopBy 3 lv_57_v1_9 pt_57_v1_9 (fun x k => m_57_v1_9 x (fun y => k (.exit 2) (px_57_v1_9_0.inst y))))).add 5 (loopBy 3 lv_57_v1_5 pt_57_v1_5 (fun x k => m_57_v1_5 x (fun y => k (.exit 0) (px_57_v1_5_0.inst y))))
def E_57_v1 {R : Type} (N : Nat) : Env R := EG_57_v1 (p_82 N)
theorem eok_57_v1 {R : Type} (N : Nat) : EK Try.prog (E_57_v1 (R := R) N) := ek_add (ek_base _ _) (good_82 N)
def L_57_v1 {R : Type} (N : Nat) : Loops R := LG_57_v1 (l_57_v1_9 N N) (l_57_v1_5 N N)
theorem gstep_57_v1_9 {R : Type} (q_82 : Tp_82 R) (m_57_v1_9 : Tl_57_v1_9 R) (m_57_v1_5 : Tl_57_v1_5 R) (n : Nat) (x : pt_57_v1_9.den) (k : Exit → St → Option R) : iter 3 lv_57_v1_9 lo_57_v1_9 (aexec TT (EG_57_v1 q_82) (drawAny TT WW) (LG_57_v1 m_57_v1_9 m_57_v1_5) (loopAt 9 (bodyOf Try.f57))) (n + 1) (pt_57_v1_9.inst x) k = C_57_v1_9 q_82 m_57_v1_9 m_57_v1_5 (fun y => iter 3 lv_57_v1_9 lo_57_v1_9 (aexec TT (EG_57_v1 q_82) (drawAny TT WW) (LG_57_v1 m_57_v1_9 m_57_v1_5) (loopAt 9 (bodyOf Try.f57))) n (pt_57_v1_9.inst y) k) x (fun y => k (.exit 2) (px_57_v1_9_0.inst y)) := by kernel_rfl
theorem step_57_v1_9 {R : Type} (N n : Nat) (x : pt_57_v1_9.den) (k : Exit → St → Option R) : iter 3 lv_57_v1_9 lo_57_v1_9 (aexec TT (E_57_v1 (R := R) N) (drawAny TT WW) (L_57_v1 N) (loopAt 9 (bodyOf Try.f57))) (n + 1) (pt_57_v1_9.inst x) k = B_57_v1_9 N (fun y => iter 3 lv_57_v1_9 lo_57_v1_9 (aexec TT (E_57_v1 (R := R) N) (drawAny TT WW) (L_57_v1 N) (loopAt 9 (bodyOf Try.f57))) n (pt_57_v1_9.inst y) k) x (fun y => k (.exit 2) (px_57_v1_9_0.inst y)) := (gstep_57_v1_9 (p_82 N) (l_57_v1_9 N N) (l_57_v1_5 N N) n x k).trans (by kernel_rfl)
theorem eq_57_v1_9 {R : Type} (N : Nat) : ∀ (n : Nat) (x : pt_57_v1_9.den) (k : Exit → St → Option R), iter 3 lv_57_v1_9 lo_57_v1_9 (aexec TT (E_57_v1 (R := R) N) (drawAny TT WW) (L_57_v1 N) (loopAt 9 (bodyOf Try.f57))) n (pt_57_v1_9.inst x) k = l_57_v1_9 N n x (fun y => k (.exit 2) (px_57_v1_9_0.inst y)) :=
  iter_eq (K := Exit → St → Option R) (ks := fun k => k) (l := fun n (x : pt_57_v1_9.den) k => l_57_v1_9 N n x (fun y => k (.exit 2) (px_57_v1_9_0.inst y))) (B := fun (rec : pt_57_v1_9.den → Option R) (x : pt_57_v1_9.den) k => B_57_v1_9 N rec x (fun y => k (.exit 2) (px_57_v1_9_0.inst y))) (fun _ _ => rfl) (fun _ _ _ => rfl) (fun n x k => step_57_v1_9 N n x k)
theorem rounds_57_v1_9 {R : Type} (N : Nat) : Rounds 3 TT (E_57_v1 (R := R) N) (drawAny TT WW) (L_57_v1 N) 9 (loopAt 9 (bodyOf Try.f57)) :=
  rounds_of (p := pt_57_v1_9) (l := fun (x : pt_57_v1_9.den) k => l_57_v1_9 N N x (fun y => k (.exit 2) (px_57_v1_9_0.inst y))) (fun s k => rfl) (fun x k => eq_57_v1_9 N N x k)
theorem gstep_57_v1_5 {R : Type} (q_82 : Tp_82 R) (m_57_v1_9 : Tl_57_v1_9 R) (m_57_v1_5 : Tl_57_v1_5 R) (n : Nat) (x : pt_57_v1_5.den) (k : Exit → St → Option R) : iter 3 lv_57_v1_5 lo_57_v1_5 (aexec TT (EG_57_v1 q_82) (drawAny TT WW) (LG_57_v1 m_57_v1_9 m_57_v1_5) (loopAt 5 (bodyOf Try.f57))) (n + 1) (pt_57_v1_5.inst x) k = C_57_v1_5 q_82 m_57_v1_9 m_57_v1_5 (fun y => iter 3 lv_57_v1_5 lo_57_v1_5 (aexec TT (EG_57_v1 q_82) (drawAny TT WW) (LG_57_v1 m_57_v1_9 m_57_v1_5) (loopAt 5 (bodyOf Try.f57))) n (pt_57_v1_5.inst y) k) x (fun y => k (.exit 0) (px_57_v1_5_0.inst y)) := by kernel_rfl
theorem step_57_v1_5 {R : Type} (N n : Nat) (x : pt_57_v1_5.den) (k : Exit → St → Option R) : iter 3 lv_57_v1_5 lo_57_v1_5 (aexec TT (E_57_v1 (R := R) N) (drawAny TT WW) (L_57_v1 N) (loopAt 5 (bodyOf Try.f57))) (n + 1) (pt_57_v1_5.inst x) k = B_57_v1_5 N (fun y => iter 3 lv_57_v1_5 lo_57_v1_5 (aexec TT (E_57_v1 (R := R) N) (drawAny TT WW) (L_57_v1 N) (loopAt 5 (bodyOf Try.f57))) n (pt_57_v1_5.inst y) k) x (fun y => k (.exit 0) (px_57_v1_5_0.inst y)) := (gstep_57_v1_5 (p_82 N) (l_57_v1_9 N N) (l_57_v1_5 N N) n x k).trans (by kernel_rfl)
theorem eq_57_v1_5 {R : Type} (N : Nat) : ∀ (n : Nat) (x : pt_57_v1_5.den) (k : Exit → St → Option R), iter 3 lv_57_v1_5 lo_57_v1_5 (aexec TT (E_57_v1 (R := R) N) (drawAny TT WW) (L_57_v1 N) (loopAt 5 (bodyOf Try.f57))) n (pt_57_v1_5.inst x) k = l_57_v1_5 N n x (fun y => k (.exit 0) (px_57_v1_5_0.inst y)) :=
  iter_eq (K := Exit → St → Option R) (ks := fun k => k) (l := fun n (x : pt_57_v1_5.den) k => l_57_v1_5 N n x (fun y => k (.exit 0) (px_57_v1_5_0.inst y))) (B := fun (rec : pt_57_v1_5.den → Option R) (x : pt_57_v1_5.den) k => B_57_v1_5 N rec x (fun y => k (.exit 0) (px_57_v1_5_0.inst y))) (fun _ _ => rfl) (fun _ _ _ => rfl) (fun n x k => step_57_v1_5 N n x k)
theorem rounds_57_v1_5 {R : Type} (N : Nat) : Rounds 3 TT (E_57_v1 (R := R) N) (drawAny TT WW) (L_57_v1 N) 5 (loopAt 5 (bodyOf Try.f57)) :=
  rounds_of (p := pt_57_v1_5) (l := fun (x : pt_57_v1_5.den) k => l_57_v1_5 N N x (fun y => k (.exit 0) (px_57_v1_5_0.inst y))) (fun s k => rfl) (fun x k => eq_57_v1_5 N N x k)
theorem loops_57_v1 : loopsIn (bodyOf Try.f57) = [(5, loopAt 5 (bodyOf Try.f57)), (9, loopAt 9 (bodyOf Try.f57))] := by kernel_rfl
theorem lok_57_v1 {R : Type} (N : Nat) : LOK 3 TT (E_57_v1 (R := R) N) (drawAny TT WW) (L_57_v1 N) (bodyOf Try.f57) := loops_all loops_57_v1 (by
  simp only [List.forall_mem_cons, List.not_mem_nil, false_implies, implies_true, and_true]
  exact ⟨rounds_57_v1_5 N, rounds_57_v1_9 N⟩)
theorem grun_57_v1 {R : Type} (q_82 : Tp_82 R) (m_57_v1_9 : Tl_57_v1_9 R) (m_57_v1_5 : Tl_57_v1_5 R) (x : aden ap_57_v1 × hden hp_57_v1) (k : KF R) : fnrun TT (EG_57_v1 q_82) (drawAny TT WW) (LG_57_v1 m_57_v1_9 m_57_v1_5) true Try.f57 (instA ap_57_v1 x.1) (instH hp_57_v1 x.2) k = Q_57_v1 q_82 m_57_v1_9 m_57_v1_5 x (fun y => k (Pat.inst (.ros (.sl (.int .u8))) y.1) (instH [some (.node (.fcons (.int .i64) (.fcons (.bool) (.fcons (.sl 1) (.fcons (.int .i64) (.fnil))))), 151), some (.lst (.int .u8), 5), some (.lst (.str), 9)] y.2)) (fun y => k (Pat.inst (.ros (.sl (.int .u8))) y.1) (instH [some (.node (.fcons (.int .i64) (.fcons (.bool) (.fcons (.sl 3) (.fcons (.int .i64) (.fnil))))), 151), none, some (.lst (.str), 9), some (.lst (.int .u8), 5)] y.2)) := by kernel_rfl
theorem run_57_v1 {R : Type} (N : Nat) (x : aden ap_57_v1 × hden hp_57_v1) (k : KF R) : fnrun TT (E_57_v1 (R := R) N) (drawAny TT WW) (L_57_v1 N) true Try.f57 (instA ap_57_v1 x.1) (instH hp_57_v1 x.2) k = p_57_v1 N x (fun y => k (Pat.inst (.ros (.sl (.int .u8))) y.1) (instH [some (.node (.fcons (.int .i64) (.fcons (.bool) (.fcons (.sl 1) (.fcons (.int .i64) (.fnil))))), 151), some (.lst (.int .u8), 5), some (.lst (.str), 9)] y.2)) (fun y => k (Pat.inst (.ros (.sl (.int .u8))) y.1) (instH [some (.node (.fcons (.int .i64) (.fcons (.bool) (.fcons (.sl 3) (.fcons (.int .i64) (.fnil))))), 151), none, some (.lst (.str), 9), some (.lst (.int .u8), 5)] y.2)) := (grun_57_v1 (p_82 N) (l_57_v1_9 N N) (l_57_v1_5 N N) x k).trans (by kernel_rfl)
theorem good_57_v1 {R : Type} (N : Nat) : GD (X := R) Try.prog QQ 57 ap_57_v1 hp_57_v1 (fun (x : aden ap_57_v1 × hden hp_57_v1) k => p_57_v1 N x (fun y => k (Pat.inst (.ros (.sl (.int .u8))) y.1) (instH [some (.node (.fcons (.int .i64) (.fcons (.bool) (.fcons (.sl 1) (.fcons (.int .i64) (.fnil))))), 151), some (.lst (.int .u8), 5), some (.lst (.str), 9)] y.2)) (fun y => k (Pat.inst (.ros (.sl (.int .u8))) y.1) (instH [some (.node (.fcons (.int .i64) (.fcons (.bool) (.fcons (.sl 3) (.fcons (.int .i64) (.fnil))))), 151), none, some (.lst (.str), 9), some (.lst (.int .u8), 5)] y.2))) :=
  gd_loud (E := E_57_v1 N) (p := fun (x : aden ap_57_v1 × hden hp_57_v1) k => p_57_v1 N x (fun y => k (Pat.inst (.ros (.sl (.int .u8))) y.1) (instH [some (.node (.fcons (.int .i64) (.fcons (.bool) (.fcons (.sl 1) (.fcons (.int .i64) (.fnil))))), 151), some (.lst (.int .u8), 5), some (.lst (.str), 9)] y.2)) (fun y => k (Pat.inst (.ros (.sl (.int .u8))) y.1) (instH [some (.node (.fcons (.int .i64) (.fcons (.bool) (.fcons (.sl 3) (.fcons (.int .i64) (.fnil))))), 151), none, some (.lst (.str), 9), some (.lst (.int .u8), 5)] y.2))) mixed tyok (eok_57_v1 N) Try.func57 (by kernel_rfl) (by kernel_rfl) (by kernel_rfl) (lok_57_v1 N) (fun x k => run_57_v1 N x k)

def lv_26_v1_4 : Live := [(0, none), (14, none), (15, none), (16, none)]
def pt_26_v1_4 : SPat := ⟨[(0, .ptr 0 []), (14, .ros (.sl (.int .u8))), (15, .int .i64), (16, .int .i64)], [some (.node (.fcons (.ptr 1 []) (.fcons (.vec (.int .u64) 8) (.fcons (.int .i64) (.fcons (.int .u64) (.fnil))))), 115), some (.node (.fcons (.int .i64) (.fcons (.bool) (.fcons (.sl 4) (.fcons (.int .i64) (.fnil))))), 151), none, some (.lst (.str), 9), some (.lst (.int .u8), 5)]⟩
def px_26_v1_4_0 : SPat := ⟨[(0, .ptr 0 [])], [some (.node (.fcons (.ptr 1 []) (.fcons (.vec (.int .u64) 8) (.fcons (.int .i64) (.fcons (.int .u64) (.fnil))))), 115), some (.node (.fcons (.int .i64) (.fcons (.bool) (.fcons (.sl 4) (.fcons (.int .i64) (.fnil))))), 151), none, some (.lst (.str), 9), some (.lst (.int .u8), 5)]⟩
def lo_26_v1_4 : Exit → Live
  | .exit 0 => [(0, none)]
  | _ => []
def B_26_v1_4 {R : Type} (N : Nat) (rec : ((Unit × (List (List Int)) × Int × Int × Unit) × ((Unit × ((Nat → Int) × (Int × (Int × Unit)))) × (Int × (Bool × (Unit × (Int × Unit)))) × (List ByteArray) × (List Int) × Unit)) → Option R) (x : ((Unit × (List (List Int)) × Int × Int × Unit) × ((Unit × ((Nat → Int) × (Int × (Int × Unit)))) × (Int × (Bool × (Unit × (Int × Unit)))) × (List ByteArray) × (List Int) × Unit))) (κ0 : ((Unit × Unit) × ((Unit × ((Nat → Int) × (Int × (Int × Unit)))) × (Int × (Bool × (Unit × (Int × Unit)))) × (List ByteArray) × (List Int) × Unit)) → Option R) : Option R :=
let l970 : (List (List Int)) := x.1.2.1
let i971 : Int := x.1.2.2.1
let i972 : Int := x.1.2.2.2.1
let a973 : (Nat → Int) := x.2.1.2.1
let i974 : Int := x.2.1.2.2.1
let i975 : Int := x.2.1.2.2.2.1
let i976 : Int := x.2.2.1.1
let b977 : Bool := x.2.2.1.2.1
let i978 : Int := x.2.2.1.2.2.2.1
let l979 : (List ByteArray) := x.2.2.2.1
let l980 : (List Int) := x.2.2.2.2.1
bif (decide (i972 < i971)) then (
bif decide (0 ≤ i972) then (
bif decide (i972 < ((List.length l970) : Int)) then (
let p981 : (List Int) := (List.getD l970 ((Int.toNat i972)) (Sch.zero (.sl (.int .u8))))
let i982 : Int := addA .u64 i975 128
p_12 N ((a973, p981, i982, false, ()), ()) (fun y983 =>
let a984 : (Nat → Int) := y983.1
let i985 : Int := y983.2.1
let i986 : Int := addA .i64 i972 1
rec (((), l970, i971, i986, ()), (((), (a984, (i974, (i982, ())))), (i976, (b977, ((), (i978, ())))), l979, l980, ())))) else none) else none) else (
κ0 (((), ()), (((), (a973, (i974, (i975, ())))), (i976, (b977, ((), (i978, ())))), l979, l980, ())))
def l_26_v1_4 {R : Type} (N : Nat) : Nat → ((Unit × (List (List Int)) × Int × Int × Unit) × ((Unit × ((Nat → Int) × (Int × (Int × Unit)))) × (Int × (Bool × (Unit × (Int × Unit)))) × (List ByteArray) × (List Int) × Unit)) → (((Unit × Unit) × ((Unit × ((Nat → Int) × (Int × (Int × Unit)))) × (Int × (Bool × (Unit × (Int × Unit)))) × (List ByteArray) × (List Int) × Unit)) → Option R) → Option R
  | 0, _, _ => none
  | n + 1, x, κ0 => B_26_v1_4 N (fun y => l_26_v1_4 N n y κ0) x κ0
def ap_26_v1 : List Pat := [.ptr 0 [], .sl 3]
def hp_26_v1 : List (Option (Pat × Nat)) := [some (.node (.fcons (.ptr 1 []) (.fcons (.vec (.int .u64) 8) (.fcons (.int .i64) (.fcons (.int .u64) (.fnil))))), 115), some (.node (.fcons (.int .i64) (.fcons (.bool) (.fcons (.sl 2) (.fcons (.int .i64) (.fnil))))), 151), some (.lst (.int .u8), 5), some (.lst (.str), 9)]
def p_26_v1 {R : Type} (N : Nat) (x : (Unit × Unit × Unit) × ((Unit × ((Nat → Int) × (Int × (Int × Unit)))) × (Int × (Bool × (Unit × (Int × Unit)))) × (List Int) × (List ByteArray) × Unit)) (κ0 : (Unit × ((Unit × ((Nat → Int) × (Int × (Int × Unit)))) × (Int × (Bool × (Unit × (Int × Unit)))) × (List ByteArray) × (List Int) × Unit)) → Option R) : Option R :=
let a791 : (Nat → Int) := x.2.1.2.1
let i792 : Int := x.2.1.2.2.1
let i793 : Int := x.2.1.2.2.2.1
let i794 : Int := x.2.2.1.1
let b795 : Bool := x.2.2.1.2.1
let i796 : Int := x.2.2.1.2.2.2.1
let l797 : (List Int) := x.2.2.2.1
let l798 : (List ByteArray) := x.2.2.2.2.1
p_57_v1 N (((), (), ()), ((i794, (b795, ((), (i796, ())))), l797, l798, ())) (fun y937 =>
let l938 : (List (List Int)) := y937.1
let i939 : Int := y937.2.1.1
let b940 : Bool := y937.2.1.2.1
let i941 : Int := y937.2.1.2.2.2.1
let l942 : (List Int) := y937.2.2.1
let l943 : (List ByteArray) := y937.2.2.2.1
let i944 : Int := (((List.length l938) : Nat) : Int)
none) (fun y962 =>
let l963 : (List (List Int)) := y962.1
let i964 : Int := y962.2.1.1
let b965 : Bool := y962.2.1.2.1
let i966 : Int := y962.2.1.2.2.2.1
let l967 : (List ByteArray) := y962.2.2.1
let l968 : (List Int) := y962.2.2.2.1
let i969 : Int := (((List.length l963) : Nat) : Int)
l_26_v1_4 N N (((), l963, i969, 0, ()), (((), (a791, (i792, (i793, ())))), (i964, (b965, ((), (i966, ())))), l967, l968, ())) (fun y987 =>
let a988 : (Nat → Int) := y987.2.1.2.1
let i989 : Int := y987.2.1.2.2.1
let i990 : Int := y987.2.1.2.2.2.1
let i991 : Int := y987.2.2.1.1
let b992 : Bool := y987.2.2.1.2.1
let i993 : Int := y987.2.2.1.2.2.2.1
let l994 : (List ByteArray) := y987.2.2.2.1
let l995 : (List Int) := y987.2.2.2.2.1
κ0 ((), (((), (a988, (i989, (i990, ())))), (i991, (b992, ((), (i993, ())))), l994, l995, ()))))

abbrev Tl_26_v1_4 (R : Type) : Type := ((Unit × (List (List Int)) × Int × Int × Unit) × ((Unit × ((Nat → Int) × (Int × (Int × Unit)))) × (Int × (Bool × (Unit × (Int × Unit)))) × (List ByteArray) × (List Int) × Unit)) → (((Unit × Unit) × ((Unit × ((Nat → Int) × (Int × (Int × Unit)))) × (Int × (Bool × (Unit × (Int × Unit)))) × (List ByteArray) × (List Int) × Unit)) → Option R) → Option R
abbrev Tp_26_v1 (R : Type) : Type := (Unit × Unit × Unit) × ((Unit × ((Nat → Int) × (Int × (Int × Unit)))) × (Int × (Bool × (Unit × (Int × Unit)))) × (List Int) × (List ByteArray) × Unit) → ((Unit × ((Unit × ((Nat → Int) × (Int × (Int × Unit)))) × (Int × (Bool × (Unit × (Int × Unit)))) × (List ByteArray) × (List Int) × Unit)) → Option R) → Option R
def Q_26_v1 {R : Type} (q_57_v1 : Tp_57_v1 R) (q_12 : Tp_12 R) (m_26_v1_4 : Tl_26_v1_4 R) (x : (Unit × Unit × Unit) × ((Unit × ((Nat → Int) × (Int × (Int × Unit)))) × (Int × (Bool × (Unit × (Int × Unit)))) × (List Int) × (List ByteArray) × Unit)) (κ0 : (Unit × ((Unit × ((Nat → Int) × (Int × (Int × Unit)))) × (Int × (Bool × (Unit × (Int × Unit)))) × (List ByteArray) × (List Int) × Unit)) → Option R) : Option R :=
let a791 : (Nat → Int) := x.2.1.2.1
let i792 : Int := x.2.1.2.2.1
let i793 : Int := x.2.1.2.2.2.1
let i794 : Int := x.2.2.1.1
let b795 : Bool := x.2.2.1.2.1
let i796 : Int := x.2.2.1.2.2.2.1
let l797 : (List Int) := x.2.2.2.1
let l798 : (List ByteArray) := x.2.2.2.2.1
q_57_v1 (((), (), ()), ((i794, (b795, ((), (i796, ())))), l797, l798, ())) (fun y937 =>
let l938 : (List (List Int)) := y937.1
let i939 : Int := y937.2.1.1
let b940 : Bool := y937.2.1.2.1
let i941 : Int := y937.2.1.2.2.2.1
let l942 : (List Int) := y937.2.2.1
let l943 : (List ByteArray) := y937.2.2.2.1
let i944 : Int := (((List.length l938) : Nat) : Int)
none) (fun y962 =>
let l963 : (List (List Int)) := y962.1
let i964 : Int := y962.2.1.1
let b965 : Bool := y962.2.1.2.1
let i966 : Int := y962.2.1.2.2.2.1
let l967 : (List ByteArray) := y962.2.2.1
let l968 : (List Int) := y962.2.2.2.1
let i969 : Int := (((List.length l963) : Nat) : Int)
m_26_v1_4 (((), l963, i969, 0, ()), (((), (a791, (i792, (i793, ())))), (i964, (b965, ((), (i966, ())))), l967, l968, ())) (fun y987 =>
let a988 : (Nat → Int) := y987.2.1.2.1
let i989 : Int := y987.2.1.2.2.1
let i990 : Int := y987.2.1.2.2.2.1
let i991 : Int := y987.2.2.1.1
let b992 : Bool := y987.2.2.1.2.1
let i993 : Int := y987.2.2.1.2.2.2.1
let l994 : (List ByteArray) := y987.2.2.2.1
let l995 : (List Int) := y987.2.2.2.2.1
κ0 ((), (((), (a988, (i989, (i990, ())))), (i991, (b992, ((), (i993, ())))), l994, l995, ()))))
def C_26_v1_4 {R : Type} (q_57_v1 : Tp_57_v1 R) (q_12 : Tp_12 R) (m_26_v1_4 : Tl_26_v1_4 R) (rec : ((Unit × (List (List Int)) × Int × Int × Unit) × ((Unit × ((Nat → Int) × (Int × (Int × Unit)))) × (Int × (Bool × (Unit × (Int × Unit)))) × (List ByteArray) × (List Int) × Unit)) → Option R) (x : ((Unit × (List (List Int)) × Int × Int × Unit) × ((Unit × ((Nat → Int) × (Int × (Int × Unit)))) × (Int × (Bool × (Unit × (Int × Unit)))) × (List ByteArray) × (List Int) × Unit))) (κ0 : ((Unit × Unit) × ((Unit × ((Nat → Int) × (Int × (Int × Unit)))) × (Int × (Bool × (Unit × (Int × Unit)))) × (List ByteArray) × (List Int) × Unit)) → Option R) : Option R :=
let l970 : (List (List Int)) := x.1.2.1
let i971 : Int := x.1.2.2.1
let i972 : Int := x.1.2.2.2.1
let a973 : (Nat → Int) := x.2.1.2.1
let i974 : Int := x.2.1.2.2.1
let i975 : Int := x.2.1.2.2.2.1
let i976 : Int := x.2.2.1.1
let b977 : Bool := x.2.2.1.2.1
let i978 : Int := x.2.2.1.2.2.2.1
let l979 : (List ByteArray) := x.2.2.2.1
let l980 : (List Int) := x.2.2.2.2.1
bif (decide (i972 < i971)) then (
bif decide (0 ≤ i972) then (
bif decide (i972 < ((List.length l970) : Int)) then (
let p981 : (List Int) := (List.getD l970 ((Int.toNat i972)) (Sch.zero (.sl (.int .u8))))
let i982 : Int := addA .u64 i975 128
q_12 ((a973, p981, i982, false, ()), ()) (fun y983 =>
let a984 : (Nat → Int) := y983.1
let i985 : Int := y983.2.1
let i986 : Int := addA .i64 i972 1
rec (((), l970, i971, i986, ()), (((), (a984, (i974, (i982, ())))), (i976, (b977, ((), (i978, ())))), l979, l980, ())))) else none) else none) else (
κ0 (((), ()), (((), (a973, (i974, (i975, ())))), (i976, (b977, ((), (i978, ())))), l979, l980, ())))
def EG_26_v1 {R : Type} (q_57_v1 : Tp_57_v1 R) (q_12 : Tp_12 R) : Env R := ((Env.base QQ LN).add 57 ap_57_v1 hp_57_v1 (fun (x : aden ap_57_v1 × hden hp_57_v1) k => q_57_v1 x (fun y => k (Pat.inst (.ros (.sl (.int .u8))) y.1) (instH [some (.node (.fcons (.int .i64) (.fcons (.bool) (.fcons (.sl 1) (.fcons (.int .i64) (.fnil))))), 151), some (.lst (.int .u8), 5), some (.lst (.str), 9)] y.2)) (fun y => k (Pat.inst (.ros (.sl (.int .u8))) y.1) (instH [some (.node (.fcons (.int .i64) (.fcons (.bool) (.fcons (.sl 3) (.fcons (.int .i64) (.fnil))))), 151), none, some (.lst (.str), 9), some (.lst (.int .u8), 5)] y.2)))).add 12 ap_12 hp_12 (fun (x : aden ap_12 × hden hp_12) k => q_12 x (fun y => k (Pat.inst (.tup (.fcons (.vec (.int .u64) 8) (.fcons (.int .i64) (.fnil)))) y) (instH hp_12 x.2)))
def LG_26_v1 {R : Type} (m_26_v1_4 : Tl_26_v1_4 R) : Loops R := (Loops.none).add 4 (loopBy 4 lv_26_v1_4 pt_26_v1_4 (fun x k => m_26_v1_4 x (fun y => k (.exit 0) (px_26_v1_4_0.inst y))))
def E_26_v1 {R : Type} (N : Nat) : Env R := EG_26_v1 (p_57_v1 N) (p_12 N)
theorem eok_26_v1 {R : Type} (N : Nat) : EK Try.prog (E_26_v1 (R := R) N) := ek_add (ek_add (ek_base _ _) (good_57_v1 N)) (good_12 N)
def L_26_v1 {R : Type} (N : Nat) : Loops R := LG_26_v1 (l_26_v1_4 N N)
theorem gstep_26_v1_4 {R : Type} (q_57_v1 : Tp_57_v1 R) (q_12 : Tp_12 R) (m_26_v1_4 : Tl_26_v1_4 R) (n : Nat) (x : pt_26_v1_4.den) (k : Exit → St → Option R) : iter 4 lv_26_v1_4 lo_26_v1_4 (aexec TT (EG_26_v1 q_57_v1 q_12) (drawAny TT WW) (LG_26_v1 m_26_v1_4) (loopAt 4 (bodyOf Try.f26))) (n + 1) (pt_26_v1_4.inst x) k = C_26_v1_4 q_57_v1 q_12 m_26_v1_4 (fun y => iter 4 lv_26_v1_4 lo_26_v1_4 (aexec TT (EG_26_v1 q_57_v1 q_12) (drawAny TT WW) (LG_26_v1 m_26_v1_4) (loopAt 4 (bodyOf Try.f26))) n (pt_26_v1_4.inst y) k) x (fun y => k (.exit 0) (px_26_v1_4_0.inst y)) := by kernel_rfl
theorem step_26_v1_4 {R : Type} (N n : Nat) (x : pt_26_v1_4.den) (k : Exit → St → Option R) : iter 4 lv_26_v1_4 lo_26_v1_4 (aexec TT (E_26_v1 (R := R) N) (drawAny TT WW) (L_26_v1 N) (loopAt 4 (bodyOf Try.f26))) (n + 1) (pt_26_v1_4.inst x) k = B_26_v1_4 N (fun y => iter 4 lv_26_v1_4 lo_26_v1_4 (aexec TT (E_26_v1 (R := R) N) (drawAny TT WW) (L_26_v1 N) (loopAt 4 (bodyOf Try.f26))) n (pt_26_v1_4.inst y) k) x (fun y => k (.exit 0) (px_26_v1_4_0.inst y)) := (gstep_26_v1_4 (p_57_v1 N) (p_12 N) (l_26_v1_4 N N) n x k).trans (by kernel_rfl)
theorem eq_26_v1_4 {R : Type} (N : Nat) : ∀ (n : Nat) (x : pt_26_v1_4.den) (k : Exit → St → Option R), iter 4 lv_26_v1_4 lo_26_v1_4 (aexec TT (E_26_v1 (R := R) N) (drawAny TT WW) (L_26_v1 N) (loopAt 4 (bodyOf Try.f26))) n (pt_26_v1_4.inst x) k = l_26_v1_4 N n x (fun y => k (.exit 0) (px_26_v1_4_0.inst y)) :=
  iter_eq (K := Exit → St → Option R) (ks := fun k => k) (l := fun n (x : pt_26_v1_4.den) k => l_26_v1_4 N n x (fun y => k (.exit 0) (px_26_v1_4_0.inst y))) (B := fun (rec : pt_26_v1_4.den → Option R) (x : pt_26_v1_4.den) k => B_26_v1_4 N rec x (fun y => k (.exit 0) (px_26_v1_4_0.inst y))) (fun _ _ => rfl) (fun _ _ _ => rfl) (fun n x k => step_26_v1_4 N n x k)
theorem rounds_26_v1_4 {R : Type} (N : Nat) : Rounds 4 TT (E_26_v1 (R := R) N) (drawAny TT WW) (L_26_v1 N) 4 (loopAt 4 (bodyOf Try.f26)) :=
  rounds_of (p := pt_26_v1_4) (l := fun (x : pt_26_v1_4.den) k => l_26_v1_4 N N x (fun y => k (.exit 0) (px_26_v1_4_0.inst y))) (fun s k => rfl) (fun x k => eq_26_v1_4 N N x k)
theorem loops_26_v1 : loopsIn (bodyOf Try.f26) = [(4, loopAt 4 (bodyOf Try.f26))] := by kernel_rfl
theorem lok_26_v1 {R : Type} (N : Nat) : LOK 4 TT (E_26_v1 (R := R) N) (drawAny TT WW) (L_26_v1 N) (bodyOf Try.f26) := loops_all loops_26_v1 (by
  simp only [List.forall_mem_cons, List.not_mem_nil, false_implies, implies_true, and_true]
  exact rounds_26_v1_4 N)
theorem grun_26_v1 {R : Type} (q_57_v1 : Tp_57_v1 R) (q_12 : Tp_12 R) (m_26_v1_4 : Tl_26_v1_4 R) (x : aden ap_26_v1 × hden hp_26_v1) (k : KF R) : fnrun TT (EG_26_v1 q_57_v1 q_12) (drawAny TT WW) (LG_26_v1 m_26_v1_4) true Try.f26 (instA ap_26_v1 x.1) (instH hp_26_v1 x.2) k = Q_26_v1 q_57_v1 q_12 m_26_v1_4 x (fun y => k (Pat.inst (.ptr 0 []) y.1) (instH [some (.node (.fcons (.ptr 1 []) (.fcons (.vec (.int .u64) 8) (.fcons (.int .i64) (.fcons (.int .u64) (.fnil))))), 115), some (.node (.fcons (.int .i64) (.fcons (.bool) (.fcons (.sl 4) (.fcons (.int .i64) (.fnil))))), 151), none, some (.lst (.str), 9), some (.lst (.int .u8), 5)] y.2)) := by kernel_rfl
theorem run_26_v1 {R : Type} (N : Nat) (x : aden ap_26_v1 × hden hp_26_v1) (k : KF R) : fnrun TT (E_26_v1 (R := R) N) (drawAny TT WW) (L_26_v1 N) true Try.f26 (instA ap_26_v1 x.1) (instH hp_26_v1 x.2) k = p_26_v1 N x (fun y => k (Pat.inst (.ptr 0 []) y.1) (instH [some (.node (.fcons (.ptr 1 []) (.fcons (.vec (.int .u64) 8) (.fcons (.int .i64) (.fcons (.int .u64) (.fnil))))), 115), some (.node (.fcons (.int .i64) (.fcons (.bool) (.fcons (.sl 4) (.fcons (.int .i64) (.fnil))))), 151), none, some (.lst (.str), 9), some (.lst (.int .u8), 5)] y.2)) := (grun_26_v1 (p_57_v1 N) (p_12 N) (l_26_v1_4 N N) x k).trans (by kernel_rfl)
theorem good_26_v1 {R : Type} (N : Nat) : GD (X := R) Try.prog QQ 26 ap_26_v1 hp_26_v1 (fun (x : aden ap_26_v1 × hden hp_26_v1) k => p_26_v1 N x (fun y => k (Pat.inst (.ptr 0 []) y.1) (instH [some (.node (.fcons (.ptr 1 []) (.fcons (.vec (.int .u64) 8) (.fcons (.int .i64) (.fcons (.int .u64) (.fnil))))), 115), some (.node (.fcons (.int .i64) (.fcons (.bool) (.fcons (.sl 4) (.fcons (.int .i64) (.fnil))))), 151), none, some (.lst (.str), 9), some (.lst (.int .u8), 5)] y.2))) :=
  gd_loud (E := E_26_v1 N) (p := fun (x : aden ap_26_v1 × hden hp_26_v1) k => p_26_v1 N x (fun y => k (Pat.inst (.ptr 0 []) y.1) (instH [some (.node (.fcons (.ptr 1 []) (.fcons (.vec (.int .u64) 8) (.fcons (.int .i64) (.fcons (.int .u64) (.fnil))))), 115), some (.node (.fcons (.int .i64) (.fcons (.bool) (.fcons (.sl 4) (.fcons (.int .i64) (.fnil))))), 151), none, some (.lst (.str), 9), some (.lst (.int .u8), 5)] y.2))) mixed tyok (eok_26_v1 N) Try.func26 (by kernel_rfl) (by kernel_rfl) (by kernel_rfl) (lok_26_v1 N) (fun x k => run_26_v1 N x k)

def ap_27 : List Pat := [.int .i64, .str]
def hp_27 : List (Option (Pat × Nat)) := []
def p_27 {R : Type} (N : Nat) (x : (Int × ByteArray × Unit) × (Unit)) (κ0 : ((Unit × (Int × Unit)) × (Unit)) → Option R) (κ1 : ((Unit × (Int × Unit)) × ((Unit × ((Nat → Int) × (Int × (Int × Unit)))) × Unit)) → Option R) (κ2 : ((Unit × (Int × Unit)) × ((Unit × ((Nat → Int) × (Int × (Int × Unit)))) × (Int × (Bool × (Unit × (Int × Unit)))) × (List Int) × Unit)) → Option R) : Option R :=
let i9 : Int := x.1.1
let s10 : ByteArray := x.1.2.1
bif (decide (i9 < 1)) then (
κ0 (((), (1, ())), ())) else (
bif (decide (i9 > 64)) then (
κ0 (((), (1, ())), ())) else (
let i11 : Int := ((ByteArray.size s10 : Nat) : Int)
bif (decide (i11 > 64)) then (
κ0 (((), (1, ())), ())) else (
p_58 N ((128, true, ()), ()) (fun y14 =>
let i15 : Int := y14.1.2.1
p_15 N ((), ()) (fun y17 =>
let a18 : (Nat → Int) := y17
let i19 : Int := (a18 0)
let i20 : Int := ((ByteArray.size s10 : Nat) : Int)
let i21 : Int := IntKind.wrap .u64 i20
let i22 : Int := shlA .u64 i21 8
let i23 : Int := xorA .u64 16842752 i22
let i24 : Int := IntKind.wrap .u64 i9
let i25 : Int := xorA .u64 i23 i24
let i26 : Int := xorA .u64 i19 i25
bif (!eqS s10 (⟨#[]⟩)) then (
let i27 : Int := ((ByteArray.size s10 : Nat) : Int)
let i28 : Int := subA .i64 128 i27
bif decide (0 ≤ i28) then (
bif decide (i28 ≤ i28) then (
bif decide (((1 : Nat) : Int) * i28 ≤ 281474976710656) then (
bif decide (i28 ≤ 9223372036854775807) then (
let l29 : (List Int) := List.replicate ((Int.toNat i28)) (Sch.zero (.int .u8))
let s30 : ByteArray := listStr l29
bif decide (ByteArray.size s10 + ByteArray.size s30 ≤ maxI64) then (
let s31 : ByteArray := (s10 ++ s30)
let l32 : (List ByteArray) := [s31]
p_26 N (((), (), ()), (((), ((upd a18 0 i26), (i9, (0, ())))), l32, ())) (fun y764 =>
let a765 : (Nat → Int) := y764.2.1.2.1
let i766 : Int := y764.2.1.2.2.1
let i767 : Int := y764.2.1.2.2.2.1
let l768 : (List ByteArray) := y764.2.2.1
κ1 (((), (0, ())), (((), (a765, (i766, (i767, ())))), ())))) else none) else none) else none) else none) else none) else (
κ1 (((), (0, ())), (((), ((upd a18 0 i26), (i9, (0, ())))), ()))))) (fun y769 =>
let i770 : Int := y769.1.2.1
let i771 : Int := y769.2.1.1
let b772 : Bool := y769.2.1.2.1
let i773 : Int := y769.2.1.2.2.2.1
let l774 : (List Int) := y769.2.2.1
p_15 N ((), ()) (fun y775 =>
let a776 : (Nat → Int) := y775
let i777 : Int := (a776 0)
let i778 : Int := ((ByteArray.size s10 : Nat) : Int)
let i779 : Int := IntKind.wrap .u64 i778
let i780 : Int := shlA .u64 i779 8
let i781 : Int := xorA .u64 16842752 i780
let i782 : Int := IntKind.wrap .u64 i9
let i783 : Int := xorA .u64 i781 i782
let i784 : Int := xorA .u64 i777 i783
bif (!eqS s10 (⟨#[]⟩)) then (
let i785 : Int := ((ByteArray.size s10 : Nat) : Int)
let i786 : Int := subA .i64 128 i785
bif decide (0 ≤ i786) then (
bif decide (i786 ≤ i786) then (
bif decide (((1 : Nat) : Int) * i786 ≤ 281474976710656) then (
bif decide (i786 ≤ 9223372036854775807) then (
let l787 : (List Int) := List.replicate ((Int.toNat i786)) (Sch.zero (.int .u8))
let s788 : ByteArray := listStr l787
bif decide (ByteArray.size s10 + ByteArray.size s788 ≤ maxI64) then (
let s789 : ByteArray := (s10 ++ s788)
let l790 : (List ByteArray) := [s789]
p_26_v1 N (((), (), ()), (((), ((upd a776 0 i784), (i9, (0, ())))), (i771, (b772, ((), (i773, ())))), l774, l790, ())) (fun y996 =>
let a997 : (Nat → Int) := y996.2.1.2.1
let i998 : Int := y996.2.1.2.2.1
let i999 : Int := y996.2.1.2.2.2.1
let i1000 : Int := y996.2.2.1.1
let b1001 : Bool := y996.2.2.1.2.1
let i1002 : Int := y996.2.2.1.2.2.2.1
let l1003 : (List ByteArray) := y996.2.2.2.1
let l1004 : (List Int) := y996.2.2.2.2.1
κ2 (((), (0, ())), (((), (a997, (i998, (i999, ())))), (i1000, (b1001, ((), (i1002, ())))), l1004, ())))) else none) else none) else none) else none) else none) else (
κ2 (((), (0, ())), (((), ((upd a776 0 i784), (i9, (0, ())))), (i771, (b772, ((), (i773, ())))), l774, ()))))))))

abbrev Tp_27 (R : Type) : Type := (Int × ByteArray × Unit) × (Unit) → (((Unit × (Int × Unit)) × (Unit)) → Option R) → (((Unit × (Int × Unit)) × ((Unit × ((Nat → Int) × (Int × (Int × Unit)))) × Unit)) → Option R) → (((Unit × (Int × Unit)) × ((Unit × ((Nat → Int) × (Int × (Int × Unit)))) × (Int × (Bool × (Unit × (Int × Unit)))) × (List Int) × Unit)) → Option R) → Option R
def Q_27 {R : Type} (q_58 : Tp_58 R) (q_15 : Tp_15 R) (q_26 : Tp_26 R) (q_26_v1 : Tp_26_v1 R) (x : (Int × ByteArray × Unit) × (Unit)) (κ0 : ((Unit × (Int × Unit)) × (Unit)) → Option R) (κ1 : ((Unit × (Int × Unit)) × ((Unit × ((Nat → Int) × (Int × (Int × Unit)))) × Unit)) → Option R) (κ2 : ((Unit × (Int × Unit)) × ((Unit × ((Nat → Int) × (Int × (Int × Unit)))) × (Int × (Bool × (Unit × (Int × Unit)))) × (List Int) × Unit)) → Option R) : Option R :=
let i9 : Int := x.1.1
let s10 : ByteArray := x.1.2.1
bif (decide (i9 < 1)) then (
κ0 (((), (1, ())), ())) else (
bif (decide (i9 > 64)) then (
κ0 (((), (1, ())), ())) else (
let i11 : Int := ((ByteArray.size s10 : Nat) : Int)
bif (decide (i11 > 64)) then (
κ0 (((), (1, ())), ())) else (
q_58 ((128, true, ()), ()) (fun y14 =>
let i15 : Int := y14.1.2.1
q_15 ((), ()) (fun y17 =>
let a18 : (Nat → Int) := y17
let i19 : Int := (a18 0)
let i20 : Int := ((ByteArray.size s10 : Nat) : Int)
let i21 : Int := IntKind.wrap .u64 i20
let i22 : Int := shlA .u64 i21 8
let i23 : Int := xorA .u64 16842752 i22
let i24 : Int := IntKind.wrap .u64 i9
let i25 : Int := xorA .u64 i23 i24
let i26 : Int := xorA .u64 i19 i25
bif (!eqS s10 (⟨#[]⟩)) then (
let i27 : Int := ((ByteArray.size s10 : Nat) : Int)
let i28 : Int := subA .i64 128 i27
bif decide (0 ≤ i28) then (
bif decide (i28 ≤ i28) then (
bif decide (((1 : Nat) : Int) * i28 ≤ 281474976710656) then (
bif decide (i28 ≤ 9223372036854775807) then (
let l29 : (List Int) := List.replicate ((Int.toNat i28)) (Sch.zero (.int .u8))
let s30 : ByteArray := listStr l29
bif decide (ByteArray.size s10 + ByteArray.size s30 ≤ maxI64) then (
let s31 : ByteArray := (s10 ++ s30)
let l32 : (List ByteArray) := [s31]
q_26 (((), (), ()), (((), ((upd a18 0 i26), (i9, (0, ())))), l32, ())) (fun y764 =>
let a765 : (Nat → Int) := y764.2.1.2.1
let i766 : Int := y764.2.1.2.2.1
let i767 : Int := y764.2.1.2.2.2.1
let l768 : (List ByteArray) := y764.2.2.1
κ1 (((), (0, ())), (((), (a765, (i766, (i767, ())))), ())))) else none) else none) else none) else none) else none) else (
κ1 (((), (0, ())), (((), ((upd a18 0 i26), (i9, (0, ())))), ()))))) (fun y769 =>
let i770 : Int := y769.1.2.1
let i771 : Int := y769.2.1.1
let b772 : Bool := y769.2.1.2.1
let i773 : Int := y769.2.1.2.2.2.1
let l774 : (List Int) := y769.2.2.1
q_15 ((), ()) (fun y775 =>
let a776 : (Nat → Int) := y775
let i777 : Int := (a776 0)
let i778 : Int := ((ByteArray.size s10 : Nat) : Int)
let i779 : Int := IntKind.wrap .u64 i778
let i780 : Int := shlA .u64 i779 8
let i781 : Int := xorA .u64 16842752 i780
let i782 : Int := IntKind.wrap .u64 i9
let i783 : Int := xorA .u64 i781 i782
let i784 : Int := xorA .u64 i777 i783
bif (!eqS s10 (⟨#[]⟩)) then (
let i785 : Int := ((ByteArray.size s10 : Nat) : Int)
let i786 : Int := subA .i64 128 i785
bif decide (0 ≤ i786) then (
bif decide (i786 ≤ i786) then (
bif decide (((1 : Nat) : Int) * i786 ≤ 281474976710656) then (
bif decide (i786 ≤ 9223372036854775807) then (
let l787 : (List Int) := List.replicate ((Int.toNat i786)) (Sch.zero (.int .u8))
let s788 : ByteArray := listStr l787
bif decide (ByteArray.size s10 + ByteArray.size s788 ≤ maxI64) then (
let s789 : ByteArray := (s10 ++ s788)
let l790 : (List ByteArray) := [s789]
q_26_v1 (((), (), ()), (((), ((upd a776 0 i784), (i9, (0, ())))), (i771, (b772, ((), (i773, ())))), l774, l790, ())) (fun y996 =>
let a997 : (Nat → Int) := y996.2.1.2.1
let i998 : Int := y996.2.1.2.2.1
let i999 : Int := y996.2.1.2.2.2.1
let i1000 : Int := y996.2.2.1.1
let b1001 : Bool := y996.2.2.1.2.1
let i1002 : Int := y996.2.2.1.2.2.2.1
let l1003 : (List ByteArray) := y996.2.2.2.1
let l1004 : (List Int) := y996.2.2.2.2.1
κ2 (((), (0, ())), (((), (a997, (i998, (i999, ())))), (i1000, (b1001, ((), (i1002, ())))), l1004, ())))) else none) else none) else none) else none) else none) else (
κ2 (((), (0, ())), (((), ((upd a776 0 i784), (i9, (0, ())))), (i771, (b772, ((), (i773, ())))), l774, ()))))))))
def EG_27 {R : Type} (q_58 : Tp_58 R) (q_15 : Tp_15 R) (q_26 : Tp_26 R) (q_26_v1 : Tp_26_v1 R) : Env R := ((((Env.base QQ LN).add 58 ap_58 hp_58 (fun (x : aden ap_58 × hden hp_58) k => q_58 x (fun y => k (Pat.inst (.tup (.fcons (.nilp) (.fcons (.int .i64) (.fnil)))) y.1) (instH [] y.2)) (fun y => k (Pat.inst (.tup (.fcons (.ptr 0 []) (.fcons (.int .i64) (.fnil)))) y.1) (instH [some (.node (.fcons (.int .i64) (.fcons (.bool) (.fcons (.sl 1) (.fcons (.int .i64) (.fnil))))), 151), some (.lst (.int .u8), 5)] y.2)))).add 15 ap_15 hp_15 (fun (x : aden ap_15 × hden hp_15) k => q_15 x (fun y => k (Pat.inst (.vec (.int .u64) 8) y) (instH hp_15 x.2)))).add 26 ap_26 hp_26 (fun (x : aden ap_26 × hden hp_26) k => q_26 x (fun y => k (Pat.inst (.ptr 0 []) y.1) (instH [some (.node (.fcons (.nilp) (.fcons (.vec (.int .u64) 8) (.fcons (.int .i64) (.fcons (.int .u64) (.fnil))))), 115), some (.lst (.str), 9)] y.2)))).add 26 ap_26_v1 hp_26_v1 (fun (x : aden ap_26_v1 × hden hp_26_v1) k => q_26_v1 x (fun y => k (Pat.inst (.ptr 0 []) y.1) (instH [some (.node (.fcons (.ptr 1 []) (.fcons (.vec (.int .u64) 8) (.fcons (.int .i64) (.fcons (.int .u64) (.fnil))))), 115), some (.node (.fcons (.int .i64) (.fcons (.bool) (.fcons (.sl 4) (.fcons (.int .i64) (.fnil))))), 151), none, some (.lst (.str), 9), some (.lst (.int .u8), 5)] y.2)))
def LG_27 {R : Type} : Loops R := Loops.none
def E_27 {R : Type} (N : Nat) : Env R := EG_27 (p_58 N) (p_15 N) (p_26 N) (p_26_v1 N)
theorem eok_27 {R : Type} (N : Nat) : EK Try.prog (E_27 (R := R) N) := ek_add (ek_add (ek_add (ek_add (ek_base _ _) (good_58 N)) (good_15 N)) (good_26 N)) (good_26_v1 N)
def L_27 {R : Type} (N : Nat) : Loops R := LG_27
theorem lok_27 {R : Type} (N : Nat) : LOK 0 TT (E_27 (R := R) N) (drawAny TT WW) (L_27 N) (bodyOf Try.f27) := loops_nil (by kernel_rfl)
theorem grun_27 {R : Type} (q_58 : Tp_58 R) (q_15 : Tp_15 R) (q_26 : Tp_26 R) (q_26_v1 : Tp_26_v1 R) (x : aden ap_27 × hden hp_27) (k : KF R) : fnrun TT (EG_27 q_58 q_15 q_26 q_26_v1) (drawAny TT WW) (LG_27) true Try.f27 (instA ap_27 x.1) (instH hp_27 x.2) k = Q_27 q_58 q_15 q_26 q_26_v1 x (fun y => k (Pat.inst (.tup (.fcons (.nilp) (.fcons (.int .i64) (.fnil)))) y.1) (instH [] y.2)) (fun y => k (Pat.inst (.tup (.fcons (.ptr 0 []) (.fcons (.int .i64) (.fnil)))) y.1) (instH [some (.node (.fcons (.nilp) (.fcons (.vec (.int .u64) 8) (.fcons (.int .i64) (.fcons (.int .u64) (.fnil))))), 115)] y.2)) (fun y => k (Pat.inst (.tup (.fcons (.ptr 0 []) (.fcons (.int .i64) (.fnil)))) y.1) (instH [some (.node (.fcons (.ptr 1 []) (.fcons (.vec (.int .u64) 8) (.fcons (.int .i64) (.fcons (.int .u64) (.fnil))))), 115), some (.node (.fcons (.int .i64) (.fcons (.bool) (.fcons (.sl 2) (.fcons (.int .i64) (.fnil))))), 151), some (.lst (.int .u8), 5)] y.2)) := by kernel_rfl
theorem run_27 {R : Type} (N : Nat) (x : aden ap_27 × hden hp_27) (k : KF R) : fnrun TT (E_27 (R := R) N) (drawAny TT WW) (L_27 N) true Try.f27 (instA ap_27 x.1) (instH hp_27 x.2) k = p_27 N x (fun y => k (Pat.inst (.tup (.fcons (.nilp) (.fcons (.int .i64) (.fnil)))) y.1) (instH [] y.2)) (fun y => k (Pat.inst (.tup (.fcons (.ptr 0 []) (.fcons (.int .i64) (.fnil)))) y.1) (instH [some (.node (.fcons (.nilp) (.fcons (.vec (.int .u64) 8) (.fcons (.int .i64) (.fcons (.int .u64) (.fnil))))), 115)] y.2)) (fun y => k (Pat.inst (.tup (.fcons (.ptr 0 []) (.fcons (.int .i64) (.fnil)))) y.1) (instH [some (.node (.fcons (.ptr 1 []) (.fcons (.vec (.int .u64) 8) (.fcons (.int .i64) (.fcons (.int .u64) (.fnil))))), 115), some (.node (.fcons (.int .i64) (.fcons (.bool) (.fcons (.sl 2) (.fcons (.int .i64) (.fnil))))), 151), some (.lst (.int .u8), 5)] y.2)) := (grun_27 (p_58 N) (p_15 N) (p_26 N) (p_26_v1 N) x k).trans (by kernel_rfl)
theorem good_27 {R : Type} (N : Nat) : GD (X := R) Try.prog QQ 27 ap_27 hp_27 (fun (x : aden ap_27 × hden hp_27) k => p_27 N x (fun y => k (Pat.inst (.tup (.fcons (.nilp) (.fcons (.int .i64) (.fnil)))) y.1) (instH [] y.2)) (fun y => k (Pat.inst (.tup (.fcons (.ptr 0 []) (.fcons (.int .i64) (.fnil)))) y.1) (instH [some (.node (.fcons (.nilp) (.fcons (.vec (.int .u64) 8) (.fcons (.int .i64) (.fcons (.int .u64) (.fnil))))), 115)] y.2)) (fun y => k (Pat.inst (.tup (.fcons (.ptr 0 []) (.fcons (.int .i64) (.fnil)))) y.1) (instH [some (.node (.fcons (.ptr 1 []) (.fcons (.vec (.int .u64) 8) (.fcons (.int .i64) (.fcons (.int .u64) (.fnil))))), 115), some (.node (.fcons (.int .i64) (.fcons (.bool) (.fcons (.sl 2) (.fcons (.int .i64) (.fnil))))), 151), some (.lst (.int .u8), 5)] y.2))) :=
  gd_loud (E := E_27 N) (p := fun (x : aden ap_27 × hden hp_27) k => p_27 N x (fun y => k (Pat.inst (.tup (.fcons (.nilp) (.fcons (.int .i64) (.fnil)))) y.1) (instH [] y.2)) (fun y => k (Pat.inst (.tup (.fcons (.ptr 0 []) (.fcons (.int .i64) (.fnil)))) y.1) (instH [some (.node (.fcons (.nilp) (.fcons (.vec (.int .u64) 8) (.fcons (.int .i64) (.fcons (.int .u64) (.fnil))))), 115)] y.2)) (fun y => k (Pat.inst (.tup (.fcons (.ptr 0 []) (.fcons (.int .i64) (.fnil)))) y.1) (instH [some (.node (.fcons (.ptr 1 []) (.fcons (.vec (.int .u64) 8) (.fcons (.int .i64) (.fcons (.int .u64) (.fnil))))), 115), some (.node (.fcons (.int .i64) (.fcons (.bool) (.fcons (.sl 2) (.fcons (.int .i64) (.fnil))))), 151), some (.lst (.int .u8), 5)] y.2))) mixed tyok (eok_27 N) Try.func27 (by kernel_rfl) (by kernel_rfl) (by kernel_rfl) (lok_27 N) (fun x k => run_27 N x k)

def ap_26_v2 : List Pat := [.nilp, .sl 0]
def hp_26_v2 : List (Option (Pat × Nat)) := [some (.lst (.str), 9)]
def p_26_v2 {R : Type} (N : Nat) (x : (Unit × Unit × Unit) × ((List ByteArray) × Unit)) (κ0 : (Unit × ((List ByteArray) × Unit)) → Option R) : Option R :=
let l1007 : (List ByteArray) := x.2.1
κ0 ((), (l1007, ()))

abbrev Tp_26_v2 (R : Type) : Type := (Unit × Unit × Unit) × ((List ByteArray) × Unit) → ((Unit × ((List ByteArray) × Unit)) → Option R) → Option R
def Q_26_v2 {R : Type} (x : (Unit × Unit × Unit) × ((List ByteArray) × Unit)) (κ0 : (Unit × ((List ByteArray) × Unit)) → Option R) : Option R :=
let l1007 : (List ByteArray) := x.2.1
κ0 ((), (l1007, ()))
def EG_26_v2 {R : Type} : Env R := Env.base QQ LN
def LG_26_v2 {R : Type} : Loops R := Loops.none
def E_26_v2 {R : Type} (N : Nat) : Env R := EG_26_v2
theorem eok_26_v2 {R : Type} (N : Nat) : EK Try.prog (E_26_v2 (R := R) N) := ek_base _ _
def L_26_v2 {R : Type} (N : Nat) : Loops R := LG_26_v2
theorem loops_26_v2 : loopsIn (bodyOf Try.f26) = [(4, loopAt 4 (bodyOf Try.f26))] := by kernel_rfl
theorem lok_26_v2 {R : Type} (N : Nat) : LOK 1 TT (E_26_v2 (R := R) N) (drawAny TT WW) (L_26_v2 N) (bodyOf Try.f26) := loops_all loops_26_v2 (by
  simp only [List.forall_mem_cons, List.not_mem_nil, false_implies, implies_true, and_true]
  exact rounds_none (fun _ _ => rfl))
theorem grun_26_v2 {R : Type} (x : aden ap_26_v2 × hden hp_26_v2) (k : KF R) : fnrun TT (EG_26_v2) (drawAny TT WW) (LG_26_v2) true Try.f26 (instA ap_26_v2 x.1) (instH hp_26_v2 x.2) k = Q_26_v2 x (fun y => k (Pat.inst (.nilp) y.1) (instH [some (.lst (.str), 9)] y.2)) := by kernel_rfl
theorem run_26_v2 {R : Type} (N : Nat) (x : aden ap_26_v2 × hden hp_26_v2) (k : KF R) : fnrun TT (E_26_v2 (R := R) N) (drawAny TT WW) (L_26_v2 N) true Try.f26 (instA ap_26_v2 x.1) (instH hp_26_v2 x.2) k = p_26_v2 N x (fun y => k (Pat.inst (.nilp) y.1) (instH [some (.lst (.str), 9)] y.2)) := (grun_26_v2 x k).trans (by kernel_rfl)
theorem good_26_v2 {R : Type} (N : Nat) : GD (X := R) Try.prog QQ 26 ap_26_v2 hp_26_v2 (fun (x : aden ap_26_v2 × hden hp_26_v2) k => p_26_v2 N x (fun y => k (Pat.inst (.nilp) y.1) (instH [some (.lst (.str), 9)] y.2))) :=
  gd_loud (E := E_26_v2 N) (p := fun (x : aden ap_26_v2 × hden hp_26_v2) k => p_26_v2 N x (fun y => k (Pat.inst (.nilp) y.1) (instH [some (.lst (.str), 9)] y.2))) mixed tyok (eok_26_v2 N) Try.func26 (by kernel_rfl) (by kernel_rfl) (by kernel_rfl) (lok_26_v2 N) (fun x k => run_26_v2 N x k)

def ap_25 : List Pat := [.nilp]
def hp_25 : List (Option (Pat × Nat)) := []
def p_25 {R : Type} (N : Nat) (x : (Unit × Unit) × (Unit)) (κ0 : (ByteArray × (Unit)) → Option R) : Option R :=
κ0 (⟨#[]⟩, ())

abbrev Tp_25 (R : Type) : Type := (Unit × Unit) × (Unit) → ((ByteArray × (Unit)) → Option R) → Option R
def Q_25 {R : Type} (x : (Unit × Unit) × (Unit)) (κ0 : (ByteArray × (Unit)) → Option R) : Option R :=
κ0 (⟨#[]⟩, ())
def EG_25 {R : Type} : Env R := Env.base QQ LN
def LG_25 {R : Type} : Loops R := Loops.none
def E_25 {R : Type} (N : Nat) : Env R := EG_25
theorem eok_25 {R : Type} (N : Nat) : EK Try.prog (E_25 (R := R) N) := ek_base _ _
def L_25 {R : Type} (N : Nat) : Loops R := LG_25
theorem lok_25 {R : Type} (N : Nat) : LOK 0 TT (E_25 (R := R) N) (drawAny TT WW) (L_25 N) (bodyOf Try.f25) := loops_nil (by kernel_rfl)
theorem grun_25 {R : Type} (x : aden ap_25 × hden hp_25) (k : KF R) : fnrun TT (EG_25) (drawAny TT WW) (LG_25) true Try.f25 (instA ap_25 x.1) (instH hp_25 x.2) k = Q_25 x (fun y => k (Pat.inst (.str) y.1) (instH [] y.2)) := by kernel_rfl
theorem run_25 {R : Type} (N : Nat) (x : aden ap_25 × hden hp_25) (k : KF R) : fnrun TT (E_25 (R := R) N) (drawAny TT WW) (L_25 N) true Try.f25 (instA ap_25 x.1) (instH hp_25 x.2) k = p_25 N x (fun y => k (Pat.inst (.str) y.1) (instH [] y.2)) := (grun_25 x k).trans (by kernel_rfl)
theorem good_25 {R : Type} (N : Nat) : GD (X := R) Try.prog QQ 25 ap_25 hp_25 (fun (x : aden ap_25 × hden hp_25) k => p_25 N x (fun y => k (Pat.inst (.str) y.1) (instH [] y.2))) :=
  gd_loud (E := E_25 N) (p := fun (x : aden ap_25 × hden hp_25) k => p_25 N x (fun y => k (Pat.inst (.str) y.1) (instH [] y.2))) mixed tyok (eok_25 N) Try.func25 (by kernel_rfl) (by kernel_rfl) (by kernel_rfl) (lok_25 N) (fun x k => run_25 N x k)

def ap_55 : List Pat := [.nilp]
def hp_55 : List (Option (Pat × Nat)) := []
def p_55 {R : Type} (N : Nat) (x : (Unit × Unit) × (Unit)) (κ0 : (Unit × (Unit)) → Option R) : Option R :=
κ0 ((), ())

abbrev Tp_55 (R : Type) : Type := (Unit × Unit) × (Unit) → ((Unit × (Unit)) → Option R) → Option R
def Q_55 {R : Type} (x : (Unit × Unit) × (Unit)) (κ0 : (Unit × (Unit)) → Option R) : Option R :=
κ0 ((), ())
def EG_55 {R : Type} : Env R := Env.base QQ LN
def LG_55 {R : Type} : Loops R := Loops.none
def E_55 {R : Type} (N : Nat) : Env R := EG_55
theorem eok_55 {R : Type} (N : Nat) : EK Try.prog (E_55 (R := R) N) := ek_base _ _
def L_55 {R : Type} (N : Nat) : Loops R := LG_55
theorem lok_55 {R : Type} (N : Nat) : LOK 0 TT (E_55 (R := R) N) (drawAny TT WW) (L_55 N) (bodyOf Try.f55) := loops_nil (by kernel_rfl)
theorem grun_55 {R : Type} (x : aden ap_55 × hden hp_55) (k : KF R) : fnrun TT (EG_55) (drawAny TT WW) (LG_55) false Try.f55 (instA ap_55 x.1) (instH hp_55 x.2) k = Q_55 x (fun y => k (Pat.inst (.nils) y.1) (instH [] y.2)) := by kernel_rfl
theorem run_55 {R : Type} (N : Nat) (x : aden ap_55 × hden hp_55) (k : KF R) : fnrun TT (E_55 (R := R) N) (drawAny TT WW) (L_55 N) false Try.f55 (instA ap_55 x.1) (instH hp_55 x.2) k = p_55 N x (fun y => k (Pat.inst (.nils) y.1) (instH [] y.2)) := (grun_55 x k).trans (by kernel_rfl)
theorem good_55 {R : Type} (N : Nat) : GD (X := R) Try.prog QQ 55 ap_55 hp_55 (fun (x : aden ap_55 × hden hp_55) k => p_55 N x (fun y => k (Pat.inst (.nils) y.1) (instH [] y.2))) :=
  gd_loud (E := E_55 N) (p := fun (x : aden ap_55 × hden hp_55) k => p_55 N x (fun y => k (Pat.inst (.nils) y.1) (instH [] y.2))) mixed tyok (eok_55 N) Try.func55 (by kernel_rfl) (by kernel_rfl) (by kernel_rfl) (lok_55 N) (fun x k => run_55 N x k)

def lv_56_6 : Live := [(3, none), (5, none), (11, none), (12, none), (13, none), (17, none)]
def pt_56_6 : SPat := ⟨[(3, .sl 0), (5, .int .u64), (11, .ros (.int .u64)), (12, .int .i64), (13, .int .i64), (17, .int .i64)], [some (.lst (.int .u8), 5)]⟩
def px_56_6_0 : SPat := ⟨[(3, .sl 0), (11, .ros (.int .u64)), (12, .int .i64), (13, .int .i64)], [some (.lst (.int .u8), 5)]⟩
def lo_56_6 : Exit → Live
  | .exit 2 => [(3, none), (11, none), (12, none), (13, none)]
  | _ => []
def B_56_6 {R : Type} (N : Nat) (rec : ((Unit × Int × (List Int) × Int × Int × Int × Unit) × ((List Int) × Unit)) → Option R) (x : ((Unit × Int × (List Int) × Int × Int × Int × Unit) × ((List Int) × Unit))) (κ0 : ((Unit × (List Int) × Int × Int × Unit) × ((List Int) × Unit)) → Option R) : Option R :=
let i1043 : Int := x.1.2.1
let l1044 : (List Int) := x.1.2.2.1
let i1045 : Int := x.1.2.2.2.1
let i1046 : Int := x.1.2.2.2.2.1
let i1047 : Int := x.1.2.2.2.2.2.1
let l1048 : (List Int) := x.2.1
bif (decide (i1047 < 8)) then (
let i1049 : Int := mulA .i64 8 i1047
bif decide (i1049 < 0) then none else (
let i1050 : Int := shrA .u64 i1043 i1049
let i1051 : Int := IntKind.wrap .u8 i1050
let l1052 : (List Int) := [i1051]
bif (decide ((List.length l1048 + List.length l1052) * 1 ≤ 140737488355328) && true) then (
let l1053 : (List Int) := (l1048 ++ l1052)
let i1054 : Int := addA .i64 i1047 1
rec (((), i1043, l1044, i1045, i1046, i1054, ()), (l1053, ()))) else none)) else (
κ0 (((), l1044, i1045, i1046, ()), (l1048, ())))
def l_56_6 {R : Type} (N : Nat) : Nat → ((Unit × Int × (List Int) × Int × Int × Int × Unit) × ((List Int) × Unit)) → (((Unit × (List Int) × Int × Int × Unit) × ((List Int) × Unit)) → Option R) → Option R
  | 0, _, _ => none
  | n + 1, x, κ0 => B_56_6 N (fun y => l_56_6 N n y κ0) x κ0
def lv_56_3 : Live := [(3, none), (11, none), (12, none), (13, none)]
def pt_56_3 : SPat := ⟨[(3, .sl 0), (11, .ros (.int .u64)), (12, .int .i64), (13, .int .i64)], [some (.lst (.int .u8), 5)]⟩
def px_56_3_0 : SPat := ⟨[(3, .sl 0)], [some (.lst (.int .u8), 5)]⟩
def lo_56_3 : Exit → Live
  | .exit 0 => [(3, none)]
  | _ => []
def B_56_3 {R : Type} (N : Nat) (rec : ((Unit × (List Int) × Int × Int × Unit) × ((List Int) × Unit)) → Option R) (x : ((Unit × (List Int) × Int × Int × Unit) × ((List Int) × Unit))) (κ0 : ((Unit × Unit) × ((List Int) × Unit)) → Option R) : Option R :=
let l1038 : (List Int) := x.1.2.1
let i1039 : Int := x.1.2.2.1
let i1040 : Int := x.1.2.2.2.1
let l1041 : (List Int) := x.2.1
bif (decide (i1040 < i1039)) then (
bif decide (0 ≤ i1040) then (
bif decide (i1040 < ((List.length l1038) : Int)) then (
let p1042 : Int := (List.getD l1038 ((Int.toNat i1040)) (Sch.zero (.int .u64)))
l_56_6 N N (((), p1042, l1038, i1039, i1040, 0, ()), (l1041, ())) (fun y1055 =>
let l1056 : (List Int) := y1055.1.2.1
let i1057 : Int := y1055.1.2.2.1
let i1058 : Int := y1055.1.2.2.2.1
let l1059 : (List Int) := y1055.2.1
let i1060 : Int := addA .i64 i1058 1
rec (((), l1056, i1057, i1060, ()), (l1059, ())))) else none) else none) else (
κ0 (((), ()), (l1041, ())))
def l_56_3 {R : Type} (N : Nat) : Nat → ((Unit × (List Int) × Int × Int × Unit) × ((List Int) × Unit)) → (((Unit × Unit) × ((List Int) × Unit)) → Option R) → Option R
  | 0, _, _ => none
  | n + 1, x, κ0 => B_56_3 N (fun y => l_56_3 N n y κ0) x κ0
def ap_56 : List Pat := [.ros (.int .u64)]
def hp_56 : List (Option (Pat × Nat)) := []
def p_56 {R : Type} (N : Nat) (x : ((List Int) × Unit) × (Unit)) (κ0 : (Unit × ((List Int) × Unit)) → Option R) : Option R :=
let l1033 : (List Int) := x.1.1
let i1034 : Int := (((List.length l1033) : Nat) : Int)
let i1035 : Int := mulA .i64 8 i1034
bif decide (0 ≤ i1035) then (
bif decide (((1 : Nat) : Int) * i1035 ≤ 281474976710656) then (
bif decide (i1035 ≤ 9223372036854775807) then (
let l1036 : (List Int) := List.replicate 0 (Sch.zero (.int .u8))
let i1037 : Int := (((List.length l1033) : Nat) : Int)
l_56_3 N N (((), l1033, i1037, 0, ()), (l1036, ())) (fun y1061 =>
let l1062 : (List Int) := y1061.2.1
κ0 ((), (l1062, ())))) else none) else none) else none

abbrev Tl_56_6 (R : Type) : Type := ((Unit × Int × (List Int) × Int × Int × Int × Unit) × ((List Int) × Unit)) → (((Unit × (List Int) × Int × Int × Unit) × ((List Int) × Unit)) → Option R) → Option R
abbrev Tl_56_3 (R : Type) : Type := ((Unit × (List Int) × Int × Int × Unit) × ((List Int) × Unit)) → (((Unit × Unit) × ((List Int) × Unit)) → Option R) → Option R
abbrev Tp_56 (R : Type) : Type := ((List Int) × Unit) × (Unit) → ((Unit × ((List Int) × Unit)) → Option R) → Option R
def Q_56 {R : Type} (m_56_6 : Tl_56_6 R) (m_56_3 : Tl_56_3 R) (x : ((List Int) × Unit) × (Unit)) (κ0 : (Unit × ((List Int) × Unit)) → Option R) : Option R :=
let l1033 : (List Int) := x.1.1
let i1034 : Int := (((List.length l1033) : Nat) : Int)
let i1035 : Int := mulA .i64 8 i1034
bif decide (0 ≤ i1035) then (
bif decide (((1 : Nat) : Int) * i1035 ≤ 281474976710656) then (
bif decide (i1035 ≤ 9223372036854775807) then (
let l1036 : (List Int) := List.replicate 0 (Sch.zero (.int .u8))
let i1037 : Int := (((List.length l1033) : Nat) : Int)
m_56_3 (((), l1033, i1037, 0, ()), (l1036, ())) (fun y1061 =>
let l1062 : (List Int) := y1061.2.1
κ0 ((), (l1062, ())))) else none) else none) else none
def C_56_6 {R : Type} (m_56_6 : Tl_56_6 R) (m_56_3 : Tl_56_3 R) (rec : ((Unit × Int × (List Int) × Int × Int × Int × Unit) × ((List Int) × Unit)) → Option R) (x : ((Unit × Int × (List Int) × Int × Int × Int × Unit) × ((List Int) × Unit))) (κ0 : ((Unit × (List Int) × Int × Int × Unit) × ((List Int) × Unit)) → Option R) : Option R :=
let i1043 : Int := x.1.2.1
let l1044 : (List Int) := x.1.2.2.1
let i1045 : Int := x.1.2.2.2.1
let i1046 : Int := x.1.2.2.2.2.1
let i1047 : Int := x.1.2.2.2.2.2.1
let l1048 : (List Int) := x.2.1
bif (decide (i1047 < 8)) then (
let i1049 : Int := mulA .i64 8 i1047
bif decide (i1049 < 0) then none else (
let i1050 : Int := shrA .u64 i1043 i1049
let i1051 : Int := IntKind.wrap .u8 i1050
let l1052 : (List Int) := [i1051]
bif (decide ((List.length l1048 + List.length l1052) * 1 ≤ 140737488355328) && true) then (
let l1053 : (List Int) := (l1048 ++ l1052)
let i1054 : Int := addA .i64 i1047 1
rec (((), i1043, l1044, i1045, i1046, i1054, ()), (l1053, ()))) else none)) else (
κ0 (((), l1044, i1045, i1046, ()), (l1048, ())))
def C_56_3 {R : Type} (m_56_6 : Tl_56_6 R) (m_56_3 : Tl_56_3 R) (rec : ((Unit × (List Int) × Int × Int × Unit) × ((List Int) × Unit)) → Option R) (x : ((Unit × (List Int) × Int × Int × Unit) × ((List Int) × Unit))) (κ0 : ((Unit × Unit) × ((List Int) × Unit)) → Option R) : Option R :=
let l1038 : (List Int) := x.1.2.1
let i1039 : Int := x.1.2.2.1
let i1040 : Int := x.1.2.2.2.1
let l1041 : (List Int) := x.2.1
bif (decide (i1040 < i1039)) then (
bif decide (0 ≤ i1040) then (
bif decide (i1040 < ((List.length l1038) : Int)) then (
let p1042 : Int := (List.getD l1038 ((Int.toNat i1040)) (Sch.zero (.int .u64)))
m_56_6 (((), p1042, l1038, i1039, i1040, 0, ()), (l1041, ())) (fun y1055 =>
let l1056 : (List Int) := y1055.1.2.1
let i1057 : Int := y1055.1.2.2.1
let i1058 : Int := y1055.1.2.2.2.1
let l1059 : (List Int) := y1055.2.1
let i1060 : Int := addA .i64 i1058 1
rec (((), l1056, i1057, i1060, ()), (l1059, ())))) else none) else none) else (
κ0 (((), ()), (l1041, ())))
def EG_56 {R : Type} : Env R := Env.base QQ LN
def LG_56 {R : Type} (m_56_6 : Tl_56_6 R) (m_56_3 : Tl_56_3 R) : Loops R := ((Loops.none).add 6 (loopBy 0 lv_56_6 pt_56_6 (fun x k => m_56_6 x (fun y => k (.exit 2) (px_56_6_0.inst y))))).add 3 (loopBy 0 lv_56_3 pt_56_3 (fun x k => m_56_3 x (fun y => k (.exit 0) (px_56_3_0.inst y))))
def E_56 {R : Type} (N : Nat) : Env R := EG_56
theorem eok_56 {R : Type} (N : Nat) : EK Try.prog (E_56 (R := R) N) := ek_base _ _
def L_56 {R : Type} (N : Nat) : Loops R := LG_56 (l_56_6 N N) (l_56_3 N N)
theorem gstep_56_6 {R : Type} (m_56_6 : Tl_56_6 R) (m_56_3 : Tl_56_3 R) (n : Nat) (x : pt_56_6.den) (k : Exit → St → Option R) : iter 0 lv_56_6 lo_56_6 (aexec TT (EG_56) (drawAny TT WW) (LG_56 m_56_6 m_56_3) (loopAt 6 (bodyOf Try.f56))) (n + 1) (pt_56_6.inst x) k = C_56_6 m_56_6 m_56_3 (fun y => iter 0 lv_56_6 lo_56_6 (aexec TT (EG_56) (drawAny TT WW) (LG_56 m_56_6 m_56_3) (loopAt 6 (bodyOf Try.f56))) n (pt_56_6.inst y) k) x (fun y => k (.exit 2) (px_56_6_0.inst y)) := by kernel_rfl
theorem step_56_6 {R : Type} (N n : Nat) (x : pt_56_6.den) (k : Exit → St → Option R) : iter 0 lv_56_6 lo_56_6 (aexec TT (E_56 (R := R) N) (drawAny TT WW) (L_56 N) (loopAt 6 (bodyOf Try.f56))) (n + 1) (pt_56_6.inst x) k = B_56_6 N (fun y => iter 0 lv_56_6 lo_56_6 (aexec TT (E_56 (R := R) N) (drawAny TT WW) (L_56 N) (loopAt 6 (bodyOf Try.f56))) n (pt_56_6.inst y) k) x (fun y => k (.exit 2) (px_56_6_0.inst y)) := (gstep_56_6 (l_56_6 N N) (l_56_3 N N) n x k).trans (by kernel_rfl)
theorem eq_56_6 {R : Type} (N : Nat) : ∀ (n : Nat) (x : pt_56_6.den) (k : Exit → St → Option R), iter 0 lv_56_6 lo_56_6 (aexec TT (E_56 (R := R) N) (drawAny TT WW) (L_56 N) (loopAt 6 (bodyOf Try.f56))) n (pt_56_6.inst x) k = l_56_6 N n x (fun y => k (.exit 2) (px_56_6_0.inst y)) :=
  iter_eq (K := Exit → St → Option R) (ks := fun k => k) (l := fun n (x : pt_56_6.den) k => l_56_6 N n x (fun y => k (.exit 2) (px_56_6_0.inst y))) (B := fun (rec : pt_56_6.den → Option R) (x : pt_56_6.den) k => B_56_6 N rec x (fun y => k (.exit 2) (px_56_6_0.inst y))) (fun _ _ => rfl) (fun _ _ _ => rfl) (fun n x k => step_56_6 N n x k)
theorem rounds_56_6 {R : Type} (N : Nat) : Rounds 0 TT (E_56 (R := R) N) (drawAny TT WW) (L_56 N) 6 (loopAt 6 (bodyOf Try.f56)) :=
  rounds_of (p := pt_56_6) (l := fun (x : pt_56_6.den) k => l_56_6 N N x (fun y => k (.exit 2) (px_56_6_0.inst y))) (fun s k => rfl) (fun x k => eq_56_6 N N x k)
theorem gstep_56_3 {R : Type} (m_56_6 : Tl_56_6 R) (m_56_3 : Tl_56_3 R) (n : Nat) (x : pt_56_3.den) (k : Exit → St → Option R) : iter 0 lv_56_3 lo_56_3 (aexec TT (EG_56) (drawAny TT WW) (LG_56 m_56_6 m_56_3) (loopAt 3 (bodyOf Try.f56))) (n + 1) (pt_56_3.inst x) k = C_56_3 m_56_6 m_56_3 (fun y => iter 0 lv_56_3 lo_56_3 (aexec TT (EG_56) (drawAny TT WW) (LG_56 m_56_6 m_56_3) (loopAt 3 (bodyOf Try.f56))) n (pt_56_3.inst y) k) x (fun y => k (.exit 0) (px_56_3_0.inst y)) := by kernel_rfl
theorem step_56_3 {R : Type} (N n : Nat) (x : pt_56_3.den) (k : Exit → St → Option R) : iter 0 lv_56_3 lo_56_3 (aexec TT (E_56 (R := R) N) (drawAny TT WW) (L_56 N) (loopAt 3 (bodyOf Try.f56))) (n + 1) (pt_56_3.inst x) k = B_56_3 N (fun y => iter 0 lv_56_3 lo_56_3 (aexec TT (E_56 (R := R) N) (drawAny TT WW) (L_56 N) (loopAt 3 (bodyOf Try.f56))) n (pt_56_3.inst y) k) x (fun y => k (.exit 0) (px_56_3_0.inst y)) := (gstep_56_3 (l_56_6 N N) (l_56_3 N N) n x k).trans (by kernel_rfl)
theorem eq_56_3 {R : Type} (N : Nat) : ∀ (n : Nat) (x : pt_56_3.den) (k : Exit → St → Option R), iter 0 lv_56_3 lo_56_3 (aexec TT (E_56 (R := R) N) (drawAny TT WW) (L_56 N) (loopAt 3 (bodyOf Try.f56))) n (pt_56_3.inst x) k = l_56_3 N n x (fun y => k (.exit 0) (px_56_3_0.inst y)) :=
  iter_eq (K := Exit → St → Option R) (ks := fun k => k) (l := fun n (x : pt_56_3.den) k => l_56_3 N n x (fun y => k (.exit 0) (px_56_3_0.inst y))) (B := fun (rec : pt_56_3.den → Option R) (x : pt_56_3.den) k => B_56_3 N rec x (fun y => k (.exit 0) (px_56_3_0.inst y))) (fun _ _ => rfl) (fun _ _ _ => rfl) (fun n x k => step_56_3 N n x k)
theorem rounds_56_3 {R : Type} (N : Nat) : Rounds 0 TT (E_56 (R := R) N) (drawAny TT WW) (L_56 N) 3 (loopAt 3 (bodyOf Try.f56)) :=
  rounds_of (p := pt_56_3) (l := fun (x : pt_56_3.den) k => l_56_3 N N x (fun y => k (.exit 0) (px_56_3_0.inst y))) (fun s k => rfl) (fun x k => eq_56_3 N N x k)
theorem loops_56 : loopsIn (bodyOf Try.f56) = [(3, loopAt 3 (bodyOf Try.f56)), (6, loopAt 6 (bodyOf Try.f56))] := by kernel_rfl
theorem lok_56 {R : Type} (N : Nat) : LOK 0 TT (E_56 (R := R) N) (drawAny TT WW) (L_56 N) (bodyOf Try.f56) := loops_all loops_56 (by
  simp only [List.forall_mem_cons, List.not_mem_nil, false_implies, implies_true, and_true]
  exact ⟨rounds_56_3 N, rounds_56_6 N⟩)
theorem grun_56 {R : Type} (m_56_6 : Tl_56_6 R) (m_56_3 : Tl_56_3 R) (x : aden ap_56 × hden hp_56) (k : KF R) : fnrun TT (EG_56) (drawAny TT WW) (LG_56 m_56_6 m_56_3) false Try.f56 (instA ap_56 x.1) (instH hp_56 x.2) k = Q_56 m_56_6 m_56_3 x (fun y => k (Pat.inst (.sl 0) y.1) (instH [some (.lst (.int .u8), 5)] y.2)) := by kernel_rfl
theorem run_56 {R : Type} (N : Nat) (x : aden ap_56 × hden hp_56) (k : KF R) : fnrun TT (E_56 (R := R) N) (drawAny TT WW) (L_56 N) false Try.f56 (instA ap_56 x.1) (instH hp_56 x.2) k = p_56 N x (fun y => k (Pat.inst (.sl 0) y.1) (instH [some (.lst (.int .u8), 5)] y.2)) := (grun_56 (l_56_6 N N) (l_56_3 N N) x k).trans (by kernel_rfl)
theorem good_56 {R : Type} (N : Nat) : GD (X := R) Try.prog QQ 56 ap_56 hp_56 (fun (x : aden ap_56 × hden hp_56) k => p_56 N x (fun y => k (Pat.inst (.sl 0) y.1) (instH [some (.lst (.int .u8), 5)] y.2))) :=
  gd_loud (E := E_56 N) (p := fun (x : aden ap_56 × hden hp_56) k => p_56 N x (fun y => k (Pat.inst (.sl 0) y.1) (instH [some (.lst (.int .u8), 5)] y.2))) mixed tyok (eok_56 N) Try.func56 (by kernel_rfl) (by kernel_rfl) (by kernel_rfl) (lok_56 N) (fun x k => run_56 N x k)

def ap_25_v1 : List Pat := [.ptr 0 []]
def hp_25_v1 : List (Option (Pat × Nat)) := [some (.node (.fcons (.nilp) (.fcons (.vec (.int .u64) 8) (.fcons (.int .i64) (.fcons (.int .u64) (.fnil))))), 115)]
def p_25_v1 {R : Type} (N : Nat) (x : (Unit × Unit) × ((Unit × ((Nat → Int) × (Int × (Int × Unit)))) × Unit)) (κ0 : (ByteArray × ((Unit × ((Nat → Int) × (Int × (Int × Unit)))) × Unit)) → Option R) : Option R :=
let a1022 : (Nat → Int) := x.2.1.2.1
let i1023 : Int := x.2.1.2.2.1
let i1024 : Int := x.2.1.2.2.2.1
p_55 N (((), ()), ()) (fun y1025 =>
let i1026 : Int := IntKind.wrap .u64 0
let i1027 : Int := addA .u64 i1024 i1026
let i1028 : Int := subA .i64 128 0
bif decide (0 ≤ i1028) then (
bif decide (i1028 ≤ 140737488355328) then (
bif decide (List.length (List.replicate ((Int.toNat i1028)) (Sch.zero (.int .u8))) * 1 ≤ 140737488355328) then (
let l1029 : (List Int) := List.replicate ((Int.toNat i1028)) (Sch.zero (.int .u8))
p_12 N ((a1022, l1029, i1027, true, ()), ()) (fun y1030 =>
let a1031 : (Nat → Int) := y1030.1
let i1032 : Int := y1030.2.1
p_56 N ((((List.range 8).map fun j => a1031 (0 + j)), ()), ()) (fun y1063 =>
let l1064 : (List Int) := y1063.2.1
bif decide (0 ≤ i1023) then (
bif decide (i1023 ≤ (((List.length l1064) : Nat) : Int)) then (
bif decide (0 ≤ i1023) then (
let l1065 : (List Int) := List.take ((Int.toNat i1023) - 0) (List.drop 0 l1064)
let s1066 : ByteArray := listStr l1065
κ0 (s1066, (((), (a1022, (i1023, (i1024, ())))), ()))) else none) else none) else none))) else none) else none) else none)

abbrev Tp_25_v1 (R : Type) : Type := (Unit × Unit) × ((Unit × ((Nat → Int) × (Int × (Int × Unit)))) × Unit) → ((ByteArray × ((Unit × ((Nat → Int) × (Int × (Int × Unit)))) × Unit)) → Option R) → Option R
def Q_25_v1 {R : Type} (q_55 : Tp_55 R) (q_12 : Tp_12 R) (q_56 : Tp_56 R) (x : (Unit × Unit) × ((Unit × ((Nat → Int) × (Int × (Int × Unit)))) × Unit)) (κ0 : (ByteArray × ((Unit × ((Nat → Int) × (Int × (Int × Unit)))) × Unit)) → Option R) : Option R :=
let a1022 : (Nat → Int) := x.2.1.2.1
let i1023 : Int := x.2.1.2.2.1
let i1024 : Int := x.2.1.2.2.2.1
q_55 (((), ()), ()) (fun y1025 =>
let i1026 : Int := IntKind.wrap .u64 0
let i1027 : Int := addA .u64 i1024 i1026
let i1028 : Int := subA .i64 128 0
bif decide (0 ≤ i1028) then (
bif decide (i1028 ≤ 140737488355328) then (
bif decide (List.length (List.replicate ((Int.toNat i1028)) (Sch.zero (.int .u8))) * 1 ≤ 140737488355328) then (
let l1029 : (List Int) := List.replicate ((Int.toNat i1028)) (Sch.zero (.int .u8))
q_12 ((a1022, l1029, i1027, true, ()), ()) (fun y1030 =>
let a1031 : (Nat → Int) := y1030.1
let i1032 : Int := y1030.2.1
q_56 ((((List.range 8).map fun j => a1031 (0 + j)), ()), ()) (fun y1063 =>
let l1064 : (List Int) := y1063.2.1
bif decide (0 ≤ i1023) then (
bif decide (i1023 ≤ (((List.length l1064) : Nat) : Int)) then (
bif decide (0 ≤ i1023) then (
let l1065 : (List Int) := List.take ((Int.toNat i1023) - 0) (List.drop 0 l1064)
let s1066 : ByteArray := listStr l1065
κ0 (s1066, (((), (a1022, (i1023, (i1024, ())))), ()))) else none) else none) else none))) else none) else none) else none)
def EG_25_v1 {R : Type} (q_55 : Tp_55 R) (q_12 : Tp_12 R) (q_56 : Tp_56 R) : Env R := (((Env.base QQ LN).add 55 ap_55 hp_55 (fun (x : aden ap_55 × hden hp_55) k => q_55 x (fun y => k (Pat.inst (.nils) y.1) (instH [] y.2)))).add 12 ap_12 hp_12 (fun (x : aden ap_12 × hden hp_12) k => q_12 x (fun y => k (Pat.inst (.tup (.fcons (.vec (.int .u64) 8) (.fcons (.int .i64) (.fnil)))) y) (instH hp_12 x.2)))).add 56 ap_56 hp_56 (fun (x : aden ap_56 × hden hp_56) k => q_56 x (fun y => k (Pat.inst (.sl 0) y.1) (instH [some (.lst (.int .u8), 5)] y.2)))
def LG_25_v1 {R : Type} : Loops R := Loops.none
def E_25_v1 {R : Type} (N : Nat) : Env R := EG_25_v1 (p_55 N) (p_12 N) (p_56 N)
theorem eok_25_v1 {R : Type} (N : Nat) : EK Try.prog (E_25_v1 (R := R) N) := ek_add (ek_add (ek_add (ek_base _ _) (good_55 N)) (good_12 N)) (good_56 N)
def L_25_v1 {R : Type} (N : Nat) : Loops R := LG_25_v1
theorem lok_25_v1 {R : Type} (N : Nat) : LOK 1 TT (E_25_v1 (R := R) N) (drawAny TT WW) (L_25_v1 N) (bodyOf Try.f25) := loops_nil (by kernel_rfl)
theorem grun_25_v1 {R : Type} (q_55 : Tp_55 R) (q_12 : Tp_12 R) (q_56 : Tp_56 R) (x : aden ap_25_v1 × hden hp_25_v1) (k : KF R) : fnrun TT (EG_25_v1 q_55 q_12 q_56) (drawAny TT WW) (LG_25_v1) true Try.f25 (instA ap_25_v1 x.1) (instH hp_25_v1 x.2) k = Q_25_v1 q_55 q_12 q_56 x (fun y => k (Pat.inst (.str) y.1) (instH [some (.node (.fcons (.nilp) (.fcons (.vec (.int .u64) 8) (.fcons (.int .i64) (.fcons (.int .u64) (.fnil))))), 115)] y.2)) := by kernel_rfl
theorem run_25_v1 {R : Type} (N : Nat) (x : aden ap_25_v1 × hden hp_25_v1) (k : KF R) : fnrun TT (E_25_v1 (R := R) N) (drawAny TT WW) (L_25_v1 N) true Try.f25 (instA ap_25_v1 x.1) (instH hp_25_v1 x.2) k = p_25_v1 N x (fun y => k (Pat.inst (.str) y.1) (instH [some (.node (.fcons (.nilp) (.fcons (.vec (.int .u64) 8) (.fcons (.int .i64) (.fcons (.int .u64) (.fnil))))), 115)] y.2)) := (grun_25_v1 (p_55 N) (p_12 N) (p_56 N) x k).trans (by kernel_rfl)
theorem good_25_v1 {R : Type} (N : Nat) : GD (X := R) Try.prog QQ 25 ap_25_v1 hp_25_v1 (fun (x : aden ap_25_v1 × hden hp_25_v1) k => p_25_v1 N x (fun y => k (Pat.inst (.str) y.1) (instH [some (.node (.fcons (.nilp) (.fcons (.vec (.int .u64) 8) (.fcons (.int .i64) (.fcons (.int .u64) (.fnil))))), 115)] y.2))) :=
  gd_loud (E := E_25_v1 N) (p := fun (x : aden ap_25_v1 × hden hp_25_v1) k => p_25_v1 N x (fun y => k (Pat.inst (.str) y.1) (instH [some (.node (.fcons (.nilp) (.fcons (.vec (.int .u64) 8) (.fcons (.int .i64) (.fcons (.int .u64) (.fnil))))), 115)] y.2))) mixed tyok (eok_25_v1 N) Try.func25 (by kernel_rfl) (by kernel_rfl) (by kernel_rfl) (lok_25_v1 N) (fun x k => run_25_v1 N x k)

def ap_55_v1 : List Pat := [.ptr 0 []]
def hp_55_v1 : List (Option (Pat × Nat)) := [some (.node (.fcons (.int .i64) (.fcons (.bool) (.fcons (.sl 1) (.fcons (.int .i64) (.fnil))))), 151), some (.lst (.int .u8), 5)]
def p_55_v1 {R : Type} (N : Nat) (x : (Unit × Unit) × ((Int × (Bool × (Unit × (Int × Unit)))) × (List Int) × Unit)) (κ0 : (Unit × ((Int × (Bool × (Unit × (Int × Unit)))) × (List Int) × (List Int) × Unit)) → Option R) : Option R :=
let i1097 : Int := x.2.1.1
let b1098 : Bool := x.2.1.2.1
let i1099 : Int := x.2.1.2.2.2.1
let l1100 : (List Int) := x.2.2.1
bif decide (List.length l1100 * 1 ≤ 140737488355328) then (
κ0 ((), ((i1097, (b1098, ((), (i1099, ())))), l1100, l1100, ()))) else none

abbrev Tp_55_v1 (R : Type) : Type := (Unit × Unit) × ((Int × (Bool × (Unit × (Int × Unit)))) × (List Int) × Unit) → ((Unit × ((Int × (Bool × (Unit × (Int × Unit)))) × (List Int) × (List Int) × Unit)) → Option R) → Option R
def Q_55_v1 {R : Type} (x : (Unit × Unit) × ((Int × (Bool × (Unit × (Int × Unit)))) × (List Int) × Unit)) (κ0 : (Unit × ((Int × (Bool × (Unit × (Int × Unit)))) × (List Int) × (List Int) × Unit)) → Option R) : Option R :=
let i1097 : Int := x.2.1.1
let b1098 : Bool := x.2.1.2.1
let i1099 : Int := x.2.1.2.2.2.1
let l1100 : (List Int) := x.2.2.1
bif decide (List.length l1100 * 1 ≤ 140737488355328) then (
κ0 ((), ((i1097, (b1098, ((), (i1099, ())))), l1100, l1100, ()))) else none
def EG_55_v1 {R : Type} : Env R := Env.base QQ LN
def LG_55_v1 {R : Type} : Loops R := Loops.none
def E_55_v1 {R : Type} (N : Nat) : Env R := EG_55_v1
theorem eok_55_v1 {R : Type} (N : Nat) : EK Try.prog (E_55_v1 (R := R) N) := ek_base _ _
def L_55_v1 {R : Type} (N : Nat) : Loops R := LG_55_v1
theorem lok_55_v1 {R : Type} (N : Nat) : LOK 2 TT (E_55_v1 (R := R) N) (drawAny TT WW) (L_55_v1 N) (bodyOf Try.f55) := loops_nil (by kernel_rfl)
theorem grun_55_v1 {R : Type} (x : aden ap_55_v1 × hden hp_55_v1) (k : KF R) : fnrun TT (EG_55_v1) (drawAny TT WW) (LG_55_v1) false Try.f55 (instA ap_55_v1 x.1) (instH hp_55_v1 x.2) k = Q_55_v1 x (fun y => k (Pat.inst (.sl 2) y.1) (instH [some (.node (.fcons (.int .i64) (.fcons (.bool) (.fcons (.sl 1) (.fcons (.int .i64) (.fnil))))), 151), some (.lst (.int .u8), 5), some (.lst (.int .u8), 5)] y.2)) := by kernel_rfl
theorem run_55_v1 {R : Type} (N : Nat) (x : aden ap_55_v1 × hden hp_55_v1) (k : KF R) : fnrun TT (E_55_v1 (R := R) N) (drawAny TT WW) (L_55_v1 N) false Try.f55 (instA ap_55_v1 x.1) (instH hp_55_v1 x.2) k = p_55_v1 N x (fun y => k (Pat.inst (.sl 2) y.1) (instH [some (.node (.fcons (.int .i64) (.fcons (.bool) (.fcons (.sl 1) (.fcons (.int .i64) (.fnil))))), 151), some (.lst (.int .u8), 5), some (.lst (.int .u8), 5)] y.2)) := (grun_55_v1 x k).trans (by kernel_rfl)
theorem good_55_v1 {R : Type} (N : Nat) : GD (X := R) Try.prog QQ 55 ap_55_v1 hp_55_v1 (fun (x : aden ap_55_v1 × hden hp_55_v1) k => p_55_v1 N x (fun y => k (Pat.inst (.sl 2) y.1) (instH [some (.node (.fcons (.int .i64) (.fcons (.bool) (.fcons (.sl 1) (.fcons (.int .i64) (.fnil))))), 151), some (.lst (.int .u8), 5), some (.lst (.int .u8), 5)] y.2))) :=
  gd_loud (E := E_55_v1 N) (p := fun (x : aden ap_55_v1 × hden hp_55_v1) k => p_55_v1 N x (fun y => k (Pat.inst (.sl 2) y.1) (instH [some (.node (.fcons (.int .i64) (.fcons (.bool) (.fcons (.sl 1) (.fcons (.int .i64) (.fnil))))), 151), some (.lst (.int .u8), 5), some (.lst (.int .u8), 5)] y.2))) mixed tyok (eok_55_v1 N) Try.func55 (by kernel_rfl) (by kernel_rfl) (by kernel_rfl) (lok_55_v1 N) (fun x k => run_55_v1 N x k)

def ap_25_v2 : List Pat := [.ptr 0 []]
def hp_25_v2 : List (Option (Pat × Nat)) := [some (.node (.fcons (.ptr 1 []) (.fcons (.vec (.int .u64) 8) (.fcons (.int .i64) (.fcons (.int .u64) (.fnil))))), 115), some (.node (.fcons (.int .i64) (.fcons (.bool) (.fcons (.sl 2) (.fcons (.int .i64) (.fnil))))), 151), some (.lst (.int .u8), 5)]
def p_25_v2 {R : Type} (N : Nat) (x : (Unit × Unit) × ((Unit × ((Nat → Int) × (Int × (Int × Unit)))) × (Int × (Bool × (Unit × (Int × Unit)))) × (List Int) × Unit)) (κ0 : (ByteArray × ((Unit × ((Nat → Int) × (Int × (Int × Unit)))) × (Int × (Bool × (Unit × (Int × Unit)))) × (List Int) × Unit)) → Option R) : Option R :=
let a1090 : (Nat → Int) := x.2.1.2.1
let i1091 : Int := x.2.1.2.2.1
let i1092 : Int := x.2.1.2.2.2.1
let i1093 : Int := x.2.2.1.1
let b1094 : Bool := x.2.2.1.2.1
let i1095 : Int := x.2.2.1.2.2.2.1
let l1096 : (List Int) := x.2.2.2.1
p_55_v1 N (((), ()), ((i1093, (b1094, ((), (i1095, ())))), l1096, ())) (fun y1101 =>
let i1102 : Int := y1101.2.1.1
let b1103 : Bool := y1101.2.1.2.1
let i1104 : Int := y1101.2.1.2.2.2.1
let l1105 : (List Int) := y1101.2.2.1
let l1106 : (List Int) := y1101.2.2.2.1
let i1107 : Int := (((List.length l1106) : Nat) : Int)
let i1108 : Int := IntKind.wrap .u64 i1107
let i1109 : Int := addA .u64 i1092 i1108
let i1110 : Int := (((List.length l1106) : Nat) : Int)
let i1111 : Int := subA .i64 128 i1110
bif decide (0 ≤ i1111) then (
bif decide (i1111 ≤ 140737488355328) then (
bif (decide ((List.length l1106 + List.length (List.replicate ((Int.toNat i1111)) (Sch.zero (.int .u8)))) * 1 ≤ 140737488355328) && true) then (
let l1112 : (List Int) := (l1106 ++ List.replicate ((Int.toNat i1111)) (Sch.zero (.int .u8)))
p_12 N ((a1090, l1112, i1109, true, ()), ()) (fun y1113 =>
let a1114 : (Nat → Int) := y1113.1
let i1115 : Int := y1113.2.1
p_56 N ((((List.range 8).map fun j => a1114 (0 + j)), ()), ()) (fun y1116 =>
let l1117 : (List Int) := y1116.2.1
bif decide (0 ≤ i1091) then (
bif decide (i1091 ≤ (((List.length l1117) : Nat) : Int)) then (
bif decide (0 ≤ i1091) then (
let l1118 : (List Int) := List.take ((Int.toNat i1091) - 0) (List.drop 0 l1117)
let s1119 : ByteArray := listStr l1118
κ0 (s1119, (((), (a1090, (i1091, (i1092, ())))), (i1102, (b1103, ((), (i1104, ())))), l1105, ()))) else none) else none) else none))) else none) else none) else none)

abbrev Tp_25_v2 (R : Type) : Type := (Unit × Unit) × ((Unit × ((Nat → Int) × (Int × (Int × Unit)))) × (Int × (Bool × (Unit × (Int × Unit)))) × (List Int) × Unit) → ((ByteArray × ((Unit × ((Nat → Int) × (Int × (Int × Unit)))) × (Int × (Bool × (Unit × (Int × Unit)))) × (List Int) × Unit)) → Option R) → Option R
def Q_25_v2 {R : Type} (q_55_v1 : Tp_55_v1 R) (q_12 : Tp_12 R) (q_56 : Tp_56 R) (x : (Unit × Unit) × ((Unit × ((Nat → Int) × (Int × (Int × Unit)))) × (Int × (Bool × (Unit × (Int × Unit)))) × (List Int) × Unit)) (κ0 : (ByteArray × ((Unit × ((Nat → Int) × (Int × (Int × Unit)))) × (Int × (Bool × (Unit × (Int × Unit)))) × (List Int) × Unit)) → Option R) : Option R :=
let a1090 : (Nat → Int) := x.2.1.2.1
let i1091 : Int := x.2.1.2.2.1
let i1092 : Int := x.2.1.2.2.2.1
let i1093 : Int := x.2.2.1.1
let b1094 : Bool := x.2.2.1.2.1
let i1095 : Int := x.2.2.1.2.2.2.1
let l1096 : (List Int) := x.2.2.2.1
q_55_v1 (((), ()), ((i1093, (b1094, ((), (i1095, ())))), l1096, ())) (fun y1101 =>
let i1102 : Int := y1101.2.1.1
let b1103 : Bool := y1101.2.1.2.1
let i1104 : Int := y1101.2.1.2.2.2.1
let l1105 : (List Int) := y1101.2.2.1
let l1106 : (List Int) := y1101.2.2.2.1
let i1107 : Int := (((List.length l1106) : Nat) : Int)
let i1108 : Int := IntKind.wrap .u64 i1107
let i1109 : Int := addA .u64 i1092 i1108
let i1110 : Int := (((List.length l1106) : Nat) : Int)
let i1111 : Int := subA .i64 128 i1110
bif decide (0 ≤ i1111) then (
bif decide (i1111 ≤ 140737488355328) then (
bif (decide ((List.length l1106 + List.length (List.replicate ((Int.toNat i1111)) (Sch.zero (.int .u8)))) * 1 ≤ 140737488355328) && true) then (
let l1112 : (List Int) := (l1106 ++ List.replicate ((Int.toNat i1111)) (Sch.zero (.int .u8)))
q_12 ((a1090, l1112, i1109, true, ()), ()) (fun y1113 =>
let a1114 : (Nat → Int) := y1113.1
let i1115 : Int := y1113.2.1
q_56 ((((List.range 8).map fun j => a1114 (0 + j)), ()), ()) (fun y1116 =>
let l1117 : (List Int) := y1116.2.1
bif decide (0 ≤ i1091) then (
bif decide (i1091 ≤ (((List.length l1117) : Nat) : Int)) then (
bif decide (0 ≤ i1091) then (
let l1118 : (List Int) := List.take ((Int.toNat i1091) - 0) (List.drop 0 l1117)
let s1119 : ByteArray := listStr l1118
κ0 (s1119, (((), (a1090, (i1091, (i1092, ())))), (i1102, (b1103, ((), (i1104, ())))), l1105, ()))) else none) else none) else none))) else none) else none) else none)
def EG_25_v2 {R : Type} (q_55_v1 : Tp_55_v1 R) (q_12 : Tp_12 R) (q_56 : Tp_56 R) : Env R := (((Env.base QQ LN).add 55 ap_55_v1 hp_55_v1 (fun (x : aden ap_55_v1 × hden hp_55_v1) k => q_55_v1 x (fun y => k (Pat.inst (.sl 2) y.1) (instH [some (.node (.fcons (.int .i64) (.fcons (.bool) (.fcons (.sl 1) (.fcons (.int .i64) (.fnil))))), 151), some (.lst (.int .u8), 5), some (.lst (.int .u8), 5)] y.2)))).add 12 ap_12 hp_12 (fun (x : aden ap_12 × hden hp_12) k => q_12 x (fun y => k (Pat.inst (.tup (.fcons (.vec (.int .u64) 8) (.fcons (.int .i64) (.fnil)))) y) (instH hp_12 x.2)))).add 56 ap_56 hp_56 (fun (x : aden ap_56 × hden hp_56) k => q_56 x (fun y => k (Pat.inst (.sl 0) y.1) (instH [some (.lst (.int .u8), 5)] y.2)))
def LG_25_v2 {R : Type} : Loops R := Loops.none
def E_25_v2 {R : Type} (N : Nat) : Env R := EG_25_v2 (p_55_v1 N) (p_12 N) (p_56 N)
theorem eok_25_v2 {R : Type} (N : Nat) : EK Try.prog (E_25_v2 (R := R) N) := ek_add (ek_add (ek_add (ek_base _ _) (good_55_v1 N)) (good_12 N)) (good_56 N)
def L_25_v2 {R : Type} (N : Nat) : Loops R := LG_25_v2
theorem lok_25_v2 {R : Type} (N : Nat) : LOK 3 TT (E_25_v2 (R := R) N) (drawAny TT WW) (L_25_v2 N) (bodyOf Try.f25) := loops_nil (by kernel_rfl)
theorem grun_25_v2 {R : Type} (q_55_v1 : Tp_55_v1 R) (q_12 : Tp_12 R) (q_56 : Tp_56 R) (x : aden ap_25_v2 × hden hp_25_v2) (k : KF R) : fnrun TT (EG_25_v2 q_55_v1 q_12 q_56) (drawAny TT WW) (LG_25_v2) true Try.f25 (instA ap_25_v2 x.1) (instH hp_25_v2 x.2) k = Q_25_v2 q_55_v1 q_12 q_56 x (fun y => k (Pat.inst (.str) y.1) (instH [some (.node (.fcons (.ptr 1 []) (.fcons (.vec (.int .u64) 8) (.fcons (.int .i64) (.fcons (.int .u64) (.fnil))))), 115), some (.node (.fcons (.int .i64) (.fcons (.bool) (.fcons (.sl 2) (.fcons (.int .i64) (.fnil))))), 151), some (.lst (.int .u8), 5)] y.2)) := by kernel_rfl
theorem run_25_v2 {R : Type} (N : Nat) (x : aden ap_25_v2 × hden hp_25_v2) (k : KF R) : fnrun TT (E_25_v2 (R := R) N) (drawAny TT WW) (L_25_v2 N) true Try.f25 (instA ap_25_v2 x.1) (instH hp_25_v2 x.2) k = p_25_v2 N x (fun y => k (Pat.inst (.str) y.1) (instH [some (.node (.fcons (.ptr 1 []) (.fcons (.vec (.int .u64) 8) (.fcons (.int .i64) (.fcons (.int .u64) (.fnil))))), 115), some (.node (.fcons (.int .i64) (.fcons (.bool) (.fcons (.sl 2) (.fcons (.int .i64) (.fnil))))), 151), some (.lst (.int .u8), 5)] y.2)) := (grun_25_v2 (p_55_v1 N) (p_12 N) (p_56 N) x k).trans (by kernel_rfl)
theorem good_25_v2 {R : Type} (N : Nat) : GD (X := R) Try.prog QQ 25 ap_25_v2 hp_25_v2 (fun (x : aden ap_25_v2 × hden hp_25_v2) k => p_25_v2 N x (fun y => k (Pat.inst (.str) y.1) (instH [some (.node (.fcons (.ptr 1 []) (.fcons (.vec (.int .u64) 8) (.fcons (.int .i64) (.fcons (.int .u64) (.fnil))))), 115), some (.node (.fcons (.int .i64) (.fcons (.bool) (.fcons (.sl 2) (.fcons (.int .i64) (.fnil))))), 151), some (.lst (.int .u8), 5)] y.2))) :=
  gd_loud (E := E_25_v2 N) (p := fun (x : aden ap_25_v2 × hden hp_25_v2) k => p_25_v2 N x (fun y => k (Pat.inst (.str) y.1) (instH [some (.node (.fcons (.ptr 1 []) (.fcons (.vec (.int .u64) 8) (.fcons (.int .i64) (.fcons (.int .u64) (.fnil))))), 115), some (.node (.fcons (.int .i64) (.fcons (.bool) (.fcons (.sl 2) (.fcons (.int .i64) (.fnil))))), 151), some (.lst (.int .u8), 5)] y.2))) mixed tyok (eok_25_v2 N) Try.func25 (by kernel_rfl) (by kernel_rfl) (by kernel_rfl) (lok_25_v2 N) (fun x k => run_25_v2 N x k)

def ap_22 : List Pat := [.int .i64, .str, .sl 0]
def hp_22 : List (Option (Pat × Nat)) := [some (.lst (.str), 9)]
def p_22 {R : Type} (N : Nat) (x : (Int × ByteArray × Unit × Unit) × ((List ByteArray) × Unit)) (κ0 : ((ByteArray × (Int × Unit)) × ((List ByteArray) × Unit)) → Option R) : Option R :=
let i6 : Int := x.1.1
let s7 : ByteArray := x.1.2.1
let l8 : (List ByteArray) := x.2.1
p_27 N ((i6, s7, ()), ()) (fun y1005 =>
let i1006 : Int := y1005.1.2.1
bif (i1006 != 0) then (
κ0 ((⟨#[]⟩, (i1006, ())), (l8, ()))) else (
p_26_v2 N (((), (), ()), (l8, ())) (fun y1008 =>
let l1009 : (List ByteArray) := y1008.2.1
p_25 N (((), ()), ()) (fun y1010 =>
let s1011 : ByteArray := y1010.1
κ0 ((s1011, (0, ())), (l1009, ())))))) (fun y1012 =>
let i1013 : Int := y1012.1.2.1
let a1014 : (Nat → Int) := y1012.2.1.2.1
let i1015 : Int := y1012.2.1.2.2.1
let i1016 : Int := y1012.2.1.2.2.2.1
bif (i1013 != 0) then (
κ0 ((⟨#[]⟩, (i1013, ())), (l8, ()))) else (
p_26 N (((), (), ()), (((), (a1014, (i1015, (i1016, ())))), l8, ())) (fun y1017 =>
let a1018 : (Nat → Int) := y1017.2.1.2.1
let i1019 : Int := y1017.2.1.2.2.1
let i1020 : Int := y1017.2.1.2.2.2.1
let l1021 : (List ByteArray) := y1017.2.2.1
p_25_v1 N (((), ()), (((), (a1018, (i1019, (i1020, ())))), ())) (fun y1067 =>
let s1068 : ByteArray := y1067.1
let a1069 : (Nat → Int) := y1067.2.1.2.1
let i1070 : Int := y1067.2.1.2.2.1
let i1071 : Int := y1067.2.1.2.2.2.1
κ0 ((s1068, (0, ())), (l1021, ())))))) (fun y1072 =>
let i1073 : Int := y1072.1.2.1
let a1074 : (Nat → Int) := y1072.2.1.2.1
let i1075 : Int := y1072.2.1.2.2.1
let i1076 : Int := y1072.2.1.2.2.2.1
let i1077 : Int := y1072.2.2.1.1
let b1078 : Bool := y1072.2.2.1.2.1
let i1079 : Int := y1072.2.2.1.2.2.2.1
let l1080 : (List Int) := y1072.2.2.2.1
bif (i1073 != 0) then (
κ0 ((⟨#[]⟩, (i1073, ())), (l8, ()))) else (
p_26_v1 N (((), (), ()), (((), (a1074, (i1075, (i1076, ())))), (i1077, (b1078, ((), (i1079, ())))), l1080, l8, ())) (fun y1081 =>
let a1082 : (Nat → Int) := y1081.2.1.2.1
let i1083 : Int := y1081.2.1.2.2.1
let i1084 : Int := y1081.2.1.2.2.2.1
let i1085 : Int := y1081.2.2.1.1
let b1086 : Bool := y1081.2.2.1.2.1
let i1087 : Int := y1081.2.2.1.2.2.2.1
let l1088 : (List ByteArray) := y1081.2.2.2.1
let l1089 : (List Int) := y1081.2.2.2.2.1
p_25_v2 N (((), ()), (((), (a1082, (i1083, (i1084, ())))), (i1085, (b1086, ((), (i1087, ())))), l1089, ())) (fun y1120 =>
let s1121 : ByteArray := y1120.1
let a1122 : (Nat → Int) := y1120.2.1.2.1
let i1123 : Int := y1120.2.1.2.2.1
let i1124 : Int := y1120.2.1.2.2.2.1
let i1125 : Int := y1120.2.2.1.1
let b1126 : Bool := y1120.2.2.1.2.1
let i1127 : Int := y1120.2.2.1.2.2.2.1
let l1128 : (List Int) := y1120.2.2.2.1
κ0 ((s1121, (0, ())), (l1088, ()))))))

abbrev Tp_22 (R : Type) : Type := (Int × ByteArray × Unit × Unit) × ((List ByteArray) × Unit) → (((ByteArray × (Int × Unit)) × ((List ByteArray) × Unit)) → Option R) → Option R
def Q_22 {R : Type} (q_27 : Tp_27 R) (q_26_v2 : Tp_26_v2 R) (q_25 : Tp_25 R) (q_26 : Tp_26 R) (q_25_v1 : Tp_25_v1 R) (q_26_v1 : Tp_26_v1 R) (q_25_v2 : Tp_25_v2 R) (x : (Int × ByteArray × Unit × Unit) × ((List ByteArray) × Unit)) (κ0 : ((ByteArray × (Int × Unit)) × ((List ByteArray) × Unit)) → Option R) : Option R :=
let i6 : Int := x.1.1
let s7 : ByteArray := x.1.2.1
let l8 : (List ByteArray) := x.2.1
q_27 ((i6, s7, ()), ()) (fun y1005 =>
let i1006 : Int := y1005.1.2.1
bif (i1006 != 0) then (
κ0 ((⟨#[]⟩, (i1006, ())), (l8, ()))) else (
q_26_v2 (((), (), ()), (l8, ())) (fun y1008 =>
let l1009 : (List ByteArray) := y1008.2.1
q_25 (((), ()), ()) (fun y1010 =>
let s1011 : ByteArray := y1010.1
κ0 ((s1011, (0, ())), (l1009, ())))))) (fun y1012 =>
let i1013 : Int := y1012.1.2.1
let a1014 : (Nat → Int) := y1012.2.1.2.1
let i1015 : Int := y1012.2.1.2.2.1
let i1016 : Int := y1012.2.1.2.2.2.1
bif (i1013 != 0) then (
κ0 ((⟨#[]⟩, (i1013, ())), (l8, ()))) else (
q_26 (((), (), ()), (((), (a1014, (i1015, (i1016, ())))), l8, ())) (fun y1017 =>
let a1018 : (Nat → Int) := y1017.2.1.2.1
let i1019 : Int := y1017.2.1.2.2.1
let i1020 : Int := y1017.2.1.2.2.2.1
let l1021 : (List ByteArray) := y1017.2.2.1
q_25_v1 (((), ()), (((), (a1018, (i1019, (i1020, ())))), ())) (fun y1067 =>
let s1068 : ByteArray := y1067.1
let a1069 : (Nat → Int) := y1067.2.1.2.1
let i1070 : Int := y1067.2.1.2.2.1
let i1071 : Int := y1067.2.1.2.2.2.1
κ0 ((s1068, (0, ())), (l1021, ())))))) (fun y1072 =>
let i1073 : Int := y1072.1.2.1
let a1074 : (Nat → Int) := y1072.2.1.2.1
let i1075 : Int := y1072.2.1.2.2.1
let i1076 : Int := y1072.2.1.2.2.2.1
let i1077 : Int := y1072.2.2.1.1
let b1078 : Bool := y1072.2.2.1.2.1
let i1079 : Int := y1072.2.2.1.2.2.2.1
let l1080 : (List Int) := y1072.2.2.2.1
bif (i1073 != 0) then (
κ0 ((⟨#[]⟩, (i1073, ())), (l8, ()))) else (
q_26_v1 (((), (), ()), (((), (a1074, (i1075, (i1076, ())))), (i1077, (b1078, ((), (i1079, ())))), l1080, l8, ())) (fun y1081 =>
let a1082 : (Nat → Int) := y1081.2.1.2.1
let i1083 : Int := y1081.2.1.2.2.1
let i1084 : Int := y1081.2.1.2.2.2.1
let i1085 : Int := y1081.2.2.1.1
let b1086 : Bool := y1081.2.2.1.2.1
let i1087 : Int := y1081.2.2.1.2.2.2.1
let l1088 : (List ByteArray) := y1081.2.2.2.1
let l1089 : (List Int) := y1081.2.2.2.2.1
q_25_v2 (((), ()), (((), (a1082, (i1083, (i1084, ())))), (i1085, (b1086, ((), (i1087, ())))), l1089, ())) (fun y1120 =>
let s1121 : ByteArray := y1120.1
let a1122 : (Nat → Int) := y1120.2.1.2.1
let i1123 : Int := y1120.2.1.2.2.1
let i1124 : Int := y1120.2.1.2.2.2.1
let i1125 : Int := y1120.2.2.1.1
let b1126 : Bool := y1120.2.2.1.2.1
let i1127 : Int := y1120.2.2.1.2.2.2.1
let l1128 : (List Int) := y1120.2.2.2.1
κ0 ((s1121, (0, ())), (l1088, ()))))))
def EG_22 {R : Type} (q_27 : Tp_27 R) (q_26_v2 : Tp_26_v2 R) (q_25 : Tp_25 R) (q_26 : Tp_26 R) (q_25_v1 : Tp_25_v1 R) (q_26_v1 : Tp_26_v1 R) (q_25_v2 : Tp_25_v2 R) : Env R := (((((((Env.base QQ LN).add 27 ap_27 hp_27 (fun (x : aden ap_27 × hden hp_27) k => q_27 x (fun y => k (Pat.inst (.tup (.fcons (.nilp) (.fcons (.int .i64) (.fnil)))) y.1) (instH [] y.2)) (fun y => k (Pat.inst (.tup (.fcons (.ptr 0 []) (.fcons (.int .i64) (.fnil)))) y.1) (instH [some (.node (.fcons (.nilp) (.fcons (.vec (.int .u64) 8) (.fcons (.int .i64) (.fcons (.int .u64) (.fnil))))), 115)] y.2)) (fun y => k (Pat.inst (.tup (.fcons (.ptr 0 []) (.fcons (.int .i64) (.fnil)))) y.1) (instH [some (.node (.fcons (.ptr 1 []) (.fcons (.vec (.int .u64) 8) (.fcons (.int .i64) (.fcons (.int .u64) (.fnil))))), 115), some (.node (.fcons (.int .i64) (.fcons (.bool) (.fcons (.sl 2) (.fcons (.int .i64) (.fnil))))), 151), some (.lst (.int .u8), 5)] y.2)))).add 26 ap_26_v2 hp_26_v2 (fun (x : aden ap_26_v2 × hden hp_26_v2) k => q_26_v2 x (fun y => k (Pat.inst (.nilp) y.1) (instH [some (.lst (.str), 9)] y.2)))).add 25 ap_25 hp_25 (fun (x : aden ap_25 × hden hp_25) k => q_25 x (fun y => k (Pat.inst (.str) y.1) (instH [] y.2)))).add 26 ap_26 hp_26 (fun (x : aden ap_26 × hden hp_26) k => q_26 x (fun y => k (Pat.inst (.ptr 0 []) y.1) (instH [some (.node (.fcons (.nilp) (.fcons (.vec (.int .u64) 8) (.fcons (.int .i64) (.fcons (.int .u64) (.fnil))))), 115), some (.lst (.str), 9)] y.2)))).add 25 ap_25_v1 hp_25_v1 (fun (x : aden ap_25_v1 × hden hp_25_v1) k => q_25_v1 x (fun y => k (Pat.inst (.str) y.1) (instH [some (.node (.fcons (.nilp) (.fcons (.vec (.int .u64) 8) (.fcons (.int .i64) (.fcons (.int .u64) (.fnil))))), 115)] y.2)))).add 26 ap_26_v1 hp_26_v1 (fun (x : aden ap_26_v1 × hden hp_26_v1) k => q_26_v1 x (fun y => k (Pat.inst (.ptr 0 []) y.1) (instH [some (.node (.fcons (.ptr 1 []) (.fcons (.vec (.int .u64) 8) (.fcons (.int .i64) (.fcons (.int .u64) (.fnil))))), 115), some (.node (.fcons (.int .i64) (.fcons (.bool) (.fcons (.sl 4) (.fcons (.int .i64) (.fnil))))), 151), none, some (.lst (.str), 9), some (.lst (.int .u8), 5)] y.2)))).add 25 ap_25_v2 hp_25_v2 (fun (x : aden ap_25_v2 × hden hp_25_v2) k => q_25_v2 x (fun y => k (Pat.inst (.str) y.1) (instH [some (.node (.fcons (.ptr 1 []) (.fcons (.vec (.int .u64) 8) (.fcons (.int .i64) (.fcons (.int .u64) (.fnil))))), 115), some (.node (.fcons (.int .i64) (.fcons (.bool) (.fcons (.sl 2) (.fcons (.int .i64) (.fnil))))), 151), some (.lst (.int .u8), 5)] y.2)))
def LG_22 {R : Type} : Loops R := Loops.none
def E_22 {R : Type} (N : Nat) : Env R := EG_22 (p_27 N) (p_26_v2 N) (p_25 N) (p_26 N) (p_25_v1 N) (p_26_v1 N) (p_25_v2 N)
theorem eok_22 {R : Type} (N : Nat) : EK Try.prog (E_22 (R := R) N) := ek_add (ek_add (ek_add (ek_add (ek_add (ek_add (ek_add (ek_base _ _) (good_27 N)) (good_26_v2 N)) (good_25 N)) (good_26 N)) (good_25_v1 N)) (good_26_v1 N)) (good_25_v2 N)
def L_22 {R : Type} (N : Nat) : Loops R := LG_22
theorem lok_22 {R : Type} (N : Nat) : LOK 1 TT (E_22 (R := R) N) (drawAny TT WW) (L_22 N) (bodyOf Try.f22) := loops_nil (by kernel_rfl)
theorem grun_22 {R : Type} (q_27 : Tp_27 R) (q_26_v2 : Tp_26_v2 R) (q_25 : Tp_25 R) (q_26 : Tp_26 R) (q_25_v1 : Tp_25_v1 R) (q_26_v1 : Tp_26_v1 R) (q_25_v2 : Tp_25_v2 R) (x : aden ap_22 × hden hp_22) (k : KF R) : fnrun TT (EG_22 q_27 q_26_v2 q_25 q_26 q_25_v1 q_26_v1 q_25_v2) (drawAny TT WW) (LG_22) true Try.f22 (instA ap_22 x.1) (instH hp_22 x.2) k = Q_22 q_27 q_26_v2 q_25 q_26 q_25_v1 q_26_v1 q_25_v2 x (fun y => k (Pat.inst (.tup (.fcons (.str) (.fcons (.int .i64) (.fnil)))) y.1) (instH [some (.lst (.str), 9)] y.2)) := by kernel_rfl
theorem run_22 {R : Type} (N : Nat) (x : aden ap_22 × hden hp_22) (k : KF R) : fnrun TT (E_22 (R := R) N) (drawAny TT WW) (L_22 N) true Try.f22 (instA ap_22 x.1) (instH hp_22 x.2) k = p_22 N x (fun y => k (Pat.inst (.tup (.fcons (.str) (.fcons (.int .i64) (.fnil)))) y.1) (instH [some (.lst (.str), 9)] y.2)) := (grun_22 (p_27 N) (p_26_v2 N) (p_25 N) (p_26 N) (p_25_v1 N) (p_26_v1 N) (p_25_v2 N) x k).trans (by kernel_rfl)
theorem good_22 {R : Type} (N : Nat) : GD (X := R) Try.prog QQ 22 ap_22 hp_22 (fun (x : aden ap_22 × hden hp_22) k => p_22 N x (fun y => k (Pat.inst (.tup (.fcons (.str) (.fcons (.int .i64) (.fnil)))) y.1) (instH [some (.lst (.str), 9)] y.2))) :=
  gd_loud (E := E_22 N) (p := fun (x : aden ap_22 × hden hp_22) k => p_22 N x (fun y => k (Pat.inst (.tup (.fcons (.str) (.fcons (.int .i64) (.fnil)))) y.1) (instH [some (.lst (.str), 9)] y.2))) mixed tyok (eok_22 N) Try.func22 (by kernel_rfl) (by kernel_rfl) (by kernel_rfl) (lok_22 N) (fun x k => run_22 N x k)

def ap_11 : List Pat := []
def hp_11 : List (Option (Pat × Nat)) := []
def p_11 {R : Type} (N : Nat) (x : (Unit) × (Unit)) (κ0 : Bool → Option R) : Option R :=
let l5 : (List ByteArray) := [⟨#[97, 98, 99]⟩]
p_22 N ((64, ⟨#[]⟩, (), ()), (l5, ())) (fun y1129 =>
let s1130 : ByteArray := y1129.1.1
let i1131 : Int := y1129.1.2.1
let l1132 : (List ByteArray) := y1129.2.1
bif (i1131 == 0) then (
let i1133 : Int := ((ByteArray.size s1130 : Nat) : Int)
bif (i1133 == 64) then (
bif decide (8 ≤ ((ByteArray.size s1130 : Nat) : Int)) then (
let s1134 : ByteArray := ByteArray.extract s1130 0 8
bif (eqS s1134 (⟨#[186, 128, 165, 63, 152, 28, 77, 13]⟩)) then (
bif decide (0 ≤ ((ByteArray.size s1130 : Nat) : Int)) then (
bif decide (((ByteArray.size s1130 : Nat) : Int) ≤ ((ByteArray.size s1130 : Nat) : Int)) then (
bif decide (56 ≤ ((ByteArray.size s1130 : Nat) : Int)) then (
let s1135 : ByteArray := ByteArray.extract s1130 56 (ByteArray.size s1130)
κ0 ((eqS s1135 (⟨#[185, 35, 134, 237, 212, 0, 153, 35]⟩)))) else none) else none) else none) else (
κ0 false)) else none) else (
κ0 false)) else (
κ0 false))

abbrev Tp_11 (R : Type) : Type := (Unit) × (Unit) → (Bool → Option R) → Option R
def Q_11 {R : Type} (q_22 : Tp_22 R) (x : (Unit) × (Unit)) (κ0 : Bool → Option R) : Option R :=
let l5 : (List ByteArray) := [⟨#[97, 98, 99]⟩]
q_22 ((64, ⟨#[]⟩, (), ()), (l5, ())) (fun y1129 =>
let s1130 : ByteArray := y1129.1.1
let i1131 : Int := y1129.1.2.1
let l1132 : (List ByteArray) := y1129.2.1
bif (i1131 == 0) then (
let i1133 : Int := ((ByteArray.size s1130 : Nat) : Int)
bif (i1133 == 64) then (
bif decide (8 ≤ ((ByteArray.size s1130 : Nat) : Int)) then (
let s1134 : ByteArray := ByteArray.extract s1130 0 8
bif (eqS s1134 (⟨#[186, 128, 165, 63, 152, 28, 77, 13]⟩)) then (
bif decide (0 ≤ ((ByteArray.size s1130 : Nat) : Int)) then (
bif decide (((ByteArray.size s1130 : Nat) : Int) ≤ ((ByteArray.size s1130 : Nat) : Int)) then (
bif decide (56 ≤ ((ByteArray.size s1130 : Nat) : Int)) then (
let s1135 : ByteArray := ByteArray.extract s1130 56 (ByteArray.size s1130)
κ0 ((eqS s1135 (⟨#[185, 35, 134, 237, 212, 0, 153, 35]⟩)))) else none) else none) else none) else (
κ0 false)) else none) else (
κ0 false)) else (
κ0 false))
def EG_11 {R : Type} (q_22 : Tp_22 R) : Env R := (Env.base QQ LN).add 22 ap_22 hp_22 (fun (x : aden ap_22 × hden hp_22) k => q_22 x (fun y => k (Pat.inst (.tup (.fcons (.str) (.fcons (.int .i64) (.fnil)))) y.1) (instH [some (.lst (.str), 9)] y.2)))
def LG_11 {R : Type} : Loops R := Loops.none
def E_11 {R : Type} (N : Nat) : Env R := EG_11 (p_22 N)
theorem eok_11 {R : Type} (N : Nat) : EK Try.prog (E_11 (R := R) N) := ek_add (ek_base _ _) (good_22 N)
def L_11 {R : Type} (N : Nat) : Loops R := LG_11
theorem lok_11 {R : Type} (N : Nat) : LOK 0 TT (E_11 (R := R) N) (drawAny TT WW) (L_11 N) (bodyOf Try.f11) := loops_nil (by kernel_rfl)
theorem grun_11 {R : Type} (q_22 : Tp_22 R) (x : aden ap_11 × hden hp_11) (k : KF R) : fnrun TT (EG_11 q_22) (drawAny TT WW) (LG_11) true Try.f11 (instA ap_11 x.1) (instH hp_11 x.2) k = Q_11 q_22 x (fun y => k (Pat.inst (.bool) y) (instH hp_11 x.2)) := by kernel_rfl
theorem run_11 {R : Type} (N : Nat) (x : aden ap_11 × hden hp_11) (k : KF R) : fnrun TT (E_11 (R := R) N) (drawAny TT WW) (L_11 N) true Try.f11 (instA ap_11 x.1) (instH hp_11 x.2) k = p_11 N x (fun y => k (Pat.inst (.bool) y) (instH hp_11 x.2)) := (grun_11 (p_22 N) x k).trans (by kernel_rfl)
theorem good_11 {R : Type} (N : Nat) : GD (X := R) Try.prog QQ 11 ap_11 hp_11 (fun (x : aden ap_11 × hden hp_11) k => p_11 N x (fun y => k (Pat.inst (.bool) y) (instH hp_11 x.2))) :=
  gd_quiet (E := E_11 N) (p := fun (x : aden ap_11 × hden hp_11) κ => p_11 N x (fun y => κ (Pat.inst (.bool) y))) mixed tyok (eok_11 N) Try.func11 (by kernel_rfl) (by kernel_rfl) (lok_11 N) (fun x k => run_11 N x k)

def lv_21_3 : Live := [(0, none), (3, none), (4, none)]
def pt_21_3 : SPat := ⟨[(0, .ros (.str)), (3, .int .i64), (4, .int .i64)], []⟩
def px_21_3_0 : SPat := ⟨[(3, .int .i64)], []⟩
def lo_21_3 : Exit → Live
  | .exit 0 => [(3, none)]
  | _ => []
def B_21_3 {R : Type} (N : Nat) (rec : (((List ByteArray) × Int × Int × Unit) × (Unit)) → Option R) (x : (((List ByteArray) × Int × Int × Unit) × (Unit))) (κ0 : ((Int × Unit) × (Unit)) → Option R) : Option R :=
let l1147 : (List ByteArray) := x.1.1
let i1148 : Int := x.1.2.1
let i1149 : Int := x.1.2.2.1
let i1150 : Int := (((List.length l1147) : Nat) : Int)
bif (decide (i1149 < i1150)) then (
bif decide (0 ≤ i1149) then (
bif decide (i1149 < ((List.length l1147) : Int)) then (
let p1151 : ByteArray := (List.getD l1147 ((Int.toNat i1149)) (Sch.zero (.str)))
let i1152 : Int := ((ByteArray.size p1151 : Nat) : Int)
let i1153 : Int := addA .i64 i1148 i1152
let i1154 : Int := addA .i64 i1149 1
rec ((l1147, i1153, i1154, ()), ())) else none) else none) else (
κ0 ((i1148, ()), ()))
def l_21_3 {R : Type} (N : Nat) : Nat → (((List ByteArray) × Int × Int × Unit) × (Unit)) → (((Int × Unit) × (Unit)) → Option R) → Option R
  | 0, _, _ => none
  | n + 1, x, κ0 => B_21_3 N (fun y => l_21_3 N n y κ0) x κ0
def ap_21 : List Pat := [.ros (.str)]
def hp_21 : List (Option (Pat × Nat)) := []
def p_21 {R : Type} (N : Nat) (x : ((List ByteArray) × Unit) × (Unit)) (κ0 : Int → Option R) : Option R :=
let l1146 : (List ByteArray) := x.1.1
l_21_3 N N ((l1146, 0, 0, ()), ()) (fun y1155 =>
let i1156 : Int := y1155.1.1
κ0 i1156)

abbrev Tl_21_3 (R : Type) : Type := (((List ByteArray) × Int × Int × Unit) × (Unit)) → (((Int × Unit) × (Unit)) → Option R) → Option R
abbrev Tp_21 (R : Type) : Type := ((List ByteArray) × Unit) × (Unit) → (Int → Option R) → Option R
def Q_21 {R : Type} (m_21_3 : Tl_21_3 R) (x : ((List ByteArray) × Unit) × (Unit)) (κ0 : Int → Option R) : Option R :=
let l1146 : (List ByteArray) := x.1.1
m_21_3 ((l1146, 0, 0, ()), ()) (fun y1155 =>
let i1156 : Int := y1155.1.1
κ0 i1156)
def C_21_3 {R : Type} (m_21_3 : Tl_21_3 R) (rec : (((List ByteArray) × Int × Int × Unit) × (Unit)) → Option R) (x : (((List ByteArray) × Int × Int × Unit) × (Unit))) (κ0 : ((Int × Unit) × (Unit)) → Option R) : Option R :=
let l1147 : (List ByteArray) := x.1.1
let i1148 : Int := x.1.2.1
let i1149 : Int := x.1.2.2.1
let i1150 : Int := (((List.length l1147) : Nat) : Int)
bif (decide (i1149 < i1150)) then (
bif decide (0 ≤ i1149) then (
bif decide (i1149 < ((List.length l1147) : Int)) then (
let p1151 : ByteArray := (List.getD l1147 ((Int.toNat i1149)) (Sch.zero (.str)))
let i1152 : Int := ((ByteArray.size p1151 : Nat) : Int)
let i1153 : Int := addA .i64 i1148 i1152
let i1154 : Int := addA .i64 i1149 1
rec ((l1147, i1153, i1154, ()), ())) else none) else none) else (
κ0 ((i1148, ()), ()))
def EG_21 {R : Type} : Env R := Env.base QQ LN
def LG_21 {R : Type} (m_21_3 : Tl_21_3 R) : Loops R := (Loops.none).add 3 (loopBy 0 lv_21_3 pt_21_3 (fun x k => m_21_3 x (fun y => k (.exit 0) (px_21_3_0.inst y))))
def E_21 {R : Type} (N : Nat) : Env R := EG_21
theorem eok_21 {R : Type} (N : Nat) : EK Try.prog (E_21 (R := R) N) := ek_base _ _
def L_21 {R : Type} (N : Nat) : Loops R := LG_21 (l_21_3 N N)
theorem gstep_21_3 {R : Type} (m_21_3 : Tl_21_3 R) (n : Nat) (x : pt_21_3.den) (k : Exit → St → Option R) : iter 0 lv_21_3 lo_21_3 (aexec TT (EG_21) (drawAny TT WW) (LG_21 m_21_3) (loopAt 3 (bodyOf Try.f21))) (n + 1) (pt_21_3.inst x) k = C_21_3 m_21_3 (fun y => iter 0 lv_21_3 lo_21_3 (aexec TT (EG_21) (drawAny TT WW) (LG_21 m_21_3) (loopAt 3 (bodyOf Try.f21))) n (pt_21_3.inst y) k) x (fun y => k (.exit 0) (px_21_3_0.inst y)) := by kernel_rfl
theorem step_21_3 {R : Type} (N n : Nat) (x : pt_21_3.den) (k : Exit → St → Option R) : iter 0 lv_21_3 lo_21_3 (aexec TT (E_21 (R := R) N) (drawAny TT WW) (L_21 N) (loopAt 3 (bodyOf Try.f21))) (n + 1) (pt_21_3.inst x) k = B_21_3 N (fun y => iter 0 lv_21_3 lo_21_3 (aexec TT (E_21 (R := R) N) (drawAny TT WW) (L_21 N) (loopAt 3 (bodyOf Try.f21))) n (pt_21_3.inst y) k) x (fun y => k (.exit 0) (px_21_3_0.inst y)) := (gstep_21_3 (l_21_3 N N) n x k).trans (by kernel_rfl)
theorem eq_21_3 {R : Type} (N : Nat) : ∀ (n : Nat) (x : pt_21_3.den) (k : Exit → St → Option R), iter 0 lv_21_3 lo_21_3 (aexec TT (E_21 (R := R) N) (drawAny TT WW) (L_21 N) (loopAt 3 (bodyOf Try.f21))) n (pt_21_3.inst x) k = l_21_3 N n x (fun y => k (.exit 0) (px_21_3_0.inst y)) :=
  iter_eq (K := Exit → St → Option R) (ks := fun k => k) (l := fun n (x : pt_21_3.den) k => l_21_3 N n x (fun y => k (.exit 0) (px_21_3_0.inst y))) (B := fun (rec : pt_21_3.den → Option R) (x : pt_21_3.den) k => B_21_3 N rec x (fun y => k (.exit 0) (px_21_3_0.inst y))) (fun _ _ => rfl) (fun _ _ _ => rfl) (fun n x k => step_21_3 N n x k)
theorem rounds_21_3 {R : Type} (N : Nat) : Rounds 0 TT (E_21 (R := R) N) (drawAny TT WW) (L_21 N) 3 (loopAt 3 (bodyOf Try.f21)) :=
  rounds_of (p := pt_21_3) (l := fun (x : pt_21_3.den) k => l_21_3 N N x (fun y => k (.exit 0) (px_21_3_0.inst y))) (fun s k => rfl) (fun x k => eq_21_3 N N x k)
theorem loops_21 : loopsIn (bodyOf Try.f21) = [(3, loopAt 3 (bodyOf Try.f21))] := by kernel_rfl
theorem lok_21 {R : Type} (N : Nat) : LOK 0 TT (E_21 (R := R) N) (drawAny TT WW) (L_21 N) (bodyOf Try.f21) := loops_all loops_21 (by
  simp only [List.forall_mem_cons, List.not_mem_nil, false_implies, implies_true, and_true]
  exact rounds_21_3 N)
theorem grun_21 {R : Type} (m_21_3 : Tl_21_3 R) (x : aden ap_21 × hden hp_21) (k : KF R) : fnrun TT (EG_21) (drawAny TT WW) (LG_21 m_21_3) true Try.f21 (instA ap_21 x.1) (instH hp_21 x.2) k = Q_21 m_21_3 x (fun y => k (Pat.inst (.int .i64) y) (instH hp_21 x.2)) := by kernel_rfl
theorem run_21 {R : Type} (N : Nat) (x : aden ap_21 × hden hp_21) (k : KF R) : fnrun TT (E_21 (R := R) N) (drawAny TT WW) (L_21 N) true Try.f21 (instA ap_21 x.1) (instH hp_21 x.2) k = p_21 N x (fun y => k (Pat.inst (.int .i64) y) (instH hp_21 x.2)) := (grun_21 (l_21_3 N N) x k).trans (by kernel_rfl)
theorem good_21 {R : Type} (N : Nat) : GD (X := R) Try.prog QQ 21 ap_21 hp_21 (fun (x : aden ap_21 × hden hp_21) k => p_21 N x (fun y => k (Pat.inst (.int .i64) y) (instH hp_21 x.2))) :=
  gd_quiet (E := E_21 N) (p := fun (x : aden ap_21 × hden hp_21) κ => p_21 N x (fun y => κ (Pat.inst (.int .i64) y))) mixed tyok (eok_21 N) Try.func21 (by kernel_rfl) (by kernel_rfl) (lok_21 N) (fun x k => run_21 N x k)

def lv_24_3 : Live := [(0, none), (3, none), (4, none)]
def pt_24_3 : SPat := ⟨[(0, .ros (.str)), (3, .str), (4, .int .i64)], []⟩
def px_24_3_0 : SPat := ⟨[(3, .str)], []⟩
def lo_24_3 : Exit → Live
  | .exit 0 => [(3, none)]
  | _ => []
def B_24_3 {R : Type} (N : Nat) (rec : (((List ByteArray) × ByteArray × Int × Unit) × (Unit)) → Option R) (x : (((List ByteArray) × ByteArray × Int × Unit) × (Unit))) (κ0 : ((ByteArray × Unit) × (Unit)) → Option R) : Option R :=
let l1240 : (List ByteArray) := x.1.1
let s1241 : ByteArray := x.1.2.1
let i1242 : Int := x.1.2.2.1
let i1243 : Int := (((List.length l1240) : Nat) : Int)
bif (decide (i1242 < i1243)) then (
bif decide (0 ≤ i1242) then (
bif decide (i1242 < ((List.length l1240) : Int)) then (
let p1244 : ByteArray := (List.getD l1240 ((Int.toNat i1242)) (Sch.zero (.str)))
bif decide (ByteArray.size s1241 + ByteArray.size p1244 ≤ maxI64) then (
let s1245 : ByteArray := (s1241 ++ p1244)
let i1246 : Int := addA .i64 i1242 1
rec ((l1240, s1245, i1246, ()), ())) else none) else none) else none) else (
κ0 ((s1241, ()), ()))
def l_24_3 {R : Type} (N : Nat) : Nat → (((List ByteArray) × ByteArray × Int × Unit) × (Unit)) → (((ByteArray × Unit) × (Unit)) → Option R) → Option R
  | 0, _, _ => none
  | n + 1, x, κ0 => B_24_3 N (fun y => l_24_3 N n y κ0) x κ0
def ap_24 : List Pat := [.ros (.str)]
def hp_24 : List (Option (Pat × Nat)) := []
def p_24 {R : Type} (N : Nat) (x : ((List ByteArray) × Unit) × (Unit)) (κ0 : ByteArray → Option R) : Option R :=
let l1239 : (List ByteArray) := x.1.1
l_24_3 N N ((l1239, ⟨#[]⟩, 0, ()), ()) (fun y1247 =>
let s1248 : ByteArray := y1247.1.1
κ0 s1248)

abbrev Tl_24_3 (R : Type) : Type := (((List ByteArray) × ByteArray × Int × Unit) × (Unit)) → (((ByteArray × Unit) × (Unit)) → Option R) → Option R
abbrev Tp_24 (R : Type) : Type := ((List ByteArray) × Unit) × (Unit) → (ByteArray → Option R) → Option R
def Q_24 {R : Type} (m_24_3 : Tl_24_3 R) (x : ((List ByteArray) × Unit) × (Unit)) (κ0 : ByteArray → Option R) : Option R :=
let l1239 : (List ByteArray) := x.1.1
m_24_3 ((l1239, ⟨#[]⟩, 0, ()), ()) (fun y1247 =>
let s1248 : ByteArray := y1247.1.1
κ0 s1248)
def C_24_3 {R : Type} (m_24_3 : Tl_24_3 R) (rec : (((List ByteArray) × ByteArray × Int × Unit) × (Unit)) → Option R) (x : (((List ByteArray) × ByteArray × Int × Unit) × (Unit))) (κ0 : ((ByteArray × Unit) × (Unit)) → Option R) : Option R :=
let l1240 : (List ByteArray) := x.1.1
let s1241 : ByteArray := x.1.2.1
let i1242 : Int := x.1.2.2.1
let i1243 : Int := (((List.length l1240) : Nat) : Int)
bif (decide (i1242 < i1243)) then (
bif decide (0 ≤ i1242) then (
bif decide (i1242 < ((List.length l1240) : Int)) then (
let p1244 : ByteArray := (List.getD l1240 ((Int.toNat i1242)) (Sch.zero (.str)))
bif decide (ByteArray.size s1241 + ByteArray.size p1244 ≤ maxI64) then (
let s1245 : ByteArray := (s1241 ++ p1244)
let i1246 : Int := addA .i64 i1242 1
rec ((l1240, s1245, i1246, ()), ())) else none) else none) else none) else (
κ0 ((s1241, ()), ()))
def EG_24 {R : Type} : Env R := Env.base QQ LN
def LG_24 {R : Type} (m_24_3 : Tl_24_3 R) : Loops R := (Loops.none).add 3 (loopBy 0 lv_24_3 pt_24_3 (fun x k => m_24_3 x (fun y => k (.exit 0) (px_24_3_0.inst y))))
def E_24 {R : Type} (N : Nat) : Env R := EG_24
theorem eok_24 {R : Type} (N : Nat) : EK Try.prog (E_24 (R := R) N) := ek_base _ _
def L_24 {R : Type} (N : Nat) : Loops R := LG_24 (l_24_3 N N)
theorem gstep_24_3 {R : Type} (m_24_3 : Tl_24_3 R) (n : Nat) (x : pt_24_3.den) (k : Exit → St → Option R) : iter 0 lv_24_3 lo_24_3 (aexec TT (EG_24) (drawAny TT WW) (LG_24 m_24_3) (loopAt 3 (bodyOf Try.f24))) (n + 1) (pt_24_3.inst x) k = C_24_3 m_24_3 (fun y => iter 0 lv_24_3 lo_24_3 (aexec TT (EG_24) (drawAny TT WW) (LG_24 m_24_3) (loopAt 3 (bodyOf Try.f24))) n (pt_24_3.inst y) k) x (fun y => k (.exit 0) (px_24_3_0.inst y)) := by kernel_rfl
theorem step_24_3 {R : Type} (N n : Nat) (x : pt_24_3.den) (k : Exit → St → Option R) : iter 0 lv_24_3 lo_24_3 (aexec TT (E_24 (R := R) N) (drawAny TT WW) (L_24 N) (loopAt 3 (bodyOf Try.f24))) (n + 1) (pt_24_3.inst x) k = B_24_3 N (fun y => iter 0 lv_24_3 lo_24_3 (aexec TT (E_24 (R := R) N) (drawAny TT WW) (L_24 N) (loopAt 3 (bodyOf Try.f24))) n (pt_24_3.inst y) k) x (fun y => k (.exit 0) (px_24_3_0.inst y)) := (gstep_24_3 (l_24_3 N N) n x k).trans (by kernel_rfl)
theorem eq_24_3 {R : Type} (N : Nat) : ∀ (n : Nat) (x : pt_24_3.den) (k : Exit → St → Option R), iter 0 lv_24_3 lo_24_3 (aexec TT (E_24 (R := R) N) (drawAny TT WW) (L_24 N) (loopAt 3 (bodyOf Try.f24))) n (pt_24_3.inst x) k = l_24_3 N n x (fun y => k (.exit 0) (px_24_3_0.inst y)) :=
  iter_eq (K := Exit → St → Option R) (ks := fun k => k) (l := fun n (x : pt_24_3.den) k => l_24_3 N n x (fun y => k (.exit 0) (px_24_3_0.inst y))) (B := fun (rec : pt_24_3.den → Option R) (x : pt_24_3.den) k => B_24_3 N rec x (fun y => k (.exit 0) (px_24_3_0.inst y))) (fun _ _ => rfl) (fun _ _ _ => rfl) (fun n x k => step_24_3 N n x k)
theorem rounds_24_3 {R : Type} (N : Nat) : Rounds 0 TT (E_24 (R := R) N) (drawAny TT WW) (L_24 N) 3 (loopAt 3 (bodyOf Try.f24)) :=
  rounds_of (p := pt_24_3) (l := fun (x : pt_24_3.den) k => l_24_3 N N x (fun y => k (.exit 0) (px_24_3_0.inst y))) (fun s k => rfl) (fun x k => eq_24_3 N N x k)
theorem loops_24 : loopsIn (bodyOf Try.f24) = [(3, loopAt 3 (bodyOf Try.f24))] := by kernel_rfl
theorem lok_24 {R : Type} (N : Nat) : LOK 0 TT (E_24 (R := R) N) (drawAny TT WW) (L_24 N) (bodyOf Try.f24) := loops_all loops_24 (by
  simp only [List.forall_mem_cons, List.not_mem_nil, false_implies, implies_true, and_true]
  exact rounds_24_3 N)
theorem grun_24 {R : Type} (m_24_3 : Tl_24_3 R) (x : aden ap_24 × hden hp_24) (k : KF R) : fnrun TT (EG_24) (drawAny TT WW) (LG_24 m_24_3) true Try.f24 (instA ap_24 x.1) (instH hp_24 x.2) k = Q_24 m_24_3 x (fun y => k (Pat.inst (.str) y) (instH hp_24 x.2)) := by kernel_rfl
theorem run_24 {R : Type} (N : Nat) (x : aden ap_24 × hden hp_24) (k : KF R) : fnrun TT (E_24 (R := R) N) (drawAny TT WW) (L_24 N) true Try.f24 (instA ap_24 x.1) (instH hp_24 x.2) k = p_24 N x (fun y => k (Pat.inst (.str) y) (instH hp_24 x.2)) := (grun_24 (l_24_3 N N) x k).trans (by kernel_rfl)
theorem good_24 {R : Type} (N : Nat) : GD (X := R) Try.prog QQ 24 ap_24 hp_24 (fun (x : aden ap_24 × hden hp_24) k => p_24 N x (fun y => k (Pat.inst (.str) y) (instH hp_24 x.2))) :=
  gd_quiet (E := E_24 N) (p := fun (x : aden ap_24 × hden hp_24) κ => p_24 N x (fun y => κ (Pat.inst (.str) y))) mixed tyok (eok_24 N) Try.func24 (by kernel_rfl) (by kernel_rfl) (lok_24 N) (fun x k => run_24 N x k)

def lv_6_12 : Live := [(0, none), (1, none), (2, none), (3, none), (10, none), (49, none), (50, none), (51, none)]
def pt_6_12 : SPat := ⟨[(0, .int .i64), (1, .str), (2, .ros (.str)), (3, .int .i64), (10, .ptr 0 []), (49, .ros (.str)), (50, .int .i64), (51, .int .i64)], [some (.node (.fcons (.ptr 1 []) (.fcons (.vec (.int .u64) 8) (.fcons (.int .i64) (.fcons (.int .u64) (.fnil))))), 115), some (.node (.fcons (.int .i64) (.fcons (.bool) (.fcons (.sl 2) (.fcons (.int .i64) (.fnil))))), 151), some (.lst (.int .u8), 5)]⟩
def px_6_12_0 : SPat := ⟨[(0, .int .i64), (1, .str), (2, .ros (.str)), (10, .ptr 0 [])], [some (.node (.fcons (.ptr 1 []) (.fcons (.vec (.int .u64) 8) (.fcons (.int .i64) (.fcons (.int .u64) (.fnil))))), 115), some (.node (.fcons (.int .i64) (.fcons (.bool) (.fcons (.sl 2) (.fcons (.int .i64) (.fnil))))), 151), some (.lst (.int .u8), 5)]⟩
def lo_6_12 : Exit → Live
  | .exit 0 => [(0, none), (1, none), (2, none), (10, none)]
  | _ => []
def B_6_12 {R : Type} (N : Nat) (rec : ((Int × ByteArray × (List ByteArray) × Int × Unit × (List ByteArray) × Int × Int × Unit) × ((Unit × ((Nat → Int) × (Int × (Int × Unit)))) × (Int × (Bool × (Unit × (Int × Unit)))) × (List Int) × Unit)) → Option R) (x : ((Int × ByteArray × (List ByteArray) × Int × Unit × (List ByteArray) × Int × Int × Unit) × ((Unit × ((Nat → Int) × (Int × (Int × Unit)))) × (Int × (Bool × (Unit × (Int × Unit)))) × (List Int) × Unit))) (κ0 : ((Int × ByteArray × (List ByteArray) × Unit × Unit) × ((Unit × ((Nat → Int) × (Int × (Int × Unit)))) × (Int × (Bool × (Unit × (Int × Unit)))) × (List Int) × Unit)) → Option R) : Option R :=
let i1182 : Int := x.1.1
let s1183 : ByteArray := x.1.2.1
let l1184 : (List ByteArray) := x.1.2.2.1
let i1185 : Int := x.1.2.2.2.1
let l1186 : (List ByteArray) := x.1.2.2.2.2.2.1
let i1187 : Int := x.1.2.2.2.2.2.2.1
let i1188 : Int := x.1.2.2.2.2.2.2.2.1
let a1189 : (Nat → Int) := x.2.1.2.1
let i1190 : Int := x.2.1.2.2.1
let i1191 : Int := x.2.1.2.2.2.1
let i1192 : Int := x.2.2.1.1
let b1193 : Bool := x.2.2.1.2.1
let i1194 : Int := x.2.2.1.2.2.2.1
let l1195 : (List Int) := x.2.2.2.1
bif (decide (i1188 < i1187)) then (
bif decide (0 ≤ i1188) then (
bif decide (i1188 < ((List.length l1186) : Int)) then (
let p1196 : ByteArray := (List.getD l1186 ((Int.toNat i1188)) (Sch.zero (.str)))
bif (i1188 == i1185) then (
p_25_v2 N (((), ()), (((), (a1189, (i1190, (i1191, ())))), (i1192, (b1193, ((), (i1194, ())))), l1195, ())) (fun y1197 =>
let s1198 : ByteArray := y1197.1
let a1199 : (Nat → Int) := y1197.2.1.2.1
let i1200 : Int := y1197.2.1.2.2.1
let i1201 : Int := y1197.2.1.2.2.2.1
let i1202 : Int := y1197.2.2.1.1
let b1203 : Bool := y1197.2.2.1.2.1
let i1204 : Int := y1197.2.2.1.2.2.2.1
let l1205 : (List Int) := y1197.2.2.2.1
let l1206 : (List ByteArray) := [p1196]
p_26_v1 N (((), (), ()), (((), (a1199, (i1200, (i1201, ())))), (i1202, (b1203, ((), (i1204, ())))), l1205, l1206, ())) (fun y1207 =>
let a1208 : (Nat → Int) := y1207.2.1.2.1
let i1209 : Int := y1207.2.1.2.2.1
let i1210 : Int := y1207.2.1.2.2.2.1
let i1211 : Int := y1207.2.2.1.1
let b1212 : Bool := y1207.2.2.1.2.1
let i1213 : Int := y1207.2.2.1.2.2.2.1
let l1214 : (List ByteArray) := y1207.2.2.2.1
let l1215 : (List Int) := y1207.2.2.2.2.1
let i1216 : Int := addA .i64 i1188 1
rec ((i1182, s1183, l1184, i1185, (), l1186, i1187, i1216, ()), (((), (a1208, (i1209, (i1210, ())))), (i1211, (b1212, ((), (i1213, ())))), l1215, ()))))) else (
let l1217 : (List ByteArray) := [p1196]
p_26_v1 N (((), (), ()), (((), (a1189, (i1190, (i1191, ())))), (i1192, (b1193, ((), (i1194, ())))), l1195, l1217, ())) (fun y1218 =>
let a1219 : (Nat → Int) := y1218.2.1.2.1
let i1220 : Int := y1218.2.1.2.2.1
let i1221 : Int := y1218.2.1.2.2.2.1
let i1222 : Int := y1218.2.2.1.1
let b1223 : Bool := y1218.2.2.1.2.1
let i1224 : Int := y1218.2.2.1.2.2.2.1
let l1225 : (List ByteArray) := y1218.2.2.2.1
let l1226 : (List Int) := y1218.2.2.2.2.1
let i1227 : Int := addA .i64 i1188 1
rec ((i1182, s1183, l1184, i1185, (), l1186, i1187, i1227, ()), (((), (a1219, (i1220, (i1221, ())))), (i1222, (b1223, ((), (i1224, ())))), l1226, ()))))) else none) else none) else (
κ0 ((i1182, s1183, l1184, (), ()), (((), (a1189, (i1190, (i1191, ())))), (i1192, (b1193, ((), (i1194, ())))), l1195, ())))
def l_6_12 {R : Type} (N : Nat) : Nat → ((Int × ByteArray × (List ByteArray) × Int × Unit × (List ByteArray) × Int × Int × Unit) × ((Unit × ((Nat → Int) × (Int × (Int × Unit)))) × (Int × (Bool × (Unit × (Int × Unit)))) × (List Int) × Unit)) → (((Int × ByteArray × (List ByteArray) × Unit × Unit) × ((Unit × ((Nat → Int) × (Int × (Int × Unit)))) × (Int × (Bool × (Unit × (Int × Unit)))) × (List Int) × Unit)) → Option R) → Option R
  | 0, _, _ => none
  | n + 1, x, κ0 => B_6_12 N (fun y => l_6_12 N n y κ0) x κ0
def ap_6 : List Pat := [.int .i64, .str, .ros (.str), .int .i64]
def hp_6 : List (Option (Pat × Nat)) := []
def p_6 {R : Type} (N : Nat) (x : (Int × ByteArray × (List ByteArray) × Int × Unit) × (Unit)) (κ0 : (Bool × (Unit)) → Option R) : Option R :=
let i1 : Int := x.1.1
let s2 : ByteArray := x.1.2.1
let l3 : (List ByteArray) := x.1.2.2.1
let i4 : Int := x.1.2.2.2.1
p_11 N ((), ()) (fun y1136 =>
let b1137 : Bool := y1136
bif (!b1137) then (
κ0 (false, ())) else (
p_25 N (((), ()), ()) (fun y1138 =>
let s1139 : ByteArray := y1138.1
bif (!eqS s1139 (⟨#[]⟩)) then (
κ0 (false, ())) else (
let l1140 : (List ByteArray) := [⟨#[97]⟩]
p_26_v2 N (((), (), ()), (l1140, ())) (fun y1141 =>
let l1142 : (List ByteArray) := y1141.2.1
p_27 N ((i1, s2, ()), ()) (fun y1143 =>
let i1144 : Int := y1143.1.2.1
bif (i1144 != 0) then (
κ0 ((i1144 == 1), ())) else (
let i1145 : Int := (((List.length l3) : Nat) : Int)
bif (decide (i1145 > 20)) then (
κ0 (true, ())) else (
p_21 N ((l3, ()), ()) (fun y1157 =>
let i1158 : Int := y1157
bif (decide (i1158 > 1000)) then (
κ0 (true, ())) else (
let i1159 : Int := (((List.length l3) : Nat) : Int)
none))))) (fun y1160 =>
let i1161 : Int := y1160.1.2.1
let a1162 : (Nat → Int) := y1160.2.1.2.1
let i1163 : Int := y1160.2.1.2.2.1
let i1164 : Int := y1160.2.1.2.2.2.1
bif (i1161 != 0) then (
κ0 (false, ())) else (
let i1165 : Int := (((List.length l3) : Nat) : Int)
bif (decide (i1165 > 20)) then (
κ0 (true, ())) else (
p_21 N ((l3, ()), ()) (fun y1166 =>
let i1167 : Int := y1166
bif (decide (i1167 > 1000)) then (
κ0 (true, ())) else (
let i1168 : Int := (((List.length l3) : Nat) : Int)
none))))) (fun y1169 =>
let i1170 : Int := y1169.1.2.1
let a1171 : (Nat → Int) := y1169.2.1.2.1
let i1172 : Int := y1169.2.1.2.2.1
let i1173 : Int := y1169.2.1.2.2.2.1
let i1174 : Int := y1169.2.2.1.1
let b1175 : Bool := y1169.2.2.1.2.1
let i1176 : Int := y1169.2.2.1.2.2.2.1
let l1177 : (List Int) := y1169.2.2.2.1
bif (i1170 != 0) then (
κ0 (false, ())) else (
let i1178 : Int := (((List.length l3) : Nat) : Int)
bif (decide (i1178 > 20)) then (
κ0 (true, ())) else (
p_21 N ((l3, ()), ()) (fun y1179 =>
let i1180 : Int := y1179
bif (decide (i1180 > 1000)) then (
κ0 (true, ())) else (
let i1181 : Int := (((List.length l3) : Nat) : Int)
l_6_12 N N ((i1, s2, l3, i4, (), l3, i1181, 0, ()), (((), (a1171, (i1172, (i1173, ())))), (i1174, (b1175, ((), (i1176, ())))), l1177, ())) (fun y1228 =>
let i1229 : Int := y1228.1.1
let s1230 : ByteArray := y1228.1.2.1
let l1231 : (List ByteArray) := y1228.1.2.2.1
let a1232 : (Nat → Int) := y1228.2.1.2.1
let i1233 : Int := y1228.2.1.2.2.1
let i1234 : Int := y1228.2.1.2.2.2.1
let i1235 : Int := y1228.2.2.1.1
let b1236 : Bool := y1228.2.2.1.2.1
let i1237 : Int := y1228.2.2.1.2.2.2.1
let l1238 : (List Int) := y1228.2.2.2.1
p_24 N ((l1231, ()), ()) (fun y1249 =>
let s1250 : ByteArray := y1249
let l1251 : (List ByteArray) := [s1250]
p_22 N ((i1229, s1230, (), ()), (l1251, ())) (fun y1252 =>
let s1253 : ByteArray := y1252.1.1
let i1254 : Int := y1252.1.2.1
let l1255 : (List ByteArray) := y1252.2.1
bif (i1254 == 0) then (
p_25_v2 N (((), ()), (((), (a1232, (i1233, (i1234, ())))), (i1235, (b1236, ((), (i1237, ())))), l1238, ())) (fun y1256 =>
let s1257 : ByteArray := y1256.1
let a1258 : (Nat → Int) := y1256.2.1.2.1
let i1259 : Int := y1256.2.1.2.2.1
let i1260 : Int := y1256.2.1.2.2.2.1
let i1261 : Int := y1256.2.2.1.1
let b1262 : Bool := y1256.2.2.1.2.1
let i1263 : Int := y1256.2.2.1.2.2.2.1
let l1264 : (List Int) := y1256.2.2.2.1
bif (eqS s1257 s1253) then (
let i1265 : Int := ((ByteArray.size s1253 : Nat) : Int)
bif (i1265 == i1229) then (
p_25_v2 N (((), ()), (((), (a1258, (i1259, (i1260, ())))), (i1261, (b1262, ((), (i1263, ())))), l1264, ())) (fun y1266 =>
let s1267 : ByteArray := y1266.1
let a1268 : (Nat → Int) := y1266.2.1.2.1
let i1269 : Int := y1266.2.1.2.2.1
let i1270 : Int := y1266.2.1.2.2.2.1
let i1271 : Int := y1266.2.2.1.1
let b1272 : Bool := y1266.2.2.1.2.1
let i1273 : Int := y1266.2.2.1.2.2.2.1
let l1274 : (List Int) := y1266.2.2.2.1
κ0 ((eqS s1267 s1253), ()))) else (
κ0 (false, ()))) else (
κ0 (false, ())))) else (
κ0 (false, ())))))))))))))))

abbrev Tl_6_12 (R : Type) : Type := ((Int × ByteArray × (List ByteArray) × Int × Unit × (List ByteArray) × Int × Int × Unit) × ((Unit × ((Nat → Int) × (Int × (Int × Unit)))) × (Int × (Bool × (Unit × (Int × Unit)))) × (List Int) × Unit)) → (((Int × ByteArray × (List ByteArray) × Unit × Unit) × ((Unit × ((Nat → Int) × (Int × (Int × Unit)))) × (Int × (Bool × (Unit × (Int × Unit)))) × (List Int) × Unit)) → Option R) → Option R
abbrev Tp_6 (R : Type) : Type := (Int × ByteArray × (List ByteArray) × Int × Unit) × (Unit) → ((Bool × (Unit)) → Option R) → Option R
def Q_6 {R : Type} (q_11 : Tp_11 R) (q_25 : Tp_25 R) (q_26_v2 : Tp_26_v2 R) (q_27 : Tp_27 R) (q_21 : Tp_21 R) (q_24 : Tp_24 R) (q_22 : Tp_22 R) (q_25_v2 : Tp_25_v2 R) (q_26_v1 : Tp_26_v1 R) (m_6_12 : Tl_6_12 R) (x : (Int × ByteArray × (List ByteArray) × Int × Unit) × (Unit)) (κ0 : (Bool × (Unit)) → Option R) : Option R :=
let i1 : Int := x.1.1
let s2 : ByteArray := x.1.2.1
let l3 : (List ByteArray) := x.1.2.2.1
let i4 : Int := x.1.2.2.2.1
q_11 ((), ()) (fun y1136 =>
let b1137 : Bool := y1136
bif (!b1137) then (
κ0 (false, ())) else (
q_25 (((), ()), ()) (fun y1138 =>
let s1139 : ByteArray := y1138.1
bif (!eqS s1139 (⟨#[]⟩)) then (
κ0 (false, ())) else (
let l1140 : (List ByteArray) := [⟨#[97]⟩]
q_26_v2 (((), (), ()), (l1140, ())) (fun y1141 =>
let l1142 : (List ByteArray) := y1141.2.1
q_27 ((i1, s2, ()), ()) (fun y1143 =>
let i1144 : Int := y1143.1.2.1
bif (i1144 != 0) then (
κ0 ((i1144 == 1), ())) else (
let i1145 : Int := (((List.length l3) : Nat) : Int)
bif (decide (i1145 > 20)) then (
κ0 (true, ())) else (
q_21 ((l3, ()), ()) (fun y1157 =>
let i1158 : Int := y1157
bif (decide (i1158 > 1000)) then (
κ0 (true, ())) else (
let i1159 : Int := (((List.length l3) : Nat) : Int)
none))))) (fun y1160 =>
let i1161 : Int := y1160.1.2.1
let a1162 : (Nat → Int) := y1160.2.1.2.1
let i1163 : Int := y1160.2.1.2.2.1
let i1164 : Int := y1160.2.1.2.2.2.1
bif (i1161 != 0) then (
κ0 (false, ())) else (
let i1165 : Int := (((List.length l3) : Nat) : Int)
bif (decide (i1165 > 20)) then (
κ0 (true, ())) else (
q_21 ((l3, ()), ()) (fun y1166 =>
let i1167 : Int := y1166
bif (decide (i1167 > 1000)) then (
κ0 (true, ())) else (
let i1168 : Int := (((List.length l3) : Nat) : Int)
none))))) (fun y1169 =>
let i1170 : Int := y1169.1.2.1
let a1171 : (Nat → Int) := y1169.2.1.2.1
let i1172 : Int := y1169.2.1.2.2.1
let i1173 : Int := y1169.2.1.2.2.2.1
let i1174 : Int := y1169.2.2.1.1
let b1175 : Bool := y1169.2.2.1.2.1
let i1176 : Int := y1169.2.2.1.2.2.2.1
let l1177 : (List Int) := y1169.2.2.2.1
bif (i1170 != 0) then (
κ0 (false, ())) else (
let i1178 : Int := (((List.length l3) : Nat) : Int)
bif (decide (i1178 > 20)) then (
κ0 (true, ())) else (
q_21 ((l3, ()), ()) (fun y1179 =>
let i1180 : Int := y1179
bif (decide (i1180 > 1000)) then (
κ0 (true, ())) else (
let i1181 : Int := (((List.length l3) : Nat) : Int)
m_6_12 ((i1, s2, l3, i4, (), l3, i1181, 0, ()), (((), (a1171, (i1172, (i1173, ())))), (i1174, (b1175, ((), (i1176, ())))), l1177, ())) (fun y1228 =>
let i1229 : Int := y1228.1.1
let s1230 : ByteArray := y1228.1.2.1
let l1231 : (List ByteArray) := y1228.1.2.2.1
let a1232 : (Nat → Int) := y1228.2.1.2.1
let i1233 : Int := y1228.2.1.2.2.1
let i1234 : Int := y1228.2.1.2.2.2.1
let i1235 : Int := y1228.2.2.1.1
let b1236 : Bool := y1228.2.2.1.2.1
let i1237 : Int := y1228.2.2.1.2.2.2.1
let l1238 : (List Int) := y1228.2.2.2.1
q_24 ((l1231, ()), ()) (fun y1249 =>
let s1250 : ByteArray := y1249
let l1251 : (List ByteArray) := [s1250]
q_22 ((i1229, s1230, (), ()), (l1251, ())) (fun y1252 =>
let s1253 : ByteArray := y1252.1.1
let i1254 : Int := y1252.1.2.1
let l1255 : (List ByteArray) := y1252.2.1
bif (i1254 == 0) then (
q_25_v2 (((), ()), (((), (a1232, (i1233, (i1234, ())))), (i1235, (b1236, ((), (i1237, ())))), l1238, ())) (fun y1256 =>
let s1257 : ByteArray := y1256.1
let a1258 : (Nat → Int) := y1256.2.1.2.1
let i1259 : Int := y1256.2.1.2.2.1
let i1260 : Int := y1256.2.1.2.2.2.1
let i1261 : Int := y1256.2.2.1.1
let b1262 : Bool := y1256.2.2.1.2.1
let i1263 : Int := y1256.2.2.1.2.2.2.1
let l1264 : (List Int) := y1256.2.2.2.1
bif (eqS s1257 s1253) then (
let i1265 : Int := ((ByteArray.size s1253 : Nat) : Int)
bif (i1265 == i1229) then (
q_25_v2 (((), ()), (((), (a1258, (i1259, (i1260, ())))), (i1261, (b1262, ((), (i1263, ())))), l1264, ())) (fun y1266 =>
let s1267 : ByteArray := y1266.1
let a1268 : (Nat → Int) := y1266.2.1.2.1
let i1269 : Int := y1266.2.1.2.2.1
let i1270 : Int := y1266.2.1.2.2.2.1
let i1271 : Int := y1266.2.2.1.1
let b1272 : Bool := y1266.2.2.1.2.1
let i1273 : Int := y1266.2.2.1.2.2.2.1
let l1274 : (List Int) := y1266.2.2.2.1
κ0 ((eqS s1267 s1253), ()))) else (
κ0 (false, ()))) else (
κ0 (false, ())))) else (
κ0 (false, ())))))))))))))))
def C_6_12 {R : Type} (q_11 : Tp_11 R) (q_25 : Tp_25 R) (q_26_v2 : Tp_26_v2 R) (q_27 : Tp_27 R) (q_21 : Tp_21 R) (q_24 : Tp_24 R) (q_22 : Tp_22 R) (q_25_v2 : Tp_25_v2 R) (q_26_v1 : Tp_26_v1 R) (m_6_12 : Tl_6_12 R) (rec : ((Int × ByteArray × (List ByteArray) × Int × Unit × (List ByteArray) × Int × Int × Unit) × ((Unit × ((Nat → Int) × (Int × (Int × Unit)))) × (Int × (Bool × (Unit × (Int × Unit)))) × (List Int) × Unit)) → Option R) (x : ((Int × ByteArray × (List ByteArray) × Int × Unit × (List ByteArray) × Int × Int × Unit) × ((Unit × ((Nat → Int) × (Int × (Int × Unit)))) × (Int × (Bool × (Unit × (Int × Unit)))) × (List Int) × Unit))) (κ0 : ((Int × ByteArray × (List ByteArray) × Unit × Unit) × ((Unit × ((Nat → Int) × (Int × (Int × Unit)))) × (Int × (Bool × (Unit × (Int × Unit)))) × (List Int) × Unit)) → Option R) : Option R :=
let i1182 : Int := x.1.1
let s1183 : ByteArray := x.1.2.1
let l1184 : (List ByteArray) := x.1.2.2.1
let i1185 : Int := x.1.2.2.2.1
let l1186 : (List ByteArray) := x.1.2.2.2.2.2.1
let i1187 : Int := x.1.2.2.2.2.2.2.1
let i1188 : Int := x.1.2.2.2.2.2.2.2.1
let a1189 : (Nat → Int) := x.2.1.2.1
let i1190 : Int := x.2.1.2.2.1
let i1191 : Int := x.2.1.2.2.2.1
let i1192 : Int := x.2.2.1.1
let b1193 : Bool := x.2.2.1.2.1
let i1194 : Int := x.2.2.1.2.2.2.1
let l1195 : (List Int) := x.2.2.2.1
bif (decide (i1188 < i1187)) then (
bif decide (0 ≤ i1188) then (
bif decide (i1188 < ((List.length l1186) : Int)) then (
let p1196 : ByteArray := (List.getD l1186 ((Int.toNat i1188)) (Sch.zero (.str)))
bif (i1188 == i1185) then (
q_25_v2 (((), ()), (((), (a1189, (i1190, (i1191, ())))), (i1192, (b1193, ((), (i1194, ())))), l1195, ())) (fun y1197 =>
let s1198 : ByteArray := y1197.1
let a1199 : (Nat → Int) := y1197.2.1.2.1
let i1200 : Int := y1197.2.1.2.2.1
let i1201 : Int := y1197.2.1.2.2.2.1
let i1202 : Int := y1197.2.2.1.1
let b1203 : Bool := y1197.2.2.1.2.1
let i1204 : Int := y1197.2.2.1.2.2.2.1
let l1205 : (List Int) := y1197.2.2.2.1
let l1206 : (List ByteArray) := [p1196]
q_26_v1 (((), (), ()), (((), (a1199, (i1200, (i1201, ())))), (i1202, (b1203, ((), (i1204, ())))), l1205, l1206, ())) (fun y1207 =>
let a1208 : (Nat → Int) := y1207.2.1.2.1
let i1209 : Int := y1207.2.1.2.2.1
let i1210 : Int := y1207.2.1.2.2.2.1
let i1211 : Int := y1207.2.2.1.1
let b1212 : Bool := y1207.2.2.1.2.1
let i1213 : Int := y1207.2.2.1.2.2.2.1
let l1214 : (List ByteArray) := y1207.2.2.2.1
let l1215 : (List Int) := y1207.2.2.2.2.1
let i1216 : Int := addA .i64 i1188 1
rec ((i1182, s1183, l1184, i1185, (), l1186, i1187, i1216, ()), (((), (a1208, (i1209, (i1210, ())))), (i1211, (b1212, ((), (i1213, ())))), l1215, ()))))) else (
let l1217 : (List ByteArray) := [p1196]
q_26_v1 (((), (), ()), (((), (a1189, (i1190, (i1191, ())))), (i1192, (b1193, ((), (i1194, ())))), l1195, l1217, ())) (fun y1218 =>
let a1219 : (Nat → Int) := y1218.2.1.2.1
let i1220 : Int := y1218.2.1.2.2.1
let i1221 : Int := y1218.2.1.2.2.2.1
let i1222 : Int := y1218.2.2.1.1
let b1223 : Bool := y1218.2.2.1.2.1
let i1224 : Int := y1218.2.2.1.2.2.2.1
let l1225 : (List ByteArray) := y1218.2.2.2.1
let l1226 : (List Int) := y1218.2.2.2.2.1
let i1227 : Int := addA .i64 i1188 1
rec ((i1182, s1183, l1184, i1185, (), l1186, i1187, i1227, ()), (((), (a1219, (i1220, (i1221, ())))), (i1222, (b1223, ((), (i1224, ())))), l1226, ()))))) else none) else none) else (
κ0 ((i1182, s1183, l1184, (), ()), (((), (a1189, (i1190, (i1191, ())))), (i1192, (b1193, ((), (i1194, ())))), l1195, ())))
def EG_6 {R : Type} (q_11 : Tp_11 R) (q_25 : Tp_25 R) (q_26_v2 : Tp_26_v2 R) (q_27 : Tp_27 R) (q_21 : Tp_21 R) (q_24 : Tp_24 R) (q_22 : Tp_22 R) (q_25_v2 : Tp_25_v2 R) (q_26_v1 : Tp_26_v1 R) : Env R := (((((((((Env.base QQ LN).add 11 ap_11 hp_11 (fun (x : aden ap_11 × hden hp_11) k => q_11 x (fun y => k (Pat.inst (.bool) y) (instH hp_11 x.2)))).add 25 ap_25 hp_25 (fun (x : aden ap_25 × hden hp_25) k => q_25 x (fun y => k (Pat.inst (.str) y.1) (instH [] y.2)))).add 26 ap_26_v2 hp_26_v2 (fun (x : aden ap_26_v2 × hden hp_26_v2) k => q_26_v2 x (fun y => k (Pat.inst (.nilp) y.1) (instH [some (.lst (.str), 9)] y.2)))).add 27 ap_27 hp_27 (fun (x : aden ap_27 × hden hp_27) k => q_27 x (fun y => k (Pat.inst (.tup (.fcons (.nilp) (.fcons (.int .i64) (.fnil)))) y.1) (instH [] y.2)) (fun y => k (Pat.inst (.tup (.fcons (.ptr 0 []) (.fcons (.int .i64) (.fnil)))) y.1) (instH [some (.node (.fcons (.nilp) (.fcons (.vec (.int .u64) 8) (.fcons (.int .i64) (.fcons (.int .u64) (.fnil))))), 115)] y.2)) (fun y => k (Pat.inst (.tup (.fcons (.ptr 0 []) (.fcons (.int .i64) (.fnil)))) y.1) (instH [some (.node (.fcons (.ptr 1 []) (.fcons (.vec (.int .u64) 8) (.fcons (.int .i64) (.fcons (.int .u64) (.fnil))))), 115), some (.node (.fcons (.int .i64) (.fcons (.bool) (.fcons (.sl 2) (.fcons (.int .i64) (.fnil))))), 151), some (.lst (.int .u8), 5)] y.2)))).add 21 ap_21 hp_21 (fun (x : aden ap_21 × hden hp_21) k => q_21 x (fun y => k (Pat.inst (.int .i64) y) (instH hp_21 x.2)))).add 24 ap_24 hp_24 (fun (x : aden ap_24 × hden hp_24) k => q_24 x (fun y => k (Pat.inst (.str) y) (instH hp_24 x.2)))).add 22 ap_22 hp_22 (fun (x : aden ap_22 × hden hp_22) k => q_22 x (fun y => k (Pat.inst (.tup (.fcons (.str) (.fcons (.int .i64) (.fnil)))) y.1) (instH [some (.lst (.str), 9)] y.2)))).add 25 ap_25_v2 hp_25_v2 (fun (x : aden ap_25_v2 × hden hp_25_v2) k => q_25_v2 x (fun y => k (Pat.inst (.str) y.1) (instH [some (.node (.fcons (.ptr 1 []) (.fcons (.vec (.int .u64) 8) (.fcons (.int .i64) (.fcons (.int .u64) (.fnil))))), 115), some (.node (.fcons (.int .i64) (.fcons (.bool) (.fcons (.sl 2) (.fcons (.int .i64) (.fnil))))), 151), some (.lst (.int .u8), 5)] y.2)))).add 26 ap_26_v1 hp_26_v1 (fun (x : aden ap_26_v1 × hden hp_26_v1) k => q_26_v1 x (fun y => k (Pat.inst (.ptr 0 []) y.1) (instH [some (.node (.fcons (.ptr 1 []) (.fcons (.vec (.int .u64) 8) (.fcons (.int .i64) (.fcons (.int .u64) (.fnil))))), 115), some (.node (.fcons (.int .i64) (.fcons (.bool) (.fcons (.sl 4) (.fcons (.int .i64) (.fnil))))), 151), none, some (.lst (.str), 9), some (.lst (.int .u8), 5)] y.2)))
def LG_6 {R : Type} (m_6_12 : Tl_6_12 R) : Loops R := (Loops.none).add 12 (loopBy 0 lv_6_12 pt_6_12 (fun x k => m_6_12 x (fun y => k (.exit 0) (px_6_12_0.inst y))))
def E_6 {R : Type} (N : Nat) : Env R := EG_6 (p_11 N) (p_25 N) (p_26_v2 N) (p_27 N) (p_21 N) (p_24 N) (p_22 N) (p_25_v2 N) (p_26_v1 N)
theorem eok_6 {R : Type} (N : Nat) : EK Try.prog (E_6 (R := R) N) := ek_add (ek_add (ek_add (ek_add (ek_add (ek_add (ek_add (ek_add (ek_add (ek_base _ _) (good_11 N)) (good_25 N)) (good_26_v2 N)) (good_27 N)) (good_21 N)) (good_24 N)) (good_22 N)) (good_25_v2 N)) (good_26_v1 N)
def L_6 {R : Type} (N : Nat) : Loops R := LG_6 (l_6_12 N N)
theorem gstep_6_12 {R : Type} (q_11 : Tp_11 R) (q_25 : Tp_25 R) (q_26_v2 : Tp_26_v2 R) (q_27 : Tp_27 R) (q_21 : Tp_21 R) (q_24 : Tp_24 R) (q_22 : Tp_22 R) (q_25_v2 : Tp_25_v2 R) (q_26_v1 : Tp_26_v1 R) (m_6_12 : Tl_6_12 R) (n : Nat) (x : pt_6_12.den) (k : Exit → St → Option R) : iter 0 lv_6_12 lo_6_12 (aexec TT (EG_6 q_11 q_25 q_26_v2 q_27 q_21 q_24 q_22 q_25_v2 q_26_v1) (drawAny TT WW) (LG_6 m_6_12) (loopAt 12 (bodyOf Try.f6))) (n + 1) (pt_6_12.inst x) k = C_6_12 q_11 q_25 q_26_v2 q_27 q_21 q_24 q_22 q_25_v2 q_26_v1 m_6_12 (fun y => iter 0 lv_6_12 lo_6_12 (aexec TT (EG_6 q_11 q_25 q_26_v2 q_27 q_21 q_24 q_22 q_25_v2 q_26_v1) (drawAny TT WW) (LG_6 m_6_12) (loopAt 12 (bodyOf Try.f6))) n (pt_6_12.inst y) k) x (fun y => k (.exit 0) (px_6_12_0.inst y)) := by kernel_rfl
theorem step_6_12 {R : Type} (N n : Nat) (x : pt_6_12.den) (k : Exit → St → Option R) : iter 0 lv_6_12 lo_6_12 (aexec TT (E_6 (R := R) N) (drawAny TT WW) (L_6 N) (loopAt 12 (bodyOf Try.f6))) (n + 1) (pt_6_12.inst x) k = B_6_12 N (fun y => iter 0 lv_6_12 lo_6_12 (aexec TT (E_6 (R := R) N) (drawAny TT WW) (L_6 N) (loopAt 12 (bodyOf Try.f6))) n (pt_6_12.inst y) k) x (fun y => k (.exit 0) (px_6_12_0.inst y)) := (gstep_6_12 (p_11 N) (p_25 N) (p_26_v2 N) (p_27 N) (p_21 N) (p_24 N) (p_22 N) (p_25_v2 N) (p_26_v1 N) (l_6_12 N N) n x k).trans (by kernel_rfl)
theorem eq_6_12 {R : Type} (N : Nat) : ∀ (n : Nat) (x : pt_6_12.den) (k : Exit → St → Option R), iter 0 lv_6_12 lo_6_12 (aexec TT (E_6 (R := R) N) (drawAny TT WW) (L_6 N) (loopAt 12 (bodyOf Try.f6))) n (pt_6_12.inst x) k = l_6_12 N n x (fun y => k (.exit 0) (px_6_12_0.inst y)) :=
  iter_eq (K := Exit → St → Option R) (ks := fun k => k) (l := fun n (x : pt_6_12.den) k => l_6_12 N n x (fun y => k (.exit 0) (px_6_12_0.inst y))) (B := fun (rec : pt_6_12.den → Option R) (x : pt_6_12.den) k => B_6_12 N rec x (fun y => k (.exit 0) (px_6_12_0.inst y))) (fun _ _ => rfl) (fun _ _ _ => rfl) (fun n x k => step_6_12 N n x k)
theorem rounds_6_12 {R : Type} (N : Nat) : Rounds 0 TT (E_6 (R := R) N) (drawAny TT WW) (L_6 N) 12 (loopAt 12 (bodyOf Try.f6)) :=
  rounds_of (p := pt_6_12) (l := fun (x : pt_6_12.den) k => l_6_12 N N x (fun y => k (.exit 0) (px_6_12_0.inst y))) (fun s k => rfl) (fun x k => eq_6_12 N N x k)
theorem loops_6 : loopsIn (bodyOf Try.f6) = [(12, loopAt 12 (bodyOf Try.f6))] := by kernel_rfl
theorem lok_6 {R : Type} (N : Nat) : LOK 0 TT (E_6 (R := R) N) (drawAny TT WW) (L_6 N) (bodyOf Try.f6) := loops_all loops_6 (by
  simp only [List.forall_mem_cons, List.not_mem_nil, false_implies, implies_true, and_true]
  exact rounds_6_12 N)
theorem grun_6 {R : Type} (q_11 : Tp_11 R) (q_25 : Tp_25 R) (q_26_v2 : Tp_26_v2 R) (q_27 : Tp_27 R) (q_21 : Tp_21 R) (q_24 : Tp_24 R) (q_22 : Tp_22 R) (q_25_v2 : Tp_25_v2 R) (q_26_v1 : Tp_26_v1 R) (m_6_12 : Tl_6_12 R) (x : aden ap_6 × hden hp_6) (k : KF R) : fnrun TT (EG_6 q_11 q_25 q_26_v2 q_27 q_21 q_24 q_22 q_25_v2 q_26_v1) (drawAny TT WW) (LG_6 m_6_12) true Try.f6 (instA ap_6 x.1) (instH hp_6 x.2) k = Q_6 q_11 q_25 q_26_v2 q_27 q_21 q_24 q_22 q_25_v2 q_26_v1 m_6_12 x (fun y => k (Pat.inst (.bool) y.1) (instH [] y.2)) := by kernel_rfl
theorem run_6 {R : Type} (N : Nat) (x : aden ap_6 × hden hp_6) (k : KF R) : fnrun TT (E_6 (R := R) N) (drawAny TT WW) (L_6 N) true Try.f6 (instA ap_6 x.1) (instH hp_6 x.2) k = p_6 N x (fun y => k (Pat.inst (.bool) y.1) (instH [] y.2)) := (grun_6 (p_11 N) (p_25 N) (p_26_v2 N) (p_27 N) (p_21 N) (p_24 N) (p_22 N) (p_25_v2 N) (p_26_v1 N) (l_6_12 N N) x k).trans (by kernel_rfl)
theorem good_6 {R : Type} (N : Nat) : GD (X := R) Try.prog QQ 6 ap_6 hp_6 (fun (x : aden ap_6 × hden hp_6) k => p_6 N x (fun y => k (Pat.inst (.bool) y.1) (instH [] y.2))) :=
  gd_loud (E := E_6 N) (p := fun (x : aden ap_6 × hden hp_6) k => p_6 N x (fun y => k (Pat.inst (.bool) y.1) (instH [] y.2))) mixed tyok (eok_6 N) Try.func6 (by kernel_rfl) (by kernel_rfl) (by kernel_rfl) (lok_6 N) (fun x k => run_6 N x k)

end Go.Proofs.Ytnfhngcdddjilaa.Eng
