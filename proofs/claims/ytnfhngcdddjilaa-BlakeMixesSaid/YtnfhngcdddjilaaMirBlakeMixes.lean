/-
Plain functions that the functions of the program are shown to come to, printed by a program of the prover; each with its proof.
Conditions: none.
-/
import Derived.Test.YtnfhngcdddjilaaProg
import Derived.Test.YtnfhngcdddjilaaEngY
import Derived.KernelRfl
set_option linter.unusedVariables false
namespace Go.Proofs.Ytnfhngcdddjilaa.Eng
def TT : Types := [(23, ⟨.arr 8 22, 8, 64, .vec (.int .u64) 8 (Sch.zero (.arr 8 (.int .u64))), some (.arr 8 (.int .u64)), true, false⟩),
  (3, ⟨.int .i64, 1, 8, .int .i64 0, some (.int .i64), false, false⟩),
  (4, ⟨.bool, 1, 1, .bool false, some (.bool), false, false⟩),
  (42, ⟨.slice 9, 1, 24, .nils, some (.sl (.str)), false, false⟩),
  (9, ⟨.str, 1, 16, .str ⟨#[]⟩, some (.str), false, false⟩),
  (26, ⟨.int .i64, 1, 8, .int .i64 0, some (.int .i64), false, false⟩),
  (49, ⟨.ptr 115, 1, 8, .nilp, none, false, false⟩),
  (113, ⟨.ptr 151, 1, 8, .nilp, none, false, false⟩),
  (151, ⟨.stru [(3, 0), (4, 1), (24, 2), (3, 3)], 4, 48, .node (.fcons (.int .i64 0) (.fcons (.bool false) (.fcons (.nils) (.fcons (.int .i64 0) (.fnil))))), some (.stru (.fcons (.int .i64) (.fcons (.bool) (.fcons (.sl (.int .u8)) (.fcons (.int .i64) (.fnil)))))), false, true⟩),
  (24, ⟨.slice 5, 1, 24, .nils, some (.sl (.int .u8)), false, false⟩),
  (115, ⟨.stru [(113, 0), (23, 1), (3, 9), (22, 10)], 11, 88, .node (.fcons (.nilp) (.fcons (.vec (.int .u64) 8 (Sch.zero (.arr 8 (.int .u64)))) (.fcons (.int .i64 0) (.fcons (.int .u64 0) (.fnil))))), none, false, false⟩),
  (22, ⟨.int .u64, 1, 8, .int .u64 0, some (.int .u64), false, false⟩),
  (5, ⟨.int .u8, 1, 1, .int .u8 0, some (.int .u8), false, false⟩),
  (117, ⟨.slice 24, 1, 24, .nils, some (.sl (.sl (.int .u8))), false, false⟩),
  (94, ⟨.slice 22, 1, 24, .nils, some (.sl (.int .u64)), false, false⟩),
  (97, ⟨.arr 16 22, 16, 128, .vec (.int .u64) 16 (Sch.zero (.arr 16 (.int .u64))), some (.arr 16 (.int .u64)), true, false⟩),
  (99, ⟨.arr 8 98, 32, 256, .vec (.arr 4 (.int .i64)) 8 (Sch.zero (.arr 8 (.arr 4 (.int .i64)))), some (.arr 8 (.arr 4 (.int .i64))), true, false⟩),
  (98, ⟨.arr 4 3, 4, 32, .vec (.int .i64) 4 (Sch.zero (.arr 4 (.int .i64))), some (.arr 4 (.int .i64)), true, false⟩),
  (38, ⟨.arr 16 3, 16, 128, .vec (.int .i64) 16 (Sch.zero (.arr 16 (.int .i64))), some (.arr 16 (.int .i64)), true, false⟩),
  (109, ⟨.arr 10 9, 10, 160, .vec (.str) 10 (Sch.zero (.arr 10 (.str))), some (.arr 10 (.str)), true, false⟩),
  (121, ⟨.int .u64, 1, 8, .int .u64 0, some (.int .u64), false, false⟩),
  (36, ⟨.arr 4 22, 4, 32, .vec (.int .u64) 4 (Sch.zero (.arr 4 (.int .u64))), some (.arr 4 (.int .u64)), true, false⟩),
  (40, ⟨.arr 16 4, 16, 16, .vec (.bool) 16 (Sch.zero (.arr 16 (.bool))), some (.arr 16 (.bool)), true, false⟩)]
theorem tyok : TyOk Try.prog TT := TyOk.of (by kernel_rfl)
theorem mixed : Try.prog.follows .mixedOrders = true := by kernel_rfl
def QQ : FuncId → Bool := fun f => memN [11, 12, 15, 17, 18, 19, 20, 46, 51, 52, 82] f
def LN : FuncId → Bool := fun f => memN [12, 56] f
def WW : FuncId → Bool := fun f => QQ f || LN f
def ap_58 : List Pat := [.int .i64, .bool]
def hp_58 : List (Option (Pat × Nat)) := []
def p_58 {R : Type} (N : Nat) (x : (Int × Bool × Unit) × (Unit)) (κ0 : ((Unit × (Int × Unit)) × (Unit)) → Option R) (κ1 : ((Unit × (Int × Unit)) × ((Int × (Bool × (Unit × (Int × Unit)))) × (List Int) × Unit)) → Option R) : Option R :=
let i10 : Int := x.1.1
let b11 : Bool := x.1.2.1
bif (decide (i10 < 1)) then (
κ0 (((), (1, ())), ())) else (
bif (decide (i10 > 65536)) then (
κ0 (((), (1, ())), ())) else (
κ1 (((), (0, ())), ((i10, (b11, ((), (0, ())))), ([] : List Int), ()))))

abbrev Tp_58 (R : Type) : Type := (Int × Bool × Unit) × (Unit) → (((Unit × (Int × Unit)) × (Unit)) → Option R) → (((Unit × (Int × Unit)) × ((Int × (Bool × (Unit × (Int × Unit)))) × (List Int) × Unit)) → Option R) → Option R
def Q_58 {R : Type} (x : (Int × Bool × Unit) × (Unit)) (κ0 : ((Unit × (Int × Unit)) × (Unit)) → Option R) (κ1 : ((Unit × (Int × Unit)) × ((Int × (Bool × (Unit × (Int × Unit)))) × (List Int) × Unit)) → Option R) : Option R :=
let i10 : Int := x.1.1
let b11 : Bool := x.1.2.1
bif (decide (i10 < 1)) then (
κ0 (((), (1, ())), ())) else (
bif (decide (i10 > 65536)) then (
κ0 (((), (1, ())), ())) else (
κ1 (((), (0, ())), ((i10, (b11, ((), (0, ())))), ([] : List Int), ()))))
def EG_58 {R : Type} : Env R := Env.base QQ LN
def LG_58 {R : Type} : Loops R := Loops.none
def E_58 {R : Type} (N : Nat) : Env R := EG_58
theorem eok_58 {R : Type} (N : Nat) : EK Try.prog (E_58 (R := R) N) := ek_base _ _
def L_58 {R : Type} (N : Nat) : Loops R := LG_58
theorem lok_58 {R : Type} (N : Nat) : LOK 0 TT (E_58 (R := R) N) (drawAny TT WW) (L_58 N) (bodyOf Try.f58) := loops_nil (by kernel_rfl)
theorem grun_58 {R : Type} (x : aden ap_58 × hden hp_58) (k : KF R) : fnrun TT (EG_58) (drawAny TT WW) (LG_58) true Try.f58 (instA ap_58 x.1) (instH hp_58 x.2) k = Q_58 x (fun y => k (Pat.inst (.tup (.fcons (.nilp) (.fcons (.int .i64) (.fnil)))) y.1) (instH [] y.2)) (fun y => k (Pat.inst (.tup (.fcons (.ptr 0 []) (.fcons (.int .i64) (.fnil)))) y.1) (instH [some (.node (.fcons (.int .i64) (.fcons (.bool) (.fcons (.sl 1) (.fcons (.int .i64) (.fnil))))), 151), some (.lst (.int .u8), 5)] y.2)) := by kernel_rfl
theorem run_58 {R : Type} (N : Nat) (x : aden ap_58 × hden hp_58) (k : KF R) : fnrun TT (E_58 (R := R) N) (drawAny TT WW) (L_58 N) true Try.f58 (instA ap_58 x.1) (instH hp_58 x.2) k = p_58 N x (fun y => k (Pat.inst (.tup (.fcons (.nilp) (.fcons (.int .i64) (.fnil)))) y.1) (instH [] y.2)) (fun y => k (Pat.inst (.tup (.fcons (.ptr 0 []) (.fcons (.int .i64) (.fnil)))) y.1) (instH [some (.node (.fcons (.int .i64) (.fcons (.bool) (.fcons (.sl 1) (.fcons (.int .i64) (.fnil))))), 151), some (.lst (.int .u8), 5)] y.2)) := (grun_58 x k).trans (by kernel_rfl)
theorem good_58 {R : Type} (N : Nat) : GD (X := R) Try.prog QQ 58 ap_58 hp_58 (fun (x : aden ap_58 × hden hp_58) k => p_58 N x (fun y => k (Pat.inst (.tup (.fcons (.nilp) (.fcons (.int .i64) (.fnil)))) y.1) (instH [] y.2)) (fun y => k (Pat.inst (.tup (.fcons (.ptr 0 []) (.fcons (.int .i64) (.fnil)))) y.1) (instH [some (.node (.fcons (.int .i64) (.fcons (.bool) (.fcons (.sl 1) (.fcons (.int .i64) (.fnil))))), 151), some (.lst (.int .u8), 5)] y.2))) :=
  gd_loud (E := E_58 N) (p := fun (x : aden ap_58 × hden hp_58) k => p_58 N x (fun y => k (Pat.inst (.tup (.fcons (.nilp) (.fcons (.int .i64) (.fnil)))) y.1) (instH [] y.2)) (fun y => k (Pat.inst (.tup (.fcons (.ptr 0 []) (.fcons (.int .i64) (.fnil)))) y.1) (instH [some (.node (.fcons (.int .i64) (.fcons (.bool) (.fcons (.sl 1) (.fcons (.int .i64) (.fnil))))), 151), some (.lst (.int .u8), 5)] y.2))) mixed tyok (eok_58 N) Try.func58 (by kernel_rfl) (by kernel_rfl) (by kernel_rfl) (lok_58 N) (fun x k => run_58 N x k)

def ap_15 : List Pat := []
def hp_15 : List (Option (Pat × Nat)) := []
def p_15 {R : Type} (N : Nat) (x : (Unit) × (Unit)) (κ0 : (Nat → Int) → Option R) : Option R :=
let a14 : (Nat → Int) := (upd ((upd ((upd ((upd ((upd ((upd ((upd ((upd ((Sch.zero (.arr 8 (.int .u64)))) 0 7640891576956012808)) 1 13503953896175478587)) 2 4354685564936845355)) 3 11912009170470909681)) 4 5840696475078001361)) 5 11170449401992604703)) 6 2270897969802886507)) 7 6620516959819538809)
κ0 a14

abbrev Tp_15 (R : Type) : Type := (Unit) × (Unit) → ((Nat → Int) → Option R) → Option R
def Q_15 {R : Type} (x : (Unit) × (Unit)) (κ0 : (Nat → Int) → Option R) : Option R :=
let a14 : (Nat → Int) := (upd ((upd ((upd ((upd ((upd ((upd ((upd ((upd ((Sch.zero (.arr 8 (.int .u64)))) 0 7640891576956012808)) 1 13503953896175478587)) 2 4354685564936845355)) 3 11912009170470909681)) 4 5840696475078001361)) 5 11170449401992604703)) 6 2270897969802886507)) 7 6620516959819538809)
κ0 a14
def EG_15 {R : Type} : Env R := Env.base QQ LN
def LG_15 {R : Type} : Loops R := Loops.none
def E_15 {R : Type} (N : Nat) : Env R := EG_15
theorem eok_15 {R : Type} (N : Nat) : EK Try.prog (E_15 (R := R) N) := ek_base _ _
def L_15 {R : Type} (N : Nat) : Loops R := LG_15
theorem lok_15 {R : Type} (N : Nat) : LOK 0 TT (E_15 (R := R) N) (drawAny TT WW) (L_15 N) (bodyOf Try.f15) := loops_nil (by kernel_rfl)
theorem grun_15 {R : Type} (x : aden ap_15 × hden hp_15) (k : KF R) : fnrun TT (EG_15) (drawAny TT WW) (LG_15) true Try.f15 (instA ap_15 x.1) (instH hp_15 x.2) k = Q_15 x (fun y => k (Pat.inst (.vec (.int .u64) 8) y) (instH hp_15 x.2)) := by kernel_rfl
theorem run_15 {R : Type} (N : Nat) (x : aden ap_15 × hden hp_15) (k : KF R) : fnrun TT (E_15 (R := R) N) (drawAny TT WW) (L_15 N) true Try.f15 (instA ap_15 x.1) (instH hp_15 x.2) k = p_15 N x (fun y => k (Pat.inst (.vec (.int .u64) 8) y) (instH hp_15 x.2)) := (grun_15 x k).trans (by kernel_rfl)
theorem good_15 {R : Type} (N : Nat) : GD (X := R) Try.prog QQ 15 ap_15 hp_15 (fun (x : aden ap_15 × hden hp_15) k => p_15 N x (fun y => k (Pat.inst (.vec (.int .u64) 8) y) (instH hp_15 x.2))) :=
  gd_quiet (E := E_15 N) (p := fun (x : aden ap_15 × hden hp_15) κ => p_15 N x (fun y => κ (Pat.inst (.vec (.int .u64) 8) y))) mixed tyok (eok_15 N) Try.func15 (by kernel_rfl) (by kernel_rfl) (lok_15 N) (fun x k => run_15 N x k)

def ap_57 : List Pat := [.nilp, .sl 0]
def hp_57 : List (Option (Pat × Nat)) := [some (.lst (.str), 9)]
def p_57 {R : Type} (N : Nat) (x : (Unit × Unit × Unit) × ((List ByteArray) × Unit)) (κ0 : ((List (List Int)) × ((List ByteArray) × Unit)) → Option R) : Option R :=
let l35 : (List ByteArray) := x.2.1
κ0 ([], (l35, ()))

abbrev Tp_57 (R : Type) : Type := (Unit × Unit × Unit) × ((List ByteArray) × Unit) → (((List (List Int)) × ((List ByteArray) × Unit)) → Option R) → Option R
def Q_57 {R : Type} (x : (Unit × Unit × Unit) × ((List ByteArray) × Unit)) (κ0 : ((List (List Int)) × ((List ByteArray) × Unit)) → Option R) : Option R :=
let l35 : (List ByteArray) := x.2.1
κ0 ([], (l35, ()))
def EG_57 {R : Type} : Env R := Env.base QQ LN
def LG_57 {R : Type} : Loops R := Loops.none
def E_57 {R : Type} (N : Nat) : Env R := EG_57
theorem eok_57 {R : Type} (N : Nat) : EK Try.prog (E_57 (R := R) N) := ek_base _ _
def L_57 {R : Type} (N : Nat) : Loops R := LG_57
theorem loops_57 : loopsIn (bodyOf Try.f57) = [(5, loopAt 5 (bodyOf Try.f57)), (9, loopAt 9 (bodyOf Try.f57))] := by kernel_rfl
theorem lok_57 {R : Type} (N : Nat) : LOK 1 TT (E_57 (R := R) N) (drawAny TT WW) (L_57 N) (bodyOf Try.f57) := loops_all loops_57 (by
  simp only [List.forall_mem_cons, List.not_mem_nil, false_implies, implies_true, and_true]
  exact ⟨rounds_none (fun _ _ => rfl), rounds_none (fun _ _ => rfl)⟩)
theorem grun_57 {R : Type} (x : aden ap_57 × hden hp_57) (k : KF R) : fnrun TT (EG_57) (drawAny TT WW) (LG_57) true Try.f57 (instA ap_57 x.1) (instH hp_57 x.2) k = Q_57 x (fun y => k (Pat.inst (.ros (.sl (.int .u8))) y.1) (instH [some (.lst (.str), 9)] y.2)) := by kernel_rfl
theorem run_57 {R : Type} (N : Nat) (x : aden ap_57 × hden hp_57) (k : KF R) : fnrun TT (E_57 (R := R) N) (drawAny TT WW) (L_57 N) true Try.f57 (instA ap_57 x.1) (instH hp_57 x.2) k = p_57 N x (fun y => k (Pat.inst (.ros (.sl (.int .u8))) y.1) (instH [some (.lst (.str), 9)] y.2)) := (grun_57 x k).trans (by kernel_rfl)
theorem good_57 {R : Type} (N : Nat) : GD (X := R) Try.prog QQ 57 ap_57 hp_57 (fun (x : aden ap_57 × hden hp_57) k => p_57 N x (fun y => k (Pat.inst (.ros (.sl (.int .u8))) y.1) (instH [some (.lst (.str), 9)] y.2))) :=
  gd_loud (E := E_57 N) (p := fun (x : aden ap_57 × hden hp_57) k => p_57 N x (fun y => k (Pat.inst (.ros (.sl (.int .u8))) y.1) (instH [some (.lst (.str), 9)] y.2))) mixed tyok (eok_57 N) Try.func57 (by kernel_rfl) (by kernel_rfl) (by kernel_rfl) (lok_57 N) (fun x k => run_57 N x k)

def lv_45_5 : Live := [(4, none), (15, none), (16, none), (17, none)]
def pt_45_5 : SPat := ⟨[(4, .sl 0), (15, .ros (.int .u8)), (16, .int .i64), (17, .int .i64)], [some (.lst (.int .u64), 22)]⟩
def px_45_5_0 : SPat := ⟨[(4, .sl 0)], [some (.lst (.int .u64), 22)]⟩
def lo_45_5 : Exit → Live
  | .exit 0 => [(4, none)]
  | _ => []
def B_45_5 {R : Type} (N : Nat) (rec : ((Unit × (List Int) × Int × Int × Unit) × ((List Int) × Unit)) → Option R) (x : ((Unit × (List Int) × Int × Int × Unit) × ((List Int) × Unit))) (κ0 : ((Unit × Unit) × ((List Int) × Unit)) → Option R) : Option R :=
let l62 : (List Int) := x.1.2.1
let i63 : Int := x.1.2.2.1
let i64 : Int := x.1.2.2.2.1
let l65 : (List Int) := x.2.1
bif (decide (i64 < i63)) then (
bif decide (0 ≤ i64) then (
bif decide (i64 < ((List.length l62) : Int)) then (
let p66 : Int := (List.getD l62 ((Int.toNat i64)) (Sch.zero (.int .u8)))
let i67 : Int := quoA .i64 i64 8
bif decide (0 ≤ i67) then (
bif decide (i67 < ((List.length l65) : Int)) then (
let i68 : Int := (List.getD l65 ((Int.toNat i67)) (Sch.zero (.int .u64)))
let i69 : Int := IntKind.wrap .u64 p66
let i70 : Int := remA .i64 i64 8
let i71 : Int := mulA .i64 8 i70
bif decide (i71 < 0) then none else (
let i72 : Int := shlA .u64 i69 i71
let i73 : Int := orA .u64 i68 i72
bif decide (0 ≤ i67) then (
bif decide (i67 < ((List.length l65) : Int)) then (
let l74 : (List Int) := (List.set l65 ((Int.toNat i67)) i73)
let i75 : Int := addA .i64 i64 1
rec (((), l62, i63, i75, ()), (l74, ()))) else none) else none)) else none) else none) else none) else none) else (
κ0 (((), ()), (l65, ())))
def l_45_5 {R : Type} (N : Nat) : Nat → ((Unit × (List Int) × Int × Int × Unit) × ((List Int) × Unit)) → (((Unit × Unit) × ((List Int) × Unit)) → Option R) → Option R
  | 0, _, _ => none
  | n + 1, x, κ0 => B_45_5 N (fun y => l_45_5 N n y κ0) x κ0
def ap_45 : List Pat := [.ros (.int .u8)]
def hp_45 : List (Option (Pat × Nat)) := []
def p_45 {R : Type} (N : Nat) (x : ((List Int) × Unit) × (Unit)) (κ0 : (((List Int) × (Int × Unit)) × (Unit)) → Option R) : Option R :=
let l55 : (List Int) := x.1.1
let i56 : Int := (((List.length l55) : Nat) : Int)
let i57 : Int := remA .i64 i56 8
bif (i57 != 0) then (
κ0 (([], (9, ())), ())) else (
let i58 : Int := (((List.length l55) : Nat) : Int)
let i59 : Int := quoA .i64 i58 8
bif decide (0 ≤ i59) then (
bif decide (i59 ≤ i59) then (
bif decide (((8 : Nat) : Int) * i59 ≤ 281474976710656) then (
bif decide (i59 ≤ 9223372036854775807) then (
let l60 : (List Int) := List.replicate ((Int.toNat i59)) (Sch.zero (.int .u64))
let i61 : Int := (((List.length l55) : Nat) : Int)
l_45_5 N N (((), l55, i61, 0, ()), (l60, ())) (fun y76 =>
let l77 : (List Int) := y76.2.1
κ0 ((l77, (0, ())), ()))) else none) else none) else none) else none)

abbrev Tl_45_5 (R : Type) : Type := ((Unit × (List Int) × Int × Int × Unit) × ((List Int) × Unit)) → (((Unit × Unit) × ((List Int) × Unit)) → Option R) → Option R
abbrev Tp_45 (R : Type) : Type := ((List Int) × Unit) × (Unit) → ((((List Int) × (Int × Unit)) × (Unit)) → Option R) → Option R
def Q_45 {R : Type} (m_45_5 : Tl_45_5 R) (x : ((List Int) × Unit) × (Unit)) (κ0 : (((List Int) × (Int × Unit)) × (Unit)) → Option R) : Option R :=
let l55 : (List Int) := x.1.1
let i56 : Int := (((List.length l55) : Nat) : Int)
let i57 : Int := remA .i64 i56 8
bif (i57 != 0) then (
κ0 (([], (9, ())), ())) else (
let i58 : Int := (((List.length l55) : Nat) : Int)
let i59 : Int := quoA .i64 i58 8
bif decide (0 ≤ i59) then (
bif decide (i59 ≤ i59) then (
bif decide (((8 : Nat) : Int) * i59 ≤ 281474976710656) then (
bif decide (i59 ≤ 9223372036854775807) then (
let l60 : (List Int) := List.replicate ((Int.toNat i59)) (Sch.zero (.int .u64))
let i61 : Int := (((List.length l55) : Nat) : Int)
m_45_5 (((), l55, i61, 0, ()), (l60, ())) (fun y76 =>
let l77 : (List Int) := y76.2.1
κ0 ((l77, (0, ())), ()))) else none) else none) else none) else none)
def C_45_5 {R : Type} (m_45_5 : Tl_45_5 R) (rec : ((Unit × (List Int) × Int × Int × Unit) × ((List Int) × Unit)) → Option R) (x : ((Unit × (List Int) × Int × Int × Unit) × ((List Int) × Unit))) (κ0 : ((Unit × Unit) × ((List Int) × Unit)) → Option R) : Option R :=
let l62 : (List Int) := x.1.2.1
let i63 : Int := x.1.2.2.1
let i64 : Int := x.1.2.2.2.1
let l65 : (List Int) := x.2.1
bif (decide (i64 < i63)) then (
bif decide (0 ≤ i64) then (
bif decide (i64 < ((List.length l62) : Int)) then (
let p66 : Int := (List.getD l62 ((Int.toNat i64)) (Sch.zero (.int .u8)))
let i67 : Int := quoA .i64 i64 8
bif decide (0 ≤ i67) then (
bif decide (i67 < ((List.length l65) : Int)) then (
let i68 : Int := (List.getD l65 ((Int.toNat i67)) (Sch.zero (.int .u64)))
let i69 : Int := IntKind.wrap .u64 p66
let i70 : Int := remA .i64 i64 8
let i71 : Int := mulA .i64 8 i70
bif decide (i71 < 0) then none else (
let i72 : Int := shlA .u64 i69 i71
let i73 : Int := orA .u64 i68 i72
bif decide (0 ≤ i67) then (
bif decide (i67 < ((List.length l65) : Int)) then (
let l74 : (List Int) := (List.set l65 ((Int.toNat i67)) i73)
let i75 : Int := addA .i64 i64 1
rec (((), l62, i63, i75, ()), (l74, ()))) else none) else none)) else none) else none) else none) else none) else (
κ0 (((), ()), (l65, ())))
def EG_45 {R : Type} : Env R := Env.base QQ LN
def LG_45 {R : Type} (m_45_5 : Tl_45_5 R) : Loops R := (Loops.none).add 5 (loopBy 0 lv_45_5 pt_45_5 (fun x k => m_45_5 x (fun y => k (.exit 0) (px_45_5_0.inst y))))
def E_45 {R : Type} (N : Nat) : Env R := EG_45
theorem eok_45 {R : Type} (N : Nat) : EK Try.prog (E_45 (R := R) N) := ek_base _ _
def L_45 {R : Type} (N : Nat) : Loops R := LG_45 (l_45_5 N N)
theorem gstep_45_5 {R : Type} (m_45_5 : Tl_45_5 R) (n : Nat) (x : pt_45_5.den) (k : Exit → St → Option R) : iter 0 lv_45_5 lo_45_5 (aexec TT (EG_45) (drawAny TT WW) (LG_45 m_45_5) (loopAt 5 (bodyOf Try.f45))) (n + 1) (pt_45_5.inst x) k = C_45_5 m_45_5 (fun y => iter 0 lv_45_5 lo_45_5 (aexec TT (EG_45) (drawAny TT WW) (LG_45 m_45_5) (loopAt 5 (bodyOf Try.f45))) n (pt_45_5.inst y) k) x (fun y => k (.exit 0) (px_45_5_0.inst y)) := by kernel_rfl
theorem step_45_5 {R : Type} (N n : Nat) (x : pt_45_5.den) (k : Exit → St → Option R) : iter 0 lv_45_5 lo_45_5 (aexec TT (E_45 (R := R) N) (drawAny TT WW) (L_45 N) (loopAt 5 (bodyOf Try.f45))) (n + 1) (pt_45_5.inst x) k = B_45_5 N (fun y => iter 0 lv_45_5 lo_45_5 (aexec TT (E_45 (R := R) N) (drawAny TT WW) (L_45 N) (loopAt 5 (bodyOf Try.f45))) n (pt_45_5.inst y) k) x (fun y => k (.exit 0) (px_45_5_0.inst y)) := (gstep_45_5 (l_45_5 N N) n x k).trans (by kernel_rfl)
theorem eq_45_5 {R : Type} (N : Nat) : ∀ (n : Nat) (x : pt_45_5.den) (k : Exit → St → Option R), iter 0 lv_45_5 lo_45_5 (aexec TT (E_45 (R := R) N) (drawAny TT WW) (L_45 N) (loopAt 5 (bodyOf Try.f45))) n (pt_45_5.inst x) k = l_45_5 N n x (fun y => k (.exit 0) (px_45_5_0.inst y)) :=
  iter_eq (K := Exit → St → Option R) (ks := fun k => k) (l := fun n (x : pt_45_5.den) k => l_45_5 N n x (fun y => k (.exit 0) (px_45_5_0.inst y))) (B := fun (rec : pt_45_5.den → Option R) (x : pt_45_5.den) k => B_45_5 N rec x (fun y => k (.exit 0) (px_45_5_0.inst y))) (fun _ _ => rfl) (fun _ _ _ => rfl) (fun n x k => step_45_5 N n x k)
theorem rounds_45_5 {R : Type} (N : Nat) : Rounds 0 TT (E_45 (R := R) N) (drawAny TT WW) (L_45 N) 5 (loopAt 5 (bodyOf Try.f45)) :=
  rounds_of (p := pt_45_5) (l := fun (x : pt_45_5.den) k => l_45_5 N N x (fun y => k (.exit 0) (px_45_5_0.inst y))) (fun s k => rfl) (fun x k => eq_45_5 N N x k)
theorem loops_45 : loopsIn (bodyOf Try.f45) = [(5, loopAt 5 (bodyOf Try.f45))] := by kernel_rfl
theorem lok_45 {R : Type} (N : Nat) : LOK 0 TT (E_45 (R := R) N) (drawAny TT WW) (L_45 N) (bodyOf Try.f45) := loops_all loops_45 (by
  simp only [List.forall_mem_cons, List.not_mem_nil, false_implies, implies_true, and_true]
  exact rounds_45_5 N)
theorem grun_45 {R : Type} (m_45_5 : Tl_45_5 R) (x : aden ap_45 × hden hp_45) (k : KF R) : fnrun TT (EG_45) (drawAny TT WW) (LG_45 m_45_5) true Try.f45 (instA ap_45 x.1) (instH hp_45 x.2) k = Q_45 m_45_5 x (fun y => k (Pat.inst (.tup (.fcons (.ros (.int .u64)) (.fcons (.int .i64) (.fnil)))) y.1) (instH [] y.2)) := by kernel_rfl
theorem run_45 {R : Type} (N : Nat) (x : aden ap_45 × hden hp_45) (k : KF R) : fnrun TT (E_45 (R := R) N) (drawAny TT WW) (L_45 N) true Try.f45 (instA ap_45 x.1) (instH hp_45 x.2) k = p_45 N x (fun y => k (Pat.inst (.tup (.fcons (.ros (.int .u64)) (.fcons (.int .i64) (.fnil)))) y.1) (instH [] y.2)) := (grun_45 (l_45_5 N N) x k).trans (by kernel_rfl)
theorem good_45 {R : Type} (N : Nat) : GD (X := R) Try.prog QQ 45 ap_45 hp_45 (fun (x : aden ap_45 × hden hp_45) k => p_45 N x (fun y => k (Pat.inst (.tup (.fcons (.ros (.int .u64)) (.fcons (.int .i64) (.fnil)))) y.1) (instH [] y.2))) :=
  gd_loud (E := E_45 N) (p := fun (x : aden ap_45 × hden hp_45) k => p_45 N x (fun y => k (Pat.inst (.tup (.fcons (.ros (.int .u64)) (.fcons (.int .i64) (.fnil)))) y.1) (instH [] y.2))) mixed tyok (eok_45 N) Try.func45 (by kernel_rfl) (by kernel_rfl) (by kernel_rfl) (lok_45 N) (fun x k => run_45 N x k)

def ap_46 : List Pat := []
def hp_46 : List (Option (Pat × Nat)) := []
def p_46 {R : Type} (N : Nat) (x : (Unit) × (Unit)) (κ0 : (Nat → (Nat → Int)) → Option R) : Option R :=
let a93 : (Nat → Int) := (upd ((upd ((upd ((upd ((Sch.zero (.arr 4 (.int .i64)))) 0 0)) 1 4)) 2 8)) 3 12)
let a94 : (Nat → Int) := (upd ((upd ((upd ((upd ((Sch.zero (.arr 4 (.int .i64)))) 0 1)) 1 5)) 2 9)) 3 13)
let a95 : (Nat → Int) := (upd ((upd ((upd ((upd ((Sch.zero (.arr 4 (.int .i64)))) 0 2)) 1 6)) 2 10)) 3 14)
let a96 : (Nat → Int) := (upd ((upd ((upd ((upd ((Sch.zero (.arr 4 (.int .i64)))) 0 3)) 1 7)) 2 11)) 3 15)
let a97 : (Nat → Int) := (upd ((upd ((upd ((upd ((Sch.zero (.arr 4 (.int .i64)))) 0 0)) 1 5)) 2 10)) 3 15)
let a98 : (Nat → Int) := (upd ((upd ((upd ((upd ((Sch.zero (.arr 4 (.int .i64)))) 0 1)) 1 6)) 2 11)) 3 12)
let a99 : (Nat → Int) := (upd ((upd ((upd ((upd ((Sch.zero (.arr 4 (.int .i64)))) 0 2)) 1 7)) 2 8)) 3 13)
let a100 : (Nat → Int) := (upd ((upd ((upd ((upd ((Sch.zero (.arr 4 (.int .i64)))) 0 3)) 1 4)) 2 9)) 3 14)
let a101 : (Nat → (Nat → Int)) := (upd ((upd ((upd ((upd ((upd ((upd ((upd ((upd ((Sch.zero (.arr 8 (.arr 4 (.int .i64))))) 0 a93)) 1 a94)) 2 a95)) 3 a96)) 4 a97)) 5 a98)) 6 a99)) 7 a100)
κ0 a101

abbrev Tp_46 (R : Type) : Type := (Unit) × (Unit) → ((Nat → (Nat → Int)) → Option R) → Option R
def Q_46 {R : Type} (x : (Unit) × (Unit)) (κ0 : (Nat → (Nat → Int)) → Option R) : Option R :=
let a93 : (Nat → Int) := (upd ((upd ((upd ((upd ((Sch.zero (.arr 4 (.int .i64)))) 0 0)) 1 4)) 2 8)) 3 12)
let a94 : (Nat → Int) := (upd ((upd ((upd ((upd ((Sch.zero (.arr 4 (.int .i64)))) 0 1)) 1 5)) 2 9)) 3 13)
let a95 : (Nat → Int) := (upd ((upd ((upd ((upd ((Sch.zero (.arr 4 (.int .i64)))) 0 2)) 1 6)) 2 10)) 3 14)
let a96 : (Nat → Int) := (upd ((upd ((upd ((upd ((Sch.zero (.arr 4 (.int .i64)))) 0 3)) 1 7)) 2 11)) 3 15)
let a97 : (Nat → Int) := (upd ((upd ((upd ((upd ((Sch.zero (.arr 4 (.int .i64)))) 0 0)) 1 5)) 2 10)) 3 15)
let a98 : (Nat → Int) := (upd ((upd ((upd ((upd ((Sch.zero (.arr 4 (.int .i64)))) 0 1)) 1 6)) 2 11)) 3 12)
let a99 : (Nat → Int) := (upd ((upd ((upd ((upd ((Sch.zero (.arr 4 (.int .i64)))) 0 2)) 1 7)) 2 8)) 3 13)
let a100 : (Nat → Int) := (upd ((upd ((upd ((upd ((Sch.zero (.arr 4 (.int .i64)))) 0 3)) 1 4)) 2 9)) 3 14)
let a101 : (Nat → (Nat → Int)) := (upd ((upd ((upd ((upd ((upd ((upd ((upd ((upd ((Sch.zero (.arr 8 (.arr 4 (.int .i64))))) 0 a93)) 1 a94)) 2 a95)) 3 a96)) 4 a97)) 5 a98)) 6 a99)) 7 a100)
κ0 a101
def EG_46 {R : Type} : Env R := Env.base QQ LN
def LG_46 {R : Type} : Loops R := Loops.none
def E_46 {R : Type} (N : Nat) : Env R := EG_46
theorem eok_46 {R : Type} (N : Nat) : EK Try.prog (E_46 (R := R) N) := ek_base _ _
def L_46 {R : Type} (N : Nat) : Loops R := LG_46
theorem lok_46 {R : Type} (N : Nat) : LOK 0 TT (E_46 (R := R) N) (drawAny TT WW) (L_46 N) (bodyOf Try.f46) := loops_nil (by kernel_rfl)
theorem grun_46 {R : Type} (x : aden ap_46 × hden hp_46) (k : KF R) : fnrun TT (EG_46) (drawAny TT WW) (LG_46) true Try.f46 (instA ap_46 x.1) (instH hp_46 x.2) k = Q_46 x (fun y => k (Pat.inst (.vec (.arr 4 (.int .i64)) 8) y) (instH hp_46 x.2)) := by kernel_rfl
theorem run_46 {R : Type} (N : Nat) (x : aden ap_46 × hden hp_46) (k : KF R) : fnrun TT (E_46 (R := R) N) (drawAny TT WW) (L_46 N) true Try.f46 (instA ap_46 x.1) (instH hp_46 x.2) k = p_46 N x (fun y => k (Pat.inst (.vec (.arr 4 (.int .i64)) 8) y) (instH hp_46 x.2)) := (grun_46 x k).trans (by kernel_rfl)
theorem good_46 {R : Type} (N : Nat) : GD (X := R) Try.prog QQ 46 ap_46 hp_46 (fun (x : aden ap_46 × hden hp_46) k => p_46 N x (fun y => k (Pat.inst (.vec (.arr 4 (.int .i64)) 8) y) (instH hp_46 x.2))) :=
  gd_quiet (E := E_46 N) (p := fun (x : aden ap_46 × hden hp_46) κ => p_46 N x (fun y => κ (Pat.inst (.vec (.arr 4 (.int .i64)) 8) y))) mixed tyok (eok_46 N) Try.func46 (by kernel_rfl) (by kernel_rfl) (lok_46 N) (fun x k => run_46 N x k)

def lv_19_7 : Live := [(2, none), (4, none), (5, none), (16, none)]
def pt_19_7 : SPat := ⟨[(2, .ptr 0 []), (4, .ptr 1 []), (5, .str), (16, .int .i64)], [some (.vec (.int .i64) 16, 38), some (.vec (.int .i64) 16, 38)]⟩
def px_19_7_0 : SPat := ⟨[(2, .ptr 0 []), (4, .ptr 1 [])], [some (.vec (.int .i64) 16, 38), some (.vec (.int .i64) 16, 38)]⟩
def lo_19_7 : Exit → Live
  | .exit 0 => [(2, none), (4, none)]
  | _ => []
def B_19_7 {R : Type} (N : Nat) (rec : ((Unit × Unit × ByteArray × Int × Unit) × ((Nat → Int) × (Nat → Int) × Unit)) → Option R) (x : ((Unit × Unit × ByteArray × Int × Unit) × ((Nat → Int) × (Nat → Int) × Unit))) (κ0 : ((Unit × Unit × Unit) × ((Nat → Int) × (Nat → Int) × Unit)) → Option R) : Option R :=
let s115 : ByteArray := x.1.2.2.1
let i116 : Int := x.1.2.2.2.1
let a117 : (Nat → Int) := x.2.1
let a118 : (Nat → Int) := x.2.2.1
bif (decide (i116 < 16)) then (
bif decide (0 ≤ i116) then (
bif decide (i116 < (ByteArray.size s115 : Int)) then (
let i119 : Int := byteAt s115 ((Int.toNat i116))
let i120 : Int := IntKind.wrap .i64 i119
bif (decide (i120 ≥ 97)) then (
let i121 : Int := subA .i64 i120 97
let i122 : Int := addA .i64 i121 10
bif decide (0 ≤ i116) then (
bif decide (i116 < (16 : Int)) then (
let a123 : (Nat → Int) := (upd a118 ((Int.toNat i116)) i122)
let i124 : Int := addA .i64 i116 1
rec (((), (), s115, i124, ()), (a117, a123, ()))) else none) else none) else (
let i125 : Int := subA .i64 i120 48
bif decide (0 ≤ i116) then (
bif decide (i116 < (16 : Int)) then (
let a126 : (Nat → Int) := (upd a118 ((Int.toNat i116)) i125)
let i127 : Int := addA .i64 i116 1
rec (((), (), s115, i127, ()), (a117, a126, ()))) else none) else none)) else none) else none) else (
κ0 (((), (), ()), (a117, a118, ())))
def l_19_7 {R : Type} (N : Nat) : Nat → ((Unit × Unit × ByteArray × Int × Unit) × ((Nat → Int) × (Nat → Int) × Unit)) → (((Unit × Unit × Unit) × ((Nat → Int) × (Nat → Int) × Unit)) → Option R) → Option R
  | 0, _, _ => none
  | n + 1, x, κ0 => B_19_7 N (fun y => l_19_7 N n y κ0) x κ0
def ap_19 : List Pat := [.int .i64]
def hp_19 : List (Option (Pat × Nat)) := []
def p_19 {R : Type} (N : Nat) (x : (Int × Unit) × (Unit)) (κ0 : (Nat → Int) → Option R) : Option R :=
let i110 : Int := x.1.1
let a111 : (Nat → ByteArray) := (upd ((upd ((upd ((upd ((upd ((upd ((upd ((upd ((upd ((upd ((Sch.zero (.arr 10 (.str)))) 0 (⟨#[48, 49, 50, 51, 52, 53, 54, 55, 56, 57, 97, 98, 99, 100, 101, 102]⟩))) 1 (⟨#[101, 97, 52, 56, 57, 102, 100, 54, 49, 99, 48, 50, 98, 55, 53, 51]⟩))) 2 (⟨#[98, 56, 99, 48, 53, 50, 102, 100, 97, 101, 51, 54, 55, 49, 57, 52]⟩))) 3 (⟨#[55, 57, 51, 49, 100, 99, 98, 101, 50, 54, 53, 97, 52, 48, 102, 56]⟩))) 4 (⟨#[57, 48, 53, 55, 50, 52, 97, 102, 101, 49, 98, 99, 54, 56, 51, 100]⟩))) 5 (⟨#[50, 99, 54, 97, 48, 98, 56, 51, 52, 100, 55, 53, 102, 101, 49, 57]⟩))) 6 (⟨#[99, 53, 49, 102, 101, 100, 52, 97, 48, 55, 54, 51, 57, 50, 56, 98]⟩))) 7 (⟨#[100, 98, 55, 101, 99, 49, 51, 57, 53, 48, 102, 52, 56, 54, 50, 97]⟩))) 8 (⟨#[54, 102, 101, 57, 98, 51, 48, 56, 99, 50, 100, 55, 49, 52, 97, 53]⟩))) 9 (⟨#[97, 50, 56, 52, 55, 54, 49, 53, 102, 98, 57, 101, 51, 99, 100, 48]⟩))
bif (decide (i110 < 0)) then (
let a112 : (Nat → Int) := (Sch.zero (.arr 16 (.int .i64)))
κ0 a112) else (
let i113 : Int := remA .i64 i110 10
bif decide (0 ≤ i113) then (
bif decide (i113 < (10 : Int)) then (
let s114 : ByteArray := (a111 ((Int.toNat i113)))
l_19_7 N N (((), (), s114, 0, ()), ((Sch.zero (.arr 16 (.int .i64))), (Sch.zero (.arr 16 (.int .i64))), ())) (fun y128 =>
let a129 : (Nat → Int) := y128.2.1
let a130 : (Nat → Int) := y128.2.2.1
κ0 a130)) else none) else none)

abbrev Tl_19_7 (R : Type) : Type := ((Unit × Unit × ByteArray × Int × Unit) × ((Nat → Int) × (Nat → Int) × Unit)) → (((Unit × Unit × Unit) × ((Nat → Int) × (Nat → Int) × Unit)) → Option R) → Option R
abbrev Tp_19 (R : Type) : Type := (Int × Unit) × (Unit) → ((Nat → Int) → Option R) → Option R
def Q_19 {R : Type} (m_19_7 : Tl_19_7 R) (x : (Int × Unit) × (Unit)) (κ0 : (Nat → Int) → Option R) : Option R :=
let i110 : Int := x.1.1
let a111 : (Nat → ByteArray) := (upd ((upd ((upd ((upd ((upd ((upd ((upd ((upd ((upd ((upd ((Sch.zero (.arr 10 (.str)))) 0 (⟨#[48, 49, 50, 51, 52, 53, 54, 55, 56, 57, 97, 98, 99, 100, 101, 102]⟩))) 1 (⟨#[101, 97, 52, 56, 57, 102, 100, 54, 49, 99, 48, 50, 98, 55, 53, 51]⟩))) 2 (⟨#[98, 56, 99, 48, 53, 50, 102, 100, 97, 101, 51, 54, 55, 49, 57, 52]⟩))) 3 (⟨#[55, 57, 51, 49, 100, 99, 98, 101, 50, 54, 53, 97, 52, 48, 102, 56]⟩))) 4 (⟨#[57, 48, 53, 55, 50, 52, 97, 102, 101, 49, 98, 99, 54, 56, 51, 100]⟩))) 5 (⟨#[50, 99, 54, 97, 48, 98, 56, 51, 52, 100, 55, 53, 102, 101, 49, 57]⟩))) 6 (⟨#[99, 53, 49, 102, 101, 100, 52, 97, 48, 55, 54, 51, 57, 50, 56, 98]⟩))) 7 (⟨#[100, 98, 55, 101, 99, 49, 51, 57, 53, 48, 102, 52, 56, 54, 50, 97]⟩))) 8 (⟨#[54, 102, 101, 57, 98, 51, 48, 56, 99, 50, 100, 55, 49, 52, 97, 53]⟩))) 9 (⟨#[97, 50, 56, 52, 55, 54, 49, 53, 102, 98, 57, 101, 51, 99, 100, 48]⟩))
bif (decide (i110 < 0)) then (
let a112 : (Nat → Int) := (Sch.zero (.arr 16 (.int .i64)))
κ0 a112) else (
let i113 : Int := remA .i64 i110 10
bif decide (0 ≤ i113) then (
bif decide (i113 < (10 : Int)) then (
let s114 : ByteArray := (a111 ((Int.toNat i113)))
m_19_7 (((), (), s114, 0, ()), ((Sch.zero (.arr 16 (.int .i64))), (Sch.zero (.arr 16 (.int .i64))), ())) (fun y128 =>
let a129 : (Nat → Int) := y128.2.1
let a130 : (Nat → Int) := y128.2.2.1
κ0 a130)) else none) else none)
def C_19_7 {R : Type} (m_19_7 : Tl_19_7 R) (rec : ((Unit × Unit × ByteArray × Int × Unit) × ((Nat → Int) × (Nat → Int) × Unit)) → Option R) (x : ((Unit × Unit × ByteArray × Int × Unit) × ((Nat → Int) × (Nat → Int) × Unit))) (κ0 : ((Unit × Unit × Unit) × ((Nat → Int) × (Nat → Int) × Unit)) → Option R) : Option R :=
let s115 : ByteArray := x.1.2.2.1
let i116 : Int := x.1.2.2.2.1
let a117 : (Nat → Int) := x.2.1
let a118 : (Nat → Int) := x.2.2.1
bif (decide (i116 < 16)) then (
bif decide (0 ≤ i116) then (
bif decide (i116 < (ByteArray.size s115 : Int)) then (
let i119 : Int := byteAt s115 ((Int.toNat i116))
let i120 : Int := IntKind.wrap .i64 i119
bif (decide (i120 ≥ 97)) then (
let i121 : Int := subA .i64 i120 97
let i122 : Int := addA .i64 i121 10
bif decide (0 ≤ i116) then (
bif decide (i116 < (16 : Int)) then (
let a123 : (Nat → Int) := (upd a118 ((Int.toNat i116)) i122)
let i124 : Int := addA .i64 i116 1
rec (((), (), s115, i124, ()), (a117, a123, ()))) else none) else none) else (
let i125 : Int := subA .i64 i120 48
bif decide (0 ≤ i116) then (
bif decide (i116 < (16 : Int)) then (
let a126 : (Nat → Int) := (upd a118 ((Int.toNat i116)) i125)
let i127 : Int := addA .i64 i116 1
rec (((), (), s115, i127, ()), (a117, a126, ()))) else none) else none)) else none) else none) else (
κ0 (((), (), ()), (a117, a118, ())))
def EG_19 {R : Type} : Env R := Env.base QQ LN
def LG_19 {R : Type} (m_19_7 : Tl_19_7 R) : Loops R := (Loops.none).add 7 (loopBy 0 lv_19_7 pt_19_7 (fun x k => m_19_7 x (fun y => k (.exit 0) (px_19_7_0.inst y))))
def E_19 {R : Type} (N : Nat) : Env R := EG_19
theorem eok_19 {R : Type} (N : Nat) : EK Try.prog (E_19 (R := R) N) := ek_base _ _
def L_19 {R : Type} (N : Nat) : Loops R := LG_19 (l_19_7 N N)
theorem gstep_19_7 {R : Type} (m_19_7 : Tl_19_7 R) (n : Nat) (x : pt_19_7.den) (k : Exit → St → Option R) : iter 0 lv_19_7 lo_19_7 (aexec TT (EG_19) (drawAny TT WW) (LG_19 m_19_7) (loopAt 7 (bodyOf Try.f19))) (n + 1) (pt_19_7.inst x) k = C_19_7 m_19_7 (fun y => iter 0 lv_19_7 lo_19_7 (aexec TT (EG_19) (drawAny TT WW) (LG_19 m_19_7) (loopAt 7 (bodyOf Try.f19))) n (pt_19_7.inst y) k) x (fun y => k (.exit 0) (px_19_7_0.inst y)) := by kernel_rfl
theorem step_19_7 {R : Type} (N n : Nat) (x : pt_19_7.den) (k : Exit → St → Option R) : iter 0 lv_19_7 lo_19_7 (aexec TT (E_19 (R := R) N) (drawAny TT WW) (L_19 N) (loopAt 7 (bodyOf Try.f19))) (n + 1) (pt_19_7.inst x) k = B_19_7 N (fun y => iter 0 lv_19_7 lo_19_7 (aexec TT (E_19 (R := R) N) (drawAny TT WW) (L_19 N) (loopAt 7 (bodyOf Try.f19))) n (pt_19_7.inst y) k) x (fun y => k (.exit 0) (px_19_7_0.inst y)) := (gstep_19_7 (l_19_7 N N) n x k).trans (by kernel_rfl)
theorem eq_19_7 {R : Type} (N : Nat) : ∀ (n : Nat) (x : pt_19_7.den) (k : Exit → St → Option R), iter 0 lv_19_7 lo_19_7 (aexec TT (E_19 (R := R) N) (drawAny TT WW) (L_19 N) (loopAt 7 (bodyOf Try.f19))) n (pt_19_7.inst x) k = l_19_7 N n x (fun y => k (.exit 0) (px_19_7_0.inst y)) :=
  iter_eq (K := Exit → St → Option R) (ks := fun k => k) (l := fun n (x : pt_19_7.den) k => l_19_7 N n x (fun y => k (.exit 0) (px_19_7_0.inst y))) (B := fun (rec : pt_19_7.den → Option R) (x : pt_19_7.den) k => B_19_7 N rec x (fun y => k (.exit 0) (px_19_7_0.inst y))) (fun _ _ => rfl) (fun _ _ _ => rfl) (fun n x k => step_19_7 N n x k)
theorem rounds_19_7 {R : Type} (N : Nat) : Rounds 0 TT (E_19 (R := R) N) (drawAny TT WW) (L_19 N) 7 (loopAt 7 (bodyOf Try.f19)) :=
  rounds_of (p := pt_19_7) (l := fun (x : pt_19_7.den) k => l_19_7 N N x (fun y => k (.exit 0) (px_19_7_0.inst y))) (fun s k => rfl) (fun x k => eq_19_7 N N x k)
theorem loops_19 : loopsIn (bodyOf Try.f19) = [(7, loopAt 7 (bodyOf Try.f19))] := by kernel_rfl
theorem lok_19 {R : Type} (N : Nat) : LOK 0 TT (E_19 (R := R) N) (drawAny TT WW) (L_19 N) (bodyOf Try.f19) := loops_all loops_19 (by
  simp only [List.forall_mem_cons, List.not_mem_nil, false_implies, implies_true, and_true]
  exact rounds_19_7 N)
theorem grun_19 {R : Type} (m_19_7 : Tl_19_7 R) (x : aden ap_19 × hden hp_19) (k : KF R) : fnrun TT (EG_19) (drawAny TT WW) (LG_19 m_19_7) true Try.f19 (instA ap_19 x.1) (instH hp_19 x.2) k = Q_19 m_19_7 x (fun y => k (Pat.inst (.vec (.int .i64) 16) y) (instH hp_19 x.2)) := by kernel_rfl
theorem run_19 {R : Type} (N : Nat) (x : aden ap_19 × hden hp_19) (k : KF R) : fnrun TT (E_19 (R := R) N) (drawAny TT WW) (L_19 N) true Try.f19 (instA ap_19 x.1) (instH hp_19 x.2) k = p_19 N x (fun y => k (Pat.inst (.vec (.int .i64) 16) y) (instH hp_19 x.2)) := (grun_19 (l_19_7 N N) x k).trans (by kernel_rfl)
theorem good_19 {R : Type} (N : Nat) : GD (X := R) Try.prog QQ 19 ap_19 hp_19 (fun (x : aden ap_19 × hden hp_19) k => p_19 N x (fun y => k (Pat.inst (.vec (.int .i64) 16) y) (instH hp_19 x.2))) :=
  gd_quiet (E := E_19 N) (p := fun (x : aden ap_19 × hden hp_19) κ => p_19 N x (fun y => κ (Pat.inst (.vec (.int .i64) 16) y))) mixed tyok (eok_19 N) Try.func19 (by kernel_rfl) (by kernel_rfl) (lok_19 N) (fun x k => run_19 N x k)

def ap_51 : List Pat := [.int .u64, .int .i64]
def hp_51 : List (Option (Pat × Nat)) := []
def p_51 {R : Type} (N : Nat) (x : (Int × Int × Unit) × (Unit)) (κ0 : Int → Option R) : Option R :=
let i167 : Int := x.1.1
let i168 : Int := x.1.2.1
let i169 : Int := IntKind.wrap .u64 i168
let i170 : Int := remA .u64 i169 64
bif decide (i170 < 0) then none else (
let i171 : Int := shrA .u64 i167 i170
let i172 : Int := subA .u64 64 i170
bif decide (i172 < 0) then none else (
let i173 : Int := shlA .u64 i167 i172
let i174 : Int := orA .u64 i171 i173
κ0 i174))

abbrev Tp_51 (R : Type) : Type := (Int × Int × Unit) × (Unit) → (Int → Option R) → Option R
def Q_51 {R : Type} (x : (Int × Int × Unit) × (Unit)) (κ0 : Int → Option R) : Option R :=
let i167 : Int := x.1.1
let i168 : Int := x.1.2.1
let i169 : Int := IntKind.wrap .u64 i168
let i170 : Int := remA .u64 i169 64
bif decide (i170 < 0) then none else (
let i171 : Int := shrA .u64 i167 i170
let i172 : Int := subA .u64 64 i170
bif decide (i172 < 0) then none else (
let i173 : Int := shlA .u64 i167 i172
let i174 : Int := orA .u64 i171 i173
κ0 i174))
def EG_51 {R : Type} : Env R := Env.base QQ LN
def LG_51 {R : Type} : Loops R := Loops.none
def E_51 {R : Type} (N : Nat) : Env R := EG_51
theorem eok_51 {R : Type} (N : Nat) : EK Try.prog (E_51 (R := R) N) := ek_base _ _
def L_51 {R : Type} (N : Nat) : Loops R := LG_51
theorem lok_51 {R : Type} (N : Nat) : LOK 0 TT (E_51 (R := R) N) (drawAny TT WW) (L_51 N) (bodyOf Try.f51) := loops_nil (by kernel_rfl)
theorem grun_51 {R : Type} (x : aden ap_51 × hden hp_51) (k : KF R) : fnrun TT (EG_51) (drawAny TT WW) (LG_51) true Try.f51 (instA ap_51 x.1) (instH hp_51 x.2) k = Q_51 x (fun y => k (Pat.inst (.int .u64) y) (instH hp_51 x.2)) := by kernel_rfl
theorem run_51 {R : Type} (N : Nat) (x : aden ap_51 × hden hp_51) (k : KF R) : fnrun TT (E_51 (R := R) N) (drawAny TT WW) (L_51 N) true Try.f51 (instA ap_51 x.1) (instH hp_51 x.2) k = p_51 N x (fun y => k (Pat.inst (.int .u64) y) (instH hp_51 x.2)) := (grun_51 x k).trans (by kernel_rfl)
theorem good_51 {R : Type} (N : Nat) : GD (X := R) Try.prog QQ 51 ap_51 hp_51 (fun (x : aden ap_51 × hden hp_51) k => p_51 N x (fun y => k (Pat.inst (.int .u64) y) (instH hp_51 x.2))) :=
  gd_quiet (E := E_51 N) (p := fun (x : aden ap_51 × hden hp_51) κ => p_51 N x (fun y => κ (Pat.inst (.int .u64) y))) mixed tyok (eok_51 N) Try.func51 (by kernel_rfl) (by kernel_rfl) (lok_51 N) (fun x k => run_51 N x k)

def ap_17 : List Pat := [.int .u64, .int .u64, .int .u64, .int .u64, .int .u64, .int .u64]
def hp_17 : List (Option (Pat × Nat)) := []
def p_17 {R : Type} (N : Nat) (x : (Int × Int × Int × Int × Int × Int × Unit) × (Unit)) (κ0 : (Int × (Int × (Int × (Int × Unit)))) → Option R) : Option R :=
let i158 : Int := x.1.1
let i159 : Int := x.1.2.1
let i160 : Int := x.1.2.2.1
let i161 : Int := x.1.2.2.2.1
let i162 : Int := x.1.2.2.2.2.1
let i163 : Int := x.1.2.2.2.2.2.1
let i164 : Int := addA .u64 i159 i162
let i165 : Int := addA .u64 i158 i164
let i166 : Int := xorA .u64 i161 i165
p_51 N ((i166, 32, ()), ()) (fun y175 =>
let i176 : Int := y175
let i177 : Int := addA .u64 i160 i176
let i178 : Int := xorA .u64 i159 i177
p_51 N ((i178, 24, ()), ()) (fun y179 =>
let i180 : Int := y179
let i181 : Int := addA .u64 i180 i163
let i182 : Int := addA .u64 i165 i181
let i183 : Int := xorA .u64 i176 i182
p_51 N ((i183, 16, ()), ()) (fun y184 =>
let i185 : Int := y184
let i186 : Int := addA .u64 i177 i185
let i187 : Int := xorA .u64 i180 i186
p_51 N ((i187, 63, ()), ()) (fun y188 =>
let i189 : Int := y188
κ0 ((i182, (i189, (i186, (i185, ())))))))))

abbrev Tp_17 (R : Type) : Type := (Int × Int × Int × Int × Int × Int × Unit) × (Unit) → ((Int × (Int × (Int × (Int × Unit)))) → Option R) → Option R
def Q_17 {R : Type} (q_51 : Tp_51 R) (x : (Int × Int × Int × Int × Int × Int × Unit) × (Unit)) (κ0 : (Int × (Int × (Int × (Int × Unit)))) → Option R) : Option R :=
let i158 : Int := x.1.1
let i159 : Int := x.1.2.1
let i160 : Int := x.1.2.2.1
let i161 : Int := x.1.2.2.2.1
let i162 : Int := x.1.2.2.2.2.1
let i163 : Int := x.1.2.2.2.2.2.1
let i164 : Int := addA .u64 i159 i162
let i165 : Int := addA .u64 i158 i164
let i166 : Int := xorA .u64 i161 i165
q_51 ((i166, 32, ()), ()) (fun y175 =>
let i176 : Int := y175
let i177 : Int := addA .u64 i160 i176
let i178 : Int := xorA .u64 i159 i177
q_51 ((i178, 24, ()), ()) (fun y179 =>
let i180 : Int := y179
let i181 : Int := addA .u64 i180 i163
let i182 : Int := addA .u64 i165 i181
let i183 : Int := xorA .u64 i176 i182
q_51 ((i183, 16, ()), ()) (fun y184 =>
let i185 : Int := y184
let i186 : Int := addA .u64 i177 i185
let i187 : Int := xorA .u64 i180 i186
q_51 ((i187, 63, ()), ()) (fun y188 =>
let i189 : Int := y188
κ0 ((i182, (i189, (i186, (i185, ())))))))))
def EG_17 {R : Type} (q_51 : Tp_51 R) : Env R := (Env.base QQ LN).add 51 ap_51 hp_51 (fun (x : aden ap_51 × hden hp_51) k => q_51 x (fun y => k (Pat.inst (.int .u64) y) (instH hp_51 x.2)))
def LG_17 {R : Type} : Loops R := Loops.none
def E_17 {R : Type} (N : Nat) : Env R := EG_17 (p_51 N)
theorem eok_17 {R : Type} (N : Nat) : EK Try.prog (E_17 (R := R) N) := ek_add (ek_base _ _) (good_51 N)
def L_17 {R : Type} (N : Nat) : Loops R := LG_17
theorem lok_17 {R : Type} (N : Nat) : LOK 0 TT (E_17 (R := R) N) (drawAny TT WW) (L_17 N) (bodyOf Try.f17) := loops_nil (by kernel_rfl)
theorem grun_17 {R : Type} (q_51 : Tp_51 R) (x : aden ap_17 × hden hp_17) (k : KF R) : fnrun TT (EG_17 q_51) (drawAny TT WW) (LG_17) true Try.f17 (instA ap_17 x.1) (instH hp_17 x.2) k = Q_17 q_51 x (fun y => k (Pat.inst (.tup (.fcons (.int .u64) (.fcons (.int .u64) (.fcons (.int .u64) (.fcons (.int .u64) (.fnil)))))) y) (instH hp_17 x.2)) := by kernel_rfl
theorem run_17 {R : Type} (N : Nat) (x : aden ap_17 × hden hp_17) (k : KF R) : fnrun TT (E_17 (R := R) N) (drawAny TT WW) (L_17 N) true Try.f17 (instA ap_17 x.1) (instH hp_17 x.2) k = p_17 N x (fun y => k (Pat.inst (.tup (.fcons (.int .u64) (.fcons (.int .u64) (.fcons (.int .u64) (.fcons (.int .u64) (.fnil)))))) y) (instH hp_17 x.2)) := (grun_17 (p_51 N) x k).trans (by kernel_rfl)
theorem good_17 {R : Type} (N : Nat) : GD (X := R) Try.prog QQ 17 ap_17 hp_17 (fun (x : aden ap_17 × hden hp_17) k => p_17 N x (fun y => k (Pat.inst (.tup (.fcons (.int .u64) (.fcons (.int .u64) (.fcons (.int .u64) (.fcons (.int .u64) (.fnil)))))) y) (instH hp_17 x.2))) :=
  gd_quiet (E := E_17 N) (p := fun (x : aden ap_17 × hden hp_17) κ => p_17 N x (fun y => κ (Pat.inst (.tup (.fcons (.int .u64) (.fcons (.int .u64) (.fcons (.int .u64) (.fcons (.int .u64) (.fnil)))))) y))) mixed tyok (eok_17 N) Try.func17 (by kernel_rfl) (by kernel_rfl) (lok_17 N) (fun x k => run_17 N x k)

def lv_12_17 : Live := [(4, none), (8, none), (10, none), (12, none), (14, none), (16, none), (51, none), (56, none), (57, none)]
def pt_12_17 : SPat := ⟨[(4, .ptr 0 []), (8, .ptr 1 []), (10, .ros (.int .u64)), (12, .ptr 2 []), (14, .ptr 3 []), (16, .ptr 4 []), (51, .int .i64), (56, .vec (.arr 4 (.int .i64)) 8), (57, .int .i64)], [some (.vec (.int .u64) 8, 23), some (.vec (.int .u64) 8, 23), some (.vec (.int .u64) 16, 97), some (.vec (.arr 4 (.int .i64)) 8, 99), some (.vec (.int .i64) 16, 38)]⟩
def px_12_17_0 : SPat := ⟨[(4, .ptr 0 []), (8, .ptr 1 []), (10, .ros (.int .u64)), (12, .ptr 2 []), (14, .ptr 3 []), (51, .int .i64)], [some (.vec (.int .u64) 8, 23), some (.vec (.int .u64) 8, 23), some (.vec (.int .u64) 16, 97), some (.vec (.arr 4 (.int .i64)) 8, 99)]⟩
def lo_12_17 : Exit → Live
  | .exit 2 => [(4, none), (8, none), (10, none), (12, none), (14, none), (51, none)]
  | _ => []
def B_12_17 {R : Type} (N : Nat) (rec : ((Unit × Unit × (List Int) × Unit × Unit × Unit × Int × (Nat → (Nat → Int)) × Int × Unit) × ((Nat → Int) × (Nat → Int) × (Nat → Int) × (Nat → (Nat → Int)) × (Nat → Int) × Unit)) → Option R) (x : ((Unit × Unit × (List Int) × Unit × Unit × Unit × Int × (Nat → (Nat → Int)) × Int × Unit) × ((Nat → Int) × (Nat → Int) × (Nat → Int) × (Nat → (Nat → Int)) × (Nat → Int) × Unit))) (κ0 : ((Unit × Unit × (List Int) × Unit × Unit × Int × Unit) × ((Nat → Int) × (Nat → Int) × (Nat → Int) × (Nat → (Nat → Int)) × Unit)) → Option R) : Option R :=
let l691 : (List Int) := x.1.2.2.1
let i692 : Int := x.1.2.2.2.2.2.2.1
let a693 : (Nat → (Nat → Int)) := x.1.2.2.2.2.2.2.2.1
let i694 : Int := x.1.2.2.2.2.2.2.2.2.1
let a695 : (Nat → Int) := x.2.1
let a696 : (Nat → Int) := x.2.2.1
let a697 : (Nat → Int) := x.2.2.2.1
let a698 : (Nat → (Nat → Int)) := x.2.2.2.2.1
let a699 : (Nat → Int) := x.2.2.2.2.2.1
bif (decide (i694 < 8)) then (
bif decide (0 ≤ i694) then (
bif decide (i694 < (8 : Int)) then (
let a700 : (Nat → Int) := (a693 ((Int.toNat i694)))
let i701 : Int := (a700 0)
let i702 : Int := (a700 1)
let i703 : Int := (a700 2)
let i704 : Int := (a700 3)
bif decide (0 ≤ i701) then (
bif decide (i701 < (16 : Int)) then (
let i705 : Int := (a697 ((Int.toNat i701)))
bif decide (0 ≤ i702) then (
bif decide (i702 < (16 : Int)) then (
let i706 : Int := (a697 ((Int.toNat i702)))
bif decide (0 ≤ i703) then (
bif decide (i703 < (16 : Int)) then (
let i707 : Int := (a697 ((Int.toNat i703)))
bif decide (0 ≤ i704) then (
bif decide (i704 < (16 : Int)) then (
let i708 : Int := (a697 ((Int.toNat i704)))
let i709 : Int := mulA .i64 2 i694
bif decide (0 ≤ i709) then (
bif decide (i709 < (16 : Int)) then (
let i710 : Int := (a699 ((Int.toNat i709)))
bif decide (0 ≤ i710) then (
bif decide (i710 < ((List.length l691) : Int)) then (
let p711 : Int := (List.getD l691 ((Int.toNat i710)) (Sch.zero (.int .u64)))
let i712 : Int := mulA .i64 2 i694
let i713 : Int := addA .i64 i712 1
bif decide (0 ≤ i713) then (
bif decide (i713 < (16 : Int)) then (
let i714 : Int := (a699 ((Int.toNat i713)))
bif decide (0 ≤ i714) then (
bif decide (i714 < ((List.length l691) : Int)) then (
let p715 : Int := (List.getD l691 ((Int.toNat i714)) (Sch.zero (.int .u64)))
p_17 N ((i705, i706, i707, i708, p711, p715, ()), ()) (fun y716 =>
let i717 : Int := y716.1
let i718 : Int := y716.2.1
let i719 : Int := y716.2.2.1
let i720 : Int := y716.2.2.2.1
bif decide (0 ≤ i701) then (
bif decide (i701 < (16 : Int)) then (
let a721 : (Nat → Int) := (upd a697 ((Int.toNat i701)) i717)
bif decide (0 ≤ i702) then (
bif decide (i702 < (16 : Int)) then (
let a722 : (Nat → Int) := (upd a721 ((Int.toNat i702)) i718)
bif decide (0 ≤ i703) then (
bif decide (i703 < (16 : Int)) then (
let a723 : (Nat → Int) := (upd a722 ((Int.toNat i703)) i719)
bif decide (0 ≤ i704) then (
bif decide (i704 < (16 : Int)) then (
let a724 : (Nat → Int) := (upd a723 ((Int.toNat i704)) i720)
let i725 : Int := addA .i64 i694 1
rec (((), (), l691, (), (), (), i692, a693, i725, ()), (a695, a696, a724, a698, a699, ()))) else none) else none) else none) else none) else none) else none) else none) else none)) else none) else none) else none) else none) else none) else none) else none) else none) else none) else none) else none) else none) else none) else none) else none) else none) else none) else none) else (
κ0 (((), (), l691, (), (), i692, ()), (a695, a696, a697, a698, ())))
def l_12_17 {R : Type} (N : Nat) : Nat → ((Unit × Unit × (List Int) × Unit × Unit × Unit × Int × (Nat → (Nat → Int)) × Int × Unit) × ((Nat → Int) × (Nat → Int) × (Nat → Int) × (Nat → (Nat → Int)) × (Nat → Int) × Unit)) → (((Unit × Unit × (List Int) × Unit × Unit × Int × Unit) × ((Nat → Int) × (Nat → Int) × (Nat → Int) × (Nat → (Nat → Int)) × Unit)) → Option R) → Option R
  | 0, _, _ => none
  | n + 1, x, κ0 => B_12_17 N (fun y => l_12_17 N n y κ0) x κ0
def lv_12_13 : Live := [(4, none), (8, none), (10, none), (12, none), (14, none), (51, none)]
def pt_12_13 : SPat := ⟨[(4, .ptr 0 []), (8, .ptr 1 []), (10, .ros (.int .u64)), (12, .ptr 2 []), (14, .ptr 3 []), (51, .int .i64)], [some (.vec (.int .u64) 8, 23), some (.vec (.int .u64) 8, 23), some (.vec (.int .u64) 16, 97), some (.vec (.arr 4 (.int .i64)) 8, 99)]⟩
def px_12_13_0 : SPat := ⟨[(4, .ptr 0 []), (8, .ptr 1 []), (12, .ptr 2 [])], [some (.vec (.int .u64) 8, 23), some (.vec (.int .u64) 8, 23), some (.vec (.int .u64) 16, 97)]⟩
def lo_12_13 : Exit → Live
  | .exit 0 => [(4, none), (8, none), (12, none)]
  | _ => []
def B_12_13 {R : Type} (N : Nat) (rec : ((Unit × Unit × (List Int) × Unit × Unit × Int × Unit) × ((Nat → Int) × (Nat → Int) × (Nat → Int) × (Nat → (Nat → Int)) × Unit)) → Option R) (x : ((Unit × Unit × (List Int) × Unit × Unit × Int × Unit) × ((Nat → Int) × (Nat → Int) × (Nat → Int) × (Nat → (Nat → Int)) × Unit))) (κ0 : ((Unit × Unit × Unit × Unit) × ((Nat → Int) × (Nat → Int) × (Nat → Int) × Unit)) → Option R) : Option R :=
let l683 : (List Int) := x.1.2.2.1
let i684 : Int := x.1.2.2.2.2.2.1
let a685 : (Nat → Int) := x.2.1
let a686 : (Nat → Int) := x.2.2.1
let a687 : (Nat → Int) := x.2.2.2.1
let a688 : (Nat → (Nat → Int)) := x.2.2.2.2.1
bif (decide (i684 < 12)) then (
p_19 N ((i684, ()), ()) (fun y689 =>
let a690 : (Nat → Int) := y689
l_12_17 N N (((), (), l683, (), (), (), i684, a688, 0, ()), (a685, a686, a687, a688, a690, ())) (fun y726 =>
let l727 : (List Int) := y726.1.2.2.1
let i728 : Int := y726.1.2.2.2.2.2.1
let a729 : (Nat → Int) := y726.2.1
let a730 : (Nat → Int) := y726.2.2.1
let a731 : (Nat → Int) := y726.2.2.2.1
let a732 : (Nat → (Nat → Int)) := y726.2.2.2.2.1
let i733 : Int := addA .i64 i728 1
rec (((), (), l727, (), (), i733, ()), (a729, a730, a731, a732, ()))))) else (
κ0 (((), (), (), ()), (a685, a686, a687, ())))
def l_12_13 {R : Type} (N : Nat) : Nat → ((Unit × Unit × (List Int) × Unit × Unit × Int × Unit) × ((Nat → Int) × (Nat → Int) × (Nat → Int) × (Nat → (Nat → Int)) × Unit)) → (((Unit × Unit × Unit × Unit) × ((Nat → Int) × (Nat → Int) × (Nat → Int) × Unit)) → Option R) → Option R
  | 0, _, _ => none
  | n + 1, x, κ0 => B_12_13 N (fun y => l_12_13 N n y κ0) x κ0
def lv_12_24 : Live := [(4, none), (8, none), (12, none), (112, none)]
def pt_12_24 : SPat := ⟨[(4, .ptr 0 []), (8, .ptr 1 []), (12, .ptr 2 []), (112, .int .i64)], [some (.vec (.int .u64) 8, 23), some (.vec (.int .u64) 8, 23), some (.vec (.int .u64) 16, 97)]⟩
def px_12_24_0 : SPat := ⟨[(4, .ptr 0 []), (8, .ptr 1 [])], [some (.vec (.int .u64) 8, 23), some (.vec (.int .u64) 8, 23)]⟩
def lo_12_24 : Exit → Live
  | .exit 4 => [(4, none), (8, none)]
  | _ => []
def B_12_24 {R : Type} (N : Nat) (rec : ((Unit × Unit × Unit × Int × Unit) × ((Nat → Int) × (Nat → Int) × (Nat → Int) × Unit)) → Option R) (x : ((Unit × Unit × Unit × Int × Unit) × ((Nat → Int) × (Nat → Int) × (Nat → Int) × Unit))) (κ0 : ((Unit × Unit × Unit) × ((Nat → Int) × (Nat → Int) × Unit)) → Option R) : Option R :=
let i738 : Int := x.1.2.2.2.1
let a739 : (Nat → Int) := x.2.1
let a740 : (Nat → Int) := x.2.2.1
let a741 : (Nat → Int) := x.2.2.2.1
bif (decide (i738 < 8)) then (
bif decide (0 ≤ i738) then (
bif decide (i738 < (8 : Int)) then (
let i742 : Int := (a739 ((Int.toNat i738)))
bif decide (0 ≤ i738) then (
bif decide (i738 < (16 : Int)) then (
let i743 : Int := (a741 ((Int.toNat i738)))
let i744 : Int := addA .i64 i738 8
bif decide (0 ≤ i744) then (
bif decide (i744 < (16 : Int)) then (
let i745 : Int := (a741 ((Int.toNat i744)))
let i746 : Int := xorA .u64 i743 i745
let i747 : Int := xorA .u64 i742 i746
bif decide (0 ≤ i738) then (
bif decide (i738 < (8 : Int)) then (
let a748 : (Nat → Int) := (upd a739 ((Int.toNat i738)) i747)
let i749 : Int := addA .i64 i738 1
rec (((), (), (), i749, ()), (a748, a740, a741, ()))) else none) else none) else none) else none) else none) else none) else none) else none) else (
κ0 (((), (), ()), (a739, a740, ())))
def l_12_24 {R : Type} (N : Nat) : Nat → ((Unit × Unit × Unit × Int × Unit) × ((Nat → Int) × (Nat → Int) × (Nat → Int) × Unit)) → (((Unit × Unit × Unit) × ((Nat → Int) × (Nat → Int) × Unit)) → Option R) → Option R
  | 0, _, _ => none
  | n + 1, x, κ0 => B_12_24 N (fun y => l_12_24 N n y κ0) x κ0
def ap_12 : List Pat := [.vec (.int .u64) 8, .ros (.int .u8), .int .u64, .bool]
def hp_12 : List (Option (Pat × Nat)) := []
def p_12 {R : Type} (N : Nat) (x : ((Nat → Int) × (List Int) × Int × Bool × Unit) × (Unit)) (κ0 : ((Nat → Int) × (Int × Unit)) → Option R) : Option R :=
let a49 : (Nat → Int) := x.1.1
let l50 : (List Int) := x.1.2.1
let i51 : Int := x.1.2.2.1
let b52 : Bool := x.1.2.2.2.1
let i53 : Int := (((List.length l50) : Nat) : Int)
bif (i53 != 128) then (
let a54 : (Nat → Int) := (Sch.zero (.arr 8 (.int .u64)))
κ0 ((a54, (9, ())))) else (
p_45 N ((l50, ()), ()) (fun y78 =>
let l79 : (List Int) := y78.1.1
let i80 : Int := y78.1.2.1
let l81 : (List Int) := ((List.range 8).map fun j => a49 (0 + j))
bif decide (0 < Nat.min (List.length l81) 8) then (
let a82 : (Nat → Int) := copyF ((Sch.zero (.arr 16 (.int .u64)))) 0 (Nat.min (List.length l81) 8) l81 (Sch.zero (.int .u64))
p_15 N ((), ()) (fun y83 =>
let a84 : (Nat → Int) := y83
let l85 : (List Int) := ((List.range 8).map fun j => a84 (0 + j))
bif decide (0 < Nat.min (List.length l85) 8) then (
let a86 : (Nat → Int) := copyF a82 8 (Nat.min (List.length l85) 8) l85 (Sch.zero (.int .u64))
let i87 : Int := (a86 12)
let i88 : Int := xorA .u64 i87 i51
let a89 : (Nat → Int) := (upd a86 12 i88)
bif b52 then (
let i90 : Int := (a89 14)
let i91 : Int := xorA .u64 18446744073709551615 i90
let a92 : (Nat → Int) := (upd a89 14 i91)
p_46 N ((), ()) (fun y102 =>
let a103 : (Nat → (Nat → Int)) := y102
l_12_13 N N (((), (), l79, (), (), 0, ()), (a49, (Sch.zero (.arr 8 (.int .u64))), a92, a103, ())) (fun y208 =>
let a209 : (Nat → Int) := y208.2.1
let a210 : (Nat → Int) := y208.2.2.1
let a211 : (Nat → Int) := y208.2.2.2.1
l_12_24 N N (((), (), (), 0, ()), (a209, a210, a211, ())) (fun y224 =>
let a225 : (Nat → Int) := y224.2.1
let a226 : (Nat → Int) := y224.2.2.1
κ0 ((a225, (0, ()))))))) else (
p_46 N ((), ()) (fun y227 =>
let a228 : (Nat → (Nat → Int)) := y227
l_12_13 N N (((), (), l79, (), (), 0, ()), (a49, (Sch.zero (.arr 8 (.int .u64))), a89, a228, ())) (fun y280 =>
let a281 : (Nat → Int) := y280.2.1
let a282 : (Nat → Int) := y280.2.2.1
let a283 : (Nat → Int) := y280.2.2.2.1
l_12_24 N N (((), (), (), 0, ()), (a281, a282, a283, ())) (fun y296 =>
let a297 : (Nat → Int) := y296.2.1
let a298 : (Nat → Int) := y296.2.2.1
κ0 ((a297, (0, ())))))))) else (
let i299 : Int := (a82 12)
let i300 : Int := xorA .u64 i299 i51
let a301 : (Nat → Int) := (upd a82 12 i300)
bif b52 then (
let i302 : Int := (a301 14)
let i303 : Int := xorA .u64 18446744073709551615 i302
let a304 : (Nat → Int) := (upd a301 14 i303)
p_46 N ((), ()) (fun y305 =>
let a306 : (Nat → (Nat → Int)) := y305
l_12_13 N N (((), (), l79, (), (), 0, ()), (a49, (Sch.zero (.arr 8 (.int .u64))), a304, a306, ())) (fun y358 =>
let a359 : (Nat → Int) := y358.2.1
let a360 : (Nat → Int) := y358.2.2.1
let a361 : (Nat → Int) := y358.2.2.2.1
l_12_24 N N (((), (), (), 0, ()), (a359, a360, a361, ())) (fun y374 =>
let a375 : (Nat → Int) := y374.2.1
let a376 : (Nat → Int) := y374.2.2.1
κ0 ((a375, (0, ()))))))) else (
p_46 N ((), ()) (fun y377 =>
let a378 : (Nat → (Nat → Int)) := y377
l_12_13 N N (((), (), l79, (), (), 0, ()), (a49, (Sch.zero (.arr 8 (.int .u64))), a301, a378, ())) (fun y430 =>
let a431 : (Nat → Int) := y430.2.1
let a432 : (Nat → Int) := y430.2.2.1
let a433 : (Nat → Int) := y430.2.2.2.1
l_12_24 N N (((), (), (), 0, ()), (a431, a432, a433, ())) (fun y446 =>
let a447 : (Nat → Int) := y446.2.1
let a448 : (Nat → Int) := y446.2.2.1
κ0 ((a447, (0, ())))))))))) else (
p_15 N ((), ()) (fun y449 =>
let a450 : (Nat → Int) := y449
let l451 : (List Int) := ((List.range 8).map fun j => a450 (0 + j))
bif decide (0 < Nat.min (List.length l451) 8) then (
let a452 : (Nat → Int) := copyF ((Sch.zero (.arr 16 (.int .u64)))) 8 (Nat.min (List.length l451) 8) l451 (Sch.zero (.int .u64))
let i453 : Int := (a452 12)
let i454 : Int := xorA .u64 i453 i51
let a455 : (Nat → Int) := (upd a452 12 i454)
bif b52 then (
let i456 : Int := (a455 14)
let i457 : Int := xorA .u64 18446744073709551615 i456
let a458 : (Nat → Int) := (upd a455 14 i457)
p_46 N ((), ()) (fun y459 =>
let a460 : (Nat → (Nat → Int)) := y459
l_12_13 N N (((), (), l79, (), (), 0, ()), (a49, (Sch.zero (.arr 8 (.int .u64))), a458, a460, ())) (fun y512 =>
let a513 : (Nat → Int) := y512.2.1
let a514 : (Nat → Int) := y512.2.2.1
let a515 : (Nat → Int) := y512.2.2.2.1
l_12_24 N N (((), (), (), 0, ()), (a513, a514, a515, ())) (fun y528 =>
let a529 : (Nat → Int) := y528.2.1
let a530 : (Nat → Int) := y528.2.2.1
κ0 ((a529, (0, ()))))))) else (
p_46 N ((), ()) (fun y531 =>
let a532 : (Nat → (Nat → Int)) := y531
l_12_13 N N (((), (), l79, (), (), 0, ()), (a49, (Sch.zero (.arr 8 (.int .u64))), a455, a532, ())) (fun y584 =>
let a585 : (Nat → Int) := y584.2.1
let a586 : (Nat → Int) := y584.2.2.1
let a587 : (Nat → Int) := y584.2.2.2.1
l_12_24 N N (((), (), (), 0, ()), (a585, a586, a587, ())) (fun y600 =>
let a601 : (Nat → Int) := y600.2.1
let a602 : (Nat → Int) := y600.2.2.1
κ0 ((a601, (0, ())))))))) else (
let i603 : Int := (((Sch.zero (.arr 16 (.int .u64)))) 12)
let i604 : Int := xorA .u64 i603 i51
let a605 : (Nat → Int) := (upd ((Sch.zero (.arr 16 (.int .u64)))) 12 i604)
bif b52 then (
let i606 : Int := (a605 14)
let i607 : Int := xorA .u64 18446744073709551615 i606
let a608 : (Nat → Int) := (upd a605 14 i607)
p_46 N ((), ()) (fun y609 =>
let a610 : (Nat → (Nat → Int)) := y609
l_12_13 N N (((), (), l79, (), (), 0, ()), (a49, (Sch.zero (.arr 8 (.int .u64))), a608, a610, ())) (fun y662 =>
let a663 : (Nat → Int) := y662.2.1
let a664 : (Nat → Int) := y662.2.2.1
let a665 : (Nat → Int) := y662.2.2.2.1
l_12_24 N N (((), (), (), 0, ()), (a663, a664, a665, ())) (fun y678 =>
let a679 : (Nat → Int) := y678.2.1
let a680 : (Nat → Int) := y678.2.2.1
κ0 ((a679, (0, ()))))))) else (
p_46 N ((), ()) (fun y681 =>
let a682 : (Nat → (Nat → Int)) := y681
l_12_13 N N (((), (), l79, (), (), 0, ()), (a49, (Sch.zero (.arr 8 (.int .u64))), a605, a682, ())) (fun y734 =>
let a735 : (Nat → Int) := y734.2.1
let a736 : (Nat → Int) := y734.2.2.1
let a737 : (Nat → Int) := y734.2.2.2.1
l_12_24 N N (((), (), (), 0, ()), (a735, a736, a737, ())) (fun y750 =>
let a751 : (Nat → Int) := y750.2.1
let a752 : (Nat → Int) := y750.2.2.1
κ0 ((a751, (0, ()))))))))))))

abbrev Tl_12_17 (R : Type) : Type := ((Unit × Unit × (List Int) × Unit × Unit × Unit × Int × (Nat → (Nat → Int)) × Int × Unit) × ((Nat → Int) × (Nat → Int) × (Nat → Int) × (Nat → (Nat → Int)) × (Nat → Int) × Unit)) → (((Unit × Unit × (List Int) × Unit × Unit × Int × Unit) × ((Nat → Int) × (Nat → Int) × (Nat → Int) × (Nat → (Nat → Int)) × Unit)) → Option R) → Option R
abbrev Tl_12_13 (R : Type) : Type := ((Unit × Unit × (List Int) × Unit × Unit × Int × Unit) × ((Nat → Int) × (Nat → Int) × (Nat → Int) × (Nat → (Nat → Int)) × Unit)) → (((Unit × Unit × Unit × Unit) × ((Nat → Int) × (Nat → Int) × (Nat → Int) × Unit)) → Option R) → Option R
abbrev Tl_12_24 (R : Type) : Type := ((Unit × Unit × Unit × Int × Unit) × ((Nat → Int) × (Nat → Int) × (Nat → Int) × Unit)) → (((Unit × Unit × Unit) × ((Nat → Int) × (Nat → Int) × Unit)) → Option R) → Option R
abbrev Tp_12 (R : Type) : Type := ((Nat → Int) × (List Int) × Int × Bool × Unit) × (Unit) → (((Nat → Int) × (Int × Unit)) → Option R) → Option R
def Q_12 {R : Type} (q_45 : Tp_45 R) (q_15 : Tp_15 R) (q_46 : Tp_46 R) (q_17 : Tp_17 R) (q_19 : Tp_19 R) (m_12_17 : Tl_12_17 R) (m_12_13 : Tl_12_13 R) (m_12_24 : Tl_12_24 R) (x : ((Nat → Int) × (List Int) × Int × Bool × Unit) × (Unit)) (κ0 : ((Nat → Int) × (Int × Unit)) → Option R) : Option R :=
let a49 : (Nat → Int) := x.1.1
let l50 : (List Int) := x.1.2.1
let i51 : Int := x.1.2.2.1
let b52 : Bool := x.1.2.2.2.1
let i53 : Int := (((List.length l50) : Nat) : Int)
bif (i53 != 128) then (
let a54 : (Nat → Int) := (Sch.zero (.arr 8 (.int .u64)))
κ0 ((a54, (9, ())))) else (
q_45 ((l50, ()), ()) (fun y78 =>
let l79 : (List Int) := y78.1.1
let i80 : Int := y78.1.2.1
let l81 : (List Int) := ((List.range 8).map fun j => a49 (0 + j))
bif decide (0 < Nat.min (List.length l81) 8) then (
let a82 : (Nat → Int) := copyF ((Sch.zero (.arr 16 (.int .u64)))) 0 (Nat.min (List.length l81) 8) l81 (Sch.zero (.int .u64))
q_15 ((), ()) (fun y83 =>
let a84 : (Nat → Int) := y83
let l85 : (List Int) := ((List.range 8).map fun j => a84 (0 + j))
bif decide (0 < Nat.min (List.length l85) 8) then (
let a86 : (Nat → Int) := copyF a82 8 (Nat.min (List.length l85) 8) l85 (Sch.zero (.int .u64))
let i87 : Int := (a86 12)
let i88 : Int := xorA .u64 i87 i51
let a89 : (Nat → Int) := (upd a86 12 i88)
bif b52 then (
let i90 : Int := (a89 14)
let i91 : Int := xorA .u64 18446744073709551615 i90
let a92 : (Nat → Int) := (upd a89 14 i91)
q_46 ((), ()) (fun y102 =>
let a103 : (Nat → (Nat → Int)) := y102
m_12_13 (((), (), l79, (), (), 0, ()), (a49, (Sch.zero (.arr 8 (.int .u64))), a92, a103, ())) (fun y208 =>
let a209 : (Nat → Int) := y208.2.1
let a210 : (Nat → Int) := y208.2.2.1
let a211 : (Nat → Int) := y208.2.2.2.1
m_12_24 (((), (), (), 0, ()), (a209, a210, a211, ())) (fun y224 =>
let a225 : (Nat → Int) := y224.2.1
let a226 : (Nat → Int) := y224.2.2.1
κ0 ((a225, (0, ()))))))) else (
q_46 ((), ()) (fun y227 =>
let a228 : (Nat → (Nat → Int)) := y227
m_12_13 (((), (), l79, (), (), 0, ()), (a49, (Sch.zero (.arr 8 (.int .u64))), a89, a228, ())) (fun y280 =>
let a281 : (Nat → Int) := y280.2.1
let a282 : (Nat → Int) := y280.2.2.1
let a283 : (Nat → Int) := y280.2.2.2.1
m_12_24 (((), (), (), 0, ()), (a281, a282, a283, ())) (fun y296 =>
let a297 : (Nat → Int) := y296.2.1
let a298 : (Nat → Int) := y296.2.2.1
κ0 ((a297, (0, ())))))))) else (
let i299 : Int := (a82 12)
let i300 : Int := xorA .u64 i299 i51
let a301 : (Nat → Int) := (upd a82 12 i300)
bif b52 then (
let i302 : Int := (a301 14)
let i303 : Int := xorA .u64 18446744073709551615 i302
let a304 : (Nat → Int) := (upd a301 14 i303)
q_46 ((), ()) (fun y305 =>
let a306 : (Nat → (Nat → Int)) := y305
m_12_13 (((), (), l79, (), (), 0, ()), (a49, (Sch.zero (.arr 8 (.int .u64))), a304, a306, ())) (fun y358 =>
let a359 : (Nat → Int) := y358.2.1
let a360 : (Nat → Int) := y358.2.2.1
let a361 : (Nat → Int) := y358.2.2.2.1
m_12_24 (((), (), (), 0, ()), (a359, a360, a361, ())) (fun y374 =>
let a375 : (Nat → Int) := y374.2.1
let a376 : (Nat → Int) := y374.2.2.1
κ0 ((a375, (0, ()))))))) else (
q_46 ((), ()) (fun y377 =>
let a378 : (Nat → (Nat → Int)) := y377
m_12_13 (((), (), l79, (), (), 0, ()), (a49, (Sch.zero (.arr 8 (.int .u64))), a301, a378, ())) (fun y430 =>
let a431 : (Nat → Int) := y430.2.1
let a432 : (Nat → Int) := y430.2.2.1
let a433 : (Nat → Int) := y430.2.2.2.1
m_12_24 (((), (), (), 0, ()), (a431, a432, a433, ())) (fun y446 =>
let a447 : (Nat → Int) := y446.2.1
let a448 : (Nat → Int) := y446.2.2.1
κ0 ((a447, (0, ())))))))))) else (
q_15 ((), ()) (fun y449 =>
let a450 : (Nat → Int) := y449
let l451 : (List Int) := ((List.range 8).map fun j => a450 (0 + j))
bif decide (0 < Nat.min (List.length l451) 8) then (
let a452 : (Nat → Int) := copyF ((Sch.zero (.arr 16 (.int .u64)))) 8 (Nat.min (List.length l451) 8) l451 (Sch.zero (.int .u64))
let i453 : Int := (a452 12)
let i454 : Int := xorA .u64 i453 i51
let a455 : (Nat → Int) := (upd a452 12 i454)
bif b52 then (
let i456 : Int := (a455 14)
let i457 : Int := xorA .u64 18446744073709551615 i456
let a458 : (Nat → Int) := (upd a455 14 i457)
q_46 ((), ()) (fun y459 =>
let a460 : (Nat → (Nat → Int)) := y459
m_12_13 (((), (), l79, (), (), 0, ()), (a49, (Sch.zero (.arr 8 (.int .u64))), a458, a460, ())) (fun y512 =>
let a513 : (Nat → Int) := y512.2.1
let a514 : (Nat → Int) := y512.2.2.1
let a515 : (Nat → Int) := y512.2.2.2.1
m_12_24 (((), (), (), 0, ()), (a513, a514, a515, ())) (fun y528 =>
let a529 : (Nat → Int) := y528.2.1
let a530 : (Nat → Int) := y528.2.2.1
κ0 ((a529, (0, ()))))))) else (
q_46 ((), ()) (fun y531 =>
let a532 : (Nat → (Nat → Int)) := y531
m_12_13 (((), (), l79, (), (), 0, ()), (a49, (Sch.zero (.arr 8 (.int .u64))), a455, a532, ())) (fun y584 =>
let a585 : (Nat → Int) := y584.2.1
let a586 : (Nat → Int) := y584.2.2.1
let a587 : (Nat → Int) := y584.2.2.2.1
m_12_24 (((), (), (), 0, ()), (a585, a586, a587, ())) (fun y600 =>
let a601 : (Nat → Int) := y600.2.1
let a602 : (Nat → Int) := y600.2.2.1
κ0 ((a601, (0, ())))))))) else (
let i603 : Int := (((Sch.zero (.arr 16 (.int .u64)))) 12)
let i604 : Int := xorA .u64 i603 i51
let a605 : (Nat → Int) := (upd ((Sch.zero (.arr 16 (.int .u64)))) 12 i604)
bif b52 then (
let i606 : Int := (a605 14)
let i607 : Int := xorA .u64 18446744073709551615 i606
let a608 : (Nat → Int) := (upd a605 14 i607)
q_46 ((), ()) (fun y609 =>
let a610 : (Nat → (Nat → Int)) := y609
m_12_13 (((), (), l79, (), (), 0, ()), (a49, (Sch.zero (.arr 8 (.int .u64))), a608, a610, ())) (fun y662 =>
let a663 : (Nat → Int) := y662.2.1
let a664 : (Nat → Int) := y662.2.2.1
let a665 : (Nat → Int) := y662.2.2.2.1
m_12_24 (((), (), (), 0, ()), (a663, a664, a665, ())) (fun y678 =>
let a679 : (Nat → Int) := y678.2.1
let a680 : (Nat → Int) := y678.2.2.1
κ0 ((a679, (0, ()))))))) else (
q_46 ((), ()) (fun y681 =>
let a682 : (Nat → (Nat → Int)) := y681
m_12_13 (((), (), l79, (), (), 0, ()), (a49, (Sch.zero (.arr 8 (.int .u64))), a605, a682, ())) (fun y734 =>
let a735 : (Nat → Int) := y734.2.1
let a736 : (Nat → Int) := y734.2.2.1
let a737 : (Nat → Int) := y734.2.2.2.1
m_12_24 (((), (), (), 0, ()), (a735, a736, a737, ())) (fun y750 =>
let a751 : (Nat → Int) := y750.2.1
let a752 : (Nat → Int) := y750.2.2.1
κ0 ((a751, (0, ()))))))))))))
def C_12_17 {R : Type} (q_45 : Tp_45 R) (q_15 : Tp_15 R) (q_46 : Tp_46 R) (q_17 : Tp_17 R) (q_19 : Tp_19 R) (m_12_17 : Tl_12_17 R) (m_12_13 : Tl_12_13 R) (m_12_24 : Tl_12_24 R) (rec : ((Unit × Unit × (List Int) × Unit × Unit × Unit × Int × (Nat → (Nat → Int)) × Int × Unit) × ((Nat → Int) × (Nat → Int) × (Nat → Int) × (Nat → (Nat → Int)) × (Nat → Int) × Unit)) → Option R) (x : ((Unit × Unit × (List Int) × Unit × Unit × Unit × Int × (Nat → (Nat → Int)) × Int × Unit) × ((Nat → Int) × (Nat → Int) × (Nat → Int) × (Nat → (Nat → Int)) × (Nat → Int) × Unit))) (κ0 : ((Unit × Unit × (List Int) × Unit × Unit × Int × Unit) × ((Nat → Int) × (Nat → Int) × (Nat → Int) × (Nat → (Nat → Int)) × Unit)) → Option R) : Option R :=
let l691 : (List Int) := x.1.2.2.1
let i692 : Int := x.1.2.2.2.2.2.2.1
let a693 : (Nat → (Nat → Int)) := x.1.2.2.2.2.2.2.2.1
let i694 : Int := x.1.2.2.2.2.2.2.2.2.1
let a695 : (Nat → Int) := x.2.1
let a696 : (Nat → Int) := x.2.2.1
let a697 : (Nat → Int) := x.2.2.2.1
let a698 : (Nat → (Nat → Int)) := x.2.2.2.2.1
let a699 : (Nat → Int) := x.2.2.2.2.2.1
bif (decide (i694 < 8)) then (
bif decide (0 ≤ i694) then (
bif decide (i694 < (8 : Int)) then (
let a700 : (Nat → Int) := (a693 ((Int.toNat i694)))
let i701 : Int := (a700 0)
let i702 : Int := (a700 1)
let i703 : Int := (a700 2)
let i704 : Int := (a700 3)
bif decide (0 ≤ i701) then (
bif decide (i701 < (16 : Int)) then (
let i705 : Int := (a697 ((Int.toNat i701)))
bif decide (0 ≤ i702) then (
bif decide (i702 < (16 : Int)) then (
let i706 : Int := (a697 ((Int.toNat i702)))
bif decide (0 ≤ i703) then (
bif decide (i703 < (16 : Int)) then (
let i707 : Int := (a697 ((Int.toNat i703)))
bif decide (0 ≤ i704) then (
bif decide (i704 < (16 : Int)) then (
let i708 : Int := (a697 ((Int.toNat i704)))
let i709 : Int := mulA .i64 2 i694
bif decide (0 ≤ i709) then (
bif decide (i709 < (16 : Int)) then (
let i710 : Int := (a699 ((Int.toNat i709)))
bif decide (0 ≤ i710) then (
bif decide (i710 < ((List.length l691) : Int)) then (
let p711 : Int := (List.getD l691 ((Int.toNat i710)) (Sch.zero (.int .u64)))
let i712 : Int := mulA .i64 2 i694
let i713 : Int := addA .i64 i712 1
bif decide (0 ≤ i713) then (
bif decide (i713 < (16 : Int)) then (
let i714 : Int := (a699 ((Int.toNat i713)))
bif decide (0 ≤ i714) then (
bif decide (i714 < ((List.length l691) : Int)) then (
let p715 : Int := (List.getD l691 ((Int.toNat i714)) (Sch.zero (.int .u64)))
q_17 ((i705, i706, i707, i708, p711, p715, ()), ()) (fun y716 =>
let i717 : Int := y716.1
let i718 : Int := y716.2.1
let i719 : Int := y716.2.2.1
let i720 : Int := y716.2.2.2.1
bif decide (0 ≤ i701) then (
bif decide (i701 < (16 : Int)) then (
let a721 : (Nat → Int) := (upd a697 ((Int.toNat i701)) i717)
bif decide (0 ≤ i702) then (
bif decide (i702 < (16 : Int)) then (
let a722 : (Nat → Int) := (upd a721 ((Int.toNat i702)) i718)
bif decide (0 ≤ i703) then (
bif decide (i703 < (16 : Int)) then (
let a723 : (Nat → Int) := (upd a722 ((Int.toNat i703)) i719)
bif decide (0 ≤ i704) then (
bif decide (i704 < (16 : Int)) then (
let a724 : (Nat → Int) := (upd a723 ((Int.toNat i704)) i720)
let i725 : Int := addA .i64 i694 1
rec (((), (), l691, (), (), (), i692, a693, i725, ()), (a695, a696, a724, a698, a699, ()))) else none) else none) else none) else none) else none) else none) else none) else none)) else none) else none) else none) else none) else none) else none) else none) else none) else none) else none) else none) else none) else none) else none) else none) else none) else none) else none) else (
κ0 (((), (), l691, (), (), i692, ()), (a695, a696, a697, a698, ())))
def C_12_13 {R : Type} (q_45 : Tp_45 R) (q_15 : Tp_15 R) (q_46 : Tp_46 R) (q_17 : Tp_17 R) (q_19 : Tp_19 R) (m_12_17 : Tl_12_17 R) (m_12_13 : Tl_12_13 R) (m_12_24 : Tl_12_24 R) (rec : ((Unit × Unit × (List Int) × Unit × Unit × Int × Unit) × ((Nat → Int) × (Nat → Int) × (Nat → Int) × (Nat → (Nat → Int)) × Unit)) → Option R) (x : ((Unit × Unit × (List Int) × Unit × Unit × Int × Unit) × ((Nat → Int) × (Nat → Int) × (Nat → Int) × (Nat → (Nat → Int)) × Unit))) (κ0 : ((Unit × Unit × Unit × Unit) × ((Nat → Int) × (Nat → Int) × (Nat → Int) × Unit)) → Option R) : Option R :=
let l683 : (List Int) := x.1.2.2.1
let i684 : Int := x.1.2.2.2.2.2.1
let a685 : (Nat → Int) := x.2.1
let a686 : (Nat → Int) := x.2.2.1
let a687 : (Nat → Int) := x.2.2.2.1
let a688 : (Nat → (Nat → Int)) := x.2.2.2.2.1
bif (decide (i684 < 12)) then (
q_19 ((i684, ()), ()) (fun y689 =>
let a690 : (Nat → Int) := y689
m_12_17 (((), (), l683, (), (), (), i684, a688, 0, ()), (a685, a686, a687, a688, a690, ())) (fun y726 =>
let l727 : (List Int) := y726.1.2.2.1
let i728 : Int := y726.1.2.2.2.2.2.1
let a729 : (Nat → Int) := y726.2.1
let a730 : (Nat → Int) := y726.2.2.1
let a731 : (Nat → Int) := y726.2.2.2.1
let a732 : (Nat → (Nat → Int)) := y726.2.2.2.2.1
let i733 : Int := addA .i64 i728 1
rec (((), (), l727, (), (), i733, ()), (a729, a730, a731, a732, ()))))) else (
κ0 (((), (), (), ()), (a685, a686, a687, ())))
def C_12_24 {R : Type} (q_45 : Tp_45 R) (q_15 : Tp_15 R) (q_46 : Tp_46 R) (q_17 : Tp_17 R) (q_19 : Tp_19 R) (m_12_17 : Tl_12_17 R) (m_12_13 : Tl_12_13 R) (m_12_24 : Tl_12_24 R) (rec : ((Unit × Unit × Unit × Int × Unit) × ((Nat → Int) × (Nat → Int) × (Nat → Int) × Unit)) → Option R) (x : ((Unit × Unit × Unit × Int × Unit) × ((Nat → Int) × (Nat → Int) × (Nat → Int) × Unit))) (κ0 : ((Unit × Unit × Unit) × ((Nat → Int) × (Nat → Int) × Unit)) → Option R) : Option R :=
let i738 : Int := x.1.2.2.2.1
let a739 : (Nat → Int) := x.2.1
let a740 : (Nat → Int) := x.2.2.1
let a741 : (Nat → Int) := x.2.2.2.1
bif (decide (i738 < 8)) then (
bif decide (0 ≤ i738) then (
bif decide (i738 < (8 : Int)) then (
let i742 : Int := (a739 ((Int.toNat i738)))
bif decide (0 ≤ i738) then (
bif decide (i738 < (16 : Int)) then (
let i743 : Int := (a741 ((Int.toNat i738)))
let i744 : Int := addA .i64 i738 8
bif decide (0 ≤ i744) then (
bif decide (i744 < (16 : Int)) then (
let i745 : Int := (a741 ((Int.toNat i744)))
let i746 : Int := xorA .u64 i743 i745
let i747 : Int := xorA .u64 i742 i746
bif decide (0 ≤ i738) then (
bif decide (i738 < (8 : Int)) then (
let a748 : (Nat → Int) := (upd a739 ((Int.toNat i738)) i747)
let i749 : Int := addA .i64 i738 1
rec (((), (), (), i749, ()), (a748, a740, a741, ()))) else none) else none) else none) else none) else none) else none) else none) else none) else (
κ0 (((), (), ()), (a739, a740, ())))
def EG_12 {R : Type} (q_45 : Tp_45 R) (q_15 : Tp_15 R) (q_46 : Tp_46 R) (q_17 : Tp_17 R) (q_19 : Tp_19 R) : Env R := (((((Env.base QQ LN).add 45 ap_45 hp_45 (fun (x : aden ap_45 × hden hp_45) k => q_45 x (fun y => k (Pat.inst (.tup (.fcons (.ros (.int .u64)) (.fcons (.int .i64) (.fnil)))) y.1) (instH [] y.2)))).add 15 ap_15 hp_15 (fun (x : aden ap_15 × hden hp_15) k => q_15 x (fun y => k (Pat.inst (.vec (.int .u64) 8) y) (instH hp_15 x.2)))).add 46 ap_46 hp_46 (fun (x : aden ap_46 × hden hp_46) k => q_46 x (fun y => k (Pat.inst (.vec (.arr 4 (.int .i64)) 8) y) (instH hp_46 x.2)))).add 17 ap_17 hp_17 (fun (x : aden ap_17 × hden hp_17) k => q_17 x (fun y => k (Pat.inst (.tup (.fcons (.int .u64) (.fcons (.int .u64) (.fcons (.int .u64) (.fcons (.int .u64) (.fnil)))))) y) (instH hp_17 x.2)))).add 19 ap_19 hp_19 (fun (x : aden ap_19 × hden hp_19) k => q_19 x (fun y => k (Pat.inst (.vec (.int .i64) 16) y) (instH hp_19 x.2)))
def LG_12 {R : Type} (m_12_17 : Tl_12_17 R) (m_12_13 : Tl_12_13 R) (m_12_24 : Tl_12_24 R) : Loops R := (((Loops.none).add 17 (loopBy 0 lv_12_17 pt_12_17 (fun x k => m_12_17 x (fun y => k (.exit 2) (px_12_17_0.inst y))))).add 13 (loopBy 0 lv_12_13 pt_12_13 (fun x k => m_12_13 x (fun y => k (.exit 0) (px_12_13_0.inst y))))).add 24 (loopBy 0 lv_12_24 pt_12_24 (fun x k => m_12_24 x (fun y => k (.exit 4) (px_12_24_0.inst y))))
def E_12 {R : Type} (N : Nat) : Env R := EG_12 (p_45 N) (p_15 N) (p_46 N) (p_17 N) (p_19 N)
theorem eok_12 {R : Type} (N : Nat) : EK Try.prog (E_12 (R := R) N) := ek_add (ek_add (ek_add (ek_add (ek_add (ek_base _ _) (good_45 N)) (good_15 N)) (good_46 N)) (good_17 N)) (good_19 N)
def L_12 {R : Type} (N : Nat) : Loops R := LG_12 (l_12_17 N N) (l_12_13 N N) (l_12_24 N N)
theorem gstep_12_17 {R : Type} (q_45 : Tp_45 R) (q_15 : Tp_15 R) (q_46 : Tp_46 R) (q_17 : Tp_17 R) (q_19 : Tp_19 R) (m_12_17 : Tl_12_17 R) (m_12_13 : Tl_12_13 R) (m_12_24 : Tl_12_24 R) (n : Nat) (x : pt_12_17.den) (k : Exit → St → Option R) : iter 0 lv_12_17 lo_12_17 (aexec TT (EG_12 q_45 q_15 q_46 q_17 q_19) (drawAny TT WW) (LG_12 m_12_17 m_12_13 m_12_24) (loopAt 17 (bodyOf Try.f12))) (n + 1) (pt_12_17.inst x) k = C_12_17 q_45 q_15 q_46 q_17 q_19 m_12_17 m_12_13 m_12_24 (fun y => iter 0 lv_12_17 lo_12_17 (aexec TT (EG_12 q_45 q_15 q_46 q_17 q_19) (drawAny TT WW) (LG_12 m_12_17 m_12_13 m_12_24) (loopAt 17 (bodyOf Try.f12))) n (pt_12_17.inst y) k) x (fun y => k (.exit 2) (px_12_17_0.inst y)) := by kernel_rfl
theorem step_12_17 {R : Type} (N n : Nat) (x : pt_12_17.den) (k : Exit → St → Option R) : iter 0 lv_12_17 lo_12_17 (aexec TT (E_12 (R := R) N) (drawAny TT WW) (L_12 N) (loopAt 17 (bodyOf Try.f12))) (n + 1) (pt_12_17.inst x) k = B_12_17 N (fun y => iter 0 lv_12_17 lo_12_17 (aexec TT (E_12 (R := R) N) (drawAny TT WW) (L_12 N) (loopAt 17 (bodyOf Try.f12))) n (pt_12_17.inst y) k) x (fun y => k (.exit 2) (px_12_17_0.inst y)) := (gstep_12_17 (p_45 N) (p_15 N) (p_46 N) (p_17 N) (p_19 N) (l_12_17 N N) (l_12_13 N N) (l_12_24 N N) n x k).trans (by kernel_rfl)
theorem eq_12_17 {R : Type} (N : Nat) : ∀ (n : Nat) (x : pt_12_17.den) (k : Exit → St → Option R), iter 0 lv_12_17 lo_12_17 (aexec TT (E_12 (R := R) N) (drawAny TT WW) (L_12 N) (loopAt 17 (bodyOf Try.f12))) n (pt_12_17.inst x) k = l_12_17 N n x (fun y => k (.exit 2) (px_12_17_0.inst y)) :=
  iter_eq (K := Exit → St → Option R) (ks := fun k => k) (l := fun n (x : pt_12_17.den) k => l_12_17 N n x (fun y => k (.exit 2) (px_12_17_0.inst y))) (B := fun (rec : pt_12_17.den → Option R) (x : pt_12_17.den) k => B_12_17 N rec x (fun y => k (.exit 2) (px_12_17_0.inst y))) (fun _ _ => rfl) (fun _ _ _ => rfl) (fun n x k => step_12_17 N n x k)
theorem rounds_12_17 {R : Type} (N : Nat) : Rounds 0 TT (E_12 (R := R) N) (drawAny TT WW) (L_12 N) 17 (loopAt 17 (bodyOf Try.f12)) :=
  rounds_of (p := pt_12_17) (l := fun (x : pt_12_17.den) k => l_12_17 N N x (fun y => k (.exit 2) (px_12_17_0.inst y))) (fun s k => rfl) (fun x k => eq_12_17 N N x k)
theorem gstep_12_13 {R : Type} (q_45 : Tp_45 R) (q_15 : Tp_15 R) (q_46 : Tp_46 R) (q_17 : Tp_17 R) (q_19 : Tp_19 R) (m_12_17 : Tl_12_17 R) (m_12_13 : Tl_12_13 R) (m_12_24 : Tl_12_24 R) (n : Nat) (x : pt_12_13.den) (k : Exit → St → Option R) : iter 0 lv_12_13 lo_12_13 (aexec TT (EG_12 q_45 q_15 q_46 q_17 q_19) (drawAny TT WW) (LG_12 m_12_17 m_12_13 m_12_24) (loopAt 13 (bodyOf Try.f12))) (n + 1) (pt_12_13.inst x) k = C_12_13 q_45 q_15 q_46 q_17 q_19 m_12_17 m_12_13 m_12_24 (fun y => iter 0 lv_12_13 lo_12_13 (aexec TT (EG_12 q_45 q_15 q_46 q_17 q_19) (drawAny TT WW) (LG_12 m_12_17 m_12_13 m_12_24) (loopAt 13 (bodyOf Try.f12))) n (pt_12_13.inst y) k) x (fun y => k (.exit 0) (px_12_13_0.inst y)) := by kernel_rfl
theorem step_12_13 {R : Type} (N n : Nat) (x : pt_12_13.den) (k : Exit → St → Option R) : iter 0 lv_12_13 lo_12_13 (aexec TT (E_12 (R := R) N) (drawAny TT WW) (L_12 N) (loopAt 13 (bodyOf Try.f12))) (n + 1) (pt_12_13.inst x) k = B_12_13 N (fun y => iter 0 lv_12_13 lo_12_13 (aexec TT (E_12 (R := R) N) (drawAny TT WW) (L_12 N) (loopAt 13 (bodyOf Try.f12))) n (pt_12_13.inst y) k) x (fun y => k (.exit 0) (px_12_13_0.inst y)) := (gstep_12_13 (p_45 N) (p_15 N) (p_46 N) (p_17 N) (p_19 N) (l_12_17 N N) (l_12_13 N N) (l_12_24 N N) n x k).trans (by kernel_rfl)
theorem eq_12_13 {R : Type} (N : Nat) : ∀ (n : Nat) (x : pt_12_13.den) (k : Exit → St → Option R), iter 0 lv_12_13 lo_12_13 (aexec TT (E_12 (R := R) N) (drawAny TT WW) (L_12 N) (loopAt 13 (bodyOf Try.f12))) n (pt_12_13.inst x) k = l_12_13 N n x (fun y => k (.exit 0) (px_12_13_0.inst y)) :=
  iter_eq (K := Exit → St → Option R) (ks := fun k => k) (l := fun n (x : pt_12_13.den) k => l_12_13 N n x (fun y => k (.exit 0) (px_12_13_0.inst y))) (B := fun (rec : pt_12_13.den → Option R) (x : pt_12_13.den) k => B_12_13 N rec x (fun y => k (.exit 0) (px_12_13_0.inst y))) (fun _ _ => rfl) (fun _ _ _ => rfl) (fun n x k => step_12_13 N n x k)
theorem rounds_12_13 {R : Type} (N : Nat) : Rounds 0 TT (E_12 (R := R) N) (drawAny TT WW) (L_12 N) 13 (loopAt 13 (bodyOf Try.f12)) :=
  rounds_of (p := pt_12_13) (l := fun (x : pt_12_13.den) k => l_12_13 N N x (fun y => k (.exit 0) (px_12_13_0.inst y))) (fun s k => rfl) (fun x k => eq_12_13 N N x k)
theorem gstep_12_24 {R : Type} (q_45 : Tp_45 R) (q_15 : Tp_15 R) (q_46 : Tp_46 R) (q_17 : Tp_17 R) (q_19 : Tp_19 R) (m_12_17 : Tl_12_17 R) (m_12_13 : Tl_12_13 R) (m_12_24 : Tl_12_24 R) (n : Nat) (x : pt_12_24.den) (k : Exit → St → Option R) : iter 0 lv_12_24 lo_12_24 (aexec TT (EG_12 q_45 q_15 q_46 q_17 q_19) (drawAny TT WW) (LG_12 m_12_17 m_12_13 m_12_24) (loopAt 24 (bodyOf Try.f12))) (n + 1) (pt_12_24.inst x) k = C_12_24 q_45 q_15 q_46 q_17 q_19 m_12_17 m_12_13 m_12_24 (fun y => iter 0 lv_12_24 lo_12_24 (aexec TT (EG_12 q_45 q_15 q_46 q_17 q_19) (drawAny TT WW) (LG_12 m_12_17 m_12_13 m_12_24) (loopAt 24 (bodyOf Try.f12))) n (pt_12_24.inst y) k) x (fun y => k (.exit 4) (px_12_24_0.inst y)) := by kernel_rfl
theorem step_12_24 {R : Type} (N n : Nat) (x : pt_12_24.den) (k : Exit → St → Option R) : iter 0 lv_12_24 lo_12_24 (aexec TT (E_12 (R := R) N) (drawAny TT WW) (L_12 N) (loopAt 24 (bodyOf Try.f12))) (n + 1) (pt_12_24.inst x) k = B_12_24 N (fun y => iter 0 lv_12_24 lo_12_24 (aexec TT (E_12 (R := R) N) (drawAny TT WW) (L_12 N) (loopAt 24 (bodyOf Try.f12))) n (pt_12_24.inst y) k) x (fun y => k (.exit 4) (px_12_24_0.inst y)) := (gstep_12_24 (p_45 N) (p_15 N) (p_46 N) (p_17 N) (p_19 N) (l_12_17 N N) (l_12_13 N N) (l_12_24 N N) n x k).trans (by kernel_rfl)
theorem eq_12_24 {R : Type} (N : Nat) : ∀ (n : Nat) (x : pt_12_24.den) (k : Exit → St → Option R), iter 0 lv_12_24 lo_12_24 (aexec TT (E_12 (R := R) N) (drawAny TT WW) (L_12 N) (loopAt 24 (bodyOf Try.f12))) n (pt_12_24.inst x) k = l_12_24 N n x (fun y => k (.exit 4) (px_12_24_0.inst y)) :=
  iter_eq (K := Exit → St → Option R) (ks := fun k => k) (l := fun n (x : pt_12_24.den) k => l_12_24 N n x (fun y => k (.exit 4) (px_12_24_0.inst y))) (B := fun (rec : pt_12_24.den → Option R) (x : pt_12_24.den) k => B_12_24 N rec x (fun y => k (.exit 4) (px_12_24_0.inst y))) (fun _ _ => rfl) (fun _ _ _ => rfl) (fun n x k => step_12_24 N n x k)
theorem rounds_12_24 {R : Type} (N : Nat) : Rounds 0 TT (E_12 (R := R) N) (drawAny TT WW) (L_12 N) 24 (loopAt 24 (bodyOf Try.f12)) :=
  rounds_of (p := pt_12_24) (l := fun (x : pt_12_24.den) k => l_12_24 N N x (fun y => k (.exit 4) (px_12_24_0.inst y))) (fun s k => rfl) (fun x k => eq_12_24 N N x k)
theorem loops_12 : loopsIn (bodyOf Try.f12) = [(13, loopAt 13 (bodyOf Try.f12)), (17, loopAt 17 (bodyOf Try.f12)), (24, loopAt 24 (bodyOf Try.f12))] := by kernel_rfl
theorem lok_12 {R : Type} (N : Nat) : LOK 0 TT (E_12 (R := R) N) (drawAny TT WW) (L_12 N) (bodyOf Try.f12) := loops_all loops_12 (by
  simp only [List.forall_mem_cons, List.not_mem_nil, false_implies, implies_true, and_true]
  exact ⟨rounds_12_13 N, rounds_12_17 N, rounds_12_24 N⟩)
theorem grun_12 {R : Type} (q_45 : Tp_45 R) (q_15 : Tp_15 R) (q_46 : Tp_46 R) (q_17 : Tp_17 R) (q_19 : Tp_19 R) (m_12_17 : Tl_12_17 R) (m_12_13 : Tl_12_13 R) (m_12_24 : Tl_12_24 R) (x : aden ap_12 × hden hp_12) (k : KF R) : fnrun TT (EG_12 q_45 q_15 q_46 q_17 q_19) (drawAny TT WW) (LG_12 m_12_17 m_12_13 m_12_24) true Try.f12 (instA ap_12 x.1) (instH hp_12 x.2) k = Q_12 q_45 q_15 q_46 q_17 q_19 m_12_17 m_12_13 m_12_24 x (fun y => k (Pat.inst (.tup (.fcons (.vec (.int .u64) 8) (.fcons (.int .i64) (.fnil)))) y) (instH hp_12 x.2)) := by kernel_rfl
theorem run_12 {R : Type} (N : Nat) (x : aden ap_12 × hden hp_12) (k : KF R) : fnrun TT (E_12 (R := R) N) (drawAny TT WW) (L_12 N) true Try.f12 (instA ap_12 x.1) (instH hp_12 x.2) k = p_12 N x (fun y => k (Pat.inst (.tup (.fcons (.vec (.int .u64) 8) (.fcons (.int .i64) (.fnil)))) y) (instH hp_12 x.2)) := (grun_12 (p_45 N) (p_15 N) (p_46 N) (p_17 N) (p_19 N) (l_12_17 N N) (l_12_13 N N) (l_12_24 N N) x k).trans (by kernel_rfl)
theorem good_12 {R : Type} (N : Nat) : GD (X := R) Try.prog QQ 12 ap_12 hp_12 (fun (x : aden ap_12 × hden hp_12) k => p_12 N x (fun y => k (Pat.inst (.tup (.fcons (.vec (.int .u64) 8) (.fcons (.int .i64) (.fnil)))) y) (instH hp_12 x.2))) :=
  gd_quiet (E := E_12 N) (p := fun (x : aden ap_12 × hden hp_12) κ => p_12 N x (fun y => κ (Pat.inst (.tup (.fcons (.vec (.int .u64) 8) (.fcons (.int .i64) (.fnil)))) y))) mixed tyok (eok_12 N) Try.func12 (by kernel_rfl) (by kernel_rfl) (lok_12 N) (fun x k => run_12 N x k)

def lv_26_4 : Live := [(0, none), (14, none), (15, none), (16, none)]
def pt_26_4 : SPat := ⟨[(0, .ptr 0 []), (14, .ros (.sl (.int .u8))), (15, .int .i64), (16, .int .i64)], [some (.node (.fcons (.nilp) (.fcons (.vec (.int .u64) 8) (.fcons (.int .i64) (.fcons (.int .u64) (.fnil))))), 115), some (.lst (.str), 9)]⟩
def px_26_4_0 : SPat := ⟨[(0, .ptr 0 [])], [some (.node (.fcons (.nilp) (.fcons (.vec (.int .u64) 8) (.fcons (.int .i64) (.fcons (.int .u64) (.fnil))))), 115), some (.lst (.str), 9)]⟩
def lo_26_4 : Exit → Live
  | .exit 0 => [(0, none)]
  | _ => []
def B_26_4 {R : Type} (N : Nat) (rec : ((Unit × (List (List Int)) × Int × Int × Unit) × ((Unit × ((Nat → Int) × (Int × (Int × Unit)))) × (List ByteArray) × Unit)) → Option R) (x : ((Unit × (List (List Int)) × Int × Int × Unit) × ((Unit × ((Nat → Int) × (Int × (Int × Unit)))) × (List ByteArray) × Unit))) (κ0 : ((Unit × Unit) × ((Unit × ((Nat → Int) × (Int × (Int × Unit)))) × (List ByteArray) × Unit)) → Option R) : Option R :=
let l40 : (List (List Int)) := x.1.2.1
let i41 : Int := x.1.2.2.1
let i42 : Int := x.1.2.2.2.1
let a43 : (Nat → Int) := x.2.1.2.1
let i44 : Int := x.2.1.2.2.1
let i45 : Int := x.2.1.2.2.2.1
let l46 : (List ByteArray) := x.2.2.1
bif (decide (i42 < i41)) then (
bif decide (0 ≤ i42) then (
bif decide (i42 < ((List.length l40) : Int)) then (
let p47 : (List Int) := (List.getD l40 ((Int.toNat i42)) (Sch.zero (.sl (.int .u8))))
let i48 : Int := addA .u64 i45 128
p_12 N ((a43, p47, i48, false, ()), ()) (fun y753 =>
let a754 : (Nat → Int) := y753.1
let i755 : Int := y753.2.1
let i756 : Int := addA .i64 i42 1
rec (((), l40, i41, i756, ()), (((), (a754, (i44, (i48, ())))), l46, ())))) else none) else none) else (
κ0 (((), ()), (((), (a43, (i44, (i45, ())))), l46, ())))
def l_26_4 {R : Type} (N : Nat) : Nat → ((Unit × (List (List Int)) × Int × Int × Unit) × ((Unit × ((Nat → Int) × (Int × (Int × Unit)))) × (List ByteArray) × Unit)) → (((Unit × Unit) × ((Unit × ((Nat → Int) × (Int × (Int × Unit)))) × (List ByteArray) × Unit)) → Option R) → Option R
  | 0, _, _ => none
  | n + 1, x, κ0 => B_26_4 N (fun y => l_26_4 N n y κ0) x κ0
def ap_26 : List Pat := [.ptr 0 [], .sl 1]
def hp_26 : List (Option (Pat × Nat)) := [some (.node (.fcons (.nilp) (.fcons (.vec (.int .u64) 8) (.fcons (.int .i64) (.fcons (.int .u64) (.fnil))))), 115), some (.lst (.str), 9)]
def p_26 {R : Type} (N : Nat) (x : (Unit × Unit × Unit) × ((Unit × ((Nat → Int) × (Int × (Int × Unit)))) × (List ByteArray) × Unit)) (κ0 : (Unit × ((Unit × ((Nat → Int) × (Int × (Int × Unit)))) × (List ByteArray) × Unit)) → Option R) : Option R :=
let a31 : (Nat → Int) := x.2.1.2.1
let i32 : Int := x.2.1.2.2.1
let i33 : Int := x.2.1.2.2.2.1
let l34 : (List ByteArray) := x.2.2.1
p_57 N (((), (), ()), (l34, ())) (fun y36 =>
let l37 : (List (List Int)) := y36.1
let l38 : (List ByteArray) := y36.2.1
let i39 : Int := (((List.length l37) : Nat) : Int)
l_26_4 N N (((), l37, i39, 0, ()), (((), (a31, (i32, (i33, ())))), l38, ())) (fun y757 =>
let a758 : (Nat → Int) := y757.2.1.2.1
let i759 : Int := y757.2.1.2.2.1
let i760 : Int := y757.2.1.2.2.2.1
let l761 : (List ByteArray) := y757.2.2.1
κ0 ((), (((), (a758, (i759, (i760, ())))), l761, ()))))

abbrev Tl_26_4 (R : Type) : Type := ((Unit × (List (List Int)) × Int × Int × Unit) × ((Unit × ((Nat → Int) × (Int × (Int × Unit)))) × (List ByteArray) × Unit)) → (((Unit × Unit) × ((Unit × ((Nat → Int) × (Int × (Int × Unit)))) × (List ByteArray) × Unit)) → Option R) → Option R
abbrev Tp_26 (R : Type) : Type := (Unit × Unit × Unit) × ((Unit × ((Nat → Int) × (Int × (Int × Unit)))) × (List ByteArray) × Unit) → ((Unit × ((Unit × ((Nat → Int) × (Int × (Int × Unit)))) × (List ByteArray) × Unit)) → Option R) → Option R
def Q_26 {R : Type} (q_57 : Tp_57 R) (q_12 : Tp_12 R) (m_26_4 : Tl_26_4 R) (x : (Unit × Unit × Unit) × ((Unit × ((Nat → Int) × (Int × (Int × Unit)))) × (List ByteArray) × Unit)) (κ0 : (Unit × ((Unit × ((Nat → Int) × (Int × (Int × Unit)))) × (List ByteArray) × Unit)) → Option R) : Option R :=
let a31 : (Nat → Int) := x.2.1.2.1
let i32 : Int := x.2.1.2.2.1
let i33 : Int := x.2.1.2.2.2.1
let l34 : (List ByteArray) := x.2.2.1
q_57 (((), (), ()), (l34, ())) (fun y36 =>
let l37 : (List (List Int)) := y36.1
let l38 : (List ByteArray) := y36.2.1
let i39 : Int := (((List.length l37) : Nat) : Int)
m_26_4 (((), l37, i39, 0, ()), (((), (a31, (i32, (i33, ())))), l38, ())) (fun y757 =>
let a758 : (Nat → Int) := y757.2.1.2.1
let i759 : Int := y757.2.1.2.2.1
let i760 : Int := y757.2.1.2.2.2.1
let l761 : (List ByteArray) := y757.2.2.1
κ0 ((), (((), (a758, (i759, (i760, ())))), l761, ()))))
def C_26_4 {R : Type} (q_57 : Tp_57 R) (q_12 : Tp_12 R) (m_26_4 : Tl_26_4 R) (rec : ((Unit × (List (List Int)) × Int × Int × Unit) × ((Unit × ((Nat → Int) × (Int × (Int × Unit)))) × (List ByteArray) × Unit)) → Option R) (x : ((Unit × (List (List Int)) × Int × Int × Unit) × ((Unit × ((Nat → Int) × (Int × (Int × Unit)))) × (List ByteArray) × Unit))) (κ0 : ((Unit × Unit) × ((Unit × ((Nat → Int) × (Int × (Int × Unit)))) × (List ByteArray) × Unit)) → Option R) : Option R :=
let l40 : (List (List Int)) := x.1.2.1
let i41 : Int := x.1.2.2.1
let i42 : Int := x.1.2.2.2.1
let a43 : (Nat → Int) := x.2.1.2.1
let i44 : Int := x.2.1.2.2.1
let i45 : Int := x.2.1.2.2.2.1
let l46 : (List ByteArray) := x.2.2.1
bif (decide (i42 < i41)) then (
bif decide (0 ≤ i42) then (
bif decide (i42 < ((List.length l40) : Int)) then (
let p47 : (List Int) := (List.getD l40 ((Int.toNat i42)) (Sch.zero (.sl (.int .u8))))
let i48 : Int := addA .u64 i45 128
q_12 ((a43, p47, i48, false, ()), ()) (fun y753 =>
let a754 : (Nat → Int) := y753.1
let i755 : Int := y753.2.1
let i756 : Int := addA .i64 i42 1
rec (((), l40, i41, i756, ()), (((), (a754, (i44, (i48, ())))), l46, ())))) else none) else none) else (
κ0 (((), ()), (((), (a43, (i44, (i45, ())))), l46, ())))
def EG_26 {R : Type} (q_57 : Tp_57 R) (q_12 : Tp_12 R) : Env R := ((Env.base QQ LN).add 57 ap_57 hp_57 (fun (x : aden ap_57 × hden hp_57) k => q_57 x (fun y => k (Pat.inst (.ros (.sl (.int .u8))) y.1) (instH [some (.lst (.str), 9)] y.2)))).add 12 ap_12 hp_12 (fun (x : aden ap_12 × hden hp_12) k => q_12 x (fun y => k (Pat.inst (.tup (.fcons (.vec (.int .u64) 8) (.fcons (.int .i64) (.fnil)))) y) (instH hp_12 x.2)))
def LG_26 {R : Type} (m_26_4 : Tl_26_4 R) : Loops R := (Loops.none).add 4 (loopBy 2 lv_26_4 pt_26_4 (fun x k => m_26_4 x (fun y => k (.exit 0) (px_26_4_0.inst y))))
def E_26 {R : Type} (N : Nat) : Env R := EG_26 (p_57 N) (p_12 N)
theorem eok_26 {R : Type} (N : Nat) : EK Try.prog (E_26 (R := R) N) := ek_add (ek_add (ek_base _ _) (good_57 N)) (good_12 N)
def L_26 {R : Type} (N : Nat) : Loops R := LG_26 (l_26_4 N N)
theorem gstep_26_4 {R : Type} (q_57 : Tp_57 R) (q_12 : Tp_12 R) (m_26_4 : Tl_26_4 R) (n : Nat) (x : pt_26_4.den) (k : Exit → St → Option R) : iter 2 lv_26_4 lo_26_4 (aexec TT (EG_26 q_57 q_12) (drawAny TT WW) (LG_26 m_26_4) (loopAt 4 (bodyOf Try.f26))) (n + 1) (pt_26_4.inst x) k = C_26_4 q_57 q_12 m_26_4 (fun y => iter 2 lv_26_4 lo_26_4 (aexec TT (EG_26 q_57 q_12) (drawAny TT WW) (LG_26 m_26_4) (loopAt 4 (bodyOf Try.f26))) n (pt_26_4.inst y) k) x (fun y => k (.exit 0) (px_26_4_0.inst y)) := by kernel_rfl
theorem step_26_4 {R : Type} (N n : Nat) (x : pt_26_4.den) (k : Exit → St → Option R) : iter 2 lv_26_4 lo_26_4 (aexec TT (E_26 (R := R) N) (drawAny TT WW) (L_26 N) (loopAt 4 (bodyOf Try.f26))) (n + 1) (pt_26_4.inst x) k = B_26_4 N (fun y => iter 2 lv_26_4 lo_26_4 (aexec TT (E_26 (R := R) N) (drawAny TT WW) (L_26 N) (loopAt 4 (bodyOf Try.f26))) n (pt_26_4.inst y) k) x (fun y => k (.exit 0) (px_26_4_0.inst y)) := (gstep_26_4 (p_57 N) (p_12 N) (l_26_4 N N) n x k).trans (by kernel_rfl)
theorem eq_26_4 {R : Type} (N : Nat) : ∀ (n : Nat) (x : pt_26_4.den) (k : Exit → St → Option R), iter 2 lv_26_4 lo_26_4 (aexec TT (E_26 (R := R) N) (drawAny TT WW) (L_26 N) (loopAt 4 (bodyOf Try.f26))) n (pt_26_4.inst x) k = l_26_4 N n x (fun y => k (.exit 0) (px_26_4_0.inst y)) :=
  iter_eq (K := Exit → St → Option R) (ks := fun k => k) (l := fun n (x : pt_26_4.den) k => l_26_4 N n x (fun y => k (.exit 0) (px_26_4_0.inst y))) (B := fun (rec : pt_26_4.den → Option R) (x : pt_26_4.den) k => B_26_4 N rec x (fun y => k (.exit 0) (px_26_4_0.inst y))) (fun _ _ => rfl) (fun _ _ _ => rfl) (fun n x k => step_26_4 N n x k)
theorem rounds_26_4 {R : Type} (N : Nat) : Rounds 2 TT (E_26 (R := R) N) (drawAny TT WW) (L_26 N) 4 (loopAt 4 (bodyOf Try.f26)) :=
  rounds_of (p := pt_26_4) (l := fun (x : pt_26_4.den) k => l_26_4 N N x (fun y => k (.exit 0) (px_26_4_0.inst y))) (fun s k => rfl) (fun x k => eq_26_4 N N x k)
theorem loops_26 : loopsIn (bodyOf Try.f26) = [(4, loopAt 4 (bodyOf Try.f26))] := by kernel_rfl
theorem lok_26 {R : Type} (N : Nat) : LOK 2 TT (E_26 (R := R) N) (drawAny TT WW) (L_26 N) (bodyOf Try.f26) := loops_all loops_26 (by
  simp only [List.forall_mem_cons, List.not_mem_nil, false_implies, implies_true, and_true]
  exact rounds_26_4 N)
theorem grun_26 {R : Type} (q_57 : Tp_57 R) (q_12 : Tp_12 R) (m_26_4 : Tl_26_4 R) (x : aden ap_26 × hden hp_26) (k : KF R) : fnrun TT (EG_26 q_57 q_12) (drawAny TT WW) (LG_26 m_26_4) true Try.f26 (instA ap_26 x.1) (instH hp_26 x.2) k = Q_26 q_57 q_12 m_26_4 x (fun y => k (Pat.inst (.ptr 0 []) y.1) (instH [some (.node (.fcons (.nilp) (.fcons (.vec (.int .u64) 8) (.fcons (.int .i64) (.fcons (.int .u64) (.fnil))))), 115), some (.lst (.str), 9)] y.2)) := by kernel_rfl
theorem run_26 {R : Type} (N : Nat) (x : aden ap_26 × hden hp_26) (k : KF R) : fnrun TT (E_26 (R := R) N) (drawAny TT WW) (L_26 N) true Try.f26 (instA ap_26 x.1) (instH hp_26 x.2) k = p_26 N x (fun y => k (Pat.inst (.ptr 0 []) y.1) (instH [some (.node (.fcons (.nilp) (.fcons (.vec (.int .u64) 8) (.fcons (.int .i64) (.fcons (.int .u64) (.fnil))))), 115), some (.lst (.str), 9)] y.2)) := (grun_26 (p_57 N) (p_12 N) (l_26_4 N N) x k).trans (by kernel_rfl)
theorem good_26 {R : Type} (N : Nat) : GD (X := R) Try.prog QQ 26 ap_26 hp_26 (fun (x : aden ap_26 × hden hp_26) k => p_26 N x (fun y => k (Pat.inst (.ptr 0 []) y.1) (instH [some (.node (.fcons (.nilp) (.fcons (.vec (.int .u64) 8) (.fcons (.int .i64) (.fcons (.int .u64) (.fnil))))), 115), some (.lst (.str), 9)] y.2))) :=
  gd_loud (E := E_26 N) (p := fun (x : aden ap_26 × hden hp_26) k => p_26 N x (fun y => k (Pat.inst (.ptr 0 []) y.1) (instH [some (.node (.fcons (.nilp) (.fcons (.vec (.int .u64) 8) (.fcons (.int .i64) (.fcons (.int .u64) (.fnil))))), 115), some (.lst (.str), 9)] y.2))) mixed tyok (eok_26 N) Try.func26 (by kernel_rfl) (by kernel_rfl) (by kernel_rfl) (lok_26 N) (fun x k => run_26 N x k)

def ap_82 : List Pat := [.ptr 0 []]
def hp_82 : List (Option (Pat × Nat)) := [some (.node (.fcons (.int .i64) (.fcons (.bool) (.fcons (.sl 1) (.fcons (.int .i64) (.fnil))))), 151), some (.lst (.int .u8), 5)]
def p_82 {R : Type} (N : Nat) (x : (Unit × Unit) × ((Int × (Bool × (Unit × (Int × Unit)))) × (List Int) × Unit)) (κ0 : Bool → Option R) : Option R :=
let i821 : Int := x.2.1.1
let b822 : Bool := x.2.1.2.1
let i823 : Int := x.2.1.2.2.2.1
let l824 : (List Int) := x.2.2.1
bif b822 then (
let i825 : Int := (((List.length l824) : Nat) : Int)
κ0 ((decide (i825 > i821)))) else (
let i826 : Int := (((List.length l824) : Nat) : Int)
κ0 ((decide (i826 ≥ i821))))

abbrev Tp_82 (R : Type) : Type := (Unit × Unit) × ((Int × (Bool × (Unit × (Int × Unit)))) × (List Int) × Unit) → (Bool → Option R) → Option R
def Q_82 {R : Type} (x : (Unit × Unit) × ((Int × (Bool × (Unit × (Int × Unit)))) × (List Int) × Unit)) (κ0 : Bool → Option R) : Option R :=
let i821 : Int := x.2.1.1
let b822 : Bool := x.2.1.2.1
let i823 : Int := x.2.1.2.2.2.1
let l824 : (List Int) := x.2.2.1
bif b822 then (
let i825 : Int := (((List.length l824) : Nat) : Int)
κ0 ((decide (i825 > i821)))) else (
let i826 : Int := (((List.length l824) : Nat) : Int)
κ0 ((decide (i826 ≥ i821))))
def EG_82 {R : Type} : Env R := Env.base QQ LN
def LG_82 {R : Type} : Loops R := Loops.none
def E_82 {R : Type} (N : Nat) : Env R := EG_82
theorem eok_82 {R : Type} (N : Nat) : EK Try.prog (E_82 (R := R) N) := ek_base _ _
def L_82 {R : Type} (N : Nat) : Loops R := LG_82
theorem lok_82 {R : Type} (N : Nat) : LOK 2 TT (E_82 (R := R) N) (drawAny TT WW) (L_82 N) (bodyOf Try.f82) := loops_nil (by kernel_rfl)
theorem grun_82 {R : Type} (x : aden ap_82 × hden hp_82) (k : KF R) : fnrun TT (EG_82) (drawAny TT WW) (LG_82) true Try.f82 (instA ap_82 x.1) (instH hp_82 x.2) k = Q_82 x (fun y => k (Pat.inst (.bool) y) (instH hp_82 x.2)) := by kernel_rfl
theorem run_82 {R : Type} (N : Nat) (x : aden ap_82 × hden hp_82) (k : KF R) : fnrun TT (E_82 (R := R) N) (drawAny TT WW) (L_82 N) true Try.f82 (instA ap_82 x.1) (instH hp_82 x.2) k = p_82 N x (fun y => k (Pat.inst (.bool) y) (instH hp_82 x.2)) := (grun_82 x k).trans (by kernel_rfl)
theorem good_82 {R : Type} (N : Nat) : GD (X := R) Try.prog QQ 82 ap_82 hp_82 (fun (x : aden ap_82 × hden hp_82) k => p_82 N x (fun y => k (Pat.inst (.bool) y) (instH hp_82 x.2))) :=
  gd_quiet (E := E_82 N) (p := fun (x : aden ap_82 × hden hp_82) κ => p_82 N x (fun y => κ (Pat.inst (.bool) y))) mixed tyok (eok_82 N) Try.func82 (by kernel_rfl) (by kernel_rfl) (lok_82 N) (fun x k => run_82 N x k)

def lv_57_v1_9 : Live := [(0, none), (5, some (.sl (.int .u8), 24)), (17, none), (18, none), (19, none)]
def pt_57_v1_9 : SPat := ⟨[(0, .ptr 0 []), (5, .sl 4), (17, .sl 2), (18, .int .i64), (19, .int .i64)], [some (.node (.fcons (.int .i64) (.fcons (.bool) (.fcons (.sl 3) (.fcons (.int .i64) (.fnil))))), 151), none, some (.lst (.str), 9), some (.lst (.int .u8), 5), some (.lst (.sl (.int .u8)), 24)]⟩
def px_57_v1_9_0 : SPat := ⟨[(0, .ptr 0 []), (5, .sl 4), (17, .sl 2), (18, .int .i64), (19, .int .i64)], [some (.node (.fcons (.int .i64) (.fcons (.bool) (.fcons (.sl 3) (.fcons (.int .i64) (.fnil))))), 151), none, some (.lst (.str), 9), some (.lst (.int .u8), 5), some (.lst (.sl (.int .u8)), 24)]⟩
def lo_57_v1_9 : Exit → Live
  | .exit 2 => [(0, none), (5, none), (17, none), (18, none), (19, none)]
  | _ => []
def B_57_v1_9 {R : Type} (N : Nat) (rec : ((Unit × Unit × Unit × Int × Int × Unit) × ((Int × (Bool × (Unit × (Int × Unit)))) × (List ByteArray) × (List Int) × (List (List Int)) × Unit)) → Option R) (x : ((Unit × Unit × Unit × Int × Int × Unit) × ((Int × (Bool × (Unit × (Int × Unit)))) × (List ByteArray) × (List Int) × (List (List Int)) × Unit))) (κ0 : ((Unit × Unit × Unit × Int × Int × Unit) × ((Int × (Bool × (Unit × (Int × Unit)))) × (List ByteArray) × (List Int) × (List (List Int)) × Unit)) → Option R) : Option R :=
let i904 : Int := x.1.2.2.2.1
let i905 : Int := x.1.2.2.2.2.1
let i906 : Int := x.2.1.1
let b907 : Bool := x.2.1.2.1
let i908 : Int := x.2.1.2.2.2.1
let l909 : (List ByteArray) := x.2.2.1
let l910 : (List Int) := x.2.2.2.1
let l911 : (List (List Int)) := x.2.2.2.2.1
p_82 N (((), ()), ((i906, (b907, ((), (i908, ())))), l910, ())) (fun y912 =>
let b913 : Bool := y912
bif b913 then (
bif decide (0 ≤ i906) then (
bif decide (i906 ≤ (((List.length l910) : Nat) : Int)) then (
bif decide (0 ≤ i906) then (
bif decide (List.length ((List.take (((Int.toNat i906) - 0)) (List.drop 0 l910))) * 1 ≤ 140737488355328) then (
let l914 : (List Int) := (List.take (((Int.toNat i906) - 0)) (List.drop 0 l910))
let l915 : (List (List Int)) := [l914]
bif (decide ((List.length l911 + List.length l915) * 24 ≤ 140737488355328) && true) then (
let l916 : (List (List Int)) := (l911 ++ l915)
bif decide (0 ≤ (((List.length l910) : Nat) : Int)) then (
bif decide ((((List.length l910) : Nat) : Int) ≤ (((List.length l910) : Nat) : Int)) then (
bif decide (0 ≤ i906) then (
bif decide (i906 ≤ (((List.length l910) : Nat) : Int)) then (
bif decide (0 < ((List.length l910) - (Int.toNat i906))) then (
let l917 : (List Int) := List.take (((List.length l910) - (Int.toNat i906))) (List.drop ((Int.toNat i906)) l910)
rec (((), (), (), i904, i905, ()), ((i906, (b907, ((), (i908, ())))), l909, l917, l916, ()))) else none) else none) else none) else none) else none) else none) else none) else none) else none) else none) else (
κ0 (((), (), (), i904, i905, ()), ((i906, (b907, ((), (i908, ())))), l909, l910, l911, ()))))
def l_57_v1_9 {R : Type} (N : Nat) : Nat → ((Unit × Unit × Unit × Int × Int × Unit) × ((Int × (Bool × (Unit × (Int × Unit)))) × (List ByteArray) × (List Int) × (List (List Int)) × Unit)) → (((Unit × Unit × Unit × Int × Int × Unit) × ((Int × (Bool × (Unit × (Int × Unit)))) × (List ByteArray) × (List Int) × (List (List Int)) × Unit)) → Option R) → Option R
  | 0, _, _ => none
  | n + 1, x, κ0 => B_57_v1_9 N (fun y => l_57_v1_9 N n y κ0) x κ0
def lv_57_v1_5 : Live := [(0, some (.fnil, 2)), (5, some (.sl (.int .u8), 24)), (17, none), (18, none), (19, none)]
def pt_57_v1_5 : SPat := ⟨[(0, .ptr 0 []), (5, .sl 4), (17, .sl 2), (18, .int .i64), (19, .int .i64)], [some (.node (.fcons (.int .i64) (.fcons (.bool) (.fcons (.sl 3) (.fcons (.int .i64) (.fnil))))), 151), none, some (.lst (.str), 9), some (.lst (.int .u8), 5), some (.lst (.sl (.int .u8)), 24)]⟩
def px_57_v1_5_0 : SPat := ⟨[(0, .ptr 0 []), (5, .sl 4)], [some (.node (.fcons (.int .i64) (.fcons (.bool) (.fcons (.sl 3) (.fcons (.int .i64) (.fnil))))), 151), none, some (.lst (.str), 9), some (.lst (.int .u8), 5), some (.lst (.sl (.int .u8)), 24)]⟩
def lo_57_v1_5 : Exit → Live
  | .exit 0 => [(0, none), (5, none)]
  | _ => []
def B_57_v1_5 {R : Type} (N : Nat) (rec : ((Unit × Unit × Unit × Int × Int × Unit) × ((Int × (Bool × (Unit × (Int × Unit)))) × (List ByteArray) × (List Int) × (List (List Int)) × Unit)) → Option R) (x : ((Unit × Unit × Unit × Int × Int × Unit) × ((Int × (Bool × (Unit × (Int × Unit)))) × (List ByteArray) × (List Int) × (List (List Int)) × Unit))) (κ0 : ((Unit × Unit × Unit) × ((Int × (Bool × (Unit × (Int × Unit)))) × (List ByteArray) × (List Int) × (List (List Int)) × Unit)) → Option R) : Option R :=
let i892 : Int := x.1.2.2.2.1
let i893 : Int := x.1.2.2.2.2.1
let i894 : Int := x.2.1.1
let b895 : Bool := x.2.1.2.1
let i896 : Int := x.2.1.2.2.2.1
let l897 : (List ByteArray) := x.2.2.1
let l898 : (List Int) := x.2.2.2.1
let l899 : (List (List Int)) := x.2.2.2.2.1
bif (decide (i893 < i892)) then (
bif decide (0 ≤ i893) then (
bif decide (i893 < ((List.length l897) : Int)) then (
let s900 : ByteArray := (List.getD l897 ((Int.toNat i893)) (Sch.zero (.str)))
let i901 : Int := ((ByteArray.size s900 : Nat) : Int)
let i902 : Int := addA .i64 i896 i901
bif (decide ((List.length l898 + List.length (strList s900)) * 1 ≤ 140737488355328) && true) then (
let l903 : (List Int) := (l898 ++ strList s900)
l_57_v1_9 N N (((), (), (), i892, i893, ()), ((i894, (b895, ((), (i902, ())))), l897, l903, l899, ())) (fun y918 =>
let i919 : Int := y918.1.2.2.2.1
let i920 : Int := y918.1.2.2.2.2.1
let i921 : Int := y918.2.1.1
let b922 : Bool := y918.2.1.2.1
let i923 : Int := y918.2.1.2.2.2.1
let l924 : (List ByteArray) := y918.2.2.1
let l925 : (List Int) := y918.2.2.2.1
let l926 : (List (List Int)) := y918.2.2.2.2.1
let i927 : Int := addA .i64 i920 1
rec (((), (), (), i919, i927, ()), ((i921, (b922, ((), (i923, ())))), l924, l925, l926, ())))) else none) else none) else none) else (
κ0 (((), (), ()), ((i894, (b895, ((), (i896, ())))), l897, l898, l899, ())))
def l_57_v1_5 {R : Type} (N : Nat) : Nat → ((Unit × Unit × Unit × Int × Int × Unit) × ((Int × (Bool × (Unit × (Int × Unit)))) × (List ByteArray) × (List Int) × (List (List Int)) × Unit)) → (((Unit × Unit × Unit) × ((Int × (Bool × (Unit × (Int × Unit)))) × (List ByteArray) × (List Int) × (List (List Int)) × Unit)) → Option R) → Option R
  | 0, _, _ => none
  | n + 1, x, κ0 => B_57_v1_5 N (fun y => l_57_v1_5 N n y κ0) x κ0
def ap_57_v1 : List Pat := [.ptr 0 [], .sl 2]
def hp_57_v1 : List (Option (Pat × Nat)) := [some (.node (.fcons (.int .i64) (.fcons (.bool) (.fcons (.sl 1) (.fcons (.int .i64) (.fnil))))), 151), some (.lst (.int .u8), 5), some (.lst (.str), 9)]
def p_57_v1 {R : Type} (N : Nat) (x : (Unit × Unit × Unit) × ((Int × (Bool × (Unit × (Int × Unit)))) × (List Int) × (List ByteArray) × Unit)) (κ0 : ((List (List Int)) × ((Int × (Bool × (Unit × (Int × Unit)))) × (List Int) × (List ByteArray) × Unit)) → Option R) (κ1 : ((List (List Int)) × ((Int × (Bool × (Unit × (Int × Unit)))) × (List ByteArray) × (List Int) × Unit)) → Option R) : Option R :=
let i797 : Int := x.2.1.1
let b798 : Bool := x.2.1.2.1
let i799 : Int := x.2.1.2.2.2.1
let l800 : (List Int) := x.2.2.1
let l801 : (List ByteArray) := x.2.2.2.1
bif (i797 == 0) then (
κ0 ([], ((i797, (b798, ((), (i799, ())))), l800, l801, ()))) else (
let i802 : Int := (((List.length l801) : Nat) : Int)
l_57_v1_5 N N (((), (), (), i802, 0, ()), ((i797, (b798, ((), (i799, ())))), l801, l800, [], ())) (fun y928 =>
let i929 : Int := y928.2.1.1
let b930 : Bool := y928.2.1.2.1
let i931 : Int := y928.2.1.2.2.2.1
let l932 : (List ByteArray) := y928.2.2.1
let l933 : (List Int) := y928.2.2.2.1
let l934 : (List (List Int)) := y928.2.2.2.2.1
bif decide (List.length l933 * 1 ≤ 140737488355328) then (
κ1 (l934, ((i929, (b930, ((), (i931, ())))), l932, l933, ()))) else none))

abbrev Tl_57_v1_9 (R : Type) : Type := ((Unit × Unit × Unit × Int × Int × Unit) × ((Int × (Bool × (Unit × (Int × Unit)))) × (List ByteArray) × (List Int) × (List (List Int)) × Unit)) → (((Unit × Unit × Unit × Int × Int × Unit) × ((Int × (Bool × (Unit × (Int × Unit)))) × (List ByteArray) × (List Int) × (List (List Int)) × Unit)) → Option R) → Option R
abbrev Tl_57_v1_5 (R : Type) : Type := ((Unit × Unit × Unit × Int × Int × Unit) × ((Int × (Bool × (Unit × (Int × Unit)))) × (List ByteArray) × (List Int) × (List (List Int)) × Unit)) → (((Unit × Unit × Unit) × ((Int × (Bool × (Unit × (Int × Unit)))) × (List ByteArray) × (List Int) × (List (List Int)) × Unit)) → Option R) → Option R
abbrev Tp_57_v1 (R : Type) : Type := (Unit × Unit × Unit) × ((Int × (Bool × (Unit × (Int × Unit)))) × (List Int) × (List ByteArray) × Unit) → (((List (List Int)) × ((Int × (Bool × (Unit × (Int × Unit)))) × (List Int) × (List ByteArray) × Unit)) → Option R) → (((List (List Int)) × ((Int × (Bool × (Unit × (Int × Unit)))) × (List ByteArray) × (List Int) × Unit)) → Option R) → Option R
def Q_57_v1 {R : Type} (q_82 : Tp_82 R) (m_57_v1_9 : Tl_57_v1_9 R) (m_57_v1_5 : Tl_57_v1_5 R) (x : (Unit × Unit × Unit) × ((Int × (Bool × (Unit × (Int × Unit)))) × (List Int) × (List ByteArray) × Unit)) (κ0 : ((List (List Int)) × ((Int × (Bool × (Unit × (Int × Unit)))) × (List Int) × (List ByteArray) × Unit)) → Option R) (κ1 : ((List (List Int)) × ((Int × (Bool × (Unit × (Int × Unit)))) × (List ByteArray) × (List Int) × Unit)) → Option R) : Option R :=
let i797 : Int := x.2.1.1
let b798 : Bool := x.2.1.2.1
let i799 : Int := x.2.1.2.2.2.1
let l800 : (List Int) := x.2.2.1
let l801 : (List ByteArray) := x.2.2.2.1
bif (i797 == 0) then (
κ0 ([], ((i797, (b798, ((), (i799, ())))), l800, l801, ()))) else (
let i802 : Int := (((List.length l801) : Nat) : Int)
m_57_v1_5 (((), (), (), i802, 0, ()), ((i797, (b798, ((), (i799, ())))), l801, l800, [], ())) (fun y928 =>
let i929 : Int := y928.2.1.1
let b930 : Bool := y928.2.1.2.1
let i931 : Int := y928.2.1.2.2.2.1
let l932 : (List ByteArray) := y928.2.2.1
let l933 : (List Int) := y928.2.2.2.1
let l934 : (List (List Int)) := y928.2.2.2.2.1
bif decide (List.length l933 * 1 ≤ 140737488355328) then (
κ1 (l934, ((i929, (b930, ((), (i931, ())))), l932, l933, ()))) else none))
def C_57_v1_9 {R : Type} (q_82 : Tp_82 R) (m_57_v1_9 : Tl_57_v1_9 R) (m_57_v1_5 : Tl_57_v1_5 R) (rec : ((Unit × Unit × Unit × Int × Int × Unit) × ((Int × (Bool × (Unit × (Int × Unit)))) × (List ByteArray) × (List Int) × (List (List Int)) × Unit)) → Option R) (x : ((Unit × Unit × Unit × Int × Int × Unit) × ((Int × (Bool × (Unit × (Int × Unit)))) × (List ByteArray) × (List Int) × (List (List Int)) × Unit))) (κ0 : ((Unit × Unit × Unit × Int × Int × Unit) × ((Int × (Bool × (Unit × (Int × Unit)))) × (List ByteArray) × (List Int) × (List (List Int)) × Unit)) → Option R) : Option R :=
let i904 : Int := x.1.2.2.2.1
let i905 : Int := x.1.2.2.2.2.1
let i906 : Int := x.2.1.1
let b907 : Bool := x.2.1.2.1
let i908 : Int := x.2.1.2.2.2.1
let l909 : (List ByteArray) := x.2.2.1
let l910 : (List Int) := x.2.2.2.1
let l911 : (List (List Int)) := x.2.2.2.2.1
q_82 (((), ()), ((i906, (b907, ((), (i908, ())))), l910, ())) (fun y912 =>
let b913 : Bool := y912
bif b913 then (
bif decide (0 ≤ i906) then (
bif decide (i906 ≤ (((List.length l910) : Nat) : Int)) then (
bif decide (0 ≤ i906) then (
bif decide (List.length ((List.take (((Int.toNat i906) - 0)) (List.drop 0 l910))) * 1 ≤ 140737488355328) then (
let l914 : (List Int) := (List.take (((Int.toNat i906) - 0)) (List.drop 0 l910))
let l915 : (List (List Int)) := [l914]
bif (decide ((List.length l911 + List.length l915) * 24 ≤ 140737488355328) && true) then (
let l916 : (List (List Int)) := (l911 ++ l915)
bif decide (0 ≤ (((List.length l910) : Nat) : Int)) then (
bif decide ((((List.length l910) : Nat) : Int) ≤ (((List.length l910) : Nat) : Int)) then (
bif decide (0 ≤ i906) then (
bif decide (i906 ≤ (((List.length l910) : Nat) : Int)) then (
bif decide (0 < ((List.length l910) - (Int.toNat i906))) then (
let l917 : (List Int) := List.take (((List.length l910) - (Int.toNat i906))) (List.drop ((Int.toNat i906)) l910)
rec (((), (), (), i904, i905, ()), ((i906, (b907, ((), (i908, ())))), l909, l917, l916, ()))) else none) else none) else none) else none) else none) else none) else none) else none) else none) else none) else (
κ0 (((), (), (), i904, i905, ()), ((i906, (b907, ((), (i908, ())))), l909, l910, l911, ()))))
def C_57_v1_5 {R : Type} (q_82 : Tp_82 R) (m_57_v1_9 : Tl_57_v1_9 R) (m_57_v1_5 : Tl_57_v1_5 R) (rec : ((Unit × Unit × Unit × Int × Int × Unit) × ((Int × (Bool × (Unit × (Int × Unit)))) × (List ByteArray) × (List Int) × (List (List Int)) × Unit)) → Option R) (x : ((Unit × Unit × Unit × Int × Int × Unit) × ((Int × (Bool × (Unit × (Int × Unit)))) × (List ByteArray) × (List Int) × (List (List Int)) × Unit))) (κ0 : ((Unit × Unit × Unit) × ((Int × (Bool × (Unit × (Int × Unit)))) × (List ByteArray) × (List Int) × (List (List Int)) × Unit)) → Option R) : Option R :=
let i892 : Int := x.1.2.2.2.1
let i893 : Int := x.1.2.2.2.2.1
let i894 : Int := x.2.1.1
let b895 : Bool := x.2.1.2.1
let i896 : Int := x.2.1.2.2.2.1
let l897 : (List ByteArray) := x.2.2.1
let l898 : (List Int) := x.2.2.2.1
let l899 : (List (List Int)) := x.2.2.2.2.1
bif (decide (i893 < i892)) then (
bif decide (0 ≤ i893) then (
bif decide (i893 < ((List.length l897) : Int)) then (
let s900 : ByteArray := (List.getD l897 ((Int.toNat i893)) (Sch.zero (.str)))
let i901 : Int := ((ByteArray.size s900 : Nat) : Int)
let i902 : Int := addA .i64 i896 i901
bif (decide ((List.length l898 + List.length (strList s900)) * 1 ≤ 140737488355328) && true) then (
let l903 : (List Int) := (l898 ++ strList s900)
m_57_v1_9 (((), (), (), i892, i893, ()), ((i894, (b895, ((), (i902, ())))), l897, l903, l899, ())) (fun y918 =>
let i919 : Int := y918.1.2.2.2.1
let i920 : Int := y918.1.2.2.2.2.1
let i921 : Int := y918.2.1.1
let b922 : Bool := y918.2.1.2.1
let i923 : Int := y918.2.1.2.2.2.1
let l924 : (List ByteArray) := y918.2.2.1
let l925 : (List Int) := y918.2.2.2.1
let l926 : (List (List Int)) := y918.2.2.2.2.1
let i927 : Int := addA .i64 i920 1
rec (((), (), (), i919, i927, ()), ((i921, (b922, ((), (i923, ())))), l924, l925, l926, ())))) else none) else none) else none) else (
κ0 (((), (), ()), ((i894, (b895, ((), (i896, ())))), l897, l898, l899, ())))
def EG_57_v1 {R : Type} (q_82 : Tp_82 R) : Env R := (Env.base QQ LN).add 82 ap_82 hp_82 (fun (x : aden ap_82 × hden hp_82) k => q_82 x (fun y => k (Pat.inst (.bool) y) (instH hp_82 x.2)))
def LG_57_v1 {R : Type} (m_57_v1_9 : Tl_57_v1_9 R) (m_57_v1_5 : Tl_57_v1_5 R) : Loops R := ((Loops.none).add 9 (loopBy 3 lv_57_v1_9 pt_57_v1_9 (fun x k => m_57_v1_9 x (fun y => k (.exit 2) (px_57_v1_9_0.inst y))))).add 5 (loopBy 3 lv_57_v1_5 pt_57_v1_5 (fun x k => m_57_v1_5 x (fun y => k (.exit 0) (px_57_v1_5_0.inst y))))
def E_57_v1 {R : Type} (N : Nat) : Env R := EG_57_v1 (p_82 N)
theorem eok_57_v1 {R : Type} (N : Nat) : EK Try.prog (E_57_v1 (R := R) N) := ek_add (ek_base _ _) (good_82 N)
def L_57_v1 {R : Type} (N : Nat) : Loops R := LG_57_v1 (l_57_v1_9 N N) (l_57_v1_5 N N)
theorem gstep_57_v1_9 {R : Type} (q_82 : Tp_82 R) (m_57_v1_9 : Tl_57_v1_9 R) (m_57_v1_5 : Tl_57_v1_5 R) (n : Nat) (x : pt_57_v1_9.den) (k : Exit → St → Option R) : iter 3 lv_57_v1_9 lo_57_v1_9 (aexec TT (EG_57_v1 q_82) (drawAny TT WW) (LG_57_v1 m_57_v1_9 m_57_v1_5) (loopAt 9 (bodyOf Try.f57))) (n + 1) (pt_57_v1_9.inst x) k = C_57_v1_9 q_82 m_57_v1_9 m_57_v1_5 (fun y => iter 3 lv_57_v1_9 lo_57_v1_9 (aexec TT (EG_57_v1 q_82) (drawAny TT WW) (LG_57_v1 m_57_v1_9 m_57_v1_5) (loopAt 9 (bodyOf Try.f57))) n (pt_57_v1_9.inst y) k) x (fun y => k (.exit 2) (px_57_v1_9_0.inst y)) := by kernel_rfl
theorem step_57_v1_9 {R : Type} (N n : Nat) (x : pt_57_v1_9.den) (k : Exit → St → Option R) : iter 3 lv_57_v1_9 lo_57_v1_9 (aexec TT (E_57_v1 (R := R) N) (drawAny TT WW) (L_57_v1 N) (loopAt 9 (bodyOf Try.f57))) (n + 1) (pt_57_v1_9.inst x) k = B_57_v1_9 N (fun y => iter 3 lv_57_v1_9 lo_57_v1_9 (aexec TT (E_57_v1 (R := R) N) (drawAny TT WW) (L_57_v1 N) (loopAt 9 (bodyOf Try.f57))) n (pt_57_v1_9.inst y) k) x (fun y => k (.exit 2) (px_57_v1_9_0.inst y)) := (gstep_57_v1_9 (p_82 N) (l_57_v1_9 N N) (l_57_v1_5 N N) n x k).trans (by kernel_rfl)
theorem eq_57_v1_9 {R : Type} (N : Nat) : ∀ (n : Nat) (x : pt_57_v1_9.den) (k : Exit → St → Option R), iter 3 lv_57_v1_9 lo_57_v1_9 (aexec TT (E_57_v1 (R := R) N) (drawAny TT WW) (L_57_v1 N) (loopAt 9 (bodyOf Try.f57))) n (pt_57_v1_9.inst x) k = l_57_v1_9 N n x (fun y => k (.exit 2) (px_57_v1_9_0.inst y)) :=
  iter_eq (K := Exit → St → Option R) (ks := fun k => k) (l := fun n (x : pt_57_v1_9.den) k => l_57_v1_9 N n x (fun y => k (.exit 2) (px_57_v1_9_0.inst y))) (B := fun (rec : pt_57_v1_9.den → Option R) (x : pt_57_v1_9.den) k => B_57_v1_9 N rec x (fun y => k (.exit 2) (px_57_v1_9_0.inst y))) (fun _ _ => rfl) (fun _ _ _ => rfl) (fun n x k => step_57_v1_9 N n x k)
theorem rounds_57_v1_9 {R : Type} (N : Nat) : Rounds 3 TT (E_57_v1 (R := R) N) (drawAny TT WW) (L_57_v1 N) 9 (loopAt 9 (bodyOf Try.f57)) :=
  rounds_of (p := pt_57_v1_9) (l := fun (x : pt_57_v1_9.den) k => l_57_v1_9 N N x (fun y => k (.exit 2) (px_57_v1_9_0.inst y))) (fun s k => rfl) (fun x k => eq_57_v1_9 N N x k)
theorem gstep_57_v1_5 {R : Type} (q_82 : Tp_82 R) (m_57_v1_9 : Tl_57_v1_9 R) (m_57_v1_5 : Tl_57_v1_5 R) (n : Nat) (x : pt_57_v1_5.den) (k : Exit → St → Option R) : iter 3 lv_57_v1_5 lo_57_v1_5 (aexec TT (EG_57_v1 q_82) (drawAny TT WW) (LG_57_v1 m_57_v1_9 m_57_v1_5) (loopAt 5 (bodyOf Try.f57))) (n + 1) (pt_57_v1_5.inst x) k = C_57_v1_5 q_82 m_57_v1_9 m_57_v1_5 (fun y => iter 3 lv_57_v1_5 lo_57_v1_5 (aexec TT (EG_57_v1 q_82) (drawAny TT WW) (LG_57_v1 m_57_v1_9 m_57_v1_5) (loopAt 5 (bodyOf Try.f57))) n (pt_57_v1_5.inst y) k) x (fun y => k (.exit 0) (px_57_v1_5_0.inst y)) := by kernel_rfl
theorem step_57_v1_5 {R : Type} (N n : Nat) (x : pt_57_v1_5.den) (k : Exit → St → Option R) : iter 3 lv_57_v1_5 lo_57_v1_5 (aexec TT (E_57_v1 (R := R) N) (drawAny TT WW) (L_57_v1 N) (loopAt 5 (bodyOf Try.f57))) (n + 1) (pt_57_v1_5.inst x) k = B_57_v1_5 N (fun y => iter 3 lv_57_v1_5 lo_57_v1_5 (aexec TT (E_57_v1 (R := R) N) (drawAny TT WW) (L_57_v1 N) (loopAt 5 (bodyOf Try.f57))) n (pt_57_v1_5.inst y) k) x (fun y => k (.exit 0) (px_57_v1_5_0.inst y)) := (gstep_57_v1_5 (p_82 N) (l_57_v1_9 N N) (l_57_v1_5 N N) n x k).trans (by kernel_rfl)
theorem eq_57_v1_5 {R : Type} (N : Nat) : ∀ (n : Nat) (x : pt_57_v1_5.den) (k : Exit → St → Option R), iter 3 lv_57_v1_5 lo_57_v1_5 (aexec TT (E_57_v1 (R := R) N) (drawAny TT WW) (L_57_v1 N) (loopAt 5 (bodyOf Try.f57))) n (pt_57_v1_5.inst x) k = l_57_v1_5 N n x (fun y => k (.exit 0) (px_57_v1_5_0.inst y)) :=
  iter_eq (K := Exit → St → Option R) (ks := fun k => k) (l := fun n (x : pt_57_v1_5.den) k => l_57_v1_5 N n x (fun y => k (.exit 0) (px_57_v1_5_0.inst y))) (B := fun (rec : pt_57_v1_5.den → Option R) (x : pt_57_v1_5.den) k => B_57_v1_5 N rec x (fun y => k (.exit 0) (px_57_v1_5_0.inst y))) (fun _ _ => rfl) (fun _ _ _ => rfl) (fun n x k => step_57_v1_5 N n x k)
theorem rounds_57_v1_5 {R : Type} (N : Nat) : Rounds 3 TT (E_57_v1 (R := R) N) (drawAny TT WW) (L_57_v1 N) 5 (loopAt 5 (bodyOf Try.f57)) :=
  rounds_of (p := pt_57_v1_5) (l := fun (x : pt_57_v1_5.den) k => l_57_v1_5 N N x (fun y => k (.exit 0) (px_57_v1_5_0.inst y))) (fun s k => rfl) (fun x k => eq_57_v1_5 N N x k)
theorem loops_57_v1 : loopsIn (bodyOf Try.f57) = [(5, loopAt 5 (bodyOf Try.f57)), (9, loopAt 9 (bodyOf Try.f57))] := by kernel_rfl
theorem lok_57_v1 {R : Type} (N : Nat) : LOK 3 TT (E_57_v1 (R := R) N) (drawAny TT WW) (L_57_v1 N) (bodyOf Try.f57) := loops_all loops_57_v1 (by
  simp only [List.forall_mem_cons, List.not_mem_nil, false_implies, implies_true, and_true]
  exact ⟨rounds_57_v1_5 N, rounds_57_v1_9 N⟩)
theorem grun_57_v1 {R : Type} (q_82 : Tp_82 R) (m_57_v1_9 : Tl_57_v1_9 R) (m_57_v1_5 : Tl_57_v1_5 R) (x : aden ap_57_v1 × hden hp_57_v1) (k : KF R) : fnrun TT (EG_57_v1 q_82) (drawAny TT WW) (LG_57_v1 m_57_v1_9 m_57_v1_5) true Try.f57 (instA ap_57_v1 x.1) (instH hp_57_v1 x.2) k = Q_57_v1 q_82 m_57_v1_9 m_57_v1_5 x (fun y => k (Pat.inst (.ros (.sl (.int .u8))) y.1) (instH [some (.node (.fcons (.int .i64) (.fcons (.bool) (.fcons (.sl 1) (.fcons (.int .i64) (.fnil))))), 151), some (.lst (.int .u8), 5), some (.lst (.str), 9)] y.2)) (fun y => k (Pat.inst (.ros (.sl (.int .u8))) y.1) (instH [some (.node (.fcons (.int .i64) (.fcons (.bool) (.fcons (.sl 3) (.fcons (.int .i64) (.fnil))))), 151), none, some (.lst (.str), 9), some (.lst (.int .u8), 5)] y.2)) := by kernel_rfl
theorem run_57_v1 {R : Type} (N : Nat) (x : aden ap_57_v1 × hden hp_57_v1) (k : KF R) : fnrun TT (E_57_v1 (R := R) N) (drawAny TT WW) (L_57_v1 N) true Try.f57 (instA ap_57_v1 x.1) (instH hp_57_v1 x.2) k = p_57_v1 N x (fun y => k (Pat.inst (.ros (.sl (.int .u8))) y.1) (instH [some (.node (.fcons (.int .i64) (.fcons (.bool) (.fcons (.sl 1) (.fcons (.int .i64) (.fnil))))), 151), some (.lst (.int .u8), 5), some (.lst (.str), 9)] y.2)) (fun y => k (Pat.inst (.ros (.sl (.int .u8))) y.1) (instH [some (.node (.fcons (.int .i64) (.fcons (.bool) (.fcons (.sl 3) (.fcons (.int .i64) (.fnil))))), 151), none, some (.lst (.str), 9), some (.lst (.int .u8), 5)] y.2)) := (grun_57_v1 (p_82 N) (l_57_v1_9 N N) (l_57_v1_5 N N) x k).trans (by kernel_rfl)
theorem good_57_v1 {R : Type} (N : Nat) : GD (X := R) Try.prog QQ 57 ap_57_v1 hp_57_v1 (fun (x : aden ap_57_v1 × hden hp_57_v1) k => p_57_v1 N x (fun y => k (Pat.inst (.ros (.sl (.int .u8))) y.1) (instH [some (.node (.fcons (.int .i64) (.fcons (.bool) (.fcons (.sl 1) (.fcons (.int .i64) (.fnil))))), 151), some (.lst (.int .u8), 5), some (.lst (.str), 9)] y.2)) (fun y => k (Pat.inst (.ros (.sl (.int .u8))) y.1) (instH [some (.node (.fcons (.int .i64) (.fcons (.bool) (.fcons (.sl 3) (.fcons (.int .i64) (.fnil))))), 151), none, some (.lst (.str), 9), some (.lst (.int .u8), 5)] y.2))) :=
  gd_loud (E := E_57_v1 N) (p := fun (x : aden ap_57_v1 × hden hp_57_v1) k => p_57_v1 N x (fun y => k (Pat.inst (.ros (.sl (.int .u8))) y.1) (instH [some (.node (.fcons (.int .i64) (.fcons (.bool) (.fcons (.sl 1) (.fcons (.int .i64) (.fnil))))), 151), some (.lst (.int .u8), 5), some (.lst (.str), 9)] y.2)) (fun y => k (Pat.inst (.ros (.sl (.int .u8))) y.1) (instH [some (.node (.fcons (.int .i64) (.fcons (.bool) (.fcons (.sl 3) (.fcons (.int .i64) (.fnil))))), 151), none, some (.lst (.str), 9), some (.lst (.int .u8), 5)] y.2))) mixed tyok (eok_57_v1 N) Try.func57 (by kernel_rfl) (by kernel_rfl) (by kernel_rfl) (lok_57_v1 N) (fun x k => run_57_v1 N x k)

def lv_26_v1_4 : Live := [(0, none), (14, none), (15, none), (16, none)]
def pt_26_v1_4 : SPat := ⟨[(0, .ptr 0 []), (14, .ros (.sl (.int .u8))), (15, .int .i64), (16, .int .i64)], [some (.node (.fcons (.ptr 1 []) (.fcons (.vec (.int .u64) 8) (.fcons (.int .i64) (.fcons (.int .u64) (.fnil))))), 115), some (.node (.fcons (.int .i64) (.fcons (.bool) (.fcons (.sl 4) (.fcons (.int .i64) (.fnil))))), 151), none, some (.lst (.str), 9), some (.lst (.int .u8), 5)]⟩
def px_26_v1_4_0 : SPat := ⟨[(0, .ptr 0 [])], [some (.node (.fcons (.ptr 1 []) (.fcons (.vec (.int .u64) 8) (.fcons (.int .i64) (.fcons (.int .u64) (.fnil))))), 115), some (.node (.fcons (.int .i64) (.fcons (.bool) (.fcons (.sl 4) (.fcons (.int .i64) (.fnil))))), 151), none, some (.lst (.str), 9), some (.lst (.int .u8), 5)]⟩
def lo_26_v1_4 : Exit → Live
  | .exit 0 => [(0, none)]
  | _ => []
def B_26_v1_4 {R : Type} (N : Nat) (rec : ((Unit × (List (List Int)) × Int × Int × Unit) × ((Unit × ((Nat → Int) × (Int × (Int × Unit)))) × (Int × (Bool × (Unit × (Int × Unit)))) × (List ByteArray) × (List Int) × Unit)) → Option R) (x : ((Unit × (List (List Int)) × Int × Int × Unit) × ((Unit × ((Nat → Int) × (Int × (Int × Unit)))) × (Int × (Bool × (Unit × (Int × Unit)))) × (List ByteArray) × (List Int) × Unit))) (κ0 : ((Unit × Unit) × ((Unit × ((Nat → Int) × (Int × (Int × Unit)))) × (Int × (Bool × (Unit × (Int × Unit)))) × (List ByteArray) × (List Int) × Unit)) → Option R) : Option R :=
let l968 : (List (List Int)) := x.1.2.1
let i969 : Int := x.1.2.2.1
let i970 : Int := x.1.2.2.2.1
let a971 : (Nat → Int) := x.2.1.2.1
let i972 : Int := x.2.1.2.2.1
let i973 : Int := x.2.1.2.2.2.1
let i974 : Int := x.2.2.1.1
let b975 : Bool := x.2.2.1.2.1
let i976 : Int := x.2.2.1.2.2.2.1
let l977 : (List ByteArray) := x.2.2.2.1
let l978 : (List Int) := x.2.2.2.2.1
bif (decide (i970 < i969)) then (
bif decide (0 ≤ i970) then (
bif decide (i970 < ((List.length l968) : Int)) then (
let p979 : (List Int) := (List.getD l968 ((Int.toNat i970)) (Sch.zero (.sl (.int .u8))))
let i980 : Int := addA .u64 i973 128
p_12 N ((a971, p979, i980, false, ()), ()) (fun y981 =>
let a982 : (Nat → Int) := y981.1
let i983 : Int := y981.2.1
let i984 : Int := addA .i64 i970 1
rec (((), l968, i969, i984, ()), (((), (a982, (i972, (i980, ())))), (i974, (b975, ((), (i976, ())))), l977, l978, ())))) else none) else none) else (
κ0 (((), ()), (((), (a971, (i972, (i973, ())))), (i974, (b975, ((), (i976, ())))), l977, l978, ())))
def l_26_v1_4 {R : Type} (N : Nat) : Nat → ((Unit × (List (List Int)) × Int × Int × Unit) × ((Unit × ((Nat → Int) × (Int × (Int × Unit)))) × (Int × (Bool × (Unit × (Int × Unit)))) × (List ByteArray) × (List Int) × Unit)) → (((Unit × Unit) × ((Unit × ((Nat → Int) × (Int × (Int × Unit)))) × (Int × (Bool × (Unit × (Int × Unit)))) × (List ByteArray) × (List Int) × Unit)) → Option R) → Option R
  | 0, _, _ => none
  | n + 1, x, κ0 => B_26_v1_4 N (fun y => l_26_v1_4 N n y κ0) x κ0
def ap_26_v1 : List Pat := [.ptr 0 [], .sl 3]
def hp_26_v1 : List (Option (Pat × Nat)) := [some (.node (.fcons (.ptr 1 []) (.fcons (.vec (.int .u64) 8) (.fcons (.int .i64) (.fcons (.int .u64) (.fnil))))), 115), some (.node (.fcons (.int .i64) (.fcons (.bool) (.fcons (.sl 2) (.fcons (.int .i64) (.fnil))))), 151), some (.lst (.int .u8), 5), some (.lst (.str), 9)]
def p_26_v1 {R : Type} (N : Nat) (x : (Unit × Unit × Unit) × ((Unit × ((Nat → Int) × (Int × (Int × Unit)))) × (Int × (Bool × (Unit × (Int × Unit)))) × (List Int) × (List ByteArray) × Unit)) (κ0 : (Unit × ((Unit × ((Nat → Int) × (Int × (Int × Unit)))) × (Int × (Bool × (Unit × (Int × Unit)))) × (List ByteArray) × (List Int) × Unit)) → Option R) : Option R :=
let a789 : (Nat → Int) := x.2.1.2.1
let i790 : Int := x.2.1.2.2.1
let i791 : Int := x.2.1.2.2.2.1
let i792 : Int := x.2.2.1.1
let b793 : Bool := x.2.2.1.2.1
let i794 : Int := x.2.2.1.2.2.2.1
let l795 : (List Int) := x.2.2.2.1
let l796 : (List ByteArray) := x.2.2.2.2.1
p_57_v1 N (((), (), ()), ((i792, (b793, ((), (i794, ())))), l795, l796, ())) (fun y935 =>
let l936 : (List (List Int)) := y935.1
let i937 : Int := y935.2.1.1
let b938 : Bool := y935.2.1.2.1
let i939 : Int := y935.2.1.2.2.2.1
let l940 : (List Int) := y935.2.2.1
let l941 : (List ByteArray) := y935.2.2.2.1
let i942 : Int := (((List.length l936) : Nat) : Int)
none) (fun y960 =>
let l961 : (List (List Int)) := y960.1
let i962 : Int := y960.2.1.1
let b963 : Bool := y960.2.1.2.1
let i964 : Int := y960.2.1.2.2.2.1
let l965 : (List ByteArray) := y960.2.2.1
let l966 : (List Int) := y960.2.2.2.1
let i967 : Int := (((List.length l961) : Nat) : Int)
l_26_v1_4 N N (((), l961, i967, 0, ()), (((), (a789, (i790, (i791, ())))), (i962, (b963, ((), (i964, ())))), l965, l966, ())) (fun y985 =>
let a986 : (Nat → Int) := y985.2.1.2.1
let i987 : Int := y985.2.1.2.2.1
let i988 : Int := y985.2.1.2.2.2.1
let i989 : Int := y985.2.2.1.1
let b990 : Bool := y985.2.2.1.2.1
let i991 : Int := y985.2.2.1.2.2.2.1
let l992 : (List ByteArray) := y985.2.2.2.1
let l993 : (List Int) := y985.2.2.2.2.1
κ0 ((), (((), (a986, (i987, (i988, ())))), (i989, (b990, ((), (i991, ())))), l992, l993, ()))))

abbrev Tl_26_v1_4 (R : Type) : Type := ((Unit × (List (List Int)) × Int × Int × Unit) × ((Unit × ((Nat → Int) × (Int × (Int × Unit)))) × (Int × (Bool × (Unit × (Int × Unit)))) × (List ByteArray) × (List Int) × Unit)) → (((Unit × Unit) × ((Unit × ((Nat → Int) × (Int × (Int × Unit)))) × (Int × (Bool × (Unit × (Int × Unit)))) × (List ByteArray) × (List Int) × Unit)) → Option R) → Option R
abbrev Tp_26_v1 (R : Type) : Type := (Unit × Unit × Unit) × ((Unit × ((Nat → Int) × (Int × (Int × Unit)))) × (Int × (Bool × (Unit × (Int × Unit)))) × (List Int) × (List ByteArray) × Unit) → ((Unit × ((Unit × ((Nat → Int) × (Int × (Int × Unit)))) × (Int × (Bool × (Unit × (Int × Unit)))) × (List ByteArray) × (List Int) × Unit)) → Option R) → Option R
def Q_26_v1 {R : Type} (q_57_v1 : Tp_57_v1 R) (q_12 : Tp_12 R) (m_26_v1_4 : Tl_26_v1_4 R) (x : (Unit × Unit × Unit) × ((Unit × ((Nat → Int) × (Int × (Int × Unit)))) × (Int × (Bool × (Unit × (Int × Unit)))) × (List Int) × (List ByteArray) × Unit)) (κ0 : (Unit × ((Unit × ((Nat → Int) × (Int × (Int × Unit)))) × (Int × (Bool × (Unit × (Int × Unit)))) × (List ByteArray) × (List Int) × Unit)) → Option R) : Option R :=
let a789 : (Nat → Int) := x.2.1.2.1
let i790 : Int := x.2.1.2.2.1
let i791 : Int := x.2.1.2.2.2.1
let i792 : Int := x.2.2.1.1
let b793 : Bool := x.2.2.1.2.1
let i794 : Int := x.2.2.1.2.2.2.1
let l795 : (List Int) := x.2.2.2.1
let l796 : (List ByteArray) := x.2.2.2.2.1
q_57_v1 (((), (), ()), ((i792, (b793, ((), (i794, ())))), l795, l796, ())) (fun y935 =>
let l936 : (List (List Int)) := y935.1
let i937 : Int := y935.2.1.1
let b938 : Bool := y935.2.1.2.1
let i939 : Int := y935.2.1.2.2.2.1
let l940 : (List Int) := y935.2.2.1
let l941 : (List ByteArray) := y935.2.2.2.1
let i942 : Int := (((List.length l936) : Nat) : Int)
none) (fun y960 =>
let l961 : (List (List Int)) := y960.1
let i962 : Int := y960.2.1.1
let b963 : Bool := y960.2.1.2.1
let i964 : Int := y960.2.1.2.2.2.1
let l965 : (List ByteArray) := y960.2.2.1
let l966 : (List Int) := y960.2.2.2.1
let i967 : Int := (((List.length l961) : Nat) : Int)
m_26_v1_4 (((), l961, i967, 0, ()), (((), (a789, (i790, (i791, ())))), (i962, (b963, ((), (i964, ())))), l965, l966, ())) (fun y985 =>
let a986 : (Nat → Int) := y985.2.1.2.1
let i987 : Int := y985.2.1.2.2.1
let i988 : Int := y985.2.1.2.2.2.1
let i989 : Int := y985.2.2.1.1
let b990 : Bool := y985.2.2.1.2.1
let i991 : Int := y985.2.2.1.2.2.2.1
let l992 : (List ByteArray) := y985.2.2.2.1
let l993 : (List Int) := y985.2.2.2.2.1
κ0 ((), (((), (a986, (i987, (i988, ())))), (i989, (b990, ((), (i991, ())))), l992, l993, ()))))
def C_26_v1_4 {R : Type} (q_57_v1 : Tp_57_v1 R) (q_12 : Tp_12 R) (m_26_v1_4 : Tl_26_v1_4 R) (rec : ((Unit × (List (List Int)) × Int × Int × Unit) × ((Unit × ((Nat → Int) × (Int × (Int × Unit)))) × (Int × (Bool × (Unit × (Int × Unit)))) × (List ByteArray) × (List Int) × Unit)) → Option R) (x : ((Unit × (List (List Int)) × Int × Int × Unit) × ((Unit × ((Nat → Int) × (Int × (Int × Unit)))) × (Int × (Bool × (Unit × (Int × Unit)))) × (List ByteArray) × (List Int) × Unit))) (κ0 : ((Unit × Unit) × ((Unit × ((Nat → Int) × (Int × (Int × Unit)))) × (Int × (Bool × (Unit × (Int × Unit)))) × (List ByteArray) × (List Int) × Unit)) → Option R) : Option R :=
let l968 : (List (List Int)) := x.1.2.1
let i969 : Int := x.1.2.2.1
let i970 : Int := x.1.2.2.2.1
let a971 : (Nat → Int) := x.2.1.2.1
let i972 : Int := x.2.1.2.2.1
let i973 : Int := x.2.1.2.2.2.1
let i974 : Int := x.2.2.1.1
let b975 : Bool := x.2.2.1.2.1
let i976 : Int := x.2.2.1.2.2.2.1
let l977 : (List ByteArray) := x.2.2.2.1
let l978 : (List Int) := x.2.2.2.2.1
bif (decide (i970 < i969)) then (
bif decide (0 ≤ i970) then (
bif decide (i970 < ((List.length l968) : Int)) then (
let p979 : (List Int) := (List.getD l968 ((Int.toNat i970)) (Sch.zero (.sl (.int .u8))))
let i980 : Int := addA .u64 i973 128
q_12 ((a971, p979, i980, false, ()), ()) (fun y981 =>
let a982 : (Nat → Int) := y981.1
let i983 : Int := y981.2.1
let i984 : Int := addA .i64 i970 1
rec (((), l968, i969, i984, ()), (((), (a982, (i972, (i980, ())))), (i974, (b975, ((), (i976, ())))), l977, l978, ())))) else none) else none) else (
κ0 (((), ()), (((), (a971, (i972, (i973, ())))), (i974, (b975, ((), (i976, ())))), l977, l978, ())))
def EG_26_v1 {R : Type} (q_57_v1 : Tp_57_v1 R) (q_12 : Tp_12 R) : Env R := ((Env.base QQ LN).add 57 ap_57_v1 hp_57_v1 (fun (x : aden ap_57_v1 × hden hp_57_v1) k => q_57_v1 x (fun y => k (Pat.inst (.ros (.sl (.int .u8))) y.1) (instH [some (.node (.fcons (.int .i64) (.fcons (.bool) (.fcons (.sl 1) (.fcons (.int .i64) (.fnil))))), 151), some (.lst (.int .u8), 5), some (.lst (.str), 9)] y.2)) (fun y => k (Pat.inst (.ros (.sl (.int .u8))) y.1) (instH [some (.node (.fcons (.int .i64) (.fcons (.bool) (.fcons (.sl 3) (.fcons (.int .i64) (.fnil))))), 151), none, some (.lst (.str), 9), some (.lst (.int .u8), 5)] y.2)))).add 12 ap_12 hp_12 (fun (x : aden ap_12 × hden hp_12) k => q_12 x (fun y => k (Pat.inst (.tup (.fcons (.vec (.int .u64) 8) (.fcons (.int .i64) (.fnil)))) y) (instH hp_12 x.2)))
def LG_26_v1 {R : Type} (m_26_v1_4 : Tl_26_v1_4 R) : Loops R := (Loops.none).add 4 (loopBy 4 lv_26_v1_4 pt_26_v1_4 (fun x k => m_26_v1_4 x (fun y => k (.exit 0) (px_26_v1_4_0.inst y))))
def E_26_v1 {R : Type} (N : Nat) : Env R := EG_26_v1 (p_57_v1 N) (p_12 N)
theorem eok_26_v1 {R : Type} (N : Nat) : EK Try.prog (E_26_v1 (R := R) N) := ek_add (ek_add (ek_base _ _) (good_57_v1 N)) (good_12 N)
def L_26_v1 {R : Type} (N : Nat) : Loops R := LG_26_v1 (l_26_v1_4 N N)
theorem gstep_26_v1_4 {R : Type} (q_57_v1 : Tp_57_v1 R) (q_12 : Tp_12 R) (m_26_v1_4 : Tl_26_v1_4 R) (n : Nat) (x : pt_26_v1_4.den) (k : Exit → St → Option R) : iter 4 lv_26_v1_4 lo_26_v1_4 (aexec TT (EG_26_v1 q_57_v1 q_12) (drawAny TT WW) (LG_26_v1 m_26_v1_4) (loopAt 4 (bodyOf Try.f26))) (n + 1) (pt_26_v1_4.inst x) k = C_26_v1_4 q_57_v1 q_12 m_26_v1_4 (fun y => iter 4 lv_26_v1_4 lo_26_v1_4 (aexec TT (EG_26_v1 q_57_v1 q_12) (drawAny TT WW) (LG_26_v1 m_26_v1_4) (loopAt 4 (bodyOf Try.f26))) n (pt_26_v1_4.inst y) k) x (fun y => k (.exit 0) (px_26_v1_4_0.inst y)) := by kernel_rfl
theorem step_26_v1_4 {R : Type} (N n : Nat) (x : pt_26_v1_4.den) (k : Exit → St → Option R) : iter 4 lv_26_v1_4 lo_26_v1_4 (aexec TT (E_26_v1 (R := R) N) (drawAny TT WW) (L_26_v1 N) (loopAt 4 (bodyOf Try.f26))) (n + 1) (pt_26_v1_4.inst x) k = B_26_v1_4 N (fun y => iter 4 lv_26_v1_4 lo_26_v1_4 (aexec TT (E_26_v1 (R := R) N) (drawAny TT WW) (L_26_v1 N) (loopAt 4 (bodyOf Try.f26))) n (pt_26_v1_4.inst y) k) x (fun y => k (.exit 0) (px_26_v1_4_0.inst y)) := (gstep_26_v1_4 (p_57_v1 N) (p_12 N) (l_26_v1_4 N N) n x k).trans (by kernel_rfl)
theorem eq_26_v1_4 {R : Type} (N : Nat) : ∀ (n : Nat) (x : pt_26_v1_4.den) (k : Exit → St → Option R), iter 4 lv_26_v1_4 lo_26_v1_4 (aexec TT (E_26_v1 (R := R) N) (drawAny TT WW) (L_26_v1 N) (loopAt 4 (bodyOf Try.f26))) n (pt_26_v1_4.inst x) k = l_26_v1_4 N n x (fun y => k (.exit 0) (px_26_v1_4_0.inst y)) :=
  iter_eq (K := Exit → St → Option R) (ks := fun k => k) (l := fun n (x : pt_26_v1_4.den) k => l_26_v1_4 N n x (fun y => k (.exit 0) (px_26_v1_4_0.inst y))) (B := fun (rec : pt_26_v1_4.den → Option R) (x : pt_26_v1_4.den) k => B_26_v1_4 N rec x (fun y => k (.exit 0) (px_26_v1_4_0.inst y))) (fun _ _ => rfl) (fun _ _ _ => rfl) (fun n x k => step_26_v1_4 N n x k)
theorem rounds_26_v1_4 {R : Type} (N : Nat) : Rounds 4 TT (E_26_v1 (R := R) N) (drawAny TT WW) (L_26_v1 N) 4 (loopAt 4 (bodyOf Try.f26)) :=
  rounds_of (p := pt_26_v1_4) (l := fun (x : pt_26_v1_4.den) k => l_26_v1_4 N N x (fun y => k (.exit 0) (px_26_v1_4_0.inst y))) (fun s k => rfl) (fun x k => eq_26_v1_4 N N x k)
theorem loops_26_v1 : loopsIn (bodyOf Try.f26) = [(4, loopAt 4 (bodyOf Try.f26))] := by kernel_rfl
theorem lok_26_v1 {R : Type} (N : Nat) : LOK 4 TT (E_26_v1 (R := R) N) (drawAny TT WW) (L_26_v1 N) (bodyOf Try.f26) := loops_all loops_26_v1 (by
  simp only [List.forall_mem_cons, List.not_mem_nil, false_implies, implies_true, and_true]
  exact rounds_26_v1_4 N)
theorem grun_26_v1 {R : Type} (q_57_v1 : Tp_57_v1 R) (q_12 : Tp_12 R) (m_26_v1_4 : Tl_26_v1_4 R) (x : aden ap_26_v1 × hden hp_26_v1) (k : KF R) : fnrun TT (EG_26_v1 q_57_v1 q_12) (drawAny TT WW) (LG_26_v1 m_26_v1_4) true Try.f26 (instA ap_26_v1 x.1) (instH hp_26_v1 x.2) k = Q_26_v1 q_57_v1 q_12 m_26_v1_4 x (fun y => k (Pat.inst (.ptr 0 []) y.1) (instH [some (.node (.fcons (.ptr 1 []) (.fcons (.vec (.int .u64) 8) (.fcons (.int .i64) (.fcons (.int .u64) (.fnil))))), 115), some (.node (.fcons (.int .i64) (.fcons (.bool) (.fcons (.sl 4) (.fcons (.int .i64) (.fnil))))), 151), none, some (.lst (.str), 9), some (.lst (.int .u8), 5)] y.2)) := by kernel_rfl
theorem run_26_v1 {R : Type} (N : Nat) (x : aden ap_26_v1 × hden hp_26_v1) (k : KF R) : fnrun TT (E_26_v1 (R := R) N) (drawAny TT WW) (L_26_v1 N) true Try.f26 (instA ap_26_v1 x.1) (instH hp_26_v1 x.2) k = p_26_v1 N x (fun y => k (Pat.inst (.ptr 0 []) y.1) (instH [some (.node (.fcons (.ptr 1 []) (.fcons (.vec (.int .u64) 8) (.fcons (.int .i64) (.fcons (.int .u64) (.fnil))))), 115), some (.node (.fcons (.int .i64) (.fcons (.bool) (.fcons (.sl 4) (.fcons (.int .i64) (.fnil))))), 151), none, some (.lst (.str), 9), some (.lst (.int .u8), 5)] y.2)) := (grun_26_v1 (p_57_v1 N) (p_12 N) (l_26_v1_4 N N) x k).trans (by kernel_rfl)
theorem good_26_v1 {R : Type} (N : Nat) : GD (X := R) Try.prog QQ 26 ap_26_v1 hp_26_v1 (fun (x : aden ap_26_v1 × hden hp_26_v1) k => p_26_v1 N x (fun y => k (Pat.inst (.ptr 0 []) y.1) (instH [some (.node (.fcons (.ptr 1 []) (.fcons (.vec (.int .u64) 8) (.fcons (.int .i64) (.fcons (.int .u64) (.fnil))))), 115), some (.node (.fcons (.int .i64) (.fcons (.bool) (.fcons (.sl 4) (.fcons (.int .i64) (.fnil))))), 151), none, some (.lst (.str), 9), some (.lst (.int .u8), 5)] y.2))) :=
  gd_loud (E := E_26_v1 N) (p := fun (x : aden ap_26_v1 × hden hp_26_v1) k => p_26_v1 N x (fun y => k (Pat.inst (.ptr 0 []) y.1) (instH [some (.node (.fcons (.ptr 1 []) (.fcons (.vec (.int .u64) 8) (.fcons (.int .i64) (.fcons (.int .u64) (.fnil))))), 115), some (.node (.fcons (.int .i64) (.fcons (.bool) (.fcons (.sl 4) (.fcons (.int .i64) (.fnil))))), 151), none, some (.lst (.str), 9), some (.lst (.int .u8), 5)] y.2))) mixed tyok (eok_26_v1 N) Try.func26 (by kernel_rfl) (by kernel_rfl) (by kernel_rfl) (lok_26_v1 N) (fun x k => run_26_v1 N x k)

def ap_27 : List Pat := [.int .i64, .str]
def hp_27 : List (Option (Pat × Nat)) := []
def p_27 {R : Type} (N : Nat) (x : (Int × ByteArray × Unit) × (Unit)) (κ0 : ((Unit × (Int × Unit)) × (Unit)) → Option R) (κ1 : ((Unit × (Int × Unit)) × ((Unit × ((Nat → Int) × (Int × (Int × Unit)))) × Unit)) → Option R) (κ2 : ((Unit × (Int × Unit)) × ((Unit × ((Nat → Int) × (Int × (Int × Unit)))) × (Int × (Bool × (Unit × (Int × Unit)))) × (List Int) × Unit)) → Option R) : Option R :=
let i7 : Int := x.1.1
let s8 : ByteArray := x.1.2.1
bif (decide (i7 < 1)) then (
κ0 (((), (1, ())), ())) else (
bif (decide (i7 > 64)) then (
κ0 (((), (1, ())), ())) else (
let i9 : Int := ((ByteArray.size s8 : Nat) : Int)
bif (decide (i9 > 64)) then (
κ0 (((), (1, ())), ())) else (
p_58 N ((128, true, ()), ()) (fun y12 =>
let i13 : Int := y12.1.2.1
p_15 N ((), ()) (fun y15 =>
let a16 : (Nat → Int) := y15
let i17 : Int := (a16 0)
let i18 : Int := ((ByteArray.size s8 : Nat) : Int)
let i19 : Int := IntKind.wrap .u64 i18
let i20 : Int := shlA .u64 i19 8
let i21 : Int := xorA .u64 16842752 i20
let i22 : Int := IntKind.wrap .u64 i7
let i23 : Int := xorA .u64 i21 i22
let i24 : Int := xorA .u64 i17 i23
bif (!eqS s8 (⟨#[]⟩)) then (
let i25 : Int := ((ByteArray.size s8 : Nat) : Int)
let i26 : Int := subA .i64 128 i25
bif decide (0 ≤ i26) then (
bif decide (i26 ≤ i26) then (
bif decide (((1 : Nat) : Int) * i26 ≤ 281474976710656) then (
bif decide (i26 ≤ 9223372036854775807) then (
let l27 : (List Int) := List.replicate ((Int.toNat i26)) (Sch.zero (.int .u8))
let s28 : ByteArray := listStr l27
bif decide (ByteArray.size s8 + ByteArray.size s28 ≤ maxI64) then (
let s29 : ByteArray := (s8 ++ s28)
let l30 : (List ByteArray) := [s29]
p_26 N (((), (), ()), (((), ((upd a16 0 i24), (i7, (0, ())))), l30, ())) (fun y762 =>
let a763 : (Nat → Int) := y762.2.1.2.1
let i764 : Int := y762.2.1.2.2.1
let i765 : Int := y762.2.1.2.2.2.1
let l766 : (List ByteArray) := y762.2.2.1
κ1 (((), (0, ())), (((), (a763, (i764, (i765, ())))), ())))) else none) else none) else none) else none) else none) else (
κ1 (((), (0, ())), (((), ((upd a16 0 i24), (i7, (0, ())))), ()))))) (fun y767 =>
let i768 : Int := y767.1.2.1
let i769 : Int := y767.2.1.1
let b770 : Bool := y767.2.1.2.1
let i771 : Int := y767.2.1.2.2.2.1
let l772 : (List Int) := y767.2.2.1
p_15 N ((), ()) (fun y773 =>
let a774 : (Nat → Int) := y773
let i775 : Int := (a774 0)
let i776 : Int := ((ByteArray.size s8 : Nat) : Int)
let i777 : Int := IntKind.wrap .u64 i776
let i778 : Int := shlA .u64 i777 8
let i779 : Int := xorA .u64 16842752 i778
let i780 : Int := IntKind.wrap .u64 i7
let i781 : Int := xorA .u64 i779 i780
let i782 : Int := xorA .u64 i775 i781
bif (!eqS s8 (⟨#[]⟩)) then (
let i783 : Int := ((ByteArray.size s8 : Nat) : Int)
let i784 : Int := subA .i64 128 i783
bif decide (0 ≤ i784) then (
bif decide (i784 ≤ i784) then (
bif decide (((1 : Nat) : Int) * i784 ≤ 281474976710656) then (
bif decide (i784 ≤ 9223372036854775807) then (
let l785 : (List Int) := List.replicate ((Int.toNat i784)) (Sch.zero (.int .u8))
let s786 : ByteArray := listStr l785
bif decide (ByteArray.size s8 + ByteArray.size s786 ≤ maxI64) then (
let s787 : ByteArray := (s8 ++ s786)
let l788 : (List ByteArray) := [s787]
p_26_v1 N (((), (), ()), (((), ((upd a774 0 i782), (i7, (0, ())))), (i769, (b770, ((), (i771, ())))), l772, l788, ())) (fun y994 =>
let a995 : (Nat → Int) := y994.2.1.2.1
let i996 : Int := y994.2.1.2.2.1
let i997 : Int := y994.2.1.2.2.2.1
let i998 : Int := y994.2.2.1.1
let b999 : Bool := y994.2.2.1.2.1
let i1000 : Int := y994.2.2.1.2.2.2.1
let l1001 : (List ByteArray) := y994.2.2.2.1
let l1002 : (List Int) := y994.2.2.2.2.1
κ2 (((), (0, ())), (((), (a995, (i996, (i997, ())))), (i998, (b999, ((), (i1000, ())))), l1002, ())))) else none) else none) else none) else none) else none) else (
κ2 (((), (0, ())), (((), ((upd a774 0 i782), (i7, (0, ())))), (i769, (b770, ((), (i771, ())))), l772, ()))))))))

abbrev Tp_27 (R : Type) : Type := (Int × ByteArray × Unit) × (Unit) → (((Unit × (Int × Unit)) × (Unit)) → Option R) → (((Unit × (Int × Unit)) × ((Unit × ((Nat → Int) × (Int × (Int × Unit)))) × Unit)) → Option R) → (((Unit × (Int × Unit)) × ((Unit × ((Nat → Int) × (Int × (Int × Unit)))) × (Int × (Bool × (Unit × (Int × Unit)))) × (List Int) × Unit)) → Option R) → Option R
def Q_27 {R : Type} (q_58 : Tp_58 R) (q_15 : Tp_15 R) (q_26 : Tp_26 R) (q_26_v1 : Tp_26_v1 R) (x : (Int × ByteArray × Unit) × (Unit)) (κ0 : ((Unit × (Int × Unit)) × (Unit)) → Option R) (κ1 : ((Unit × (Int × Unit)) × ((Unit × ((Nat → Int) × (Int × (Int × Unit)))) × Unit)) → Option R) (κ2 : ((Unit × (Int × Unit)) × ((Unit × ((Nat → Int) × (Int × (Int × Unit)))) × (Int × (Bool × (Unit × (Int × Unit)))) × (List Int) × Unit)) → Option R) : Option R :=
let i7 : Int := x.1.1
let s8 : ByteArray := x.1.2.1
bif (decide (i7 < 1)) then (
κ0 (((), (1, ())), ())) else (
bif (decide (i7 > 64)) then (
κ0 (((), (1, ())), ())) else (
let i9 : Int := ((ByteArray.size s8 : Nat) : Int)
bif (decide (i9 > 64)) then (
κ0 (((), (1, ())), ())) else (
q_58 ((128, true, ()), ()) (fun y12 =>
let i13 : Int := y12.1.2.1
q_15 ((), ()) (fun y15 =>
let a16 : (Nat → Int) := y15
let i17 : Int := (a16 0)
let i18 : Int := ((ByteArray.size s8 : Nat) : Int)
let i19 : Int := IntKind.wrap .u64 i18
let i20 : Int := shlA .u64 i19 8
let i21 : Int := xorA .u64 16842752 i20
let i22 : Int := IntKind.wrap .u64 i7
let i23 : Int := xorA .u64 i21 i22
let i24 : Int := xorA .u64 i17 i23
bif (!eqS s8 (⟨#[]⟩)) then (
let i25 : Int := ((ByteArray.size s8 : Nat) : Int)
let i26 : Int := subA .i64 128 i25
bif decide (0 ≤ i26) then (
bif decide (i26 ≤ i26) then (
bif decide (((1 : Nat) : Int) * i26 ≤ 281474976710656) then (
bif decide (i26 ≤ 9223372036854775807) then (
let l27 : (List Int) := List.replicate ((Int.toNat i26)) (Sch.zero (.int .u8))
let s28 : ByteArray := listStr l27
bif decide (ByteArray.size s8 + ByteArray.size s28 ≤ maxI64) then (
let s29 : ByteArray := (s8 ++ s28)
let l30 : (List ByteArray) := [s29]
q_26 (((), (), ()), (((), ((upd a16 0 i24), (i7, (0, ())))), l30, ())) (fun y762 =>
let a763 : (Nat → Int) := y762.2.1.2.1
let i764 : Int := y762.2.1.2.2.1
let i765 : Int := y762.2.1.2.2.2.1
let l766 : (List ByteArray) := y762.2.2.1
κ1 (((), (0, ())), (((), (a763, (i764, (i765, ())))), ())))) else none) else none) else none) else none) else none) else (
κ1 (((), (0, ())), (((), ((upd a16 0 i24), (i7, (0, ())))), ()))))) (fun y767 =>
let i768 : Int := y767.1.2.1
let i769 : Int := y767.2.1.1
let b770 : Bool := y767.2.1.2.1
let i771 : Int := y767.2.1.2.2.2.1
let l772 : (List Int) := y767.2.2.1
q_15 ((), ()) (fun y773 =>
let a774 : (Nat → Int) := y773
let i775 : Int := (a774 0)
let i776 : Int := ((ByteArray.size s8 : Nat) : Int)
let i777 : Int := IntKind.wrap .u64 i776
let i778 : Int := shlA .u64 i777 8
let i779 : Int := xorA .u64 16842752 i778
let i780 : Int := IntKind.wrap .u64 i7
let i781 : Int := xorA .u64 i779 i780
let i782 : Int := xorA .u64 i775 i781
bif (!eqS s8 (⟨#[]⟩)) then (
let i783 : Int := ((ByteArray.size s8 : Nat) : Int)
let i784 : Int := subA .i64 128 i783
bif decide (0 ≤ i784) then (
bif decide (i784 ≤ i784) then (
bif decide (((1 : Nat) : Int) * i784 ≤ 281474976710656) then (
bif decide (i784 ≤ 9223372036854775807) then (
let l785 : (List Int) := List.replicate ((Int.toNat i784)) (Sch.zero (.int .u8))
let s786 : ByteArray := listStr l785
bif decide (ByteArray.size s8 + ByteArray.size s786 ≤ maxI64) then (
let s787 : ByteArray := (s8 ++ s786)
let l788 : (List ByteArray) := [s787]
q_26_v1 (((), (), ()), (((), ((upd a774 0 i782), (i7, (0, ())))), (i769, (b770, ((), (i771, ())))), l772, l788, ())) (fun y994 =>
let a995 : (Nat → Int) := y994.2.1.2.1
let i996 : Int := y994.2.1.2.2.1
let i997 : Int := y994.2.1.2.2.2.1
let i998 : Int := y994.2.2.1.1
let b999 : Bool := y994.2.2.1.2.1
let i1000 : Int := y994.2.2.1.2.2.2.1
let l1001 : (List ByteArray) := y994.2.2.2.1
let l1002 : (List Int) := y994.2.2.2.2.1
κ2 (((), (0, ())), (((), (a995, (i996, (i997, ())))), (i998, (b999, ((), (i1000, ())))), l1002, ())))) else none) else none) else none) else none) else none) else (
κ2 (((), (0, ())), (((), ((upd a774 0 i782), (i7, (0, ())))), (i769, (b770, ((), (i771, ())))), l772, ()))))))))
def EG_27 {R : Type} (q_58 : Tp_58 R) (q_15 : Tp_15 R) (q_26 : Tp_26 R) (q_26_v1 : Tp_26_v1 R) : Env R := ((((Env.base QQ LN).add 58 ap_58 hp_58 (fun (x : aden ap_58 × hden hp_58) k => q_58 x (fun y => k (Pat.inst (.tup (.fcons (.nilp) (.fcons (.int .i64) (.fnil)))) y.1) (instH [] y.2)) (fun y => k (Pat.inst (.tup (.fcons (.ptr 0 []) (.fcons (.int .i64) (.fnil)))) y.1) (instH [some (.node (.fcons (.int .i64) (.fcons (.bool) (.fcons (.sl 1) (.fcons (.int .i64) (.fnil))))), 151), some (.lst (.int .u8), 5)] y.2)))).add 15 ap_15 hp_15 (fun (x : aden ap_15 × hden hp_15) k => q_15 x (fun y => k (Pat.inst (.vec (.int .u64) 8) y) (instH hp_15 x.2)))).add 26 ap_26 hp_26 (fun (x : aden ap_26 × hden hp_26) k => q_26 x (fun y => k (Pat.inst (.ptr 0 []) y.1) (instH [some (.node (.fcons (.nilp) (.fcons (.vec (.int .u64) 8) (.fcons (.int .i64) (.fcons (.int .u64) (.fnil))))), 115), some (.lst (.str), 9)] y.2)))).add 26 ap_26_v1 hp_26_v1 (fun (x : aden ap_26_v1 × hden hp_26_v1) k => q_26_v1 x (fun y => k (Pat.inst (.ptr 0 []) y.1) (instH [some (.node (.fcons (.ptr 1 []) (.fcons (.vec (.int .u64) 8) (.fcons (.int .i64) (.fcons (.int .u64) (.fnil))))), 115), some (.node (.fcons (.int .i64) (.fcons (.bool) (.fcons (.sl 4) (.fcons (.int .i64) (.fnil))))), 151), none, some (.lst (.str), 9), some (.lst (.int .u8), 5)] y.2)))
def LG_27 {R : Type} : Loops R := Loops.none
def E_27 {R : Type} (N : Nat) : Env R := EG_27 (p_58 N) (p_15 N) (p_26 N) (p_26_v1 N)
theorem eok_27 {R : Type} (N : Nat) : EK Try.prog (E_27 (R := R) N) := ek_add (ek_add (ek_add (ek_add (ek_base _ _) (good_58 N)) (good_15 N)) (good_26 N)) (good_26_v1 N)
def L_27 {R : Type} (N : Nat) : Loops R := LG_27
theorem lok_27 {R : Type} (N : Nat) : LOK 0 TT (E_27 (R := R) N) (drawAny TT WW) (L_27 N) (bodyOf Try.f27) := loops_nil (by kernel_rfl)
theorem grun_27 {R : Type} (q_58 : Tp_58 R) (q_15 : Tp_15 R) (q_26 : Tp_26 R) (q_26_v1 : Tp_26_v1 R) (x : aden ap_27 × hden hp_27) (k : KF R) : fnrun TT (EG_27 q_58 q_15 q_26 q_26_v1) (drawAny TT WW) (LG_27) true Try.f27 (instA ap_27 x.1) (instH hp_27 x.2) k = Q_27 q_58 q_15 q_26 q_26_v1 x (fun y => k (Pat.inst (.tup (.fcons (.nilp) (.fcons (.int .i64) (.fnil)))) y.1) (instH [] y.2)) (fun y => k (Pat.inst (.tup (.fcons (.ptr 0 []) (.fcons (.int .i64) (.fnil)))) y.1) (instH [some (.node (.fcons (.nilp) (.fcons (.vec (.int .u64) 8) (.fcons (.int .i64) (.fcons (.int .u64) (.fnil))))), 115)] y.2)) (fun y => k (Pat.inst (.tup (.fcons (.ptr 0 []) (.fcons (.int .i64) (.fnil)))) y.1) (instH [some (.node (.fcons (.ptr 1 []) (.fcons (.vec (.int .u64) 8) (.fcons (.int .i64) (.fcons (.int .u64) (.fnil))))), 115), some (.node (.fcons (.int .i64) (.fcons (.bool) (.fcons (.sl 2) (.fcons (.int .i64) (.fnil))))), 151), some (.lst (.int .u8), 5)] y.2)) := by kernel_rfl
theorem run_27 {R : Type} (N : Nat) (x : aden ap_27 × hden hp_27) (k : KF R) : fnrun TT (E_27 (R := R) N) (drawAny TT WW) (L_27 N) true Try.f27 (instA ap_27 x.1) (instH hp_27 x.2) k = p_27 N x (fun y => k (Pat.inst (.tup (.fcons (.nilp) (.fcons (.int .i64) (.fnil)))) y.1) (instH [] y.2)) (fun y => k (Pat.inst (.tup (.fcons (.ptr 0 []) (.fcons (.int .i64) (.fnil)))) y.1) (instH [some (.node (.fcons (.nilp) (.fcons (.vec (.int .u64) 8) (.fcons (.int .i64) (.fcons (.int .u64) (.fnil))))), 115)] y.2)) (fun y => k (Pat.inst (.tup (.fcons (.ptr 0 []) (.fcons (.int .i64) (.fnil)))) y.1) (instH [some (.node (.fcons (.ptr 1 []) (.fcons (.vec (.int .u64) 8) (.fcons (.int .i64) (.fcons (.int .u64) (.fnil))))), 115), some (.node (.fcons (.int .i64) (.fcons (.bool) (.fcons (.sl 2) (.fcons (.int .i64) (.fnil))))), 151), some (.lst (.int .u8), 5)] y.2)) := (grun_27 (p_58 N) (p_15 N) (p_26 N) (p_26_v1 N) x k).trans (by kernel_rfl)
theorem good_27 {R : Type} (N : Nat) : GD (X := R) Try.prog QQ 27 ap_27 hp_27 (fun (x : aden ap_27 × hden hp_27) k => p_27 N x (fun y => k (Pat.inst (.tup (.fcons (.nilp) (.fcons (.int .i64) (.fnil)))) y.1) (instH [] y.2)) (fun y => k (Pat.inst (.tup (.fcons (.ptr 0 []) (.fcons (.int .i64) (.fnil)))) y.1) (instH [some (.node (.fcons (.nilp) (.fcons (.vec (.int .u64) 8) (.fcons (.int .i64) (.fcons (.int .u64) (.fnil))))), 115)] y.2)) (fun y => k (Pat.inst (.tup (.fcons (.ptr 0 []) (.fcons (.int .i64) (.fnil)))) y.1) (instH [some (.node (.fcons (.ptr 1 []) (.fcons (.vec (.int .u64) 8) (.fcons (.int .i64) (.fcons (.int .u64) (.fnil))))), 115), some (.node (.fcons (.int .i64) (.fcons (.bool) (.fcons (.sl 2) (.fcons (.int .i64) (.fnil))))), 151), some (.lst (.int .u8), 5)] y.2))) :=
  gd_loud (E := E_27 N) (p := fun (x : aden ap_27 × hden hp_27) k => p_27 N x (fun y => k (Pat.inst (.tup (.fcons (.nilp) (.fcons (.int .i64) (.fnil)))) y.1) (instH [] y.2)) (fun y => k (Pat.inst (.tup (.fcons (.ptr 0 []) (.fcons (.int .i64) (.fnil)))) y.1) (instH [some (.node (.fcons (.nilp) (.fcons (.vec (.int .u64) 8) (.fcons (.int .i64) (.fcons (.int .u64) (.fnil))))), 115)] y.2)) (fun y => k (Pat.inst (.tup (.fcons (.ptr 0 []) (.fcons (.int .i64) (.fnil)))) y.1) (instH [some (.node (.fcons (.ptr 1 []) (.fcons (.vec (.int .u64) 8) (.fcons (.int .i64) (.fcons (.int .u64) (.fnil))))), 115), some (.node (.fcons (.int .i64) (.fcons (.bool) (.fcons (.sl 2) (.fcons (.int .i64) (.fnil))))), 151), some (.lst (.int .u8), 5)] y.2))) mixed tyok (eok_27 N) Try.func27 (by kernel_rfl) (by kernel_rfl) (by kernel_rfl) (lok_27 N) (fun x k => run_27 N x k)

def ap_26_v2 : List Pat := [.nilp, .sl 0]
def hp_26_v2 : List (Option (Pat × Nat)) := [some (.lst (.str), 9)]
def p_26_v2 {R : Type} (N : Nat) (x : (Unit × Unit × Unit) × ((List ByteArray) × Unit)) (κ0 : (Unit × ((List ByteArray) × Unit)) → Option R) : Option R :=
let l1005 : (List ByteArray) := x.2.1
κ0 ((), (l1005, ()))

abbrev Tp_26_v2 (R : Type) : Type := (Unit × Unit × Unit) × ((List ByteArray) × Unit) → ((Unit × ((List ByteArray) × Unit)) → Option R) → Option R
def Q_26_v2 {R : Type} (x : (Unit × Unit × Unit) × ((List ByteArray) × Unit)) (κ0 : (Unit × ((List ByteArray) × Unit)) → Option R) : Option R :=
let l1005 : (List ByteArray) := x.2.1
κ0 ((), (l1005, ()))
def EG_26_v2 {R : Type} : Env R := Env.base QQ LN
def LG_26_v2 {R : Type} : Loops R := Loops.none
def E_26_v2 {R : Type} (N : Nat) : Env R := EG_26_v2
theorem eok_26_v2 {R : Type} (N : Nat) : EK Try.prog (E_26_v2 (R := R) N) := ek_base _ _
def L_26_v2 {R : Type} (N : Nat) : Loops R := LG_26_v2
theorem loops_26_v2 : loopsIn (bodyOf Try.f26) = [(4, loopAt 4 (bodyOf Try.f26))] := by kernel_rfl
theorem lok_26_v2 {R : Type} (N : Nat) : LOK 1 TT (E_26_v2 (R := R) N) (drawAny TT WW) (L_26_v2 N) (bodyOf Try.f26) := loops_all loops_26_v2 (by
  simp only [List.forall_mem_cons, List.not_mem_nil, false_implies, implies_true, and_true]
  exact rounds_none (fun _ _ => rfl))
theorem grun_26_v2 {R : Type} (x : aden ap_26_v2 × hden hp_26_v2) (k : KF R) : fnrun TT (EG_26_v2) (drawAny TT WW) (LG_26_v2) true Try.f26 (instA ap_26_v2 x.1) (instH hp_26_v2 x.2) k = Q_26_v2 x (fun y => k (Pat.inst (.nilp) y.1) (instH [some (.lst (.str), 9)] y.2)) := by kernel_rfl
theorem run_26_v2 {R : Type} (N : Nat) (x : aden ap_26_v2 × hden hp_26_v2) (k : KF R) : fnrun TT (E_26_v2 (R := R) N) (drawAny TT WW) (L_26_v2 N) true Try.f26 (instA ap_26_v2 x.1) (instH hp_26_v2 x.2) k = p_26_v2 N x (fun y => k (Pat.inst (.nilp) y.1) (instH [some (.lst (.str), 9)] y.2)) := (grun_26_v2 x k).trans (by kernel_rfl)
theorem good_26_v2 {R : Type} (N : Nat) : GD (X := R) Try.prog QQ 26 ap_26_v2 hp_26_v2 (fun (x : aden ap_26_v2 × hden hp_26_v2) k => p_26_v2 N x (fun y => k (Pat.inst (.nilp) y.1) (instH [some (.lst (.str), 9)] y.2))) :=
  gd_loud (E := E_26_v2 N) (p := fun (x : aden ap_26_v2 × hden hp_26_v2) k => p_26_v2 N x (fun y => k (Pat.inst (.nilp) y.1) (instH [some (.lst (.str), 9)] y.2))) mixed tyok (eok_26_v2 N) Try.func26 (by kernel_rfl) (by kernel_rfl) (by kernel_rfl) (lok_26_v2 N) (fun x k => run_26_v2 N x k)

def ap_25 : List Pat := [.nilp]
def hp_25 : List (Option (Pat × Nat)) := []
def p_25 {R : Type} (N : Nat) (x : (Unit × Unit) × (Unit)) (κ0 : (ByteArray × (Unit)) → Option R) : Option R :=
κ0 (⟨#[]⟩, ())

abbrev Tp_25 (R : Type) : Type := (Unit × Unit) × (Unit) → ((ByteArray × (Unit)) → Option R) → Option R
def Q_25 {R : Type} (x : (Unit × Unit) × (Unit)) (κ0 : (ByteArray × (Unit)) → Option R) : Option R :=
κ0 (⟨#[]⟩, ())
def EG_25 {R : Type} : Env R := Env.base QQ LN
def LG_25 {R : Type} : Loops R := Loops.none
def E_25 {R : Type} (N : Nat) : Env R := EG_25
theorem eok_25 {R : Type} (N : Nat) : EK Try.prog (E_25 (R := R) N) := ek_base _ _
def L_25 {R : Type} (N : Nat) : Loops R := LG_25
theorem lok_25 {R : Type} (N : Nat) : LOK 0 TT (E_25 (R := R) N) (drawAny TT WW) (L_25 N) (bodyOf Try.f25) := loops_nil (by kernel_rfl)
theorem grun_25 {R : Type} (x : aden ap_25 × hden hp_25) (k : KF R) : fnrun TT (EG_25) (drawAny TT WW) (LG_25) true Try.f25 (instA ap_25 x.1) (instH hp_25 x.2) k = Q_25 x (fun y => k (Pat.inst (.str) y.1) (instH [] y.2)) := by kernel_rfl
theorem run_25 {R : Type} (N : Nat) (x : aden ap_25 × hden hp_25) (k : KF R) : fnrun TT (E_25 (R := R) N) (drawAny TT WW) (L_25 N) true Try.f25 (instA ap_25 x.1) (instH hp_25 x.2) k = p_25 N x (fun y => k (Pat.inst (.str) y.1) (instH [] y.2)) := (grun_25 x k).trans (by kernel_rfl)
theorem good_25 {R : Type} (N : Nat) : GD (X := R) Try.prog QQ 25 ap_25 hp_25 (fun (x : aden ap_25 × hden hp_25) k => p_25 N x (fun y => k (Pat.inst (.str) y.1) (instH [] y.2))) :=
  gd_loud (E := E_25 N) (p := fun (x : aden ap_25 × hden hp_25) k => p_25 N x (fun y => k (Pat.inst (.str) y.1) (instH [] y.2))) mixed tyok (eok_25 N) Try.func25 (by kernel_rfl) (by kernel_rfl) (by kernel_rfl) (lok_25 N) (fun x k => run_25 N x k)

def ap_55 : List Pat := [.nilp]
def hp_55 : List (Option (Pat × Nat)) := []
def p_55 {R : Type} (N : Nat) (x : (Unit × Unit) × (Unit)) (κ0 : (Unit × (Unit)) → Option R) : Option R :=
κ0 ((), ())

abbrev Tp_55 (R : Type) : Type := (Unit × Unit) × (Unit) → ((Unit × (Unit)) → Option R) → Option R
def Q_55 {R : Type} (x : (Unit × Unit) × (Unit)) (κ0 : (Unit × (Unit)) → Option R) : Option R :=
κ0 ((), ())
def EG_55 {R : Type} : Env R := Env.base QQ LN
def LG_55 {R : Type} : Loops R := Loops.none
def E_55 {R : Type} (N : Nat) : Env R := EG_55
theorem eok_55 {R : Type} (N : Nat) : EK Try.prog (E_55 (R := R) N) := ek_base _ _
def L_55 {R : Type} (N : Nat) : Loops R := LG_55
theorem lok_55 {R : Type} (N : Nat) : LOK 0 TT (E_55 (R := R) N) (drawAny TT WW) (L_55 N) (bodyOf Try.f55) := loops_nil (by kernel_rfl)
theorem grun_55 {R : Type} (x : aden ap_55 × hden hp_55) (k : KF R) : fnrun TT (EG_55) (drawAny TT WW) (LG_55) false Try.f55 (instA ap_55 x.1) (instH hp_55 x.2) k = Q_55 x (fun y => k (Pat.inst (.nils) y.1) (instH [] y.2)) := by kernel_rfl
theorem run_55 {R : Type} (N : Nat) (x : aden ap_55 × hden hp_55) (k : KF R) : fnrun TT (E_55 (R := R) N) (drawAny TT WW) (L_55 N) false Try.f55 (instA ap_55 x.1) (instH hp_55 x.2) k = p_55 N x (fun y => k (Pat.inst (.nils) y.1) (instH [] y.2)) := (grun_55 x k).trans (by kernel_rfl)
theorem good_55 {R : Type} (N : Nat) : GD (X := R) Try.prog QQ 55 ap_55 hp_55 (fun (x : aden ap_55 × hden hp_55) k => p_55 N x (fun y => k (Pat.inst (.nils) y.1) (instH [] y.2))) :=
  gd_loud (E := E_55 N) (p := fun (x : aden ap_55 × hden hp_55) k => p_55 N x (fun y => k (Pat.inst (.nils) y.1) (instH [] y.2))) mixed tyok (eok_55 N) Try.func55 (by kernel_rfl) (by kernel_rfl) (by kernel_rfl) (lok_55 N) (fun x k => run_55 N x k)

def lv_56_6 : Live := [(3, none), (5, none), (11, none), (12, none), (13, none), (17, none)]
def pt_56_6 : SPat := ⟨[(3, .sl 0), (5, .int .u64), (11, .ros (.int .u64)), (12, .int .i64), (13, .int .i64), (17, .int .i64)], [some (.lst (.int .u8), 5)]⟩
def px_56_6_0 : SPat := ⟨[(3, .sl 0), (11, .ros (.int .u64)), (12, .int .i64), (13, .int .i64)], [some (.lst (.int .u8), 5)]⟩
def lo_56_6 : Exit → Live
  | .exit 2 => [(3, none), (11, none), (12, none), (13, none)]
  | _ => []
def B_56_6 {R : Type} (N : Nat) (rec : ((Unit × Int × (List Int) × Int × Int × Int × Unit) × ((List Int) × Unit)) → Option R) (x : ((Unit × Int × (List Int) × Int × Int × Int × Unit) × ((List Int) × Unit))) (κ0 : ((Unit × (List Int) × Int × Int × Unit) × ((List Int) × Unit)) → Option R) : Option R :=
let i1041 : Int := x.1.2.1
let l1042 : (List Int) := x.1.2.2.1
let i1043 : Int := x.1.2.2.2.1
let i1044 : Int := x.1.2.2.2.2.1
let i1045 : Int := x.1.2.2.2.2.2.1
let l1046 : (List Int) := x.2.1
bif (decide (i1045 < 8)) then (
let i1047 : Int := mulA .i64 8 i1045
bif decide (i1047 < 0) then none else (
let i1048 : Int := shrA .u64 i1041 i1047
let i1049 : Int := IntKind.wrap .u8 i1048
let l1050 : (List Int) := [i1049]
bif (decide ((List.length l1046 + List.length l1050) * 1 ≤ 140737488355328) && true) then (
let l1051 : (List Int) := (l1046 ++ l1050)
let i1052 : Int := addA .i64 i1045 1
rec (((), i1041, l1042, i1043, i1044, i1052, ()), (l1051, ()))) else none)) else (
κ0 (((), l1042, i1043, i1044, ()), (l1046, ())))
def l_56_6 {R : Type} (N : Nat) : Nat → ((Unit × Int × (List Int) × Int × Int × Int × Unit) × ((List Int) × Unit)) → (((Unit × (List Int) × Int × Int × Unit) × ((List Int) × Unit)) → Option R) → Option R
  | 0, _, _ => none
  | n + 1, x, κ0 => B_56_6 N (fun y => l_56_6 N n y κ0) x κ0
def lv_56_3 : Live := [(3, none), (11, none), (12, none), (13, none)]
def pt_56_3 : SPat := ⟨[(3, .sl 0), (11, .ros (.int .u64)), (12, .int .i64), (13, .int .i64)], [some (.lst (.int .u8), 5)]⟩
def px_56_3_0 : SPat := ⟨[(3, .sl 0)], [some (.lst (.int .u8), 5)]⟩
def lo_56_3 : Exit → Live
  | .exit 0 => [(3, none)]
  | _ => []
def B_56_3 {R : Type} (N : Nat) (rec : ((Unit × (List Int) × Int × Int × Unit) × ((List Int) × Unit)) → Option R) (x : ((Unit × (List Int) × Int × Int × Unit) × ((List Int) × Unit))) (κ0 : ((Unit × Unit) × ((List Int) × Unit)) → Option R) : Option R :=
let l1036 : (List Int) := x.1.2.1
let i1037 : Int := x.1.2.2.1
let i1038 : Int := x.1.2.2.2.1
let l1039 : (List Int) := x.2.1
bif (decide (i1038 < i1037)) then (
bif decide (0 ≤ i1038) then (
bif decide (i1038 < ((List.length l1036) : Int)) then (
let p1040 : Int := (List.getD l1036 ((Int.toNat i1038)) (Sch.zero (.int .u64)))
l_56_6 N N (((), p1040, l1036, i1037, i1038, 0, ()), (l1039, ())) (fun y1053 =>
let l1054 : (List Int) := y1053.1.2.1
let i1055 : Int := y1053.1.2.2.1
let i1056 : Int := y1053.1.2.2.2.1
let l1057 : (List Int) := y1053.2.1
let i1058 : Int := addA .i64 i1056 1
rec (((), l1054, i1055, i1058, ()), (l1057, ())))) else none) else none) else (
κ0 (((), ()), (l1039, ())))
def l_56_3 {R : Type} (N : Nat) : Nat → ((Unit × (List Int) × Int × Int × Unit) × ((List Int) × Unit)) → (((Unit × Unit) × ((List Int) × Unit)) → Option R) → Option R
  | 0, _, _ => none
  | n + 1, x, κ0 => B_56_3 N (fun y => l_56_3 N n y κ0) x κ0
def ap_56 : List Pat := [.ros (.int .u64)]
def hp_56 : List (Option (Pat × Nat)) := []
def p_56 {R : Type} (N : Nat) (x : ((List Int) × Unit) × (Unit)) (κ0 : (Unit × ((List Int) × Unit)) → Option R) : Option R :=
let l1031 : (List Int) := x.1.1
let i1032 : Int := (((List.length l1031) : Nat) : Int)
let i1033 : Int := mulA .i64 8 i1032
bif decide (0 ≤ i1033) then (
bif decide (((1 : Nat) : Int) * i1033 ≤ 281474976710656) then (
bif decide (i1033 ≤ 9223372036854775807) then (
let l1034 : (List Int) := List.replicate 0 (Sch.zero (.int .u8))
let i1035 : Int := (((List.length l1031) : Nat) : Int)
l_56_3 N N (((), l1031, i1035, 0, ()), (l1034, ())) (fun y1059 =>
let l1060 : (List Int) := y1059.2.1
κ0 ((), (l1060, ())))) else none) else none) else none

abbrev Tl_56_6 (R : Type) : Type := ((Unit × Int × (List Int) × Int × Int × Int × Unit) × ((List Int) × Unit)) → (((Unit × (List Int) × Int × Int × Unit) × ((List Int) × Unit)) → Option R) → Option R
abbrev Tl_56_3 (R : Type) : Type := ((Unit × (List Int) × Int × Int × Unit) × ((List Int) × Unit)) → (((Unit × Unit) × ((List Int) × Unit)) → Option R) → Option R
abbrev Tp_56 (R : Type) : Type := ((List Int) × Unit) × (Unit) → ((Unit × ((List Int) × Unit)) → Option R) → Option R
def Q_56 {R : Type} (m_56_6 : Tl_56_6 R) (m_56_3 : Tl_56_3 R) (x : ((List Int) × Unit) × (Unit)) (κ0 : (Unit × ((List Int) × Unit)) → Option R) : Option R :=
let l1031 : (List Int) := x.1.1
let i1032 : Int := (((List.length l1031) : Nat) : Int)
let i1033 : Int := mulA .i64 8 i1032
bif decide (0 ≤ i1033) then (
bif decide (((1 : Nat) : Int) * i1033 ≤ 281474976710656) then (
bif decide (i1033 ≤ 9223372036854775807) then (
let l1034 : (List Int) := List.replicate 0 (Sch.zero (.int .u8))
let i1035 : Int := (((List.length l1031) : Nat) : Int)
m_56_3 (((), l1031, i1035, 0, ()), (l1034, ())) (fun y1059 =>
let l1060 : (List Int) := y1059.2.1
κ0 ((), (l1060, ())))) else none) else none) else none
def C_56_6 {R : Type} (m_56_6 : Tl_56_6 R) (m_56_3 : Tl_56_3 R) (rec : ((Unit × Int × (List Int) × Int × Int × Int × Unit) × ((List Int) × Unit)) → Option R) (x : ((Unit × Int × (List Int) × Int × Int × Int × Unit) × ((List Int) × Unit))) (κ0 : ((Unit × (List Int) × Int × Int × Unit) × ((List Int) × Unit)) → Option R) : Option R :=
let i1041 : Int := x.1.2.1
let l1042 : (List Int) := x.1.2.2.1
let i1043 : Int := x.1.2.2.2.1
let i1044 : Int := x.1.2.2.2.2.1
let i1045 : Int := x.1.2.2.2.2.2.1
let l1046 : (List Int) := x.2.1
bif (decide (i1045 < 8)) then (
let i1047 : Int := mulA .i64 8 i1045
bif decide (i1047 < 0) then none else (
let i1048 : Int := shrA .u64 i1041 i1047
let i1049 : Int := IntKind.wrap .u8 i1048
let l1050 : (List Int) := [i1049]
bif (decide ((List.length l1046 + List.length l1050) * 1 ≤ 140737488355328) && true) then (
let l1051 : (List Int) := (l1046 ++ l1050)
let i1052 : Int := addA .i64 i1045 1
rec (((), i1041, l1042, i1043, i1044, i1052, ()), (l1051, ()))) else none)) else (
κ0 (((), l1042, i1043, i1044, ()), (l1046, ())))
def C_56_3 {R : Type} (m_56_6 : Tl_56_6 R) (m_56_3 : Tl_56_3 R) (rec : ((Unit × (List Int) × Int × Int × Unit) × ((List Int) × Unit)) → Option R) (x : ((Unit × (List Int) × Int × Int × Unit) × ((List Int) × Unit))) (κ0 : ((Unit × Unit) × ((List Int) × Unit)) → Option R) : Option R :=
let l1036 : (List Int) := x.1.2.1
let i1037 : Int := x.1.2.2.1
let i1038 : Int := x.1.2.2.2.1
let l1039 : (List Int) := x.2.1
bif (decide (i1038 < i1037)) then (
bif decide (0 ≤ i1038) then (
bif decide (i1038 < ((List.length l1036) : Int)) then (
let p1040 : Int := (List.getD l1036 ((Int.toNat i1038)) (Sch.zero (.int .u64)))
m_56_6 (((), p1040, l1036, i1037, i1038, 0, ()), (l1039, ())) (fun y1053 =>
let l1054 : (List Int) := y1053.1.2.1
let i1055 : Int := y1053.1.2.2.1
let i1056 : Int := y1053.1.2.2.2.1
let l1057 : (List Int) := y1053.2.1
let i1058 : Int := addA .i64 i1056 1
rec (((), l1054, i1055, i1058, ()), (l1057, ())))) else none) else none) else (
κ0 (((), ()), (l1039, ())))
def EG_56 {R : Type} : Env R := Env.base QQ LN
def LG_56 {R : Type} (m_56_6 : Tl_56_6 R) (m_56_3 : Tl_56_3 R) : Loops R := ((Loops.none).add 6 (loopBy 0 lv_56_6 pt_56_6 (fun x k => m_56_6 x (fun y => k (.exit 2) (px_56_6_0.inst y))))).add 3 (loopBy 0 lv_56_3 pt_56_3 (fun x k => m_56_3 x (fun y => k (.exit 0) (px_56_3_0.inst y))))
def E_56 {R : Type} (N : Nat) : Env R := EG_56
theorem eok_56 {R : Type} (N : Nat) : EK Try.prog (E_56 (R := R) N) := ek_base _ _
def L_56 {R : Type} (N : Nat) : Loops R := LG_56 (l_56_6 N N) (l_56_3 N N)
theorem gstep_56_6 {R : Type} (m_56_6 : Tl_56_6 R) (m_56_3 : Tl_56_3 R) (n : Nat) (x : pt_56_6.den) (k : Exit → St → Option R) : iter 0 lv_56_6 lo_56_6 (aexec TT (EG_56) (drawAny TT WW) (LG_56 m_56_6 m_56_3) (loopAt 6 (bodyOf Try.f56))) (n + 1) (pt_56_6.inst x) k = C_56_6 m_56_6 m_56_3 (fun y => iter 0 lv_56_6 lo_56_6 (aexec TT (EG_56) (drawAny TT WW) (LG_56 m_56_6 m_56_3) (loopAt 6 (bodyOf Try.f56))) n (pt_56_6.inst y) k) x (fun y => k (.exit 2) (px_56_6_0.inst y)) := by kernel_rfl
theorem step_56_6 {R : Type} (N n : Nat) (x : pt_56_6.den) (k : Exit → St → Option R) : iter 0 lv_56_6 lo_56_6 (aexec TT (E_56 (R := R) N) (drawAny TT WW) (L_56 N) (loopAt 6 (bodyOf Try.f56))) (n + 1) (pt_56_6.inst x) k = B_56_6 N (fun y => iter 0 lv_56_6 lo_56_6 (aexec TT (E_56 (R := R) N) (drawAny TT WW) (L_56 N) (loopAt 6 (bodyOf Try.f56))) n (pt_56_6.inst y) k) x (fun y => k (.exit 2) (px_56_6_0.inst y)) := (gstep_56_6 (l_56_6 N N) (l_56_3 N N) n x k).trans (by kernel_rfl)
theorem eq_56_6 {R : Type} (N : Nat) : ∀ (n : Nat) (x : pt_56_6.den) (k : Exit → St → Option R), iter 0 lv_56_6 lo_56_6 (aexec TT (E_56 (R := R) N) (drawAny TT WW) (L_56 N) (loopAt 6 (bodyOf Try.f56))) n (pt_56_6.inst x) k = l_56_6 N n x (fun y => k (.exit 2) (px_56_6_0.inst y)) :=
  iter_eq (K := Exit → St → Option R) (ks := fun k => k) (l := fun n (x : pt_56_6.den) k => l_56_6 N n x (fun y => k (.exit 2) (px_56_6_0.inst y))) (B := fun (rec : pt_56_6.den → Option R) (x : pt_56_6.den) k => B_56_6 N rec x (fun y => k (.exit 2) (px_56_6_0.inst y))) (fun _ _ => rfl) (fun _ _ _ => rfl) (fun n x k => step_56_6 N n x k)
theorem rounds_56_6 {R : Type} (N : Nat) : Rounds 0 TT (E_56 (R := R) N) (drawAny TT WW) (L_56 N) 6 (loopAt 6 (bodyOf Try.f56)) :=
  rounds_of (p := pt_56_6) (l := fun (x : pt_56_6.den) k => l_56_6 N N x (fun y => k (.exit 2) (px_56_6_0.inst y))) (fun s k => rfl) (fun x k => eq_56_6 N N x k)
theorem gstep_56_3 {R : Type} (m_56_6 : Tl_56_6 R) (m_56_3 : Tl_56_3 R) (n : Nat) (x : pt_56_3.den) (k : Exit → St → Option R) : iter 0 lv_56_3 lo_56_3 (aexec TT (EG_56) (drawAny TT WW) (LG_56 m_56_6 m_56_3) (loopAt 3 (bodyOf Try.f56))) (n + 1) (pt_56_3.inst x) k = C_56_3 m_56_6 m_56_3 (fun y => iter 0 lv_56_3 lo_56_3 (aexec TT (EG_56) (drawAny TT WW) (LG_56 m_56_6 m_56_3) (loopAt 3 (bodyOf Try.f56))) n (pt_56_3.inst y) k) x (fun y => k (.exit 0) (px_56_3_0.inst y)) := by kernel_rfl
theorem step_56_3 {R : Type} (N n : Nat) (x : pt_56_3.den) (k : Exit → St → Option R) : iter 0 lv_56_3 lo_56_3 (aexec TT (E_56 (R := R) N) (drawAny TT WW) (L_56 N) (loopAt 3 (bodyOf Try.f56))) (n + 1) (pt_56_3.inst x) k = B_56_3 N (fun y => iter 0 lv_56_3 lo_56_3 (aexec TT (E_56 (R := R) N) (drawAny TT WW) (L_56 N) (loopAt 3 (bodyOf Try.f56))) n (pt_56_3.inst y) k) x (fun y => k (.exit 0) (px_56_3_0.inst y)) := (gstep_56_3 (l_56_6 N N) (l_56_3 N N) n x k).trans (by kernel_rfl)
theorem eq_56_3 {R : Type} (N : Nat) : ∀ (n : Nat) (x : pt_56_3.den) (k : Exit → St → Option R), iter 0 lv_56_3 lo_56_3 (aexec TT (E_56 (R := R) N) (drawAny TT WW) (L_56 N) (loopAt 3 (bodyOf Try.f56))) n (pt_56_3.inst x) k = l_56_3 N n x (fun y => k (.exit 0) (px_56_3_0.inst y)) :=
  iter_eq (K := Exit → St → Option R) (ks := fun k => k) (l := fun n (x : pt_56_3.den) k => l_56_3 N n x (fun y => k (.exit 0) (px_56_3_0.inst y))) (B := fun (rec : pt_56_3.den → Option R) (x : pt_56_3.den) k => B_56_3 N rec x (fun y => k (.exit 0) (px_56_3_0.inst y))) (fun _ _ => rfl) (fun _ _ _ => rfl) (fun n x k => step_56_3 N n x k)
theorem rounds_56_3 {R : Type} (N : Nat) : Rounds 0 TT (E_56 (R := R) N) (drawAny TT WW) (L_56 N) 3 (loopAt 3 (bodyOf Try.f56)) :=
  rounds_of (p := pt_56_3) (l := fun (x : pt_56_3.den) k => l_56_3 N N x (fun y => k (.exit 0) (px_56_3_0.inst y))) (fun s k => rfl) (fun x k => eq_56_3 N N x k)
theorem loops_56 : loopsIn (bodyOf Try.f56) = [(3, loopAt 3 (bodyOf Try.f56)), (6, loopAt 6 (bodyOf Try.f56))] := by kernel_rfl
theorem lok_56 {R : Type} (N : Nat) : LOK 0 TT (E_56 (R := R) N) (drawAny TT WW) (L_56 N) (bodyOf Try.f56) := loops_all loops_56 (by
  simp only [List.forall_mem_cons, List.not_mem_nil, false_implies, implies_true, and_true]
  exact ⟨rounds_56_3 N, rounds_56_6 N⟩)
theorem grun_56 {R : Type} (m_56_6 : Tl_56_6 R) (m_56_3 : Tl_56_3 R) (x : aden ap_56 × hden hp_56) (k : KF R) : fnrun TT (EG_56) (drawAny TT WW) (LG_56 m_56_6 m_56_3) false Try.f56 (instA ap_56 x.1) (instH hp_56 x.2) k = Q_56 m_56_6 m_56_3 x (fun y => k (Pat.inst (.sl 0) y.1) (instH [some (.lst (.int .u8), 5)] y.2)) := by kernel_rfl
theorem run_56 {R : Type} (N : Nat) (x : aden ap_56 × hden hp_56) (k : KF R) : fnrun TT (E_56 (R := R) N) (drawAny TT WW) (L_56 N) false Try.f56 (instA ap_56 x.1) (instH hp_56 x.2) k = p_56 N x (fun y => k (Pat.inst (.sl 0) y.1) (instH [some (.lst (.int .u8), 5)] y.2)) := (grun_56 (l_56_6 N N) (l_56_3 N N) x k).trans (by kernel_rfl)
theorem good_56 {R : Type} (N : Nat) : GD (X := R) Try.prog QQ 56 ap_56 hp_56 (fun (x : aden ap_56 × hden hp_56) k => p_56 N x (fun y => k (Pat.inst (.sl 0) y.1) (instH [some (.lst (.int .u8), 5)] y.2))) :=
  gd_loud (E := E_56 N) (p := fun (x : aden ap_56 × hden hp_56) k => p_56 N x (fun y => k (Pat.inst (.sl 0) y.1) (instH [some (.lst (.int .u8), 5)] y.2))) mixed tyok (eok_56 N) Try.func56 (by kernel_rfl) (by kernel_rfl) (by kernel_rfl) (lok_56 N) (fun x k => run_56 N x k)

def ap_25_v1 : List Pat := [.ptr 0 []]
def hp_25_v1 : List (Option (Pat × Nat)) := [some (.node (.fcons (.nilp) (.fcons (.vec (.int .u64) 8) (.fcons (.int .i64) (.fcons (.int .u64) (.fnil))))), 115)]
def p_25_v1 {R : Type} (N : Nat) (x : (Unit × Unit) × ((Unit × ((Nat → Int) × (Int × (Int × Unit)))) × Unit)) (κ0 : (ByteArray × ((Unit × ((Nat → Int) × (Int × (Int × Unit)))) × Unit)) → Option R) : Option R :=
let a1020 : (Nat → Int) := x.2.1.2.1
let i1021 : Int := x.2.1.2.2.1
let i1022 : Int := x.2.1.2.2.2.1
p_55 N (((), ()), ()) (fun y1023 =>
let i1024 : Int := IntKind.wrap .u64 0
let i1025 : Int := addA .u64 i1022 i1024
let i1026 : Int := subA .i64 128 0
bif decide (0 ≤ i1026) then (
bif decide (i1026 ≤ 140737488355328) then (
bif decide (List.length (List.replicate ((Int.toNat i1026)) (Sch.zero (.int .u8))) * 1 ≤ 140737488355328) then (
let l1027 : (List Int) := List.replicate ((Int.toNat i1026)) (Sch.zero (.int .u8))
p_12 N ((a1020, l1027, i1025, true, ()), ()) (fun y1028 =>
let a1029 : (Nat → Int) := y1028.1
let i1030 : Int := y1028.2.1
p_56 N ((((List.range 8).map fun j => a1029 (0 + j)), ()), ()) (fun y1061 =>
let l1062 : (List Int) := y1061.2.1
bif decide (0 ≤ i1021) then (
bif decide (i1021 ≤ (((List.length l1062) : Nat) : Int)) then (
bif decide (0 ≤ i1021) then (
let l1063 : (List Int) := List.take ((Int.toNat i1021) - 0) (List.drop 0 l1062)
let s1064 : ByteArray := listStr l1063
κ0 (s1064, (((), (a1020, (i1021, (i1022, ())))), ()))) else none) else none) else none))) else none) else none) else none)

abbrev Tp_25_v1 (R : Type) : Type := (Unit × Unit) × ((Unit × ((Nat → Int) × (Int × (Int × Unit)))) × Unit) → ((ByteArray × ((Unit × ((Nat → Int) × (Int × (Int × Unit)))) × Unit)) → Option R) → Option R
def Q_25_v1 {R : Type} (q_55 : Tp_55 R) (q_12 : Tp_12 R) (q_56 : Tp_56 R) (x : (Unit × Unit) × ((Unit × ((Nat → Int) × (Int × (Int × Unit)))) × Unit)) (κ0 : (ByteArray × ((Unit × ((Nat → Int) × (Int × (Int × Unit)))) × Unit)) → Option R) : Option R :=
let a1020 : (Nat → Int) := x.2.1.2.1
let i1021 : Int := x.2.1.2.2.1
let i1022 : Int := x.2.1.2.2.2.1
q_55 (((), ()), ()) (fun y1023 =>
let i1024 : Int := IntKind.wrap .u64 0
let i1025 : Int := addA .u64 i1022 i1024
let i1026 : Int := subA .i64 128 0
bif decide (0 ≤ i1026) then (
bif decide (i1026 ≤ 140737488355328) then (
bif decide (List.length (List.replicate ((Int.toNat i1026)) (Sch.zero (.int .u8))) * 1 ≤ 140737488355328) then (
let l1027 : (List Int) := List.replicate ((Int.toNat i1026)) (Sch.zero (.int .u8))
q_12 ((a1020, l1027, i1025, true, ()), ()) (fun y1028 =>
let a1029 : (Nat → Int) := y1028.1
let i1030 : Int := y1028.2.1
q_56 ((((List.range 8).map fun j => a1029 (0 + j)), ()), ()) (fun y1061 =>
let l1062 : (List Int) := y1061.2.1
bif decide (0 ≤ i1021) then (
bif decide (i1021 ≤ (((List.length l1062) : Nat) : Int)) then (
bif decide (0 ≤ i1021) then (
let l1063 : (List Int) := List.take ((Int.toNat i1021) - 0) (List.drop 0 l1062)
let s1064 : ByteArray := listStr l1063
κ0 (s1064, (((), (a1020, (i1021, (i1022, ())))), ()))) else none) else none) else none))) else none) else none) else none)
def EG_25_v1 {R : Type} (q_55 : Tp_55 R) (q_12 : Tp_12 R) (q_56 : Tp_56 R) : Env R := (((Env.base QQ LN).add 55 ap_55 hp_55 (fun (x : aden ap_55 × hden hp_55) k => q_55 x (fun y => k (Pat.inst (.nils) y.1) (instH [] y.2)))).add 12 ap_12 hp_12 (fun (x : aden ap_12 × hden hp_12) k => q_12 x (fun y => k (Pat.inst (.tup (.fcons (.vec (.int .u64) 8) (.fcons (.int .i64) (.fnil)))) y) (instH hp_12 x.2)))).add 56 ap_56 hp_56 (fun (x : aden ap_56 × hden hp_56) k => q_56 x (fun y => k (Pat.inst (.sl 0) y.1) (instH [some (.lst (.int .u8), 5)] y.2)))
def LG_25_v1 {R : Type} : Loops R := Loops.none
def E_25_v1 {R : Type} (N : Nat) : Env R := EG_25_v1 (p_55 N) (p_12 N) (p_56 N)
theorem eok_25_v1 {R : Type} (N : Nat) : EK Try.prog (E_25_v1 (R := R) N) := ek_add (ek_add (ek_add (ek_base _ _) (good_55 N)) (good_12 N)) (good_56 N)
def L_25_v1 {R : Type} (N : Nat) : Loops R := LG_25_v1
theorem lok_25_v1 {R : Type} (N : Nat) : LOK 1 TT (E_25_v1 (R := R) N) (drawAny TT WW) (L_25_v1 N) (bodyOf Try.f25) := loops_nil (by kernel_rfl)
theorem grun_25_v1 {R : Type} (q_55 : Tp_55 R) (q_12 : Tp_12 R) (q_56 : Tp_56 R) (x : aden ap_25_v1 × hden hp_25_v1) (k : KF R) : fnrun TT (EG_25_v1 q_55 q_12 q_56) (drawAny TT WW) (LG_25_v1) true Try.f25 (instA ap_25_v1 x.1) (instH hp_25_v1 x.2) k = Q_25_v1 q_55 q_12 q_56 x (fun y => k (Pat.inst (.str) y.1) (instH [some (.node (.fcons (.nilp) (.fcons (.vec (.int .u64) 8) (.fcons (.int .i64) (.fcons (.int .u64) (.fnil))))), 115)] y.2)) := by kernel_rfl
theorem run_25_v1 {R : Type} (N : Nat) (x : aden ap_25_v1 × hden hp_25_v1) (k : KF R) : fnrun TT (E_25_v1 (R := R) N) (drawAny TT WW) (L_25_v1 N) true Try.f25 (instA ap_25_v1 x.1) (instH hp_25_v1 x.2) k = p_25_v1 N x (fun y => k (Pat.inst (.str) y.1) (instH [some (.node (.fcons (.nilp) (.fcons (.vec (.int .u64) 8) (.fcons (.int .i64) (.fcons (.int .u64) (.fnil))))), 115)] y.2)) := (grun_25_v1 (p_55 N) (p_12 N) (p_56 N) x k).trans (by kernel_rfl)
theorem good_25_v1 {R : Type} (N : Nat) : GD (X := R) Try.prog QQ 25 ap_25_v1 hp_25_v1 (fun (x : aden ap_25_v1 × hden hp_25_v1) k => p_25_v1 N x (fun y => k (Pat.inst (.str) y.1) (instH [some (.node (.fcons (.nilp) (.fcons (.vec (.int .u64) 8) (.fcons (.int .i64) (.fcons (.int .u64) (.fnil))))), 115)] y.2))) :=
  gd_loud (E := E_25_v1 N) (p := fun (x : aden ap_25_v1 × hden hp_25_v1) k => p_25_v1 N x (fun y => k (Pat.inst (.str) y.1) (instH [some (.node (.fcons (.nilp) (.fcons (.vec (.int .u64) 8) (.fcons (.int .i64) (.fcons (.int .u64) (.fnil))))), 115)] y.2))) mixed tyok (eok_25_v1 N) Try.func25 (by kernel_rfl) (by kernel_rfl) (by kernel_rfl) (lok_25_v1 N) (fun x k => run_25_v1 N x k)

def ap_55_v1 : List Pat := [.ptr 0 []]
def hp_55_v1 : List (Option (Pat × Nat)) := [some (.node (.fcons (.int .i64) (.fcons (.bool) (.fcons (.sl 1) (.fcons (.int .i64) (.fnil))))), 151), some (.lst (.int .u8), 5)]
def p_55_v1 {R : Type} (N : Nat) (x : (Unit × Unit) × ((Int × (Bool × (Unit × (Int × Unit)))) × (List Int) × Unit)) (κ0 : (Unit × ((Int × (Bool × (Unit × (Int × Unit)))) × (List Int) × (List Int) × Unit)) → Option R) : Option R :=
let i1095 : Int := x.2.1.1
let b1096 : Bool := x.2.1.2.1
let i1097 : Int := x.2.1.2.2.2.1
let l1098 : (List Int) := x.2.2.1
bif decide (List.length l1098 * 1 ≤ 140737488355328) then (
κ0 ((), ((i1095, (b1096, ((), (i1097, ())))), l1098, l1098, ()))) else none

abbrev Tp_55_v1 (R : Type) : Type := (Unit × Unit) × ((Int × (Bool × (Unit × (Int × Unit)))) × (List Int) × Unit) → ((Unit × ((Int × (Bool × (Unit × (Int × Unit)))) × (List Int) × (List Int) × Unit)) → Option R) → Option R
def Q_55_v1 {R : Type} (x : (Unit × Unit) × ((Int × (Bool × (Unit × (Int × Unit)))) × (List Int) × Unit)) (κ0 : (Unit × ((Int × (Bool × (Unit × (Int × Unit)))) × (List Int) × (List Int) × Unit)) → Option R) : Option R :=
let i1095 : Int := x.2.1.1
let b1096 : Bool := x.2.1.2.1
let i1097 : Int := x.2.1.2.2.2.1
let l1098 : (List Int) := x.2.2.1
bif decide (List.length l1098 * 1 ≤ 140737488355328) then (
κ0 ((), ((i1095, (b1096, ((), (i1097, ())))), l1098, l1098, ()))) else none
def EG_55_v1 {R : Type} : Env R := Env.base QQ LN
def LG_55_v1 {R : Type} : Loops R := Loops.none
def E_55_v1 {R : Type} (N : Nat) : Env R := EG_55_v1
theorem eok_55_v1 {R : Type} (N : Nat) : EK Try.prog (E_55_v1 (R := R) N) := ek_base _ _
def L_55_v1 {R : Type} (N : Nat) : Loops R := LG_55_v1
theorem lok_55_v1 {R : Type} (N : Nat) : LOK 2 TT (E_55_v1 (R := R) N) (drawAny TT WW) (L_55_v1 N) (bodyOf Try.f55) := loops_nil (by kernel_rfl)
theorem grun_55_v1 {R : Type} (x : aden ap_55_v1 × hden hp_55_v1) (k : KF R) : fnrun TT (EG_55_v1) (drawAny TT WW) (LG_55_v1) false Try.f55 (instA ap_55_v1 x.1) (instH hp_55_v1 x.2) k = Q_55_v1 x (fun y => k (Pat.inst (.sl 2) y.1) (instH [some (.node (.fcons (.int .i64) (.fcons (.bool) (.fcons (.sl 1) (.fcons (.int .i64) (.fnil))))), 151), some (.lst (.int .u8), 5), some (.lst (.int .u8), 5)] y.2)) := by kernel_rfl
theorem run_55_v1 {R : Type} (N : Nat) (x : aden ap_55_v1 × hden hp_55_v1) (k : KF R) : fnrun TT (E_55_v1 (R := R) N) (drawAny TT WW) (L_55_v1 N) false Try.f55 (instA ap_55_v1 x.1) (instH hp_55_v1 x.2) k = p_55_v1 N x (fun y => k (Pat.inst (.sl 2) y.1) (instH [some (.node (.fcons (.int .i64) (.fcons (.bool) (.fcons (.sl 1) (.fcons (.int .i64) (.fnil))))), 151), some (.lst (.int .u8), 5), some (.lst (.int .u8), 5)] y.2)) := (grun_55_v1 x k).trans (by kernel_rfl)
theorem good_55_v1 {R : Type} (N : Nat) : GD (X := R) Try.prog QQ 55 ap_55_v1 hp_55_v1 (fun (x : aden ap_55_v1 × hden hp_55_v1) k => p_55_v1 N x (fun y => k (Pat.inst (.sl 2) y.1) (instH [some (.node (.fcons (.int .i64) (.fcons (.bool) (.fcons (.sl 1) (.fcons (.int .i64) (.fnil))))), 151), some (.lst (.int .u8), 5), some (.lst (.int .u8), 5)] y.2))) :=
  gd_loud (E := E_55_v1 N) (p := fun (x : aden ap_55_v1 × hden hp_55_v1) k => p_55_v1 N x (fun y => k (Pat.inst (.sl 2) y.1) (instH [some (.node (.fcons (.int .i64) (.fcons (.bool) (.fcons (.sl 1) (.fcons (.int .i64) (.fnil))))), 151), some (.lst (.int .u8), 5), some (.lst (.int .u8), 5)] y.2))) mixed tyok (eok_55_v1 N) Try.func55 (by kernel_rfl) (by kernel_rfl) (by kernel_rfl) (lok_55_v1 N) (fun x k => run_55_v1 N x k)

def ap_25_v2 : List Pat := [.ptr 0 []]
def hp_25_v2 : List (Option (Pat × Nat)) := [some (.node (.fcons (.ptr 1 []) (.fcons (.vec (.int .u64) 8) (.fcons (.int .i64) (.fcons (.int .u64) (.fnil))))), 115), some (.node (.fcons (.int .i64) (.fcons (.bool) (.fcons (.sl 2) (.fcons (.int .i64) (.fnil))))), 151), some (.lst (.int .u8), 5)]
def p_25_v2 {R : Type} (N : Nat) (x : (Unit × Unit) × ((Unit × ((Nat → Int) × (Int × (Int × Unit)))) × (Int × (Bool × (Unit × (Int × Unit)))) × (List Int) × Unit)) (κ0 : (ByteArray × ((Unit × ((Nat → Int) × (Int × (Int × Unit)))) × (Int × (Bool × (Unit × (Int × Unit)))) × (List Int) × Unit)) → Option R) : Option R :=
let a1088 : (Nat → Int) := x.2.1.2.1
let i1089 : Int := x.2.1.2.2.1
let i1090 : Int := x.2.1.2.2.2.1
let i1091 : Int := x.2.2.1.1
let b1092 : Bool := x.2.2.1.2.1
let i1093 : Int := x.2.2.1.2.2.2.1
let l1094 : (List Int) := x.2.2.2.1
p_55_v1 N (((), ()), ((i1091, (b1092, ((), (i1093, ())))), l1094, ())) (fun y1099 =>
let i1100 : Int := y1099.2.1.1
let b1101 : Bool := y1099.2.1.2.1
let i1102 : Int := y1099.2.1.2.2.2.1
let l1103 : (List Int) := y1099.2.2.1
let l1104 : (List Int) := y1099.2.2.2.1
let i1105 : Int := (((List.length l1104) : Nat) : Int)
let i1106 : Int := IntKind.wrap .u64 i1105
let i1107 : Int := addA .u64 i1090 i1106
let i1108 : Int := (((List.length l1104) : Nat) : Int)
let i1109 : Int := subA .i64 128 i1108
bif decide (0 ≤ i1109) then (
bif decide (i1109 ≤ 140737488355328) then (
bif (decide ((List.length l1104 + List.length (List.replicate ((Int.toNat i1109)) (Sch.zero (.int .u8)))) * 1 ≤ 140737488355328) && true) then (
let l1110 : (List Int) := (l1104 ++ List.replicate ((Int.toNat i1109)) (Sch.zero (.int .u8)))
p_12 N ((a1088, l1110, i1107, true, ()), ()) (fun y1111 =>
let a1112 : (Nat → Int) := y1111.1
let i1113 : Int := y1111.2.1
p_56 N ((((List.range 8).map fun j => a1112 (0 + j)), ()), ()) (fun y1114 =>
let l1115 : (List Int) := y1114.2.1
bif decide (0 ≤ i1089) then (
bif decide (i1089 ≤ (((List.length l1115) : Nat) : Int)) then (
bif decide (0 ≤ i1089) then (
let l1116 : (List Int) := List.take ((Int.toNat i1089) - 0) (List.drop 0 l1115)
let s1117 : ByteArray := listStr l1116
κ0 (s1117, (((), (a1088, (i1089, (i1090, ())))), (i1100, (b1101, ((), (i1102, ())))), l1103, ()))) else none) else none) else none))) else none) else none) else none)

abbrev Tp_25_v2 (R : Type) : Type := (Unit × Unit) × ((Unit × ((Nat → Int) × (Int × (Int × Unit)))) × (Int × (Bool × (Unit × (Int × Unit)))) × (List Int) × Unit) → ((ByteArray × ((Unit × ((Nat → Int) × (Int × (Int × Unit)))) × (Int × (Bool × (Unit × (Int × Unit)))) × (List Int) × Unit)) → Option R) → Option R
def Q_25_v2 {R : Type} (q_55_v1 : Tp_55_v1 R) (q_12 : Tp_12 R) (q_56 : Tp_56 R) (x : (Unit × Unit) × ((Unit × ((Nat → Int) × (Int × (Int × Unit)))) × (Int × (Bool × (Unit × (Int × Unit)))) × (List Int) × Unit)) (κ0 : (ByteArray × ((Unit × ((Nat → Int) × (Int × (Int × Unit)))) × (Int × (Bool × (Unit × (Int × Unit)))) × (List Int) × Unit)) → Option R) : Option R :=
let a1088 : (Nat → Int) := x.2.1.2.1
let i1089 : Int := x.2.1.2.2.1
let i1090 : Int := x.2.1.2.2.2.1
let i1091 : Int := x.2.2.1.1
let b1092 : Bool := x.2.2.1.2.1
let i1093 : Int := x.2.2.1.2.2.2.1
let l1094 : (List Int) := x.2.2.2.1
q_55_v1 (((), ()), ((i1091, (b1092, ((), (i1093, ())))), l1094, ())) (fun y1099 =>
let i1100 : Int := y1099.2.1.1
let b1101 : Bool := y1099.2.1.2.1
let i1102 : Int := y1099.2.1.2.2.2.1
let l1103 : (List Int) := y1099.2.2.1
let l1104 : (List Int) := y1099.2.2.2.1
let i1105 : Int := (((List.length l1104) : Nat) : Int)
let i1106 : Int := IntKind.wrap .u64 i1105
let i1107 : Int := addA .u64 i1090 i1106
let i1108 : Int := (((List.length l1104) : Nat) : Int)
let i1109 : Int := subA .i64 128 i1108
bif decide (0 ≤ i1109) then (
bif decide (i1109 ≤ 140737488355328) then (
bif (decide ((List.length l1104 + List.length (List.replicate ((Int.toNat i1109)) (Sch.zero (.int .u8)))) * 1 ≤ 140737488355328) && true) then (
let l1110 : (List Int) := (l1104 ++ List.replicate ((Int.toNat i1109)) (Sch.zero (.int .u8)))
q_12 ((a1088, l1110, i1107, true, ()), ()) (fun y1111 =>
let a1112 : (Nat → Int) := y1111.1
let i1113 : Int := y1111.2.1
q_56 ((((List.range 8).map fun j => a1112 (0 + j)), ()), ()) (fun y1114 =>
let l1115 : (List Int) := y1114.2.1
bif decide (0 ≤ i1089) then (
bif decide (i1089 ≤ (((List.length l1115) : Nat) : Int)) then (
bif decide (0 ≤ i1089) then (
let l1116 : (List Int) := List.take ((Int.toNat i1089) - 0) (List.drop 0 l1115)
let s1117 : ByteArray := listStr l1116
κ0 (s1117, (((), (a1088, (i1089, (i1090, ())))), (i1100, (b1101, ((), (i1102, ())))), l1103, ()))) else none) else none) else none))) else none) else none) else none)
def EG_25_v2 {R : Type} (q_55_v1 : Tp_55_v1 R) (q_12 : Tp_12 R) (q_56 : Tp_56 R) : Env R := (((Env.base QQ LN).add 55 ap_55_v1 hp_55_v1 (fun (x : aden ap_55_v1 × hden hp_55_v1) k => q_55_v1 x (fun y => k (Pat.inst (.sl 2) y.1) (instH [some (.node (.fcons (.int .i64) (.fcons (.bool) (.fcons (.sl 1) (.fcons (.int .i64) (.fnil))))), 151), some (.lst (.int .u8), 5), some (.lst (.int .u8), 5)] y.2)))).add 12 ap_12 hp_12 (fun (x : aden ap_12 × hden hp_12) k => q_12 x (fun y => k (Pat.inst (.tup (.fcons (.vec (.int .u64) 8) (.fcons (.int .i64) (.fnil)))) y) (instH hp_12 x.2)))).add 56 ap_56 hp_56 (fun (x : aden ap_56 × hden hp_56) k => q_56 x (fun y => k (Pat.inst (.sl 0) y.1) (instH [some (.lst (.int .u8), 5)] y.2)))
def LG_25_v2 {R : Type} : Loops R := Loops.none
def E_25_v2 {R : Type} (N : Nat) : Env R := EG_25_v2 (p_55_v1 N) (p_12 N) (p_56 N)
theorem eok_25_v2 {R : Type} (N : Nat) : EK Try.prog (E_25_v2 (R := R) N) := ek_add (ek_add (ek_add (ek_base _ _) (good_55_v1 N)) (good_12 N)) (good_56 N)
def L_25_v2 {R : Type} (N : Nat) : Loops R := LG_25_v2
theorem lok_25_v2 {R : Type} (N : Nat) : LOK 3 TT (E_25_v2 (R := R) N) (drawAny TT WW) (L_25_v2 N) (bodyOf Try.f25) := loops_nil (by kernel_rfl)
theorem grun_25_v2 {R : Type} (q_55_v1 : Tp_55_v1 R) (q_12 : Tp_12 R) (q_56 : Tp_56 R) (x : aden ap_25_v2 × hden hp_25_v2) (k : KF R) : fnrun TT (EG_25_v2 q_55_v1 q_12 q_56) (drawAny TT WW) (LG_25_v2) true Try.f25 (instA ap_25_v2 x.1) (instH hp_25_v2 x.2) k = Q_25_v2 q_55_v1 q_12 q_56 x (fun y => k (Pat.inst (.str) y.1) (instH [some (.node (.fcons (.ptr 1 []) (.fcons (.vec (.int .u64) 8) (.fcons (.int .i64) (.fcons (.int .u64) (.fnil))))), 115), some (.node (.fcons (.int .i64) (.fcons (.bool) (.fcons (.sl 2) (.fcons (.int .i64) (.fnil))))), 151), some (.lst (.int .u8), 5)] y.2)) := by kernel_rfl
theorem run_25_v2 {R : Type} (N : Nat) (x : aden ap_25_v2 × hden hp_25_v2) (k : KF R) : fnrun TT (E_25_v2 (R := R) N) (drawAny TT WW) (L_25_v2 N) true Try.f25 (instA ap_25_v2 x.1) (instH hp_25_v2 x.2) k = p_25_v2 N x (fun y => k (Pat.inst (.str) y.1) (instH [some (.node (.fcons (.ptr 1 []) (.fcons (.vec (.int .u64) 8) (.fcons (.int .i64) (.fcons (.int .u64) (.fnil))))), 115), some (.node (.fcons (.int .i64) (.fcons (.bool) (.fcons (.sl 2) (.fcons (.int .i64) (.fnil))))), 151), some (.lst (.int .u8), 5)] y.2)) := (grun_25_v2 (p_55_v1 N) (p_12 N) (p_56 N) x k).trans (by kernel_rfl)
theorem good_25_v2 {R : Type} (N : Nat) : GD (X := R) Try.prog QQ 25 ap_25_v2 hp_25_v2 (fun (x : aden ap_25_v2 × hden hp_25_v2) k => p_25_v2 N x (fun y => k (Pat.inst (.str) y.1) (instH [some (.node (.fcons (.ptr 1 []) (.fcons (.vec (.int .u64) 8) (.fcons (.int .i64) (.fcons (.int .u64) (.fnil))))), 115), some (.node (.fcons (.int .i64) (.fcons (.bool) (.fcons (.sl 2) (.fcons (.int .i64) (.fnil))))), 151), some (.lst (.int .u8), 5)] y.2))) :=
  gd_loud (E := E_25_v2 N) (p := fun (x : aden ap_25_v2 × hden hp_25_v2) k => p_25_v2 N x (fun y => k (Pat.inst (.str) y.1) (instH [some (.node (.fcons (.ptr 1 []) (.fcons (.vec (.int .u64) 8) (.fcons (.int .i64) (.fcons (.int .u64) (.fnil))))), 115), some (.node (.fcons (.int .i64) (.fcons (.bool) (.fcons (.sl 2) (.fcons (.int .i64) (.fnil))))), 151), some (.lst (.int .u8), 5)] y.2))) mixed tyok (eok_25_v2 N) Try.func25 (by kernel_rfl) (by kernel_rfl) (by kernel_rfl) (lok_25_v2 N) (fun x k => run_25_v2 N x k)

def ap_22 : List Pat := [.int .i64, .str, .sl 0]
def hp_22 : List (Option (Pat × Nat)) := [some (.lst (.str), 9)]
def p_22 {R : Type} (N : Nat) (x : (Int × ByteArray × Unit × Unit) × ((List ByteArray) × Unit)) (κ0 : ((ByteArray × (Int × Unit)) × ((List ByteArray) × Unit)) → Option R) : Option R :=
let i4 : Int := x.1.1
let s5 : ByteArray := x.1.2.1
let l6 : (List ByteArray) := x.2.1
p_27 N ((i4, s5, ()), ()) (fun y1003 =>
let i1004 : Int := y1003.1.2.1
bif (i1004 != 0) then (
κ0 ((⟨#[]⟩, (i1004, ())), (l6, ()))) else (
p_26_v2 N (((), (), ()), (l6, ())) (fun y1006 =>
let l1007 : (List ByteArray) := y1006.2.1
p_25 N (((), ()), ()) (fun y1008 =>
let s1009 : ByteArray := y1008.1
κ0 ((s1009, (0, ())), (l1007, ())))))) (fun y1010 =>
let i1011 : Int := y1010.1.2.1
let a1012 : (Nat → Int) := y1010.2.1.2.1
let i1013 : Int := y1010.2.1.2.2.1
let i1014 : Int := y1010.2.1.2.2.2.1
bif (i1011 != 0) then (
κ0 ((⟨#[]⟩, (i1011, ())), (l6, ()))) else (
p_26 N (((), (), ()), (((), (a1012, (i1013, (i1014, ())))), l6, ())) (fun y1015 =>
let a1016 : (Nat → Int) := y1015.2.1.2.1
let i1017 : Int := y1015.2.1.2.2.1
let i1018 : Int := y1015.2.1.2.2.2.1
let l1019 : (List ByteArray) := y1015.2.2.1
p_25_v1 N (((), ()), (((), (a1016, (i1017, (i1018, ())))), ())) (fun y1065 =>
let s1066 : ByteArray := y1065.1
let a1067 : (Nat → Int) := y1065.2.1.2.1
let i1068 : Int := y1065.2.1.2.2.1
let i1069 : Int := y1065.2.1.2.2.2.1
κ0 ((s1066, (0, ())), (l1019, ())))))) (fun y1070 =>
let i1071 : Int := y1070.1.2.1
let a1072 : (Nat → Int) := y1070.2.1.2.1
let i1073 : Int := y1070.2.1.2.2.1
let i1074 : Int := y1070.2.1.2.2.2.1
let i1075 : Int := y1070.2.2.1.1
let b1076 : Bool := y1070.2.2.1.2.1
let i1077 : Int := y1070.2.2.1.2.2.2.1
let l1078 : (List Int) := y1070.2.2.2.1
bif (i1071 != 0) then (
κ0 ((⟨#[]⟩, (i1071, ())), (l6, ()))) else (
p_26_v1 N (((), (), ()), (((), (a1072, (i1073, (i1074, ())))), (i1075, (b1076, ((), (i1077, ())))), l1078, l6, ())) (fun y1079 =>
let a1080 : (Nat → Int) := y1079.2.1.2.1
let i1081 : Int := y1079.2.1.2.2.1
let i1082 : Int := y1079.2.1.2.2.2.1
let i1083 : Int := y1079.2.2.1.1
let b1084 : Bool := y1079.2.2.1.2.1
let i1085 : Int := y1079.2.2.1.2.2.2.1
let l1086 : (List ByteArray) := y1079.2.2.2.1
let l1087 : (List Int) := y1079.2.2.2.2.1
p_25_v2 N (((), ()), (((), (a1080, (i1081, (i1082, ())))), (i1083, (b1084, ((), (i1085, ())))), l1087, ())) (fun y1118 =>
let s1119 : ByteArray := y1118.1
let a1120 : (Nat → Int) := y1118.2.1.2.1
let i1121 : Int := y1118.2.1.2.2.1
let i1122 : Int := y1118.2.1.2.2.2.1
let i1123 : Int := y1118.2.2.1.1
let b1124 : Bool := y1118.2.2.1.2.1
let i1125 : Int := y1118.2.2.1.2.2.2.1
let l1126 : (List Int) := y1118.2.2.2.1
κ0 ((s1119, (0, ())), (l1086, ()))))))

abbrev Tp_22 (R : Type) : Type := (Int × ByteArray × Unit × Unit) × ((List ByteArray) × Unit) → (((ByteArray × (Int × Unit)) × ((List ByteArray) × Unit)) → Option R) → Option R
def Q_22 {R : Type} (q_27 : Tp_27 R) (q_26_v2 : Tp_26_v2 R) (q_25 : Tp_25 R) (q_26 : Tp_26 R) (q_25_v1 : Tp_25_v1 R) (q_26_v1 : Tp_26_v1 R) (q_25_v2 : Tp_25_v2 R) (x : (Int × ByteArray × Unit × Unit) × ((List ByteArray) × Unit)) (κ0 : ((ByteArray × (Int × Unit)) × ((List ByteArray) × Unit)) → Option R) : Option R :=
let i4 : Int := x.1.1
let s5 : ByteArray := x.1.2.1
let l6 : (List ByteArray) := x.2.1
q_27 ((i4, s5, ()), ()) (fun y1003 =>
let i1004 : Int := y1003.1.2.1
bif (i1004 != 0) then (
κ0 ((⟨#[]⟩, (i1004, ())), (l6, ()))) else (
q_26_v2 (((), (), ()), (l6, ())) (fun y1006 =>
let l1007 : (List ByteArray) := y1006.2.1
q_25 (((), ()), ()) (fun y1008 =>
let s1009 : ByteArray := y1008.1
κ0 ((s1009, (0, ())), (l1007, ())))))) (fun y1010 =>
let i1011 : Int := y1010.1.2.1
let a1012 : (Nat → Int) := y1010.2.1.2.1
let i1013 : Int := y1010.2.1.2.2.1
let i1014 : Int := y1010.2.1.2.2.2.1
bif (i1011 != 0) then (
κ0 ((⟨#[]⟩, (i1011, ())), (l6, ()))) else (
q_26 (((), (), ()), (((), (a1012, (i1013, (i1014, ())))), l6, ())) (fun y1015 =>
let a1016 : (Nat → Int) := y1015.2.1.2.1
let i1017 : Int := y1015.2.1.2.2.1
let i1018 : Int := y1015.2.1.2.2.2.1
let l1019 : (List ByteArray) := y1015.2.2.1
q_25_v1 (((), ()), (((), (a1016, (i1017, (i1018, ())))), ())) (fun y1065 =>
let s1066 : ByteArray := y1065.1
let a1067 : (Nat → Int) := y1065.2.1.2.1
let i1068 : Int := y1065.2.1.2.2.1
let i1069 : Int := y1065.2.1.2.2.2.1
κ0 ((s1066, (0, ())), (l1019, ())))))) (fun y1070 =>
let i1071 : Int := y1070.1.2.1
let a1072 : (Nat → Int) := y1070.2.1.2.1
let i1073 : Int := y1070.2.1.2.2.1
let i1074 : Int := y1070.2.1.2.2.2.1
let i1075 : Int := y1070.2.2.1.1
let b1076 : Bool := y1070.2.2.1.2.1
let i1077 : Int := y1070.2.2.1.2.2.2.1
let l1078 : (List Int) := y1070.2.2.2.1
bif (i1071 != 0) then (
κ0 ((⟨#[]⟩, (i1071, ())), (l6, ()))) else (
q_26_v1 (((), (), ()), (((), (a1072, (i1073, (i1074, ())))), (i1075, (b1076, ((), (i1077, ())))), l1078, l6, ())) (fun y1079 =>
let a1080 : (Nat → Int) := y1079.2.1.2.1
let i1081 : Int := y1079.2.1.2.2.1
let i1082 : Int := y1079.2.1.2.2.2.1
let i1083 : Int := y1079.2.2.1.1
let b1084 : Bool := y1079.2.2.1.2.1
let i1085 : Int := y1079.2.2.1.2.2.2.1
let l1086 : (List ByteArray) := y1079.2.2.2.1
let l1087 : (List Int) := y1079.2.2.2.2.1
q_25_v2 (((), ()), (((), (a1080, (i1081, (i1082, ())))), (i1083, (b1084, ((), (i1085, ())))), l1087, ())) (fun y1118 =>
let s1119 : ByteArray := y1118.1
let a1120 : (Nat → Int) := y1118.2.1.2.1
let i1121 : Int := y1118.2.1.2.2.1
let i1122 : Int := y1118.2.1.2.2.2.1
let i1123 : Int := y1118.2.2.1.1
let b1124 : Bool := y1118.2.2.1.2.1
let i1125 : Int := y1118.2.2.1.2.2.2.1
let l1126 : (List Int) := y1118.2.2.2.1
κ0 ((s1119, (0, ())), (l1086, ()))))))
def EG_22 {R : Type} (q_27 : Tp_27 R) (q_26_v2 : Tp_26_v2 R) (q_25 : Tp_25 R) (q_26 : Tp_26 R) (q_25_v1 : Tp_25_v1 R) (q_26_v1 : Tp_26_v1 R) (q_25_v2 : Tp_25_v2 R) : Env R := (((((((Env.base QQ LN).add 27 ap_27 hp_27 (fun (x : aden ap_27 × hden hp_27) k => q_27 x (fun y => k (Pat.inst (.tup (.fcons (.nilp) (.fcons (.int .i64) (.fnil)))) y.1) (instH [] y.2)) (fun y => k (Pat.inst (.tup (.fcons (.ptr 0 []) (.fcons (.int .i64) (.fnil)))) y.1) (instH [some (.node (.fcons (.nilp) (.fcons (.vec (.int .u64) 8) (.fcons (.int .i64) (.fcons (.int .u64) (.fnil))))), 115)] y.2)) (fun y => k (Pat.inst (.tup (.fcons (.ptr 0 []) (.fcons (.int .i64) (.fnil)))) y.1) (instH [some (.node (.fcons (.ptr 1 []) (.fcons (.vec (.int .u64) 8) (.fcons (.int .i64) (.fcons (.int .u64) (.fnil))))), 115), some (.node (.fcons (.int .i64) (.fcons (.bool) (.fcons (.sl 2) (.fcons (.int .i64) (.fnil))))), 151), some (.lst (.int .u8), 5)] y.2)))).add 26 ap_26_v2 hp_26_v2 (fun (x : aden ap_26_v2 × hden hp_26_v2) k => q_26_v2 x (fun y => k (Pat.inst (.nilp) y.1) (instH [some (.lst (.str), 9)] y.2)))).add 25 ap_25 hp_25 (fun (x : aden ap_25 × hden hp_25) k => q_25 x (fun y => k (Pat.inst (.str) y.1) (instH [] y.2)))).add 26 ap_26 hp_26 (fun (x : aden ap_26 × hden hp_26) k => q_26 x (fun y => k (Pat.inst (.ptr 0 []) y.1) (instH [some (.node (.fcons (.nilp) (.fcons (.vec (.int .u64) 8) (.fcons (.int .i64) (.fcons (.int .u64) (.fnil))))), 115), some (.lst (.str), 9)] y.2)))).add 25 ap_25_v1 hp_25_v1 (fun (x : aden ap_25_v1 × hden hp_25_v1) k => q_25_v1 x (fun y => k (Pat.inst (.str) y.1) (instH [some (.node (.fcons (.nilp) (.fcons (.vec (.int .u64) 8) (.fcons (.int .i64) (.fcons (.int .u64) (.fnil))))), 115)] y.2)))).add 26 ap_26_v1 hp_26_v1 (fun (x : aden ap_26_v1 × hden hp_26_v1) k => q_26_v1 x (fun y => k (Pat.inst (.ptr 0 []) y.1) (instH [some (.node (.fcons (.ptr 1 []) (.fcons (.vec (.int .u64) 8) (.fcons (.int .i64) (.fcons (.int .u64) (.fnil))))), 115), some (.node (.fcons (.int .i64) (.fcons (.bool) (.fcons (.sl 4) (.fcons (.int .i64) (.fnil))))), 151), none, some (.lst (.str), 9), some (.lst (.int .u8), 5)] y.2)))).add 25 ap_25_v2 hp_25_v2 (fun (x : aden ap_25_v2 × hden hp_25_v2) k => q_25_v2 x (fun y => k (Pat.inst (.str) y.1) (instH [some (.node (.fcons (.ptr 1 []) (.fcons (.vec (.int .u64) 8) (.fcons (.int .i64) (.fcons (.int .u64) (.fnil))))), 115), some (.node (.fcons (.int .i64) (.fcons (.bool) (.fcons (.sl 2) (.fcons (.int .i64) (.fnil))))), 151), some (.lst (.int .u8), 5)] y.2)))
def LG_22 {R : Type} : Loops R := Loops.none
def E_22 {R : Type} (N : Nat) : Env R := EG_22 (p_27 N) (p_26_v2 N) (p_25 N) (p_26 N) (p_25_v1 N) (p_26_v1 N) (p_25_v2 N)
theorem eok_22 {R : Type} (N : Nat) : EK Try.prog (E_22 (R := R) N) := ek_add (ek_add (ek_add (ek_add (ek_add (ek_add (ek_add (ek_base _ _) (good_27 N)) (good_26_v2 N)) (good_25 N)) (good_26 N)) (good_25_v1 N)) (good_26_v1 N)) (good_25_v2 N)
def L_22 {R : Type} (N : Nat) : Loops R := LG_22
theorem lok_22 {R : Type} (N : Nat) : LOK 1 TT (E_22 (R := R) N) (drawAny TT WW) (L_22 N) (bodyOf Try.f22) := loops_nil (by kernel_rfl)
theorem grun_22 {R : Type} (q_27 : Tp_27 R) (q_26_v2 : Tp_26_v2 R) (q_25 : Tp_25 R) (q_26 : Tp_26 R) (q_25_v1 : Tp_25_v1 R) (q_26_v1 : Tp_26_v1 R) (q_25_v2 : Tp_25_v2 R) (x : aden ap_22 × hden hp_22) (k : KF R) : fnrun TT (EG_22 q_27 q_26_v2 q_25 q_26 q_25_v1 q_26_v1 q_25_v2) (drawAny TT WW) (LG_22) true Try.f22 (instA ap_22 x.1) (instH hp_22 x.2) k = Q_22 q_27 q_26_v2 q_25 q_26 q_25_v1 q_26_v1 q_25_v2 x (fun y => k (Pat.inst (.tup (.fcons (.str) (.fcons (.int .i64) (.fnil)))) y.1) (instH [some (.lst (.str), 9)] y.2)) := by kernel_rfl
theorem run_22 {R : Type} (N : Nat) (x : aden ap_22 × hden hp_22) (k : KF R) : fnrun TT (E_22 (R := R) N) (drawAny TT WW) (L_22 N) true Try.f22 (instA ap_22 x.1) (instH hp_22 x.2) k = p_22 N x (fun y => k (Pat.inst (.tup (.fcons (.str) (.fcons (.int .i64) (.fnil)))) y.1) (instH [some (.lst (.str), 9)] y.2)) := (grun_22 (p_27 N) (p_26_v2 N) (p_25 N) (p_26 N) (p_25_v1 N) (p_26_v1 N) (p_25_v2 N) x k).trans (by kernel_rfl)
theorem good_22 {R : Type} (N : Nat) : GD (X := R) Try.prog QQ 22 ap_22 hp_22 (fun (x : aden ap_22 × hden hp_22) k => p_22 N x (fun y => k (Pat.inst (.tup (.fcons (.str) (.fcons (.int .i64) (.fnil)))) y.1) (instH [some (.lst (.str), 9)] y.2))) :=
  gd_loud (E := E_22 N) (p := fun (x : aden ap_22 × hden hp_22) k => p_22 N x (fun y => k (Pat.inst (.tup (.fcons (.str) (.fcons (.int .i64) (.fnil)))) y.1) (instH [some (.lst (.str), 9)] y.2))) mixed tyok (eok_22 N) Try.func22 (by kernel_rfl) (by kernel_rfl) (by kernel_rfl) (lok_22 N) (fun x k => run_22 N x k)

def ap_11 : List Pat := []
def hp_11 : List (Option (Pat × Nat)) := []
def p_11 {R : Type} (N : Nat) (x : (Unit) × (Unit)) (κ0 : Bool → Option R) : Option R :=
let l3 : (List ByteArray) := [⟨#[97, 98, 99]⟩]
p_22 N ((64, ⟨#[]⟩, (), ()), (l3, ())) (fun y1127 =>
let s1128 : ByteArray := y1127.1.1
let i1129 : Int := y1127.1.2.1
let l1130 : (List ByteArray) := y1127.2.1
bif (i1129 == 0) then (
let i1131 : Int := ((ByteArray.size s1128 : Nat) : Int)
bif (i1131 == 64) then (
bif decide (8 ≤ ((ByteArray.size s1128 : Nat) : Int)) then (
let s1132 : ByteArray := ByteArray.extract s1128 0 8
bif (eqS s1132 (⟨#[186, 128, 165, 63, 152, 28, 77, 13]⟩)) then (
bif decide (0 ≤ ((ByteArray.size s1128 : Nat) : Int)) then (
bif decide (((ByteArray.size s1128 : Nat) : Int) ≤ ((ByteArray.size s1128 : Nat) : Int)) then (
bif decide (56 ≤ ((ByteArray.size s1128 : Nat) : Int)) then (
let s1133 : ByteArray := ByteArray.extract s1128 56 (ByteArray.size s1128)
κ0 ((eqS s1133 (⟨#[185, 35, 134, 237, 212, 0, 153, 35]⟩)))) else none) else none) else none) else (
κ0 false)) else none) else (
κ0 false)) else (
κ0 false))

abbrev Tp_11 (R : Type) : Type := (Unit) × (Unit) → (Bool → Option R) → Option R
def Q_11 {R : Type} (q_22 : Tp_22 R) (x : (Unit) × (Unit)) (κ0 : Bool → Option R) : Option R :=
let l3 : (List ByteArray) := [⟨#[97, 98, 99]⟩]
q_22 ((64, ⟨#[]⟩, (), ()), (l3, ())) (fun y1127 =>
let s1128 : ByteArray := y1127.1.1
let i1129 : Int := y1127.1.2.1
let l1130 : (List ByteArray) := y1127.2.1
bif (i1129 == 0) then (
let i1131 : Int := ((ByteArray.size s1128 : Nat) : Int)
bif (i1131 == 64) then (
bif decide (8 ≤ ((ByteArray.size s1128 : Nat) : Int)) then (
let s1132 : ByteArray := ByteArray.extract s1128 0 8
bif (eqS s1132 (⟨#[186, 128, 165, 63, 152, 28, 77, 13]⟩)) then (
bif decide (0 ≤ ((ByteArray.size s1128 : Nat) : Int)) then (
bif decide (((ByteArray.size s1128 : Nat) : Int) ≤ ((ByteArray.size s1128 : Nat) : Int)) then (
bif decide (56 ≤ ((ByteArray.size s1128 : Nat) : Int)) then (
let s1133 : ByteArray := ByteArray.extract s1128 56 (ByteArray.size s1128)
κ0 ((eqS s1133 (⟨#[185, 35, 134, 237, 212, 0, 153, 35]⟩)))) else none) else none) else none) else (
κ0 false)) else none) else (
κ0 false)) else (
κ0 false))
def EG_11 {R : Type} (q_22 : Tp_22 R) : Env R := (Env.base QQ LN).add 22 ap_22 hp_22 (fun (x : aden ap_22 × hden hp_22) k => q_22 x (fun y => k (Pat.inst (.tup (.fcons (.str) (.fcons (.int .i64) (.fnil)))) y.1) (instH [some (.lst (.str), 9)] y.2)))
def LG_11 {R : Type} : Loops R := Loops.none
def E_11 {R : Type} (N : Nat) : Env R := EG_11 (p_22 N)
theorem eok_11 {R : Type} (N : Nat) : EK Try.prog (E_11 (R := R) N) := ek_add (ek_base _ _) (good_22 N)
def L_11 {R : Type} (N : Nat) : Loops R := LG_11
theorem lok_11 {R : Type} (N : Nat) : LOK 0 TT (E_11 (R := R) N) (drawAny TT WW) (L_11 N) (bodyOf Try.f11) := loops_nil (by kernel_rfl)
theorem grun_11 {R : Type} (q_22 : Tp_22 R) (x : aden ap_11 × hden hp_11) (k : KF R) : fnrun TT (EG_11 q_22) (drawAny TT WW) (LG_11) true Try.f11 (instA ap_11 x.1) (instH hp_11 x.2) k = Q_11 q_22 x (fun y => k (Pat.inst (.bool) y) (instH hp_11 x.2)) := by kernel_rfl
theorem run_11 {R : Type} (N : Nat) (x : aden ap_11 × hden hp_11) (k : KF R) : fnrun TT (E_11 (R := R) N) (drawAny TT WW) (L_11 N) true Try.f11 (instA ap_11 x.1) (instH hp_11 x.2) k = p_11 N x (fun y => k (Pat.inst (.bool) y) (instH hp_11 x.2)) := (grun_11 (p_22 N) x k).trans (by kernel_rfl)
theorem good_11 {R : Type} (N : Nat) : GD (X := R) Try.prog QQ 11 ap_11 hp_11 (fun (x : aden ap_11 × hden hp_11) k => p_11 N x (fun y => k (Pat.inst (.bool) y) (instH hp_11 x.2))) :=
  gd_quiet (E := E_11 N) (p := fun (x : aden ap_11 × hden hp_11) κ => p_11 N x (fun y => κ (Pat.inst (.bool) y))) mixed tyok (eok_11 N) Try.func11 (by kernel_rfl) (by kernel_rfl) (lok_11 N) (fun x k => run_11 N x k)

def ap_52 : List Pat := [.int .u64, .int .u64, .int .u64]
def hp_52 : List (Option (Pat × Nat)) := []
def p_52 {R : Type} (N : Nat) (x : (Int × Int × Int × Unit) × (Unit)) (κ0 : Int → Option R) : Option R :=
let i1166 : Int := x.1.1
let i1167 : Int := x.1.2.1
let i1168 : Int := x.1.2.2.1
bif decide (i1167 = 0) then none else (
let i1169 : Int := quoA .u64 i1166 i1167
bif decide (i1167 = 0) then none else (
let i1170 : Int := remA .u64 i1166 i1167
let i1171 : Int := mulA .u64 i1170 i1168
let i1172 : Int := addA .u64 i1169 i1171
κ0 i1172))

abbrev Tp_52 (R : Type) : Type := (Int × Int × Int × Unit) × (Unit) → (Int → Option R) → Option R
def Q_52 {R : Type} (x : (Int × Int × Int × Unit) × (Unit)) (κ0 : Int → Option R) : Option R :=
let i1166 : Int := x.1.1
let i1167 : Int := x.1.2.1
let i1168 : Int := x.1.2.2.1
bif decide (i1167 = 0) then none else (
let i1169 : Int := quoA .u64 i1166 i1167
bif decide (i1167 = 0) then none else (
let i1170 : Int := remA .u64 i1166 i1167
let i1171 : Int := mulA .u64 i1170 i1168
let i1172 : Int := addA .u64 i1169 i1171
κ0 i1172))
def EG_52 {R : Type} : Env R := Env.base QQ LN
def LG_52 {R : Type} : Loops R := Loops.none
def E_52 {R : Type} (N : Nat) : Env R := EG_52
theorem eok_52 {R : Type} (N : Nat) : EK Try.prog (E_52 (R := R) N) := ek_base _ _
def L_52 {R : Type} (N : Nat) : Loops R := LG_52
theorem lok_52 {R : Type} (N : Nat) : LOK 0 TT (E_52 (R := R) N) (drawAny TT WW) (L_52 N) (bodyOf Try.f52) := loops_nil (by kernel_rfl)
theorem grun_52 {R : Type} (x : aden ap_52 × hden hp_52) (k : KF R) : fnrun TT (EG_52) (drawAny TT WW) (LG_52) true Try.f52 (instA ap_52 x.1) (instH hp_52 x.2) k = Q_52 x (fun y => k (Pat.inst (.int .u64) y) (instH hp_52 x.2)) := by kernel_rfl
theorem run_52 {R : Type} (N : Nat) (x : aden ap_52 × hden hp_52) (k : KF R) : fnrun TT (E_52 (R := R) N) (drawAny TT WW) (L_52 N) true Try.f52 (instA ap_52 x.1) (instH hp_52 x.2) k = p_52 N x (fun y => k (Pat.inst (.int .u64) y) (instH hp_52 x.2)) := (grun_52 x k).trans (by kernel_rfl)
theorem good_52 {R : Type} (N : Nat) : GD (X := R) Try.prog QQ 52 ap_52 hp_52 (fun (x : aden ap_52 × hden hp_52) k => p_52 N x (fun y => k (Pat.inst (.int .u64) y) (instH hp_52 x.2))) :=
  gd_quiet (E := E_52 N) (p := fun (x : aden ap_52 × hden hp_52) κ => p_52 N x (fun y => κ (Pat.inst (.int .u64) y))) mixed tyok (eok_52 N) Try.func52 (by kernel_rfl) (by kernel_rfl) (lok_52 N) (fun x k => run_52 N x k)

def ap_18 : List Pat := [.vec (.int .u64) 4, .int .u64, .int .u64]
def hp_18 : List (Option (Pat × Nat)) := []
def p_18 {R : Type} (N : Nat) (x : ((Nat → Int) × Int × Int × Unit) × (Unit)) (κ0 : (Nat → Int) → Option R) : Option R :=
let a1155 : (Nat → Int) := x.1.1
let i1156 : Int := x.1.2.1
let i1157 : Int := x.1.2.2.1
let i1158 : Int := (a1155 0)
let i1159 : Int := (a1155 1)
let i1160 : Int := addA .u64 i1158 i1159
let i1161 : Int := addA .u64 i1160 i1156
let a1162 : (Nat → Int) := (upd a1155 0 i1161)
let i1163 : Int := (a1162 3)
let i1164 : Int := (a1162 0)
let i1165 : Int := xorA .u64 i1163 i1164
p_52 N ((i1165, 4294967296, 4294967296, ()), ()) (fun y1173 =>
let i1174 : Int := y1173
let a1175 : (Nat → Int) := (upd a1162 3 i1174)
let i1176 : Int := (a1175 2)
let i1177 : Int := (a1175 3)
let i1178 : Int := addA .u64 i1176 i1177
let a1179 : (Nat → Int) := (upd a1175 2 i1178)
let i1180 : Int := (a1179 1)
let i1181 : Int := (a1179 2)
let i1182 : Int := xorA .u64 i1180 i1181
p_52 N ((i1182, 16777216, 1099511627776, ()), ()) (fun y1183 =>
let i1184 : Int := y1183
let a1185 : (Nat → Int) := (upd a1179 1 i1184)
let i1186 : Int := (a1185 0)
let i1187 : Int := (a1185 1)
let i1188 : Int := addA .u64 i1186 i1187
let i1189 : Int := addA .u64 i1188 i1157
let a1190 : (Nat → Int) := (upd a1185 0 i1189)
let i1191 : Int := (a1190 3)
let i1192 : Int := (a1190 0)
let i1193 : Int := xorA .u64 i1191 i1192
p_52 N ((i1193, 65536, 281474976710656, ()), ()) (fun y1194 =>
let i1195 : Int := y1194
let a1196 : (Nat → Int) := (upd a1190 3 i1195)
let i1197 : Int := (a1196 2)
let i1198 : Int := (a1196 3)
let i1199 : Int := addA .u64 i1197 i1198
let a1200 : (Nat → Int) := (upd a1196 2 i1199)
let i1201 : Int := (a1200 1)
let i1202 : Int := (a1200 2)
let i1203 : Int := xorA .u64 i1201 i1202
p_52 N ((i1203, 9223372036854775808, 2, ()), ()) (fun y1204 =>
let i1205 : Int := y1204
let a1206 : (Nat → Int) := (upd a1200 1 i1205)
κ0 a1206))))

abbrev Tp_18 (R : Type) : Type := ((Nat → Int) × Int × Int × Unit) × (Unit) → ((Nat → Int) → Option R) → Option R
def Q_18 {R : Type} (q_52 : Tp_52 R) (x : ((Nat → Int) × Int × Int × Unit) × (Unit)) (κ0 : (Nat → Int) → Option R) : Option R :=
let a1155 : (Nat → Int) := x.1.1
let i1156 : Int := x.1.2.1
let i1157 : Int := x.1.2.2.1
let i1158 : Int := (a1155 0)
let i1159 : Int := (a1155 1)
let i1160 : Int := addA .u64 i1158 i1159
let i1161 : Int := addA .u64 i1160 i1156
let a1162 : (Nat → Int) := (upd a1155 0 i1161)
let i1163 : Int := (a1162 3)
let i1164 : Int := (a1162 0)
let i1165 : Int := xorA .u64 i1163 i1164
q_52 ((i1165, 4294967296, 4294967296, ()), ()) (fun y1173 =>
let i1174 : Int := y1173
let a1175 : (Nat → Int) := (upd a1162 3 i1174)
let i1176 : Int := (a1175 2)
let i1177 : Int := (a1175 3)
let i1178 : Int := addA .u64 i1176 i1177
let a1179 : (Nat → Int) := (upd a1175 2 i1178)
let i1180 : Int := (a1179 1)
let i1181 : Int := (a1179 2)
let i1182 : Int := xorA .u64 i1180 i1181
q_52 ((i1182, 16777216, 1099511627776, ()), ()) (fun y1183 =>
let i1184 : Int := y1183
let a1185 : (Nat → Int) := (upd a1179 1 i1184)
let i1186 : Int := (a1185 0)
let i1187 : Int := (a1185 1)
let i1188 : Int := addA .u64 i1186 i1187
let i1189 : Int := addA .u64 i1188 i1157
let a1190 : (Nat → Int) := (upd a1185 0 i1189)
let i1191 : Int := (a1190 3)
let i1192 : Int := (a1190 0)
let i1193 : Int := xorA .u64 i1191 i1192
q_52 ((i1193, 65536, 281474976710656, ()), ()) (fun y1194 =>
let i1195 : Int := y1194
let a1196 : (Nat → Int) := (upd a1190 3 i1195)
let i1197 : Int := (a1196 2)
let i1198 : Int := (a1196 3)
let i1199 : Int := addA .u64 i1197 i1198
let a1200 : (Nat → Int) := (upd a1196 2 i1199)
let i1201 : Int := (a1200 1)
let i1202 : Int := (a1200 2)
let i1203 : Int := xorA .u64 i1201 i1202
q_52 ((i1203, 9223372036854775808, 2, ()), ()) (fun y1204 =>
let i1205 : Int := y1204
let a1206 : (Nat → Int) := (upd a1200 1 i1205)
κ0 a1206))))
def EG_18 {R : Type} (q_52 : Tp_52 R) : Env R := (Env.base QQ LN).add 52 ap_52 hp_52 (fun (x : aden ap_52 × hden hp_52) k => q_52 x (fun y => k (Pat.inst (.int .u64) y) (instH hp_52 x.2)))
def LG_18 {R : Type} : Loops R := Loops.none
def E_18 {R : Type} (N : Nat) : Env R := EG_18 (p_52 N)
theorem eok_18 {R : Type} (N : Nat) : EK Try.prog (E_18 (R := R) N) := ek_add (ek_base _ _) (good_52 N)
def L_18 {R : Type} (N : Nat) : Loops R := LG_18
theorem lok_18 {R : Type} (N : Nat) : LOK 0 TT (E_18 (R := R) N) (drawAny TT WW) (L_18 N) (bodyOf Try.f18) := loops_nil (by kernel_rfl)
theorem grun_18 {R : Type} (q_52 : Tp_52 R) (x : aden ap_18 × hden hp_18) (k : KF R) : fnrun TT (EG_18 q_52) (drawAny TT WW) (LG_18) true Try.f18 (instA ap_18 x.1) (instH hp_18 x.2) k = Q_18 q_52 x (fun y => k (Pat.inst (.vec (.int .u64) 4) y) (instH hp_18 x.2)) := by kernel_rfl
theorem run_18 {R : Type} (N : Nat) (x : aden ap_18 × hden hp_18) (k : KF R) : fnrun TT (E_18 (R := R) N) (drawAny TT WW) (L_18 N) true Try.f18 (instA ap_18 x.1) (instH hp_18 x.2) k = p_18 N x (fun y => k (Pat.inst (.vec (.int .u64) 4) y) (instH hp_18 x.2)) := (grun_18 (p_52 N) x k).trans (by kernel_rfl)
theorem good_18 {R : Type} (N : Nat) : GD (X := R) Try.prog QQ 18 ap_18 hp_18 (fun (x : aden ap_18 × hden hp_18) k => p_18 N x (fun y => k (Pat.inst (.vec (.int .u64) 4) y) (instH hp_18 x.2))) :=
  gd_quiet (E := E_18 N) (p := fun (x : aden ap_18 × hden hp_18) κ => p_18 N x (fun y => κ (Pat.inst (.vec (.int .u64) 4) y))) mixed tyok (eok_18 N) Try.func18 (by kernel_rfl) (by kernel_rfl) (lok_18 N) (fun x k => run_18 N x k)

def lv_20_11 : Live := [(2, none), (4, none), (5, none), (6, none), (7, none), (8, none)]
def pt_20_11 : SPat := ⟨[(2, .ptr 0 []), (4, .ptr 1 []), (5, .str), (6, .str), (7, .int .i64), (8, .int .i64)], [some (.vec (.int .i64) 16, 38), some (.vec (.int .i64) 16, 38)]⟩
def px_20_11_0 : SPat := ⟨[(2, .ptr 0 []), (4, .ptr 1 []), (5, .str), (6, .str), (7, .int .i64)], [some (.vec (.int .i64) 16, 38), some (.vec (.int .i64) 16, 38)]⟩
def lo_20_11 : Exit → Live
  | .exit 2 => [(2, none), (4, none), (5, none), (6, none), (7, none)]
  | _ => []
def B_20_11 {R : Type} (N : Nat) (rec : ((Unit × Unit × ByteArray × ByteArray × Int × Int × Unit) × ((Nat → Int) × (Nat → Int) × Unit)) → Option R) (x : ((Unit × Unit × ByteArray × ByteArray × Int × Int × Unit) × ((Nat → Int) × (Nat → Int) × Unit))) (κ0 : ((Unit × Unit × ByteArray × ByteArray × Int × Unit) × ((Nat → Int) × (Nat → Int) × Unit)) → Option R) : Option R :=
let s1222 : ByteArray := x.1.2.2.1
let s1223 : ByteArray := x.1.2.2.2.1
let i1224 : Int := x.1.2.2.2.2.1
let i1225 : Int := x.1.2.2.2.2.2.1
let a1226 : (Nat → Int) := x.2.1
let a1227 : (Nat → Int) := x.2.2.1
bif (decide (i1225 < 16)) then (
bif decide (0 ≤ i1225) then (
bif decide (i1225 < (ByteArray.size s1223 : Int)) then (
let i1228 : Int := byteAt s1223 ((Int.toNat i1225))
bif decide (0 ≤ i1224) then (
bif decide (i1224 < (ByteArray.size s1222 : Int)) then (
let i1229 : Int := byteAt s1222 ((Int.toNat i1224))
bif (i1228 == i1229) then (
bif decide (0 ≤ i1224) then (
bif decide (i1224 < (16 : Int)) then (
let a1230 : (Nat → Int) := (upd a1227 ((Int.toNat i1224)) i1225)
let i1231 : Int := addA .i64 i1225 1
rec (((), (), s1222, s1223, i1224, i1231, ()), (a1226, a1230, ()))) else none) else none) else (
let i1232 : Int := addA .i64 i1225 1
rec (((), (), s1222, s1223, i1224, i1232, ()), (a1226, a1227, ())))) else none) else none) else none) else none) else (
κ0 (((), (), s1222, s1223, i1224, ()), (a1226, a1227, ())))
def l_20_11 {R : Type} (N : Nat) : Nat → ((Unit × Unit × ByteArray × ByteArray × Int × Int × Unit) × ((Nat → Int) × (Nat → Int) × Unit)) → (((Unit × Unit × ByteArray × ByteArray × Int × Unit) × ((Nat → Int) × (Nat → Int) × Unit)) → Option R) → Option R
  | 0, _, _ => none
  | n + 1, x, κ0 => B_20_11 N (fun y => l_20_11 N n y κ0) x κ0
def lv_20_8 : Live := [(2, none), (4, none), (5, none), (6, none), (7, none)]
def pt_20_8 : SPat := ⟨[(2, .ptr 0 []), (4, .ptr 1 []), (5, .str), (6, .str), (7, .int .i64)], [some (.vec (.int .i64) 16, 38), some (.vec (.int .i64) 16, 38)]⟩
def px_20_8_0 : SPat := ⟨[(2, .ptr 0 []), (4, .ptr 1 [])], [some (.vec (.int .i64) 16, 38), some (.vec (.int .i64) 16, 38)]⟩
def lo_20_8 : Exit → Live
  | .exit 0 => [(2, none), (4, none)]
  | _ => []
def B_20_8 {R : Type} (N : Nat) (rec : ((Unit × Unit × ByteArray × ByteArray × Int × Unit) × ((Nat → Int) × (Nat → Int) × Unit)) → Option R) (x : ((Unit × Unit × ByteArray × ByteArray × Int × Unit) × ((Nat → Int) × (Nat → Int) × Unit))) (κ0 : ((Unit × Unit × Unit) × ((Nat → Int) × (Nat → Int) × Unit)) → Option R) : Option R :=
let s1217 : ByteArray := x.1.2.2.1
let s1218 : ByteArray := x.1.2.2.2.1
let i1219 : Int := x.1.2.2.2.2.1
let a1220 : (Nat → Int) := x.2.1
let a1221 : (Nat → Int) := x.2.2.1
bif (decide (i1219 < 16)) then (
l_20_11 N N (((), (), s1217, s1218, i1219, 0, ()), (a1220, a1221, ())) (fun y1233 =>
let s1234 : ByteArray := y1233.1.2.2.1
let s1235 : ByteArray := y1233.1.2.2.2.1
let i1236 : Int := y1233.1.2.2.2.2.1
let a1237 : (Nat → Int) := y1233.2.1
let a1238 : (Nat → Int) := y1233.2.2.1
let i1239 : Int := addA .i64 i1236 1
rec (((), (), s1234, s1235, i1239, ()), (a1237, a1238, ())))) else (
κ0 (((), (), ()), (a1220, a1221, ())))
def l_20_8 {R : Type} (N : Nat) : Nat → ((Unit × Unit × ByteArray × ByteArray × Int × Unit) × ((Nat → Int) × (Nat → Int) × Unit)) → (((Unit × Unit × Unit) × ((Nat → Int) × (Nat → Int) × Unit)) → Option R) → Option R
  | 0, _, _ => none
  | n + 1, x, κ0 => B_20_8 N (fun y => l_20_8 N n y κ0) x κ0
def ap_20 : List Pat := [.int .i64]
def hp_20 : List (Option (Pat × Nat)) := []
def p_20 {R : Type} (N : Nat) (x : (Int × Unit) × (Unit)) (κ0 : (Nat → Int) → Option R) : Option R :=
let i1211 : Int := x.1.1
let l1212 : (List ByteArray) := [⟨#[48, 49, 50, 51, 52, 53, 54, 55, 56, 57, 97, 98, 99, 100, 101, 102]⟩, ⟨#[101, 97, 52, 56, 57, 102, 100, 54, 49, 99, 48, 50, 98, 55, 53, 51]⟩, ⟨#[98, 56, 99, 48, 53, 50, 102, 100, 97, 101, 51, 54, 55, 49, 57, 52]⟩, ⟨#[55, 57, 51, 49, 100, 99, 98, 101, 50, 54, 53, 97, 52, 48, 102, 56]⟩, ⟨#[57, 48, 53, 55, 50, 52, 97, 102, 101, 49, 98, 99, 54, 56, 51, 100]⟩, ⟨#[50, 99, 54, 97, 48, 98, 56, 51, 52, 100, 55, 53, 102, 101, 49, 57]⟩, ⟨#[99, 53, 49, 102, 101, 100, 52, 97, 48, 55, 54, 51, 57, 50, 56, 98]⟩, ⟨#[100, 98, 55, 101, 99, 49, 51, 57, 53, 48, 102, 52, 56, 54, 50, 97]⟩, ⟨#[54, 102, 101, 57, 98, 51, 48, 56, 99, 50, 100, 55, 49, 52, 97, 53]⟩, ⟨#[97, 50, 56, 52, 55, 54, 49, 53, 102, 98, 57, 101, 51, 99, 100, 48]⟩]
bif (decide (i1211 < 0)) then (
let a1213 : (Nat → Int) := (Sch.zero (.arr 16 (.int .i64)))
κ0 a1213) else (
let i1214 : Int := remA .i64 i1211 10
bif decide (0 ≤ i1214) then (
bif decide (i1214 < ((List.length l1212) : Int)) then (
let s1215 : ByteArray := (List.getD l1212 ((Int.toNat i1214)) (Sch.zero (.str)))
bif decide (0 < ((List.length l1212) : Int)) then (
let s1216 : ByteArray := (List.getD l1212 0 (Sch.zero (.str)))
l_20_8 N N (((), (), s1215, s1216, 0, ()), ((Sch.zero (.arr 16 (.int .i64))), (Sch.zero (.arr 16 (.int .i64))), ())) (fun y1240 =>
let a1241 : (Nat → Int) := y1240.2.1
let a1242 : (Nat → Int) := y1240.2.2.1
κ0 a1242)) else none) else none) else none)

abbrev Tl_20_11 (R : Type) : Type := ((Unit × Unit × ByteArray × ByteArray × Int × Int × Unit) × ((Nat → Int) × (Nat → Int) × Unit)) → (((Unit × Unit × ByteArray × ByteArray × Int × Unit) × ((Nat → Int) × (Nat → Int) × Unit)) → Option R) → Option R
abbrev Tl_20_8 (R : Type) : Type := ((Unit × Unit × ByteArray × ByteArray × Int × Unit) × ((Nat → Int) × (Nat → Int) × Unit)) → (((Unit × Unit × Unit) × ((Nat → Int) × (Nat → Int) × Unit)) → Option R) → Option R
abbrev Tp_20 (R : Type) : Type := (Int × Unit) × (Unit) → ((Nat → Int) → Option R) → Option R
def Q_20 {R : Type} (m_20_11 : Tl_20_11 R) (m_20_8 : Tl_20_8 R) (x : (Int × Unit) × (Unit)) (κ0 : (Nat → Int) → Option R) : Option R :=
let i1211 : Int := x.1.1
let l1212 : (List ByteArray) := [⟨#[48, 49, 50, 51, 52, 53, 54, 55, 56, 57, 97, 98, 99, 100, 101, 102]⟩, ⟨#[101, 97, 52, 56, 57, 102, 100, 54, 49, 99, 48, 50, 98, 55, 53, 51]⟩, ⟨#[98, 56, 99, 48, 53, 50, 102, 100, 97, 101, 51, 54, 55, 49, 57, 52]⟩, ⟨#[55, 57, 51, 49, 100, 99, 98, 101, 50, 54, 53, 97, 52, 48, 102, 56]⟩, ⟨#[57, 48, 53, 55, 50, 52, 97, 102, 101, 49, 98, 99, 54, 56, 51, 100]⟩, ⟨#[50, 99, 54, 97, 48, 98, 56, 51, 52, 100, 55, 53, 102, 101, 49, 57]⟩, ⟨#[99, 53, 49, 102, 101, 100, 52, 97, 48, 55, 54, 51, 57, 50, 56, 98]⟩, ⟨#[100, 98, 55, 101, 99, 49, 51, 57, 53, 48, 102, 52, 56, 54, 50, 97]⟩, ⟨#[54, 102, 101, 57, 98, 51, 48, 56, 99, 50, 100, 55, 49, 52, 97, 53]⟩, ⟨#[97, 50, 56, 52, 55, 54, 49, 53, 102, 98, 57, 101, 51, 99, 100, 48]⟩]
bif (decide (i1211 < 0)) then (
let a1213 : (Nat → Int) := (Sch.zero (.arr 16 (.int .i64)))
κ0 a1213) else (
let i1214 : Int := remA .i64 i1211 10
bif decide (0 ≤ i1214) then (
bif decide (i1214 < ((List.length l1212) : Int)) then (
let s1215 : ByteArray := (List.getD l1212 ((Int.toNat i1214)) (Sch.zero (.str)))
bif decide (0 < ((List.length l1212) : Int)) then (
let s1216 : ByteArray := (List.getD l1212 0 (Sch.zero (.str)))
m_20_8 (((), (), s1215, s1216, 0, ()), ((Sch.zero (.arr 16 (.int .i64))), (Sch.zero (.arr 16 (.int .i64))), ())) (fun y1240 =>
let a1241 : (Nat → Int) := y1240.2.1
let a1242 : (Nat → Int) := y1240.2.2.1
κ0 a1242)) else none) else none) else none)
def C_20_11 {R : Type} (m_20_11 : Tl_20_11 R) (m_20_8 : Tl_20_8 R) (rec : ((Unit × Unit × ByteArray × ByteArray × Int × Int × Unit) × ((Nat → Int) × (Nat → Int) × Unit)) → Option R) (x : ((Unit × Unit × ByteArray × ByteArray × Int × Int × Unit) × ((Nat → Int) × (Nat → Int) × Unit))) (κ0 : ((Unit × Unit × ByteArray × ByteArray × Int × Unit) × ((Nat → Int) × (Nat → Int) × Unit)) → Option R) : Option R :=
let s1222 : ByteArray := x.1.2.2.1
let s1223 : ByteArray := x.1.2.2.2.1
let i1224 : Int := x.1.2.2.2.2.1
let i1225 : Int := x.1.2.2.2.2.2.1
let a1226 : (Nat → Int) := x.2.1
let a1227 : (Nat → Int) := x.2.2.1
bif (decide (i1225 < 16)) then (
bif decide (0 ≤ i1225) then (
bif decide (i1225 < (ByteArray.size s1223 : Int)) then (
let i1228 : Int := byteAt s1223 ((Int.toNat i1225))
bif decide (0 ≤ i1224) then (
bif decide (i1224 < (ByteArray.size s1222 : Int)) then (
let i1229 : Int := byteAt s1222 ((Int.toNat i1224))
bif (i1228 == i1229) then (
bif decide (0 ≤ i1224) then (
bif decide (i1224 < (16 : Int)) then (
let a1230 : (Nat → Int) := (upd a1227 ((Int.toNat i1224)) i1225)
let i1231 : Int := addA .i64 i1225 1
rec (((), (), s1222, s1223, i1224, i1231, ()), (a1226, a1230, ()))) else none) else none) else (
let i1232 : Int := addA .i64 i1225 1
rec (((), (), s1222, s1223, i1224, i1232, ()), (a1226, a1227, ())))) else none) else none) else none) else none) else (
κ0 (((), (), s1222, s1223, i1224, ()), (a1226, a1227, ())))
def C_20_8 {R : Type} (m_20_11 : Tl_20_11 R) (m_20_8 : Tl_20_8 R) (rec : ((Unit × Unit × ByteArray × ByteArray × Int × Unit) × ((Nat → Int) × (Nat → Int) × Unit)) → Option R) (x : ((Unit × Unit × ByteArray × ByteArray × Int × Unit) × ((Nat → Int) × (Nat → Int) × Unit))) (κ0 : ((Unit × Unit × Unit) × ((Nat → Int) × (Nat → Int) × Unit)) → Option R) : Option R :=
let s1217 : ByteArray := x.1.2.2.1
let s1218 : ByteArray := x.1.2.2.2.1
let i1219 : Int := x.1.2.2.2.2.1
let a1220 : (Nat → Int) := x.2.1
let a1221 : (Nat → Int) := x.2.2.1
bif (decide (i1219 < 16)) then (
m_20_11 (((), (), s1217, s1218, i1219, 0, ()), (a1220, a1221, ())) (fun y1233 =>
let s1234 : ByteArray := y1233.1.2.2.1
let s1235 : ByteArray := y1233.1.2.2.2.1
let i1236 : Int := y1233.1.2.2.2.2.1
let a1237 : (Nat → Int) := y1233.2.1
let a1238 : (Nat → Int) := y1233.2.2.1
let i1239 : Int := addA .i64 i1236 1
rec (((), (), s1234, s1235, i1239, ()), (a1237, a1238, ())))) else (
κ0 (((), (), ()), (a1220, a1221, ())))
def EG_20 {R : Type} : Env R := Env.base QQ LN
def LG_20 {R : Type} (m_20_11 : Tl_20_11 R) (m_20_8 : Tl_20_8 R) : Loops R := ((Loops.none).add 11 (loopBy 0 lv_20_11 pt_20_11 (fun x k => m_20_11 x (fun y => k (.exit 2) (px_20_11_0.inst y))))).add 8 (loopBy 0 lv_20_8 pt_20_8 (fun x k => m_20_8 x (fun y => k (.exit 0) (px_20_8_0.inst y))))
def E_20 {R : Type} (N : Nat) : Env R := EG_20
theorem eok_20 {R : Type} (N : Nat) : EK Try.prog (E_20 (R := R) N) := ek_base _ _
def L_20 {R : Type} (N : Nat) : Loops R := LG_20 (l_20_11 N N) (l_20_8 N N)
theorem gstep_20_11 {R : Type} (m_20_11 : Tl_20_11 R) (m_20_8 : Tl_20_8 R) (n : Nat) (x : pt_20_11.den) (k : Exit → St → Option R) : iter 0 lv_20_11 lo_20_11 (aexec TT (EG_20) (drawAny TT WW) (LG_20 m_20_11 m_20_8) (loopAt 11 (bodyOf Try.f20))) (n + 1) (pt_20_11.inst x) k = C_20_11 m_20_11 m_20_8 (fun y => iter 0 lv_20_11 lo_20_11 (aexec TT (EG_20) (drawAny TT WW) (LG_20 m_20_11 m_20_8) (loopAt 11 (bodyOf Try.f20))) n (pt_20_11.inst y) k) x (fun y => k (.exit 2) (px_20_11_0.inst y)) := by kernel_rfl
theorem step_20_11 {R : Type} (N n : Nat) (x : pt_20_11.den) (k : Exit → St → Option R) : iter 0 lv_20_11 lo_20_11 (aexec TT (E_20 (R := R) N) (drawAny TT WW) (L_20 N) (loopAt 11 (bodyOf Try.f20))) (n + 1) (pt_20_11.inst x) k = B_20_11 N (fun y => iter 0 lv_20_11 lo_20_11 (aexec TT (E_20 (R := R) N) (drawAny TT WW) (L_20 N) (loopAt 11 (bodyOf Try.f20))) n (pt_20_11.inst y) k) x (fun y => k (.exit 2) (px_20_11_0.inst y)) := (gstep_20_11 (l_20_11 N N) (l_20_8 N N) n x k).trans (by kernel_rfl)
theorem eq_20_11 {R : Type} (N : Nat) : ∀ (n : Nat) (x : pt_20_11.den) (k : Exit → St → Option R), iter 0 lv_20_11 lo_20_11 (aexec TT (E_20 (R := R) N) (drawAny TT WW) (L_20 N) (loopAt 11 (bodyOf Try.f20))) n (pt_20_11.inst x) k = l_20_11 N n x (fun y => k (.exit 2) (px_20_11_0.inst y)) :=
  iter_eq (K := Exit → St → Option R) (ks := fun k => k) (l := fun n (x : pt_20_11.den) k => l_20_11 N n x (fun y => k (.exit 2) (px_20_11_0.inst y))) (B := fun (rec : pt_20_11.den → Option R) (x : pt_20_11.den) k => B_20_11 N rec x (fun y => k (.exit 2) (px_20_11_0.inst y))) (fun _ _ => rfl) (fun _ _ _ => rfl) (fun n x k => step_20_11 N n x k)
theorem rounds_20_11 {R : Type} (N : Nat) : Rounds 0 TT (E_20 (R := R) N) (drawAny TT WW) (L_20 N) 11 (loopAt 11 (bodyOf Try.f20)) :=
  rounds_of (p := pt_20_11) (l := fun (x : pt_20_11.den) k => l_20_11 N N x (fun y => k (.exit 2) (px_20_11_0.inst y))) (fun s k => rfl) (fun x k => eq_20_11 N N x k)
theorem gstep_20_8 {R : Type} (m_20_11 : Tl_20_11 R) (m_20_8 : Tl_20_8 R) (n : Nat) (x : pt_20_8.den) (k : Exit → St → Option R) : iter 0 lv_20_8 lo_20_8 (aexec TT (EG_20) (drawAny TT WW) (LG_20 m_20_11 m_20_8) (loopAt 8 (bodyOf Try.f20))) (n + 1) (pt_20_8.inst x) k = C_20_8 m_20_11 m_20_8 (fun y => iter 0 lv_20_8 lo_20_8 (aexec TT (EG_20) (drawAny TT WW) (LG_20 m_20_11 m_20_8) (loopAt 8 (bodyOf Try.f20))) n (pt_20_8.inst y) k) x (fun y => k (.exit 0) (px_20_8_0.inst y)) := by kernel_rfl
theorem step_20_8 {R : Type} (N n : Nat) (x : pt_20_8.den) (k : Exit → St → Option R) : iter 0 lv_20_8 lo_20_8 (aexec TT (E_20 (R := R) N) (drawAny TT WW) (L_20 N) (loopAt 8 (bodyOf Try.f20))) (n + 1) (pt_20_8.inst x) k = B_20_8 N (fun y => iter 0 lv_20_8 lo_20_8 (aexec TT (E_20 (R := R) N) (drawAny TT WW) (L_20 N) (loopAt 8 (bodyOf Try.f20))) n (pt_20_8.inst y) k) x (fun y => k (.exit 0) (px_20_8_0.inst y)) := (gstep_20_8 (l_20_11 N N) (l_20_8 N N) n x k).trans (by kernel_rfl)
theorem eq_20_8 {R : Type} (N : Nat) : ∀ (n : Nat) (x : pt_20_8.den) (k : Exit → St → Option R), iter 0 lv_20_8 lo_20_8 (aexec TT (E_20 (R := R) N) (drawAny TT WW) (L_20 N) (loopAt 8 (bodyOf Try.f20))) n (pt_20_8.inst x) k = l_20_8 N n x (fun y => k (.exit 0) (px_20_8_0.inst y)) :=
  iter_eq (K := Exit → St → Option R) (ks := fun k => k) (l := fun n (x : pt_20_8.den) k => l_20_8 N n x (fun y => k (.exit 0) (px_20_8_0.inst y))) (B := fun (rec : pt_20_8.den → Option R) (x : pt_20_8.den) k => B_20_8 N rec x (fun y => k (.exit 0) (px_20_8_0.inst y))) (fun _ _ => rfl) (fun _ _ _ => rfl) (fun n x k => step_20_8 N n x k)
theorem rounds_20_8 {R : Type} (N : Nat) : Rounds 0 TT (E_20 (R := R) N) (drawAny TT WW) (L_20 N) 8 (loopAt 8 (bodyOf Try.f20)) :=
  rounds_of (p := pt_20_8) (l := fun (x : pt_20_8.den) k => l_20_8 N N x (fun y => k (.exit 0) (px_20_8_0.inst y))) (fun s k => rfl) (fun x k => eq_20_8 N N x k)
theorem loops_20 : loopsIn (bodyOf Try.f20) = [(8, loopAt 8 (bodyOf Try.f20)), (11, loopAt 11 (bodyOf Try.f20))] := by kernel_rfl
theorem lok_20 {R : Type} (N : Nat) : LOK 0 TT (E_20 (R := R) N) (drawAny TT WW) (L_20 N) (bodyOf Try.f20) := loops_all loops_20 (by
  simp only [List.forall_mem_cons, List.not_mem_nil, false_implies, implies_true, and_true]
  exact ⟨rounds_20_8 N, rounds_20_11 N⟩)
theorem grun_20 {R : Type} (m_20_11 : Tl_20_11 R) (m_20_8 : Tl_20_8 R) (x : aden ap_20 × hden hp_20) (k : KF R) : fnrun TT (EG_20) (drawAny TT WW) (LG_20 m_20_11 m_20_8) true Try.f20 (instA ap_20 x.1) (instH hp_20 x.2) k = Q_20 m_20_11 m_20_8 x (fun y => k (Pat.inst (.vec (.int .i64) 16) y) (instH hp_20 x.2)) := by kernel_rfl
theorem run_20 {R : Type} (N : Nat) (x : aden ap_20 × hden hp_20) (k : KF R) : fnrun TT (E_20 (R := R) N) (drawAny TT WW) (L_20 N) true Try.f20 (instA ap_20 x.1) (instH hp_20 x.2) k = p_20 N x (fun y => k (Pat.inst (.vec (.int .i64) 16) y) (instH hp_20 x.2)) := (grun_20 (l_20_11 N N) (l_20_8 N N) x k).trans (by kernel_rfl)
theorem good_20 {R : Type} (N : Nat) : GD (X := R) Try.prog QQ 20 ap_20 hp_20 (fun (x : aden ap_20 × hden hp_20) k => p_20 N x (fun y => k (Pat.inst (.vec (.int .i64) 16) y) (instH hp_20 x.2))) :=
  gd_quiet (E := E_20 N) (p := fun (x : aden ap_20 × hden hp_20) κ => p_20 N x (fun y => κ (Pat.inst (.vec (.int .i64) 16) y))) mixed tyok (eok_20 N) Try.func20 (by kernel_rfl) (by kernel_rfl) (lok_20 N) (fun x k => run_20 N x k)

def lv_4_11 : Live := [(10, none), (70, none), (71, none)]
def pt_4_11 : SPat := ⟨[(10, .ptr 0 []), (70, .vec (.int .i64) 16), (71, .int .i64)], [some (.vec (.bool) 16, 40)]⟩
def px_4_11_0 : SPat := ⟨[(4, .bool)], []⟩
def px_4_11_1 : SPat := ⟨[], []⟩
def lo_4_11 : Exit → Live
  | .ret => [(4, none)]
  | .exit 0 => []
  | _ => []
def B_4_11 {R : Type} (N : Nat) (rec : ((Unit × (Nat → Int) × Int × Unit) × ((Nat → Bool) × Unit)) → Option R) (x : ((Unit × (Nat → Int) × Int × Unit) × ((Nat → Bool) × Unit))) (κ0 : ((Bool × Unit) × (Unit)) → Option R) (κ1 : ((Unit) × (Unit)) → Option R) : Option R :=
let a1247 : (Nat → Int) := x.1.2.1
let i1248 : Int := x.1.2.2.1
let a1249 : (Nat → Bool) := x.2.1
bif (decide (i1248 < 16)) then (
bif decide (0 ≤ i1248) then (
bif decide (i1248 < (16 : Int)) then (
let i1250 : Int := (a1247 ((Int.toNat i1248)))
bif (decide (i1250 < 0)) then (
κ0 ((false, ()), ())) else (
bif (decide (i1250 > 15)) then (
κ0 ((false, ()), ())) else (
bif decide (0 ≤ i1250) then (
bif decide (i1250 < (16 : Int)) then (
let b1251 : Bool := (a1249 ((Int.toNat i1250)))
bif b1251 then (
κ0 ((false, ()), ())) else (
bif decide (0 ≤ i1250) then (
bif decide (i1250 < (16 : Int)) then (
let a1252 : (Nat → Bool) := (upd a1249 ((Int.toNat i1250)) true)
let i1253 : Int := addA .i64 i1248 1
rec (((), a1247, i1253, ()), (a1252, ()))) else none) else none)) else none) else none))) else none) else none) else (
κ1 ((), ()))
def l_4_11 {R : Type} (N : Nat) : Nat → ((Unit × (Nat → Int) × Int × Unit) × ((Nat → Bool) × Unit)) → (((Bool × Unit) × (Unit)) → Option R) → (((Unit) × (Unit)) → Option R) → Option R
  | 0, _, _, _ => none
  | n + 1, x, κ0, κ1 => B_4_11 N (fun y => l_4_11 N n y κ0 κ1) x κ0 κ1
def ap_4 : List Pat := [.vec (.int .u64) 8, .int .i64]
def hp_4 : List (Option (Pat × Nat)) := []
def p_4 {R : Type} (N : Nat) (x : ((Nat → Int) × Int × Unit) × (Unit)) (κ0 : (Bool × (Unit)) → Option R) : Option R :=
let a1 : (Nat → Int) := x.1.1
let i2 : Int := x.1.2.1
p_11 N ((), ()) (fun y1134 =>
let b1135 : Bool := y1134
bif (!b1135) then (
κ0 (false, ())) else (
let i1136 : Int := (a1 0)
let i1137 : Int := (a1 1)
let i1138 : Int := (a1 2)
let i1139 : Int := (a1 3)
let i1140 : Int := (a1 4)
let i1141 : Int := (a1 5)
p_17 N ((i1136, i1137, i1138, i1139, i1140, i1141, ()), ()) (fun y1142 =>
let i1143 : Int := y1142.1
let i1144 : Int := y1142.2.1
let i1145 : Int := y1142.2.2.1
let i1146 : Int := y1142.2.2.2.1
let a1147 : (Nat → Int) := (upd ((upd ((upd ((upd ((Sch.zero (.arr 4 (.int .u64)))) 0 i1143)) 1 i1144)) 2 i1145)) 3 i1146)
let i1148 : Int := (a1 0)
let i1149 : Int := (a1 1)
let i1150 : Int := (a1 2)
let i1151 : Int := (a1 3)
let a1152 : (Nat → Int) := (upd ((upd ((upd ((upd ((Sch.zero (.arr 4 (.int .u64)))) 0 i1148)) 1 i1149)) 2 i1150)) 3 i1151)
let i1153 : Int := (a1 4)
let i1154 : Int := (a1 5)
p_18 N ((a1152, i1153, i1154, ()), ()) (fun y1207 =>
let a1208 : (Nat → Int) := y1207
bif (!(schEq (.arr 4 (.int .u64)) a1147 a1208)) then (
κ0 (false, ())) else (
p_19 N ((i2, ()), ()) (fun y1209 =>
let a1210 : (Nat → Int) := y1209
p_20 N ((i2, ()), ()) (fun y1243 =>
let a1244 : (Nat → Int) := y1243
bif (!(schEq (.arr 16 (.int .i64)) a1210 a1244)) then (
bif (decide (i2 < 0)) then (
let a1245 : (Nat → Int) := (Sch.zero (.arr 16 (.int .i64)))
κ0 ((schEq (.arr 16 (.int .i64)) a1210 a1245), ())) else (
κ0 (false, ()))) else (
bif (decide (i2 < 0)) then (
bif (decide (i2 < 0)) then (
let a1246 : (Nat → Int) := (Sch.zero (.arr 16 (.int .i64)))
κ0 ((schEq (.arr 16 (.int .i64)) a1210 a1246), ())) else (
κ0 (false, ()))) else (
l_4_11 N N (((), a1210, 0, ()), ((Sch.zero (.arr 16 (.bool))), ())) (fun y1254 =>
let b1255 : Bool := y1254.1.1
κ0 (b1255, ())) (fun _ =>
κ0 (true, ())))))))))))

abbrev Tl_4_11 (R : Type) : Type := ((Unit × (Nat → Int) × Int × Unit) × ((Nat → Bool) × Unit)) → (((Bool × Unit) × (Unit)) → Option R) → (((Unit) × (Unit)) → Option R) → Option R
abbrev Tp_4 (R : Type) : Type := ((Nat → Int) × Int × Unit) × (Unit) → ((Bool × (Unit)) → Option R) → Option R
def Q_4 {R : Type} (q_11 : Tp_11 R) (q_17 : Tp_17 R) (q_18 : Tp_18 R) (q_19 : Tp_19 R) (q_20 : Tp_20 R) (m_4_11 : Tl_4_11 R) (x : ((Nat → Int) × Int × Unit) × (Unit)) (κ0 : (Bool × (Unit)) → Option R) : Option R :=
let a1 : (Nat → Int) := x.1.1
let i2 : Int := x.1.2.1
q_11 ((), ()) (fun y1134 =>
let b1135 : Bool := y1134
bif (!b1135) then (
κ0 (false, ())) else (
let i1136 : Int := (a1 0)
let i1137 : Int := (a1 1)
let i1138 : Int := (a1 2)
let i1139 : Int := (a1 3)
let i1140 : Int := (a1 4)
let i1141 : Int := (a1 5)
q_17 ((i1136, i1137, i1138, i1139, i1140, i1141, ()), ()) (fun y1142 =>
let i1143 : Int := y1142.1
let i1144 : Int := y1142.2.1
let i1145 : Int := y1142.2.2.1
let i1146 : Int := y1142.2.2.2.1
let a1147 : (Nat → Int) := (upd ((upd ((upd ((upd ((Sch.zero (.arr 4 (.int .u64)))) 0 i1143)) 1 i1144)) 2 i1145)) 3 i1146)
let i1148 : Int := (a1 0)
let i1149 : Int := (a1 1)
let i1150 : Int := (a1 2)
let i1151 : Int := (a1 3)
let a1152 : (Nat → Int) := (upd ((upd ((upd ((upd ((Sch.zero (.arr 4 (.int .u64)))) 0 i1148)) 1 i1149)) 2 i1150)) 3 i1151)
let i1153 : Int := (a1 4)
let i1154 : Int := (a1 5)
q_18 ((a1152, i1153, i1154, ()), ()) (fun y1207 =>
let a1208 : (Nat → Int) := y1207
bif (!(schEq (.arr 4 (.int .u64)) a1147 a1208)) then (
κ0 (false, ())) else (
q_19 ((i2, ()), ()) (fun y1209 =>
let a1210 : (Nat → Int) := y1209
q_20 ((i2, ()), ()) (fun y1243 =>
let a1244 : (Nat → Int) := y1243
bif (!(schEq (.arr 16 (.int .i64)) a1210 a1244)) then (
bif (decide (i2 < 0)) then (
let a1245 : (Nat → Int) := (Sch.zero (.arr 16 (.int .i64)))
κ0 ((schEq (.arr 16 (.int .i64)) a1210 a1245), ())) else (
κ0 (false, ()))) else (
bif (decide (i2 < 0)) then (
bif (decide (i2 < 0)) then (
let a1246 : (Nat → Int) := (Sch.zero (.arr 16 (.int .i64)))
κ0 ((schEq (.arr 16 (.int .i64)) a1210 a1246), ())) else (
κ0 (false, ()))) else (
m_4_11 (((), a1210, 0, ()), ((Sch.zero (.arr 16 (.bool))), ())) (fun y1254 =>
let b1255 : Bool := y1254.1.1
κ0 (b1255, ())) (fun _ =>
κ0 (true, ())))))))))))
def C_4_11 {R : Type} (q_11 : Tp_11 R) (q_17 : Tp_17 R) (q_18 : Tp_18 R) (q_19 : Tp_19 R) (q_20 : Tp_20 R) (m_4_11 : Tl_4_11 R) (rec : ((Unit × (Nat → Int) × Int × Unit) × ((Nat → Bool) × Unit)) → Option R) (x : ((Unit × (Nat → Int) × Int × Unit) × ((Nat → Bool) × Unit))) (κ0 : ((Bool × Unit) × (Unit)) → Option R) (κ1 : ((Unit) × (Unit)) → Option R) : Option R :=
let a1247 : (Nat → Int) := x.1.2.1
let i1248 : Int := x.1.2.2.1
let a1249 : (Nat → Bool) := x.2.1
bif (decide (i1248 < 16)) then (
bif decide (0 ≤ i1248) then (
bif decide (i1248 < (16 : Int)) then (
let i1250 : Int := (a1247 ((Int.toNat i1248)))
bif (decide (i1250 < 0)) then (
κ0 ((false, ()), ())) else (
bif (decide (i1250 > 15)) then (
κ0 ((false, ()), ())) else (
bif decide (0 ≤ i1250) then (
bif decide (i1250 < (16 : Int)) then (
let b1251 : Bool := (a1249 ((Int.toNat i1250)))
bif b1251 then (
κ0 ((false, ()), ())) else (
bif decide (0 ≤ i1250) then (
bif decide (i1250 < (16 : Int)) then (
let a1252 : (Nat → Bool) := (upd a1249 ((Int.toNat i1250)) true)
let i1253 : Int := addA .i64 i1248 1
rec (((), a1247, i1253, ()), (a1252, ()))) else none) else none)) else none) else none))) else none) else none) else (
κ1 ((), ()))
def EG_4 {R : Type} (q_11 : Tp_11 R) (q_17 : Tp_17 R) (q_18 : Tp_18 R) (q_19 : Tp_19 R) (q_20 : Tp_20 R) : Env R := (((((Env.base QQ LN).add 11 ap_11 hp_11 (fun (x : aden ap_11 × hden hp_11) k => q_11 x (fun y => k (Pat.inst (.bool) y) (instH hp_11 x.2)))).add 17 ap_17 hp_17 (fun (x : aden ap_17 × hden hp_17) k => q_17 x (fun y => k (Pat.inst (.tup (.fcons (.int .u64) (.fcons (.int .u64) (.fcons (.int .u64) (.fcons (.int .u64) (.fnil)))))) y) (instH hp_17 x.2)))).add 18 ap_18 hp_18 (fun (x : aden ap_18 × hden hp_18) k => q_18 x (fun y => k (Pat.inst (.vec (.int .u64) 4) y) (instH hp_18 x.2)))).add 19 ap_19 hp_19 (fun (x : aden ap_19 × hden hp_19) k => q_19 x (fun y => k (Pat.inst (.vec (.int .i64) 16) y) (instH hp_19 x.2)))).add 20 ap_20 hp_20 (fun (x : aden ap_20 × hden hp_20) k => q_20 x (fun y => k (Pat.inst (.vec (.int .i64) 16) y) (instH hp_20 x.2)))
def LG_4 {R : Type} (m_4_11 : Tl_4_11 R) : Loops R := (Loops.none).add 11 (loopBy 0 lv_4_11 pt_4_11 (fun x k => m_4_11 x (fun y => k .ret (px_4_11_0.inst y)) (fun y => k (.exit 0) (px_4_11_1.inst y))))
def E_4 {R : Type} (N : Nat) : Env R := EG_4 (p_11 N) (p_17 N) (p_18 N) (p_19 N) (p_20 N)
theorem eok_4 {R : Type} (N : Nat) : EK Try.prog (E_4 (R := R) N) := ek_add (ek_add (ek_add (ek_add (ek_add (ek_base _ _) (good_11 N)) (good_17 N)) (good_18 N)) (good_19 N)) (good_20 N)
def L_4 {R : Type} (N : Nat) : Loops R := LG_4 (l_4_11 N N)
theorem gstep_4_11 {R : Type} (q_11 : Tp_11 R) (q_17 : Tp_17 R) (q_18 : Tp_18 R) (q_19 : Tp_19 R) (q_20 : Tp_20 R) (m_4_11 : Tl_4_11 R) (n : Nat) (x : pt_4_11.den) (k : Exit → St → Option R) : iter 0 lv_4_11 lo_4_11 (aexec TT (EG_4 q_11 q_17 q_18 q_19 q_20) (drawAny TT WW) (LG_4 m_4_11) (loopAt 11 (bodyOf Try.f4))) (n + 1) (pt_4_11.inst x) k = C_4_11 q_11 q_17 q_18 q_19 q_20 m_4_11 (fun y => iter 0 lv_4_11 lo_4_11 (aexec TT (EG_4 q_11 q_17 q_18 q_19 q_20) (drawAny TT WW) (LG_4 m_4_11) (loopAt 11 (bodyOf Try.f4))) n (pt_4_11.inst y) k) x (fun y => k .ret (px_4_11_0.inst y)) (fun y => k (.exit 0) (px_4_11_1.inst y)) := by kernel_rfl
theorem step_4_11 {R : Type} (N n : Nat) (x : pt_4_11.den) (k : Exit → St → Option R) : iter 0 lv_4_11 lo_4_11 (aexec TT (E_4 (R := R) N) (drawAny TT WW) (L_4 N) (loopAt 11 (bodyOf Try.f4))) (n + 1) (pt_4_11.inst x) k = B_4_11 N (fun y => iter 0 lv_4_11 lo_4_11 (aexec TT (E_4 (R := R) N) (drawAny TT WW) (L_4 N) (loopAt 11 (bodyOf Try.f4))) n (pt_4_11.inst y) k) x (fun y => k .ret (px_4_11_0.inst y)) (fun y => k (.exit 0) (px_4_11_1.inst y)) := (gstep_4_11 (p_11 N) (p_17 N) (p_18 N) (p_19 N) (p_20 N) (l_4_11 N N) n x k).trans (by kernel_rfl)
theorem eq_4_11 {R : Type} (N : Nat) : ∀ (n : Nat) (x : pt_4_11.den) (k : Exit → St → Option R), iter 0 lv_4_11 lo_4_11 (aexec TT (E_4 (R := R) N) (drawAny TT WW) (L_4 N) (loopAt 11 (bodyOf Try.f4))) n (pt_4_11.inst x) k = l_4_11 N n x (fun y => k .ret (px_4_11_0.inst y)) (fun y => k (.exit 0) (px_4_11_1.inst y)) :=
  iter_eq (K := Exit → St → Option R) (ks := fun k => k) (l := fun n (x : pt_4_11.den) k => l_4_11 N n x (fun y => k .ret (px_4_11_0.inst y)) (fun y => k (.exit 0) (px_4_11_1.inst y))) (B := fun (rec : pt_4_11.den → Option R) (x : pt_4_11.den) k => B_4_11 N rec x (fun y => k .ret (px_4_11_0.inst y)) (fun y => k (.exit 0) (px_4_11_1.inst y))) (fun _ _ => rfl) (fun _ _ _ => rfl) (fun n x k => step_4_11 N n x k)
theorem rounds_4_11 {R : Type} (N : Nat) : Rounds 0 TT (E_4 (R := R) N) (drawAny TT WW) (L_4 N) 11 (loopAt 11 (bodyOf Try.f4)) :=
  rounds_of (p := pt_4_11) (l := fun (x : pt_4_11.den) k => l_4_11 N N x (fun y => k .ret (px_4_11_0.inst y)) (fun y => k (.exit 0) (px_4_11_1.inst y))) (fun s k => rfl) (fun x k => eq_4_11 N N x k)
theorem loops_4 : loopsIn (bodyOf Try.f4) = [(11, loopAt 11 (bodyOf Try.f4))] := by kernel_rfl
theorem lok_4 {R : Type} (N : Nat) : LOK 0 TT (E_4 (R := R) N) (drawAny TT WW) (L_4 N) (bodyOf Try.f4) := loops_all loops_4 (by
  simp only [List.forall_mem_cons, List.not_mem_nil, false_implies, implies_true, and_true]
  exact rounds_4_11 N)
theorem grun_4 {R : Type} (q_11 : Tp_11 R) (q_17 : Tp_17 R) (q_18 : Tp_18 R) (q_19 : Tp_19 R) (q_20 : Tp_20 R) (m_4_11 : Tl_4_11 R) (x : aden ap_4 × hden hp_4) (k : KF R) : fnrun TT (EG_4 q_11 q_17 q_18 q_19 q_20) (drawAny TT WW) (LG_4 m_4_11) true Try.f4 (instA ap_4 x.1) (instH hp_4 x.2) k = Q_4 q_11 q_17 q_18 q_19 q_20 m_4_11 x (fun y => k (Pat.inst (.bool) y.1) (instH [] y.2)) := by kernel_rfl
theorem run_4 {R : Type} (N : Nat) (x : aden ap_4 × hden hp_4) (k : KF R) : fnrun TT (E_4 (R := R) N) (drawAny TT WW) (L_4 N) true Try.f4 (instA ap_4 x.1) (instH hp_4 x.2) k = p_4 N x (fun y => k (Pat.inst (.bool) y.1) (instH [] y.2)) := (grun_4 (p_11 N) (p_17 N) (p_18 N) (p_19 N) (p_20 N) (l_4_11 N N) x k).trans (by kernel_rfl)
theorem good_4 {R : Type} (N : Nat) : GD (X := R) Try.prog QQ 4 ap_4 hp_4 (fun (x : aden ap_4 × hden hp_4) k => p_4 N x (fun y => k (Pat.inst (.bool) y.1) (instH [] y.2))) :=
  gd_loud (E := E_4 N) (p := fun (x : aden ap_4 × hden hp_4) k => p_4 N x (fun y => k (Pat.inst (.bool) y.1) (instH [] y.2))) mixed tyok (eok_4 N) Try.func4 (by kernel_rfl) (by kernel_rfl) (by kernel_rfl) (lok_4 N) (fun x k => run_4 N x k)

end Go.Proofs.Ytnfhngcdddjilaa.Eng
