/-
Plain functions that the functions of the program are shown to come to, printed by a program of the prover; each with its proof.
Conditions: none.
-/
import Derived.Test.YtfcloeflcpcheaaGreatMirFillAllA
import Derived.KernelRfl
set_option linter.unusedVariables false
namespace Go.Proofs.YtfcloeflcpcheaaGreat.Eng
variable {R : Type}
def ap_79 : List Pat := [.int .i64, .str, .sl 0]
def hp_79 : List (Option (Pat × Nat)) := [some (.lst (.str), 9)]
abbrev Tp_79 (R : Type) : Type := (Int × ByteArray × Unit × Unit) × Y27 → (((ByteArray × (Int × Unit)) × Y27) → Option R) → Option R
def Q_79 (q_76 : Tp_76 R) (q_77_v2 : Tp_77_v2 R) (q_78 : Tp_78 R) (q_77 : Tp_77 R) (q_78_v1 : Tp_78_v1 R) (q_77_v1 : Tp_77_v1 R) (q_78_v2 : Tp_78_v2 R) (x : (Int × ByteArray × Unit × Unit) × Y27) (κ0 : ((ByteArray × (Int × Unit)) × Y27) → Option R) : Option R :=
let m := x.1.1
let j := x.1.2.1
let e := x.2.1
q_76 ((m, j, ()), ()) (fun d =>
let s := d.1.2.1
bif (s != 0) then (
κ0 ((⟨#[]⟩, d.1.2), x.2)) else (
q_77_v2 (((), (), ()), x.2) (fun u =>
q_78 (((), ()), ()) (fun n =>
let o := n.1
κ0 ((o, (0, ())), u.2))))) (fun c =>
let w := c.1.2.1
bif (w != 0) then (
κ0 ((⟨#[]⟩, c.1.2), x.2)) else (
q_77 (((), (), ()), (c.2.1, e, ())) (fun f =>
q_78_v1 (((), ()), (f.2.1, ())) (fun g =>
let r := g.1
κ0 ((r, (0, ())), f.2.2))))) (fun a =>
let l := a.1.2.1
let t := a.2.2.2.1
bif (l != 0) then (
κ0 ((⟨#[]⟩, a.1.2), x.2)) else (
q_77_v1 (((), (), ()), (a.2.1, a.2.2.1, t, e, ())) (fun b =>
let p := b.2.2.2.1
let h := b.2.2.2.2.1
q_78_v2 (((), ()), (b.2.1, b.2.2.1, h, ())) (fun v =>
let i := v.1
κ0 ((i, (0, ())), (p, ()))))))
def p_79 (N : Nat) (x : (Int × ByteArray × Unit × Unit) × Y27) (κ0 : ((ByteArray × (Int × Unit)) × Y27) → Option R) : Option R := Q_79 (p_76 N) (p_77_v2 N) (p_78 N) (p_77 N) (p_78_v1 N) (p_77_v1 N) (p_78_v2 N) x κ0
def EG_79 (q_76 : Tp_76 R) (q_77_v2 : Tp_77_v2 R) (q_78 : Tp_78 R) (q_77 : Tp_77 R) (q_78_v1 : Tp_78_v1 R) (q_77_v1 : Tp_77_v1 R) (q_78_v2 : Tp_78_v2 R) : Env R := (((((((Env.base QQ LN AA).add 76 ap_76 hp_76 (fun (x : aden ap_76 × hden hp_76) k => q_76 x (fun y => k (Pat.inst (.tup (.fcons (.nilp) (.fcons (.int .i64) (.fnil)))) y.1) (instH [] y.2)) (fun y => k (Pat.inst (.tup (.fcons (.ptr 0 []) (.fcons (.int .i64) (.fnil)))) y.1) (instH [some (Z6, 174)] y.2)) (fun y => k (Pat.inst (.tup (.fcons (.ptr 0 []) (.fcons (.int .i64) (.fnil)))) y.1) (instH J10 y.2)))).add 77 ap_77_v2 hp_77_v2 (fun (x : aden ap_77_v2 × hden hp_77_v2) k => q_77_v2 x (fun y => k (Pat.inst (.nilp) y.1) (instH [some (.lst (.str), 9)] y.2)))).add 78 ap_78 hp_78 (fun (x : aden ap_78 × hden hp_78) k => q_78 x (fun y => k (Pat.inst (.str) y.1) (instH [] y.2)))).add 77 ap_77 hp_77 (fun (x : aden ap_77 × hden hp_77) k => q_77 x (fun y => k (Pat.inst (.ptr 0 []) y.1) (instH [some (Z6, 174), some (.lst (.str), 9)] y.2)))).add 78 ap_78_v1 hp_78_v1 (fun (x : aden ap_78_v1 × hden hp_78_v1) k => q_78_v1 x (fun y => k (Pat.inst (.str) y.1) (instH [some (Z6, 174)] y.2)))).add 77 ap_77_v1 hp_77_v1 (fun (x : aden ap_77_v1 × hden hp_77_v1) k => q_77_v1 x (fun y => k (Pat.inst (.ptr 0 []) y.1) (instH J9 y.2)))).add 78 ap_78_v2 hp_78_v2 (fun (x : aden ap_78_v2 × hden hp_78_v2) k => q_78_v2 x (fun y => k (Pat.inst (.str) y.1) (instH J10 y.2)))
def LG_79 : Loops R := Loops.none
def E_79 (N : Nat) : Env R := EG_79 (p_76 N) (p_77_v2 N) (p_78 N) (p_77 N) (p_78_v1 N) (p_77_v1 N) (p_78_v2 N)
def L_79 (N : Nat) : Loops R := LG_79
theorem grun_79 (q_76 : Tp_76 R) (q_77_v2 : Tp_77_v2 R) (q_78 : Tp_78 R) (q_77 : Tp_77 R) (q_78_v1 : Tp_78_v1 R) (q_77_v1 : Tp_77_v1 R) (q_78_v2 : Tp_78_v2 R) (x : aden ap_79 × hden hp_79) (k : KF R) : fnrun TT (EG_79 q_76 q_77_v2 q_78 q_77 q_78_v1 q_77_v1 q_78_v2) (drawAny TT WW) (LG_79) true Tryz.f79 (instA ap_79 x.1) (instH hp_79 x.2) k = Q_79 q_76 q_77_v2 q_78 q_77 q_78_v1 q_77_v1 q_78_v2 x (fun y => k (Pat.inst (.tup (.fcons (.str) (.fcons (.int .i64) (.fnil)))) y.1) (instH [some (.lst (.str), 9)] y.2)) := by kernel_rfl
theorem good_79 (N : Nat) : GD (X := R) Tryz.prog QQ AA 79 ap_79 hp_79 (fun (x : aden ap_79 × hden hp_79) k => p_79 N x (fun y => k (Pat.inst (.tup (.fcons (.str) (.fcons (.int .i64) (.fnil)))) y.1) (instH [some (.lst (.str), 9)] y.2))) :=
  gd_loud (E := E_79 N) mixed tyok (ek_add (ek_add (ek_add (ek_add (ek_add (ek_add (ek_add (ek_base _ _ _) (good_76 N)) (good_77_v2 N)) (good_78 N)) (good_77 N)) (good_78_v1 N)) (good_77_v1 N)) (good_78_v2 N)) Tryz.func79 (by kernel_rfl) (by kernel_rfl) (by kernel_rfl) (by kernel_rfl) (loops_nil (L := L_79 N) (by kernel_rfl)) (fun x k => (grun_79 (p_76 N) (p_77_v2 N) (p_78 N) (p_77 N) (p_78_v1 N) (p_77_v1 N) (p_78_v2 N) x k).trans (by kernel_rfl))

def lv_53_8 : Live := [(0, none), (8, none), (9, none)]
def pt_53_8 : SPat := ⟨[(0, .int .i64), (8, .str), (9, .sl 1)], [some (.lst (.str), 9), some (.lst (.int .u8), 5)]⟩
def px_53_8_0 : SPat := ⟨[(0, .int .i64), (8, .str), (9, .sl 1)], [some (.lst (.str), 9), some (.lst (.int .u8), 5)]⟩
def lo_53_8 : Exit → Live
  | .exit 0 => [(0, none), (8, none), (9, none)]
  | _ => []
def ap_53 : List Pat := [.int .i64, .sl 0]
def hp_53 : List (Option (Pat × Nat)) := [some (.lst (.str), 9)]
abbrev Tl_53_8 (R : Type) : Type := Y30 → (Y30 → Option R) → Option R
abbrev Tp_53 (R : Type) : Type := (Int × Unit × Unit) × Y27 → (((ByteArray × (Int × Unit)) × Y27) → Option R) → Option R
def C_53_8 (q_79 : Tp_79 R) (rec : Y30 → Option R) (x : Y30) (κ0 : Y30 → Option R) : Option R :=
let b := x.1.1
let f := x.1.2.1
let e := x.2.1
let a := x.2.2.1
let j : Int := (((List.length a) : Nat) : Int)
let l : Int := subA .i64 b j
bif (decide (l > 64)) then (
let g : (List ByteArray) := [f]
q_79 ((64, ⟨#[]⟩, (), ()), (g, ())) (fun i =>
let c := i.1.1
bif decide (32 ≤ ((ByteArray.size c : Nat) : Int)) then (
let d : ByteArray := ByteArray.extract c 0 32
bif (decide ((List.length a + List.length (strList d)) * 1 ≤ 140737488355328) && true) then (
let h : (List Int) := (a ++ strList d)
rec ((b, c, (), ()), (e, h, ()))) else none) else none)) else (
κ0 ((b, f, (), ()), (e, a, ())))
def B_53_8 (N : Nat) (rec : Y30 → Option R) (x : Y30) (κ0 : Y30 → Option R) : Option R := C_53_8 (p_79 N) rec x κ0
def l_53_8 (N : Nat) : Nat → Y30 → (Y30 → Option R) → Option R
  | 0, _, _ => none
  | n + 1, x, κ0 => B_53_8 N (fun y => l_53_8 N n y κ0) x κ0
def Q_53 (q_76 : Tp_76 R) (q_32 : Tp_32 R) (q_77_v2 : Tp_77_v2 R) (q_78 : Tp_78 R) (q_79 : Tp_79 R) (q_77 : Tp_77 R) (q_78_v1 : Tp_78_v1 R) (q_77_v1 : Tp_77_v1 R) (q_78_v2 : Tp_78_v2 R) (m_53_8 : Tl_53_8 R) (x : (Int × Unit × Unit) × Y27) (κ0 : ((ByteArray × (Int × Unit)) × Y27) → Option R) : Option R :=
let a := x.1.1
let s := x.2.1
bif (decide (a < 1)) then (
κ0 ((⟨#[]⟩, (1, ())), x.2)) else (
bif (decide (a > 65536)) then (
κ0 ((⟨#[]⟩, (1, ())), x.2)) else (
let a4 : Int := minA a 64
q_76 ((a4, ⟨#[]⟩, ()), ()) (fun bp =>
let aj : Int := IntKind.wrap .u32 a
let bc : (List Int) := [aj]
q_32 (((), ()), (bc, ())) (fun ay =>
let am := ay.1
let ag : ByteArray := listStr am
let a6 : (List ByteArray) := [ag]
q_77_v2 (((), (), ()), (a6, ())) (fun bq =>
q_77_v2 (((), (), ()), x.2) (fun r =>
let bj := r.2.1
q_78 (((), ()), ()) (fun bn =>
let d := bn.1
bif (decide (a ≤ 64)) then (
κ0 ((d, (0, ())), r.2)) else (
bif decide (32 ≤ ((ByteArray.size d : Nat) : Int)) then (
let z : ByteArray := ByteArray.extract d 0 32
bif decide (ByteArray.size z ≤ maxI64) then (
let bb : (List Int) := strList z
m_53_8 ((a, d, (), ()), (bj, bb, ())) (fun f =>
let a3 := f.1.1
let b9 := f.1.2.1
let b0 := f.2.1
let m := f.2.2.1
let b1 : Int := (((List.length m) : Nat) : Int)
let bi : Int := subA .i64 a3 b1
let ai : (List ByteArray) := [b9]
q_79 ((bi, ⟨#[]⟩, (), ()), (ai, ())) (fun bh =>
let w := bh.1.1
bif (decide ((List.length m + List.length (strList w)) * 1 ≤ 140737488355328) && true) then (
let av : (List Int) := (m ++ strList w)
let bk : ByteArray := listStr av
κ0 ((bk, (0, ())), (b0, ()))) else none))) else none) else none)))))) (fun aq =>
let an : Int := IntKind.wrap .u32 a
let ah : (List Int) := [an]
q_32 (((), ()), (ah, ())) (fun be =>
let ax := be.1
let ae : ByteArray := listStr ax
let b2 : (List ByteArray) := [ae]
q_77 (((), (), ()), (aq.2.1, b2, ())) (fun ad =>
q_77 (((), (), ()), (ad.2.1, s, ())) (fun i =>
let b6 := i.2.2.1
q_78_v1 (((), ()), (i.2.1, ())) (fun a8 =>
let h := a8.1
bif (decide (a ≤ 64)) then (
κ0 ((h, (0, ())), i.2.2)) else (
bif decide (32 ≤ ((ByteArray.size h : Nat) : Int)) then (
let y : ByteArray := ByteArray.extract h 0 32
bif decide (ByteArray.size y ≤ maxI64) then (
let bl : (List Int) := strList y
m_53_8 ((a, h, (), ()), (b6, bl, ())) (fun g =>
let a7 := g.1.1
let ac := g.1.2.1
let ar := g.2.1
let o := g.2.2.1
let a5 : Int := (((List.length o) : Nat) : Int)
let bf : Int := subA .i64 a7 a5
let ba : (List ByteArray) := [ac]
q_79 ((bf, ⟨#[]⟩, (), ()), (ba, ())) (fun b5 =>
let u := b5.1.1
bif (decide ((List.length o + List.length (strList u)) * 1 ≤ 140737488355328) && true) then (
let a9 : (List Int) := (o ++ strList u)
let ap : ByteArray := listStr a9
κ0 ((ap, (0, ())), (ar, ()))) else none))) else none) else none)))))) (fun n =>
let af := n.2.2.2.1
let bo : Int := IntKind.wrap .u32 a
let aw : (List Int) := [bo]
q_32 (((), ()), (aw, ())) (fun az =>
let b4 := az.1
let au : ByteArray := listStr b4
let ab : (List ByteArray) := [au]
q_77_v1 (((), (), ()), (n.2.1, n.2.2.1, af, ab, ())) (fun l =>
let a0 := l.2.2.2.2.1
q_77_v1 (((), (), ()), (l.2.1, l.2.2.1, a0, s, ())) (fun c =>
let t := c.2.2.2.1
let bg := c.2.2.2.2.1
q_78_v2 (((), ()), (c.2.1, c.2.2.1, bg, ())) (fun b3 =>
let e := b3.1
bif (decide (a ≤ 64)) then (
κ0 ((e, (0, ())), (t, ()))) else (
bif decide (32 ≤ ((ByteArray.size e : Nat) : Int)) then (
let p : ByteArray := ByteArray.extract e 0 32
bif decide (ByteArray.size p ≤ maxI64) then (
let aa : (List Int) := strList p
m_53_8 ((a, e, (), ()), (t, aa, ())) (fun b =>
let bm := b.1.1
let ak := b.1.2.1
let b7 := b.2.1
let j := b.2.2.1
let bd : Int := (((List.length j) : Nat) : Int)
let a2 : Int := subA .i64 bm bd
let ao : (List ByteArray) := [ak]
q_79 ((a2, ⟨#[]⟩, (), ()), (ao, ())) (fun al =>
let v := al.1.1
bif (decide ((List.length j + List.length (strList v)) * 1 ≤ 140737488355328) && true) then (
let a1 : (List Int) := (j ++ strList v)
let b8 : ByteArray := listStr a1
κ0 ((b8, (0, ())), (b7, ()))) else none))) else none) else none))))))))
def p_53 (N : Nat) (x : (Int × Unit × Unit) × Y27) (κ0 : ((ByteArray × (Int × Unit)) × Y27) → Option R) : Option R := Q_53 (p_76 N) (p_32 N) (p_77_v2 N) (p_78 N) (p_79 N) (p_77 N) (p_78_v1 N) (p_77_v1 N) (p_78_v2 N) (l_53_8 N N) x κ0
def EG_53 (q_76 : Tp_76 R) (q_32 : Tp_32 R) (q_77_v2 : Tp_77_v2 R) (q_78 : Tp_78 R) (q_79 : Tp_79 R) (q_77 : Tp_77 R) (q_78_v1 : Tp_78_v1 R) (q_77_v1 : Tp_77_v1 R) (q_78_v2 : Tp_78_v2 R) : Env R := (((((((((Env.base QQ LN AA).add 76 ap_76 hp_76 (fun (x : aden ap_76 × hden hp_76) k => q_76 x (fun y => k (Pat.inst (.tup (.fcons (.nilp) (.fcons (.int .i64) (.fnil)))) y.1) (instH [] y.2)) (fun y => k (Pat.inst (.tup (.fcons (.ptr 0 []) (.fcons (.int .i64) (.fnil)))) y.1) (instH [some (Z6, 174)] y.2)) (fun y => k (Pat.inst (.tup (.fcons (.ptr 0 []) (.fcons (.int .i64) (.fnil)))) y.1) (instH J10 y.2)))).add 32 ap_32 hp_32 (fun (x : aden ap_32 × hden hp_32) k => q_32 x (fun y => k (Pat.inst (.ros (.int .u8)) y.1) (instH [some (.lst (.int .u32), 86)] y.2)))).add 77 ap_77_v2 hp_77_v2 (fun (x : aden ap_77_v2 × hden hp_77_v2) k => q_77_v2 x (fun y => k (Pat.inst (.nilp) y.1) (instH [some (.lst (.str), 9)] y.2)))).add 78 ap_78 hp_78 (fun (x : aden ap_78 × hden hp_78) k => q_78 x (fun y => k (Pat.inst (.str) y.1) (instH [] y.2)))).add 79 ap_79 hp_79 (fun (x : aden ap_79 × hden hp_79) k => q_79 x (fun y => k (Pat.inst (.tup (.fcons (.str) (.fcons (.int .i64) (.fnil)))) y.1) (instH [some (.lst (.str), 9)] y.2)))).add 77 ap_77 hp_77 (fun (x : aden ap_77 × hden hp_77) k => q_77 x (fun y => k (Pat.inst (.ptr 0 []) y.1) (instH [some (Z6, 174), some (.lst (.str), 9)] y.2)))).add 78 ap_78_v1 hp_78_v1 (fun (x : aden ap_78_v1 × hden hp_78_v1) k => q_78_v1 x (fun y => k (Pat.inst (.str) y.1) (instH [some (Z6, 174)] y.2)))).add 77 ap_77_v1 hp_77_v1 (fun (x : aden ap_77_v1 × hden hp_77_v1) k => q_77_v1 x (fun y => k (Pat.inst (.ptr 0 []) y.1) (instH J9 y.2)))).add 78 ap_78_v2 hp_78_v2 (fun (x : aden ap_78_v2 × hden hp_78_v2) k => q_78_v2 x (fun y => k (Pat.inst (.str) y.1) (instH J10 y.2)))
def LG_53 (m_53_8 : Tl_53_8 R) : Loops R := (Loops.none).add 8 (loopBy 1 lv_53_8 pt_53_8 (fun x k => m_53_8 x (fun y => k (.exit 0) (px_53_8_0.inst y))))
def E_53 (N : Nat) : Env R := EG_53 (p_76 N) (p_32 N) (p_77_v2 N) (p_78 N) (p_79 N) (p_77 N) (p_78_v1 N) (p_77_v1 N) (p_78_v2 N)
def L_53 (N : Nat) : Loops R := LG_53 (l_53_8 N N)
theorem gstep_53_8 (q_76 : Tp_76 R) (q_32 : Tp_32 R) (q_77_v2 : Tp_77_v2 R) (q_78 : Tp_78 R) (q_79 : Tp_79 R) (q_77 : Tp_77 R) (q_78_v1 : Tp_78_v1 R) (q_77_v1 : Tp_77_v1 R) (q_78_v2 : Tp_78_v2 R) (m_53_8 : Tl_53_8 R) (n : Nat) (x : pt_53_8.den) (k : Exit → St → Option R) : iter 1 lv_53_8 lo_53_8 (aexec TT (EG_53 q_76 q_32 q_77_v2 q_78 q_79 q_77 q_78_v1 q_77_v1 q_78_v2) (drawAny TT WW) (LG_53 m_53_8) (loopAt 8 (bodyOf Tryz.f53))) (n + 1) (pt_53_8.inst x) k = C_53_8 q_79 (fun y => iter 1 lv_53_8 lo_53_8 (aexec TT (EG_53 q_76 q_32 q_77_v2 q_78 q_79 q_77 q_78_v1 q_77_v1 q_78_v2) (drawAny TT WW) (LG_53 m_53_8) (loopAt 8 (bodyOf Tryz.f53))) n (pt_53_8.inst y) k) x (fun y => k (.exit 0) (px_53_8_0.inst y)) := by kernel_rfl
theorem rounds_53_8 (N : Nat) : Rounds 1 TT (E_53 (R := R) N) (drawAny TT WW) (L_53 N) 8 (loopAt 8 (bodyOf Tryz.f53)) :=
  rounds_of (p := pt_53_8) (l := fun (x : pt_53_8.den) k => l_53_8 N N x (fun y => k (.exit 0) (px_53_8_0.inst y))) (fun s k => rfl) (fun x k => (iter_eq (K := Exit → St → Option R) (ks := fun k => k) (l := fun n (x : pt_53_8.den) k => l_53_8 N n x (fun y => k (.exit 0) (px_53_8_0.inst y))) (B := fun (rec : pt_53_8.den → Option R) (x : pt_53_8.den) k => B_53_8 N rec x (fun y => k (.exit 0) (px_53_8_0.inst y))) (fun _ _ => rfl) (fun _ _ _ => rfl) (fun n x k => (gstep_53_8 (p_76 N) (p_32 N) (p_77_v2 N) (p_78 N) (p_79 N) (p_77 N) (p_78_v1 N) (p_77_v1 N) (p_78_v2 N) (l_53_8 N N) n x k).trans (by kernel_rfl))) N x k)
theorem loops_53 : loopsIn (bodyOf Tryz.f53) = [(8, loopAt 8 (bodyOf Tryz.f53))] := by kernel_rfl
theorem grun_53 (q_76 : Tp_76 R) (q_32 : Tp_32 R) (q_77_v2 : Tp_77_v2 R) (q_78 : Tp_78 R) (q_79 : Tp_79 R) (q_77 : Tp_77 R) (q_78_v1 : Tp_78_v1 R) (q_77_v1 : Tp_77_v1 R) (q_78_v2 : Tp_78_v2 R) (m_53_8 : Tl_53_8 R) (x : aden ap_53 × hden hp_53) (k : KF R) : fnrun TT (EG_53 q_76 q_32 q_77_v2 q_78 q_79 q_77 q_78_v1 q_77_v1 q_78_v2) (drawAny TT WW) (LG_53 m_53_8) true Tryz.f53 (instA ap_53 x.1) (instH hp_53 x.2) k = Q_53 q_76 q_32 q_77_v2 q_78 q_79 q_77 q_78_v1 q_77_v1 q_78_v2 m_53_8 x (fun y => k (Pat.inst (.tup (.fcons (.str) (.fcons (.int .i64) (.fnil)))) y.1) (instH [some (.lst (.str), 9)] y.2)) := by kernel_rfl
theorem good_53 (N : Nat) : GD (X := R) Tryz.prog QQ AA 53 ap_53 hp_53 (fun (x : aden ap_53 × hden hp_53) k => p_53 N x (fun y => k (Pat.inst (.tup (.fcons (.str) (.fcons (.int .i64) (.fnil)))) y.1) (instH [some (.lst (.str), 9)] y.2))) :=
  gd_loud (E := E_53 N) mixed tyok (ek_add (ek_add (ek_add (ek_add (ek_add (ek_add (ek_add (ek_add (ek_add (ek_base _ _ _) (good_76 N)) (good_32 N)) (good_77_v2 N)) (good_78 N)) (good_79 N)) (good_77 N)) (good_78_v1 N)) (good_77_v1 N)) (good_78_v2 N)) Tryz.func53 (by kernel_rfl) (by kernel_rfl) (by kernel_rfl) (by kernel_rfl) (loops_all (L := L_53 N) loops_53 (by
  simp only [List.forall_mem_cons, List.not_mem_nil, false_implies, implies_true, and_true]
  exact rounds_53_8 N)) (fun x k => (grun_53 (p_76 N) (p_32 N) (p_77_v2 N) (p_78 N) (p_79 N) (p_77 N) (p_78_v1 N) (p_77_v1 N) (p_78_v2 N) (l_53_8 N N) x k).trans (by kernel_rfl))

def ap_31 : List Pat := [.sl 0]
def hp_31 : List (Option (Pat × Nat)) := [some (.lst (.str), 9)]
abbrev Tp_31 (R : Type) : Type := (Unit × Unit) × Y27 → ((ByteArray × Y27) → Option R) → Option R
def Q_31 (q_53 : Tp_53 R) (x : (Unit × Unit) × Y27) (κ0 : (ByteArray × Y27) → Option R) : Option R :=
q_53 ((1024, (), ()), x.2) (fun a =>
let b := a.1.1
κ0 (b, a.2))
def p_31 (N : Nat) (x : (Unit × Unit) × Y27) (κ0 : (ByteArray × Y27) → Option R) : Option R := Q_31 (p_53 N) x κ0
def EG_31 (q_53 : Tp_53 R) : Env R := (Env.base QQ LN AA).add 53 ap_53 hp_53 (fun (x : aden ap_53 × hden hp_53) k => q_53 x (fun y => k (Pat.inst (.tup (.fcons (.str) (.fcons (.int .i64) (.fnil)))) y.1) (instH [some (.lst (.str), 9)] y.2)))
def LG_31 : Loops R := Loops.none
def E_31 (N : Nat) : Env R := EG_31 (p_53 N)
def L_31 (N : Nat) : Loops R := LG_31
theorem grun_31 (q_53 : Tp_53 R) (x : aden ap_31 × hden hp_31) (k : KF R) : fnrun TT (EG_31 q_53) (drawAny TT WW) (LG_31) true Tryz.f31 (instA ap_31 x.1) (instH hp_31 x.2) k = Q_31 q_53 x (fun y => k (Pat.inst (.str) y.1) (instH [some (.lst (.str), 9)] y.2)) := by kernel_rfl
theorem good_31 (N : Nat) : GD (X := R) Tryz.prog QQ AA 31 ap_31 hp_31 (fun (x : aden ap_31 × hden hp_31) k => p_31 N x (fun y => k (Pat.inst (.str) y.1) (instH [some (.lst (.str), 9)] y.2))) :=
  gd_loud (E := E_31 N) mixed tyok (ek_add (ek_base _ _ _) (good_53 N)) Tryz.func31 (by kernel_rfl) (by kernel_rfl) (by kernel_rfl) (by kernel_rfl) (loops_nil (L := L_31 N) (by kernel_rfl)) (fun x k => (grun_31 (p_53 N) x k).trans (by kernel_rfl))

def lv_54_v1_5 : Live := [(4, none), (15, none), (16, none), (17, none)]
def pt_54_v1_5 : SPat := ⟨[(4, .sl 1), (15, .sl 0), (16, .int .i64), (17, .int .i64)], [some (.lst (.int .u8), 5), some (.lst (.int .u64), 39)]⟩
def px_54_v1_5_0 : SPat := ⟨[(4, .sl 1)], [some (.lst (.int .u8), 5), some (.lst (.int .u64), 39)]⟩
def lo_54_v1_5 : Exit → Live
  | .exit 0 => [(4, none)]
  | _ => []
def ap_54_v1 : List Pat := [.sl 0]
def hp_54_v1 : List (Option (Pat × Nat)) := J7
abbrev Tl_54_v1_5 (R : Type) : Type := (Y11 × Y16) → (((Unit × Unit) × Y16) → Option R) → Option R
abbrev Tp_54_v1 (R : Type) : Type := (Unit × Unit) × ((List Int) × Unit) → ((((List Int) × (Int × Unit)) × ((List Int) × Unit)) → Option R) → Option R
def C_54_v1_5 (rec : (Y11 × Y16) → Option R) (x : (Y11 × Y16)) (κ0 : ((Unit × Unit) × Y16) → Option R) : Option R :=
let e := x.1.2.2.1
let a := x.1.2.2.2.1
let d := x.2.1
let c := x.2.2.1
bif (decide (a < e)) then (
bif decide (0 ≤ a) then (
bif decide (a < ((List.length d) : Int)) then (
let h : Int := (List.getD d ((Int.toNat a)) (Sch.zero (.int .u8)))
let b : Int := quoA .i64 a 8
bif decide (0 ≤ b) then (
bif decide (b < ((List.length c) : Int)) then (
let l : Int := (List.getD c ((Int.toNat b)) (Sch.zero (.int .u64)))
let o : Int := IntKind.wrap .u64 h
let i : Int := remA .i64 a 8
let f : Int := mulA .i64 8 i
bif decide (f < 0) then none else (
let j : Int := shlA .u64 o f
let n : Int := orA .u64 l j
bif decide (0 ≤ b) then (
bif decide (b < ((List.length c) : Int)) then (
let g : (List Int) := (List.set c ((Int.toNat b)) n)
let m : Int := addA .i64 a 1
rec (((), (), e, m, ()), (d, g, ()))) else none) else none)) else none) else none) else none) else none) else (
κ0 (((), ()), (d, c, ())))
def B_54_v1_5 (N : Nat) (rec : (Y11 × Y16) → Option R) (x : (Y11 × Y16)) (κ0 : ((Unit × Unit) × Y16) → Option R) : Option R := C_54_v1_5 rec x κ0
def l_54_v1_5 (N : Nat) : Nat → (Y11 × Y16) → (((Unit × Unit) × Y16) → Option R) → Option R
  | 0, _, _ => none
  | n + 1, x, κ0 => B_54_v1_5 N (fun y => l_54_v1_5 N n y κ0) x κ0
def Q_54_v1 (m_54_v1_5 : Tl_54_v1_5 R) (x : (Unit × Unit) × ((List Int) × Unit)) (κ0 : (((List Int) × (Int × Unit)) × ((List Int) × Unit)) → Option R) : Option R :=
let b := x.2.1
let h : Int := (((List.length b) : Nat) : Int)
let g : Int := remA .i64 h 8
bif (g != 0) then (
κ0 (([], (9, ())), x.2)) else (
let e : Int := (((List.length b) : Nat) : Int)
let a : Int := quoA .i64 e 8
bif decide (0 ≤ a) then (
bif decide (a ≤ a) then (
bif decide (((8 : Nat) : Int) * a ≤ 281474976710656) then (
bif decide (a ≤ 9223372036854775807) then (
let d : (List Int) := List.replicate ((Int.toNat a)) (Sch.zero (.int .u64))
let j : Int := (((List.length b) : Nat) : Int)
m_54_v1_5 (((), (), j, 0, ()), (b, d, ())) (fun c =>
let f := c.2.1
let i := c.2.2.1
κ0 ((i, (0, ())), (f, ())))) else none) else none) else none) else none)
def p_54_v1 (N : Nat) (x : (Unit × Unit) × ((List Int) × Unit)) (κ0 : (((List Int) × (Int × Unit)) × ((List Int) × Unit)) → Option R) : Option R := Q_54_v1 (l_54_v1_5 N N) x κ0
def EG_54_v1 : Env R := Env.base QQ LN AA
def LG_54_v1 (m_54_v1_5 : Tl_54_v1_5 R) : Loops R := (Loops.none).add 5 (loopBy 1 lv_54_v1_5 pt_54_v1_5 (fun x k => m_54_v1_5 x (fun y => k (.exit 0) (px_54_v1_5_0.inst y))))
def E_54_v1 (N : Nat) : Env R := EG_54_v1
def L_54_v1 (N : Nat) : Loops R := LG_54_v1 (l_54_v1_5 N N)
theorem gstep_54_v1_5 (m_54_v1_5 : Tl_54_v1_5 R) (n : Nat) (x : pt_54_v1_5.den) (k : Exit → St → Option R) : iter 1 lv_54_v1_5 lo_54_v1_5 (aexec TT (EG_54_v1) (drawAny TT WW) (LG_54_v1 m_54_v1_5) (loopAt 5 (bodyOf Tryz.f54))) (n + 1) (pt_54_v1_5.inst x) k = C_54_v1_5 (fun y => iter 1 lv_54_v1_5 lo_54_v1_5 (aexec TT (EG_54_v1) (drawAny TT WW) (LG_54_v1 m_54_v1_5) (loopAt 5 (bodyOf Tryz.f54))) n (pt_54_v1_5.inst y) k) x (fun y => k (.exit 0) (px_54_v1_5_0.inst y)) := by kernel_rfl
theorem rounds_54_v1_5 (N : Nat) : Rounds 1 TT (E_54_v1 (R := R) N) (drawAny TT WW) (L_54_v1 N) 5 (loopAt 5 (bodyOf Tryz.f54)) :=
  rounds_of (p := pt_54_v1_5) (l := fun (x : pt_54_v1_5.den) k => l_54_v1_5 N N x (fun y => k (.exit 0) (px_54_v1_5_0.inst y))) (fun s k => rfl) (fun x k => (iter_eq (K := Exit → St → Option R) (ks := fun k => k) (l := fun n (x : pt_54_v1_5.den) k => l_54_v1_5 N n x (fun y => k (.exit 0) (px_54_v1_5_0.inst y))) (B := fun (rec : pt_54_v1_5.den → Option R) (x : pt_54_v1_5.den) k => B_54_v1_5 N rec x (fun y => k (.exit 0) (px_54_v1_5_0.inst y))) (fun _ _ => rfl) (fun _ _ _ => rfl) (fun n x k => (gstep_54_v1_5 (l_54_v1_5 N N) n x k).trans (by kernel_rfl))) N x k)
theorem loops_54_v1 : loopsIn (bodyOf Tryz.f54) = [(5, loopAt 5 (bodyOf Tryz.f54))] := by kernel_rfl
theorem grun_54_v1 (m_54_v1_5 : Tl_54_v1_5 R) (x : aden ap_54_v1 × hden hp_54_v1) (k : KF R) : fnrun TT (EG_54_v1) (drawAny TT WW) (LG_54_v1 m_54_v1_5) true Tryz.f54 (instA ap_54_v1 x.1) (instH hp_54_v1 x.2) k = Q_54_v1 m_54_v1_5 x (fun y => k (Pat.inst (.tup (.fcons (.ros (.int .u64)) (.fcons (.int .i64) (.fnil)))) y.1) (instH J7 y.2)) := by kernel_rfl
theorem good_54_v1 (N : Nat) : GD (X := R) Tryz.prog QQ AA 54 ap_54_v1 hp_54_v1 (fun (x : aden ap_54_v1 × hden hp_54_v1) k => p_54_v1 N x (fun y => k (Pat.inst (.tup (.fcons (.ros (.int .u64)) (.fcons (.int .i64) (.fnil)))) y.1) (instH J7 y.2))) :=
  gd_loud (E := E_54_v1 N) mixed tyok (ek_base _ _ _) Tryz.func54 (by kernel_rfl) (by kernel_rfl) (by kernel_rfl) (by kernel_rfl) (loops_all (L := L_54_v1 N) loops_54_v1 (by
  simp only [List.forall_mem_cons, List.not_mem_nil, false_implies, implies_true, and_true]
  exact rounds_54_v1_5 N)) (fun x k => (grun_54_v1 (l_54_v1_5 N N) x k).trans (by kernel_rfl))

def ap_33 : List Pat := [.str]
def hp_33 : List (Option (Pat × Nat)) := []
abbrev Tp_33 (R : Type) : Type := (ByteArray × Unit) × (Unit) → (((Nat → Int) × (Int × Unit)) → Option R) → Option R
def Q_33 (q_54_v1 : Tp_54_v1 R) (x : (ByteArray × Unit) × (Unit)) (κ0 : ((Nat → Int) × (Int × Unit)) → Option R) : Option R :=
let a := x.1.1
let c : Int := ((ByteArray.size a : Nat) : Int)
bif (c != 1024) then (
let f : (Nat → Int) := (Sch.zero (.arr 128 (.int .u64)))
κ0 ((f, (9, ())))) else (
bif decide (ByteArray.size a ≤ maxI64) then (
let e : (List Int) := strList a
q_54_v1 (((), ()), (e, ())) (fun d =>
let b := d.1.1
bif decide (128 ≤ List.length b) then (
let g : (Nat → Int) := (fun i => List.getD b i (Sch.zero (.int .u64)))
κ0 ((g, (0, ())))) else none)) else none)
def p_33 (N : Nat) (x : (ByteArray × Unit) × (Unit)) (κ0 : ((Nat → Int) × (Int × Unit)) → Option R) : Option R := Q_33 (p_54_v1 N) x κ0
def EG_33 (q_54_v1 : Tp_54_v1 R) : Env R := (Env.base QQ LN AA).add 54 ap_54_v1 hp_54_v1 (fun (x : aden ap_54_v1 × hden hp_54_v1) k => q_54_v1 x (fun y => k (Pat.inst (.tup (.fcons (.ros (.int .u64)) (.fcons (.int .i64) (.fnil)))) y.1) (instH J7 y.2)))
def LG_33 : Loops R := Loops.none
def E_33 (N : Nat) : Env R := EG_33 (p_54_v1 N)
def L_33 (N : Nat) : Loops R := LG_33
theorem grun_33 (q_54_v1 : Tp_54_v1 R) (x : aden ap_33 × hden hp_33) (k : KF R) : fnrun TT (EG_33 q_54_v1) (drawAny TT WW) (LG_33) true Tryz.f33 (instA ap_33 x.1) (instH hp_33 x.2) k = Q_33 q_54_v1 x (fun y => k (Pat.inst (.tup (.fcons (.vec (.int .u64) 128) (.fcons (.int .i64) (.fnil)))) y) (instH hp_33 x.2)) := by kernel_rfl
theorem good_33 (N : Nat) : GD (X := R) Tryz.prog QQ AA 33 ap_33 hp_33 (fun (x : aden ap_33 × hden hp_33) k => p_33 N x (fun y => k (Pat.inst (.tup (.fcons (.vec (.int .u64) 128) (.fcons (.int .i64) (.fnil)))) y) (instH hp_33 x.2))) :=
  gd_quiet (E := E_33 N) (p := fun (x : aden ap_33 × hden hp_33) κ => p_33 N x (fun y => κ (Pat.inst (.tup (.fcons (.vec (.int .u64) 128) (.fcons (.int .i64) (.fnil)))) y))) mixed tyok (ek_add (ek_base _ _ _) (good_54_v1 N)) Tryz.func33 (by kernel_rfl) (by kernel_rfl) (loops_nil (L := L_33 N) (by kernel_rfl)) (fun x k => (grun_33 (p_54_v1 N) x k).trans (by kernel_rfl))

def ap_56 : List Pat := [.ptr 0 [], .int .i64, .vec (.int .u64) 128]
def hp_56 : List (Option (Pat × Nat)) := J5
abbrev Tp_56 (R : Type) : Type := (Unit × Int × (Nat → Int) × Unit) × (Y6 × Y4 × (List (Nat → Int)) × Unit) → ((Int × (Y6 × Y4 × (List (Nat → Int)) × Unit)) → Option R) → Option R
def Q_56 (q_65 : Tp_65 R) (x : (Unit × Int × (Nat → Int) × Unit) × (Y6 × Y4 × (List (Nat → Int)) × Unit)) (κ0 : (Int × (Y6 × Y4 × (List (Nat → Int)) × Unit)) → Option R) : Option R :=
let b := x.1.2.1
let d := x.1.2.2.1
let a := x.2.2.2.1
q_65 (((), b, ()), (x.2.1, x.2.2.1, a, ())) (fun e =>
let c := e.2.1
bif (c != 0) then (
κ0 (c, (x.2.1, x.2.2.1, a, ()))) else (
bif decide (0 ≤ b) then (
bif decide (b < ((List.length a) : Int)) then (
let f : (List (Nat → Int)) := (List.set a ((Int.toNat b)) d)
κ0 (0, (x.2.1, x.2.2.1, f, ()))) else none) else none))
def p_56 (N : Nat) (x : (Unit × Int × (Nat → Int) × Unit) × (Y6 × Y4 × (List (Nat → Int)) × Unit)) (κ0 : (Int × (Y6 × Y4 × (List (Nat → Int)) × Unit)) → Option R) : Option R := Q_56 (p_65 N) x κ0
def EG_56 (q_65 : Tp_65 R) : Env R := (Env.base QQ LN AA).add 65 ap_65 hp_65 (fun (x : aden ap_65 × hden hp_65) k => q_65 x (fun y => k (Pat.inst (.tup (.fcons (.vec (.int .u64) 128) (.fcons (.int .i64) (.fnil)))) y) (instH hp_65 x.2)))
def LG_56 : Loops R := Loops.none
def E_56 (N : Nat) : Env R := EG_56 (p_65 N)
def L_56 (N : Nat) : Loops R := LG_56
theorem grun_56 (q_65 : Tp_65 R) (x : aden ap_56 × hden hp_56) (k : KF R) : fnrun TT (EG_56 q_65) (drawAny TT WW) (LG_56) true Tryz.f56 (instA ap_56 x.1) (instH hp_56 x.2) k = Q_56 q_65 x (fun y => k (Pat.inst (.int .i64) y.1) (instH J5 y.2)) := by kernel_rfl
theorem good_56 (N : Nat) : GD (X := R) Tryz.prog QQ AA 56 ap_56 hp_56 (fun (x : aden ap_56 × hden hp_56) k => p_56 N x (fun y => k (Pat.inst (.int .i64) y.1) (instH J5 y.2))) :=
  gd_loud (E := E_56 N) mixed tyok (ek_add (ek_base _ _ _) (good_65 N)) Tryz.func56 (by kernel_rfl) (by kernel_rfl) (by kernel_rfl) (by kernel_rfl) (loops_nil (L := L_56 N) (by kernel_rfl)) (fun x k => (grun_56 (p_65 N) x k).trans (by kernel_rfl))

def ap_34 : List Pat := [.ptr 0 [], .node (.fcons (.int .i64) (.fcons (.int .i64) (.fnil))), .vec (.int .u64) 128]
def hp_34 : List (Option (Pat × Nat)) := J0
abbrev Tp_34 (R : Type) : Type := (Unit × (Int × (Int × Unit)) × (Nat → Int) × Unit) × Y1 → ((Int × Y1) → Option R) → Option R
def Q_34 (q_55 : Tp_55 R) (q_56 : Tp_56 R) (x : (Unit × (Int × (Int × Unit)) × (Nat → Int) × Unit) × Y1) (κ0 : (Int × Y1) → Option R) : Option R :=
let d := x.1.2.2.1
let b := x.2.2.2.2.1
q_55 (((), x.1.2.1, ()), (x.2.1, x.2.2.1, x.2.2.2.1, b, ())) (fun g =>
let c : Int := g
bif (decide (c < 0)) then (
κ0 (11, (x.2.1, x.2.2.1, x.2.2.2.1, b, ()))) else (
q_56 (((), c, d, ()), (x.2.2.1, x.2.2.2.1, b, ())) (fun a =>
let f := a.1
let e := a.2.2.2.1
κ0 (f, (x.2.1, a.2.1, a.2.2.1, e, ())))))
def p_34 (N : Nat) (x : (Unit × (Int × (Int × Unit)) × (Nat → Int) × Unit) × Y1) (κ0 : (Int × Y1) → Option R) : Option R := Q_34 (p_55 N) (p_56 N) x κ0
def EG_34 (q_55 : Tp_55 R) (q_56 : Tp_56 R) : Env R := ((Env.base QQ LN AA).add 55 ap_55 hp_55 (fun (x : aden ap_55 × hden hp_55) k => q_55 x (fun y => k (Pat.inst (.int .i64) y) (instH hp_55 x.2)))).add 56 ap_56 hp_56 (fun (x : aden ap_56 × hden hp_56) k => q_56 x (fun y => k (Pat.inst (.int .i64) y.1) (instH J5 y.2)))
def LG_34 : Loops R := Loops.none
def E_34 (N : Nat) : Env R := EG_34 (p_55 N) (p_56 N)
def L_34 (N : Nat) : Loops R := LG_34
theorem grun_34 (q_55 : Tp_55 R) (q_56 : Tp_56 R) (x : aden ap_34 × hden hp_34) (k : KF R) : fnrun TT (EG_34 q_55 q_56) (drawAny TT WW) (LG_34) true Tryz.f34 (instA ap_34 x.1) (instH hp_34 x.2) k = Q_34 q_55 q_56 x (fun y => k (Pat.inst (.int .i64) y.1) (instH J0 y.2)) := by kernel_rfl
theorem good_34 (N : Nat) : GD (X := R) Tryz.prog QQ AA 34 ap_34 hp_34 (fun (x : aden ap_34 × hden hp_34) k => p_34 N x (fun y => k (Pat.inst (.int .i64) y.1) (instH J0 y.2))) :=
  gd_loud (E := E_34 N) mixed tyok (ek_add (ek_add (ek_base _ _ _) (good_55 N)) (good_56 N)) Tryz.func34 (by kernel_rfl) (by kernel_rfl) (by kernel_rfl) (by kernel_rfl) (loops_nil (L := L_34 N) (by kernel_rfl)) (fun x k => (grun_34 (p_55 N) (p_56 N) x k).trans (by kernel_rfl))

def lv_7_7 : Live := [(0, none), (1, none), (5, none), (17, none), (18, none), (21, none)]
def pt_7_7 : SPat := ⟨[(0, .ptr 0 []), (1, .str), (5, .int .i64), (17, .int .i64), (18, .int .i64), (21, .int .i64)], J0⟩
def px_7_7_0 : SPat := ⟨[(4, .int .i64)], J0⟩
def px_7_7_1 : SPat := ⟨[(0, .ptr 0 []), (1, .str), (17, .int .i64), (18, .int .i64)], J0⟩
def lo_7_7 : Exit → Live
  | .ret => [(4, none)]
  | .exit 2 => [(0, none), (1, none), (17, none), (18, none)]
  | _ => []
def lv_7_4 : Live := [(0, none), (1, none), (17, none), (18, none)]
def pt_7_4 : SPat := ⟨[(0, .ptr 0 []), (1, .str), (17, .int .i64), (18, .int .i64)], J0⟩
def px_7_4_0 : SPat := ⟨[(4, .int .i64)], J0⟩
def px_7_4_1 : SPat := ⟨[], J0⟩
def lo_7_4 : Exit → Live
  | .ret => [(4, none)]
  | .exit 0 => []
  | _ => []
def ap_7 : List Pat := [.ptr 0 [], .str]
def hp_7 : List (Option (Pat × Nat)) := J0
abbrev Tl_7_7 (R : Type) : Type := ((Unit × ByteArray × Int × Int × Int × Int × Unit) × Y1) → (((Int × Unit) × Y1) → Option R) → (((Unit × ByteArray × Int × Int × Unit) × Y1) → Option R) → Option R
abbrev Tl_7_4 (R : Type) : Type := ((Unit × ByteArray × Int × Int × Unit) × Y1) → (((Int × Unit) × Y1) → Option R) → (((Unit) × Y1) → Option R) → Option R
abbrev Tp_7 (R : Type) : Type := (Unit × ByteArray × Unit) × Y1 → ((Int × Y1) → Option R) → Option R
def C_7_7 (q_32 : Tp_32 R) (q_31 : Tp_31 R) (q_33 : Tp_33 R) (q_34 : Tp_34 R) (rec : ((Unit × ByteArray × Int × Int × Int × Int × Unit) × Y1) → Option R) (x : ((Unit × ByteArray × Int × Int × Int × Int × Unit) × Y1)) (κ0 : ((Int × Unit) × Y1) → Option R) (κ1 : ((Unit × ByteArray × Int × Int × Unit) × Y1) → Option R) : Option R :=
let d := x.1.2.1
let c := x.1.2.2.1
let f := x.1.2.2.2.1
let i := x.1.2.2.2.2.1
let b := x.1.2.2.2.2.2.1
let e := x.2.2.2.2.1
bif (decide (b < 2)) then (
let m : Int := IntKind.wrap .u32 b
let n : Int := IntKind.wrap .u32 c
let r : (List Int) := [m, n]
q_32 (((), ()), (r, ())) (fun j =>
let l := j.1
let w : ByteArray := listStr l
let t : (List ByteArray) := [d, w]
q_31 (((), ()), (t, ())) (fun p =>
let s := p.1
q_33 ((s, ()), ()) (fun o =>
let u := o.1
q_34 (((), (c, (b, ())), u, ()), (x.2.1, x.2.2.1, x.2.2.2.1, e, ())) (fun a =>
let g := a.1
let h := a.2.2.2.2.1
bif (g != 0) then (
κ0 ((g, ()), (a.2.1, a.2.2.1, a.2.2.2.1, h, ()))) else (
let v : Int := addA .i64 b 1
rec (((), d, c, f, i, v, ()), (a.2.1, a.2.2.1, a.2.2.2.1, h, ())))))))) else (
κ1 (((), d, f, i, ()), (x.2.1, x.2.2.1, x.2.2.2.1, e, ())))
def C_7_4 (m_7_7 : Tl_7_7 R) (rec : ((Unit × ByteArray × Int × Int × Unit) × Y1) → Option R) (x : ((Unit × ByteArray × Int × Int × Unit) × Y1)) (κ0 : ((Int × Unit) × Y1) → Option R) (κ1 : ((Unit) × Y1) → Option R) : Option R :=
let m := x.1.2.1
let e := x.1.2.2.1
let c := x.1.2.2.2.1
let d := x.2.2.2.2.1
bif (decide (c < e)) then (
m_7_7 (((), m, c, e, c, 0, ()), (x.2.1, x.2.2.1, x.2.2.2.1, d, ())) (fun b =>
let f := b.2.2.2.2.1
κ0 (b.1, (b.2.1, b.2.2.1, b.2.2.2.1, f, ()))) (fun a =>
let j := a.1.2.1
let l := a.1.2.2.1
let g := a.1.2.2.2.1
let i := a.2.2.2.2.1
let h : Int := addA .i64 g 1
rec (((), j, l, h, ()), (a.2.1, a.2.2.1, a.2.2.2.1, i, ())))) else (
κ1 ((), (x.2.1, x.2.2.1, x.2.2.2.1, d, ())))
def B_7_7 (N : Nat) (rec : ((Unit × ByteArray × Int × Int × Int × Int × Unit) × Y1) → Option R) (x : ((Unit × ByteArray × Int × Int × Int × Int × Unit) × Y1)) (κ0 : ((Int × Unit) × Y1) → Option R) (κ1 : ((Unit × ByteArray × Int × Int × Unit) × Y1) → Option R) : Option R := C_7_7 (p_32 N) (p_31 N) (p_33 N) (p_34 N) rec x κ0 κ1
def l_7_7 (N : Nat) : Nat → ((Unit × ByteArray × Int × Int × Int × Int × Unit) × Y1) → (((Int × Unit) × Y1) → Option R) → (((Unit × ByteArray × Int × Int × Unit) × Y1) → Option R) → Option R
  | 0, _, _, _ => none
  | n + 1, x, κ0, κ1 => B_7_7 N (fun y => l_7_7 N n y κ0 κ1) x κ0 κ1
def B_7_4 (N : Nat) (rec : ((Unit × ByteArray × Int × Int × Unit) × Y1) → Option R) (x : ((Unit × ByteArray × Int × Int × Unit) × Y1)) (κ0 : ((Int × Unit) × Y1) → Option R) (κ1 : ((Unit) × Y1) → Option R) : Option R := C_7_4 (l_7_7 N N) rec x κ0 κ1
def l_7_4 (N : Nat) : Nat → ((Unit × ByteArray × Int × Int × Unit) × Y1) → (((Int × Unit) × Y1) → Option R) → (((Unit) × Y1) → Option R) → Option R
  | 0, _, _, _ => none
  | n + 1, x, κ0, κ1 => B_7_4 N (fun y => l_7_4 N n y κ0 κ1) x κ0 κ1
def Q_7 (q_32 : Tp_32 R) (q_31 : Tp_31 R) (q_33 : Tp_33 R) (q_34 : Tp_34 R) (m_7_7 : Tl_7_7 R) (m_7_4 : Tl_7_4 R) (x : (Unit × ByteArray × Unit) × Y1) (κ0 : (Int × Y1) → Option R) : Option R :=
let h := x.1.2.1
let f := x.2.1.2.1.2.2.1
let d := x.2.2.2.2.1
m_7_4 (((), h, f, 0, ()), (x.2.1, x.2.2.1, x.2.2.2.1, d, ())) (fun a =>
let e := a.1.1
let c := a.2.2.2.2.1
κ0 (e, (a.2.1, a.2.2.1, a.2.2.2.1, c, ()))) (fun b =>
let g := b.2.2.2.2.1
κ0 (0, (b.2.1, b.2.2.1, b.2.2.2.1, g, ())))
def p_7 (N : Nat) (x : (Unit × ByteArray × Unit) × Y1) (κ0 : (Int × Y1) → Option R) : Option R := Q_7 (p_32 N) (p_31 N) (p_33 N) (p_34 N) (l_7_7 N N) (l_7_4 N N) x κ0
def EG_7 (q_32 : Tp_32 R) (q_31 : Tp_31 R) (q_33 : Tp_33 R) (q_34 : Tp_34 R) : Env R := ((((Env.base QQ LN AA).add 32 ap_32 hp_32 (fun (x : aden ap_32 × hden hp_32) k => q_32 x (fun y => k (Pat.inst (.ros (.int .u8)) y.1) (instH [some (.lst (.int .u32), 86)] y.2)))).add 31 ap_31 hp_31 (fun (x : aden ap_31 × hden hp_31) k => q_31 x (fun y => k (Pat.inst (.str) y.1) (instH [some (.lst (.str), 9)] y.2)))).add 33 ap_33 hp_33 (fun (x : aden ap_33 × hden hp_33) k => q_33 x (fun y => k (Pat.inst (.tup (.fcons (.vec (.int .u64) 128) (.fcons (.int .i64) (.fnil)))) y) (instH hp_33 x.2)))).add 34 ap_34 hp_34 (fun (x : aden ap_34 × hden hp_34) k => q_34 x (fun y => k (Pat.inst (.int .i64) y.1) (instH J0 y.2)))
def LG_7 (m_7_7 : Tl_7_7 R) (m_7_4 : Tl_7_4 R) : Loops R := ((Loops.none).add 7 (loopBy 4 lv_7_7 pt_7_7 (fun x k => m_7_7 x (fun y => k .ret (px_7_7_0.inst y)) (fun y => k (.exit 2) (px_7_7_1.inst y))))).add 4 (loopBy 4 lv_7_4 pt_7_4 (fun x k => m_7_4 x (fun y => k .ret (px_7_4_0.inst y)) (fun y => k (.exit 0) (px_7_4_1.inst y))))
def E_7 (N : Nat) : Env R := EG_7 (p_32 N) (p_31 N) (p_33 N) (p_34 N)
def L_7 (N : Nat) : Loops R := LG_7 (l_7_7 N N) (l_7_4 N N)
theorem gstep_7_7 (q_32 : Tp_32 R) (q_31 : Tp_31 R) (q_33 : Tp_33 R) (q_34 : Tp_34 R) (m_7_7 : Tl_7_7 R) (m_7_4 : Tl_7_4 R) (n : Nat) (x : pt_7_7.den) (k : Exit → St → Option R) : iter 4 lv_7_7 lo_7_7 (aexec TT (EG_7 q_32 q_31 q_33 q_34) (drawAny TT WW) (LG_7 m_7_7 m_7_4) (loopAt 7 (bodyOf Tryz.f7))) (n + 1) (pt_7_7.inst x) k = C_7_7 q_32 q_31 q_33 q_34 (fun y => iter 4 lv_7_7 lo_7_7 (aexec TT (EG_7 q_32 q_31 q_33 q_34) (drawAny TT WW) (LG_7 m_7_7 m_7_4) (loopAt 7 (bodyOf Tryz.f7))) n (pt_7_7.inst y) k) x (fun y => k .ret (px_7_7_0.inst y)) (fun y => k (.exit 2) (px_7_7_1.inst y)) := by kernel_rfl
theorem rounds_7_7 (N : Nat) : Rounds 4 TT (E_7 (R := R) N) (drawAny TT WW) (L_7 N) 7 (loopAt 7 (bodyOf Tryz.f7)) :=
  rounds_of (p := pt_7_7) (l := fun (x : pt_7_7.den) k => l_7_7 N N x (fun y => k .ret (px_7_7_0.inst y)) (fun y => k (.exit 2) (px_7_7_1.inst y))) (fun s k => rfl) (fun x k => (iter_eq (K := Exit → St → Option R) (ks := fun k => k) (l := fun n (x : pt_7_7.den) k => l_7_7 N n x (fun y => k .ret (px_7_7_0.inst y)) (fun y => k (.exit 2) (px_7_7_1.inst y))) (B := fun (rec : pt_7_7.den → Option R) (x : pt_7_7.den) k => B_7_7 N rec x (fun y => k .ret (px_7_7_0.inst y)) (fun y => k (.exit 2) (px_7_7_1.inst y))) (fun _ _ => rfl) (fun _ _ _ => rfl) (fun n x k => (gstep_7_7 (p_32 N) (p_31 N) (p_33 N) (p_34 N) (l_7_7 N N) (l_7_4 N N) n x k).trans (by kernel_rfl))) N x k)
theorem gstep_7_4 (q_32 : Tp_32 R) (q_31 : Tp_31 R) (q_33 : Tp_33 R) (q_34 : Tp_34 R) (m_7_7 : Tl_7_7 R) (m_7_4 : Tl_7_4 R) (n : Nat) (x : pt_7_4.den) (k : Exit → St → Option R) : iter 4 lv_7_4 lo_7_4 (aexec TT (EG_7 q_32 q_31 q_33 q_34) (drawAny TT WW) (LG_7 m_7_7 m_7_4) (loopAt 4 (bodyOf Tryz.f7))) (n + 1) (pt_7_4.inst x) k = C_7_4 m_7_7 (fun y => iter 4 lv_7_4 lo_7_4 (aexec TT (EG_7 q_32 q_31 q_33 q_34) (drawAny TT WW) (LG_7 m_7_7 m_7_4) (loopAt 4 (bodyOf Tryz.f7))) n (pt_7_4.inst y) k) x (fun y => k .ret (px_7_4_0.inst y)) (fun y => k (.exit 0) (px_7_4_1.inst y)) := by kernel_rfl
theorem rounds_7_4 (N : Nat) : Rounds 4 TT (E_7 (R := R) N) (drawAny TT WW) (L_7 N) 4 (loopAt 4 (bodyOf Tryz.f7)) :=
  rounds_of (p := pt_7_4) (l := fun (x : pt_7_4.den) k => l_7_4 N N x (fun y => k .ret (px_7_4_0.inst y)) (fun y => k (.exit 0) (px_7_4_1.inst y))) (fun s k => rfl) (fun x k => (iter_eq (K := Exit → St → Option R) (ks := fun k => k) (l := fun n (x : pt_7_4.den) k => l_7_4 N n x (fun y => k .ret (px_7_4_0.inst y)) (fun y => k (.exit 0) (px_7_4_1.inst y))) (B := fun (rec : pt_7_4.den → Option R) (x : pt_7_4.den) k => B_7_4 N rec x (fun y => k .ret (px_7_4_0.inst y)) (fun y => k (.exit 0) (px_7_4_1.inst y))) (fun _ _ => rfl) (fun _ _ _ => rfl) (fun n x k => (gstep_7_4 (p_32 N) (p_31 N) (p_33 N) (p_34 N) (l_7_7 N N) (l_7_4 N N) n x k).trans (by kernel_rfl))) N x k)
theorem loops_7 : loopsIn (bodyOf Tryz.f7) = [(4, loopAt 4 (bodyOf Tryz.f7)), (7, loopAt 7 (bodyOf Tryz.f7))] := by kernel_rfl
theorem grun_7 (q_32 : Tp_32 R) (q_31 : Tp_31 R) (q_33 : Tp_33 R) (q_34 : Tp_34 R) (m_7_7 : Tl_7_7 R) (m_7_4 : Tl_7_4 R) (x : aden ap_7 × hden hp_7) (k : KF R) : fnrun TT (EG_7 q_32 q_31 q_33 q_34) (drawAny TT WW) (LG_7 m_7_7 m_7_4) true Tryz.f7 (instA ap_7 x.1) (instH hp_7 x.2) k = Q_7 q_32 q_31 q_33 q_34 m_7_7 m_7_4 x (fun y => k (Pat.inst (.int .i64) y.1) (instH J0 y.2)) := by kernel_rfl
theorem good_7 (N : Nat) : GD (X := R) Tryz.prog QQ AA 7 ap_7 hp_7 (fun (x : aden ap_7 × hden hp_7) k => p_7 N x (fun y => k (Pat.inst (.int .i64) y.1) (instH J0 y.2))) :=
  gd_loud (E := E_7 N) mixed tyok (ek_add (ek_add (ek_add (ek_add (ek_base _ _ _) (good_32 N)) (good_31 N)) (good_33 N)) (good_34 N)) Tryz.func7 (by kernel_rfl) (by kernel_rfl) (by kernel_rfl) (by kernel_rfl) (loops_all (L := L_7 N) loops_7 (by
  simp only [List.forall_mem_cons, List.not_mem_nil, false_implies, implies_true, and_true]
  exact ⟨rounds_7_4 N, rounds_7_7 N⟩)) (fun x k => (grun_7 (p_32 N) (p_31 N) (p_33 N) (p_34 N) (l_7_7 N N) (l_7_4 N N) x k).trans (by kernel_rfl))

def ap_10 : List Pat := []
def hp_10 : List (Option (Pat × Nat)) := []
abbrev Tp_10 (R : Type) : Type := (Unit) × (Unit) → ((Nat → Int) → Option R) → Option R
def Q_10 (x : (Unit) × (Unit)) (κ0 : (Nat → Int) → Option R) : Option R :=
let a : (Nat → Int) := (upd ((upd ((upd ((upd ((upd ((upd ((upd ((upd ((Sch.zero (.arr 8 (.int .u64)))) 0 7640891576956012808)) 1 13503953896175478587)) 2 4354685564936845355)) 3 11912009170470909681)) 4 5840696475078001361)) 5 11170449401992604703)) 6 2270897969802886507)) 7 6620516959819538809)
κ0 a
def p_10 (N : Nat) (x : (Unit) × (Unit)) (κ0 : (Nat → Int) → Option R) : Option R := Q_10 x κ0
def EG_10 : Env R := Env.base QQ LN AA
def LG_10 : Loops R := Loops.none
def E_10 (N : Nat) : Env R := EG_10
def L_10 (N : Nat) : Loops R := LG_10
theorem grun_10 (x : aden ap_10 × hden hp_10) (k : KF R) : fnrun TT (EG_10) (drawAny TT WW) (LG_10) true Tryz.f10 (instA ap_10 x.1) (instH hp_10 x.2) k = Q_10 x (fun y => k (Pat.inst (.vec (.int .u64) 8) y) (instH hp_10 x.2)) := by kernel_rfl
theorem good_10 (N : Nat) : GD (X := R) Tryz.prog QQ AA 10 ap_10 hp_10 (fun (x : aden ap_10 × hden hp_10) k => p_10 N x (fun y => k (Pat.inst (.vec (.int .u64) 8) y) (instH hp_10 x.2))) :=
  gd_quiet (E := E_10 N) (p := fun (x : aden ap_10 × hden hp_10) κ => p_10 N x (fun y => κ (Pat.inst (.vec (.int .u64) 8) y))) mixed tyok (ek_base _ _ _) Tryz.func10 (by kernel_rfl) (by kernel_rfl) (loops_nil (L := L_10 N) (by kernel_rfl)) (fun x k => (grun_10 x k).trans (by kernel_rfl))

def lv_37_3 : Live := [(1, none), (3, some (.fcons (.arr 88 (.fnil)) (.arr 128 (.int .u64)), 94)), (4, none)]
def pt_37_3 : SPat := ⟨[(1, .ptr 0 []), (3, .sl 1), (4, .int .i64)], [some (Z0, 30), some (.fam 88 (.arr 128 (.int .u64)), 94)]⟩
def px_37_3_0 : SPat := ⟨[(3, .sl 0)], J6⟩
def lo_37_3 : Exit → Live
  | .exit 0 => [(3, none)]
  | _ => []
def ap_37 : List Pat := [.node (.fcons (.int .i64) (.fcons (.int .i64) (.fcons (.int .i64) (.fcons (.int .i64) (.fcons (.int .i64) (.fcons (.int .i64) (.fcons (.int .i64) (.fcons (.int .i64) (.fnil)))))))))]
def hp_37 : List (Option (Pat × Nat)) := []
abbrev Tl_37_3 (R : Type) : Type := (Y18 × (Y0 × Y3 × Unit)) → (((Unit × Unit) × (Y3 × Unit)) → Option R) → Option R
abbrev Tp_37 (R : Type) : Type := (Y0 × Unit) × (Unit) → ((Unit × (Y3 × Unit)) → Option R) → Option R
def C_37_3 (rec : (Y18 × (Y0 × Y3 × Unit)) → Option R) (x : (Y18 × (Y0 × Y3 × Unit))) (κ0 : ((Unit × Unit) × (Y3 × Unit)) → Option R) : Option R :=
let d := x.1.2.2.1
let f := x.2.1.2.2.1
let a := x.2.1.2.2.2.2.2.1
let b := x.2.2.1
bif (decide (d < f)) then (
bif decide (0 ≤ a) then (
bif decide (a ≤ a) then (
bif decide (((1024 : Nat) : Int) * a ≤ 281474976710656) then (
bif decide (a ≤ 9223372036854775807) then (
let h : (List (Nat → Int)) := List.replicate ((Int.toNat a)) (Sch.zero (.arr 128 (.int .u64)))
let c : Y3 := [h]
bif (((decide ((List.length b + List.length c) * 24 ≤ 140737488355328) && true) && true) && true) then (
let e : Y3 := (b ++ c)
let g : Int := addA .i64 d 1
rec (((), (), g, ()), (x.2.1, e, ()))) else none) else none) else none) else none) else none) else (
κ0 (((), ()), x.2.2))
def B_37_3 (N : Nat) (rec : (Y18 × (Y0 × Y3 × Unit)) → Option R) (x : (Y18 × (Y0 × Y3 × Unit))) (κ0 : ((Unit × Unit) × (Y3 × Unit)) → Option R) : Option R := C_37_3 rec x κ0
def l_37_3 (N : Nat) : Nat → (Y18 × (Y0 × Y3 × Unit)) → (((Unit × Unit) × (Y3 × Unit)) → Option R) → Option R
  | 0, _, _ => none
  | n + 1, x, κ0 => B_37_3 N (fun y => l_37_3 N n y κ0) x κ0
def Q_37 (m_37_3 : Tl_37_3 R) (x : (Y0 × Unit) × (Unit)) (κ0 : (Unit × (Y3 × Unit)) → Option R) : Option R :=
m_37_3 (((), (), 0, ()), (x.1.1, [], ())) (fun a =>
κ0 ((), a.2))
def p_37 (N : Nat) (x : (Y0 × Unit) × (Unit)) (κ0 : (Unit × (Y3 × Unit)) → Option R) : Option R := Q_37 (l_37_3 N N) x κ0
def EG_37 : Env R := Env.base QQ LN AA
def LG_37 (m_37_3 : Tl_37_3 R) : Loops R := (Loops.none).add 3 (loopBy 0 lv_37_3 pt_37_3 (fun x k => m_37_3 x (fun y => k (.exit 0) (px_37_3_0.inst y))))
def E_37 (N : Nat) : Env R := EG_37
def L_37 (N : Nat) : Loops R := LG_37 (l_37_3 N N)
theorem gstep_37_3 (m_37_3 : Tl_37_3 R) (n : Nat) (x : pt_37_3.den) (k : Exit → St → Option R) : iter 0 lv_37_3 lo_37_3 (aexec TT (EG_37) (drawAny TT WW) (LG_37 m_37_3) (loopAt 3 (bodyOf Tryz.f37))) (n + 1) (pt_37_3.inst x) k = C_37_3 (fun y => iter 0 lv_37_3 lo_37_3 (aexec TT (EG_37) (drawAny TT WW) (LG_37 m_37_3) (loopAt 3 (bodyOf Tryz.f37))) n (pt_37_3.inst y) k) x (fun y => k (.exit 0) (px_37_3_0.inst y)) := by kernel_rfl
theorem rounds_37_3 (N : Nat) : Rounds 0 TT (E_37 (R := R) N) (drawAny TT WW) (L_37 N) 3 (loopAt 3 (bodyOf Tryz.f37)) :=
  rounds_of (p := pt_37_3) (l := fun (x : pt_37_3.den) k => l_37_3 N N x (fun y => k (.exit 0) (px_37_3_0.inst y))) (fun s k => rfl) (fun x k => (iter_eq (K := Exit → St → Option R) (ks := fun k => k) (l := fun n (x : pt_37_3.den) k => l_37_3 N n x (fun y => k (.exit 0) (px_37_3_0.inst y))) (B := fun (rec : pt_37_3.den → Option R) (x : pt_37_3.den) k => B_37_3 N rec x (fun y => k (.exit 0) (px_37_3_0.inst y))) (fun _ _ => rfl) (fun _ _ _ => rfl) (fun n x k => (gstep_37_3 (l_37_3 N N) n x k).trans (by kernel_rfl))) N x k)
theorem loops_37 : loopsIn (bodyOf Tryz.f37) = [(3, loopAt 3 (bodyOf Tryz.f37))] := by kernel_rfl
theorem grun_37 (m_37_3 : Tl_37_3 R) (x : aden ap_37 × hden hp_37) (k : KF R) : fnrun TT (EG_37) (drawAny TT WW) (LG_37 m_37_3) true Tryz.f37 (instA ap_37 x.1) (instH hp_37 x.2) k = Q_37 m_37_3 x (fun y => k (Pat.inst (.sl 0) y.1) (instH J6 y.2)) := by kernel_rfl
theorem good_37 (N : Nat) : GD (X := R) Tryz.prog QQ AA 37 ap_37 hp_37 (fun (x : aden ap_37 × hden hp_37) k => p_37 N x (fun y => k (Pat.inst (.sl 0) y.1) (instH J6 y.2))) :=
  gd_loud (E := E_37 N) mixed tyok (ek_base _ _ _) Tryz.func37 (by kernel_rfl) (by kernel_rfl) (by kernel_rfl) (by kernel_rfl) (loops_all (L := L_37 N) loops_37 (by
  simp only [List.forall_mem_cons, List.not_mem_nil, false_implies, implies_true, and_true]
  exact rounds_37_3 N)) (fun x k => (grun_37 (l_37_3 N N) x k).trans (by kernel_rfl))

def lv_38_3 : Live := [(0, none), (3, some (.int .u8, 5)), (4, none)]
def pt_38_3 : SPat := ⟨[(0, .int .u32), (3, .sl 0), (4, .int .i64)], J7⟩
def px_38_3_0 : SPat := ⟨[(3, .sl 0)], J7⟩
def lo_38_3 : Exit → Live
  | .exit 0 => [(3, none)]
  | _ => []
def ap_38 : List Pat := [.int .u32]
def hp_38 : List (Option (Pat × Nat)) := []
abbrev Tl_38_3 (R : Type) : Type := ((Int × Unit × Int × Unit) × ((List Int) × Unit)) → (((Unit × Unit) × ((List Int) × Unit)) → Option R) → Option R
abbrev Tp_38 (R : Type) : Type := (Int × Unit) × (Unit) → ((List Int) → Option R) → Option R
def C_38_3 (rec : ((Int × Unit × Int × Unit) × ((List Int) × Unit)) → Option R) (x : ((Int × Unit × Int × Unit) × ((List Int) × Unit))) (κ0 : ((Unit × Unit) × ((List Int) × Unit)) → Option R) : Option R :=
let b := x.1.1
let a := x.1.2.2.1
let c := x.2.1
bif (decide (a < 4)) then (
let h : Int := remA .u32 b 256
let f : Int := IntKind.wrap .u8 h
let d : (List Int) := [f]
bif (decide ((List.length c + List.length d) * 1 ≤ 140737488355328) && true) then (
let g : (List Int) := (c ++ d)
let i : Int := quoA .u32 b 256
let e : Int := addA .i64 a 1
rec ((i, (), e, ()), (g, ()))) else none) else (
κ0 (((), ()), x.2))
def B_38_3 (N : Nat) (rec : ((Int × Unit × Int × Unit) × ((List Int) × Unit)) → Option R) (x : ((Int × Unit × Int × Unit) × ((List Int) × Unit))) (κ0 : ((Unit × Unit) × ((List Int) × Unit)) → Option R) : Option R := C_38_3 rec x κ0
def l_38_3 (N : Nat) : Nat → ((Int × Unit × Int × Unit) × ((List Int) × Unit)) → (((Unit × Unit) × ((List Int) × Unit)) → Option R) → Option R
  | 0, _, _ => none
  | n + 1, x, κ0 => B_38_3 N (fun y => l_38_3 N n y κ0) x κ0
def Q_38 (m_38_3 : Tl_38_3 R) (x : (Int × Unit) × (Unit)) (κ0 : (List Int) → Option R) : Option R :=
let a := x.1.1
m_38_3 ((a, (), 0, ()), ([], ())) (fun b =>
let c := b.2.1
κ0 c)
def p_38 (N : Nat) (x : (Int × Unit) × (Unit)) (κ0 : (List Int) → Option R) : Option R := Q_38 (l_38_3 N N) x κ0
def EG_38 : Env R := Env.base QQ LN AA
def LG_38 (m_38_3 : Tl_38_3 R) : Loops R := (Loops.none).add 3 (loopBy 0 lv_38_3 pt_38_3 (fun x k => m_38_3 x (fun y => k (.exit 0) (px_38_3_0.inst y))))
def E_38 (N : Nat) : Env R := EG_38
def L_38 (N : Nat) : Loops R := LG_38 (l_38_3 N N)
theorem gstep_38_3 (m_38_3 : Tl_38_3 R) (n : Nat) (x : pt_38_3.den) (k : Exit → St → Option R) : iter 0 lv_38_3 lo_38_3 (aexec TT (EG_38) (drawAny TT WW) (LG_38 m_38_3) (loopAt 3 (bodyOf Tryz.f38))) (n + 1) (pt_38_3.inst x) k = C_38_3 (fun y => iter 0 lv_38_3 lo_38_3 (aexec TT (EG_38) (drawAny TT WW) (LG_38 m_38_3) (loopAt 3 (bodyOf Tryz.f38))) n (pt_38_3.inst y) k) x (fun y => k (.exit 0) (px_38_3_0.inst y)) := by kernel_rfl
theorem rounds_38_3 (N : Nat) : Rounds 0 TT (E_38 (R := R) N) (drawAny TT WW) (L_38 N) 3 (loopAt 3 (bodyOf Tryz.f38)) :=
  rounds_of (p := pt_38_3) (l := fun (x : pt_38_3.den) k => l_38_3 N N x (fun y => k (.exit 0) (px_38_3_0.inst y))) (fun s k => rfl) (fun x k => (iter_eq (K := Exit → St → Option R) (ks := fun k => k) (l := fun n (x : pt_38_3.den) k => l_38_3 N n x (fun y => k (.exit 0) (px_38_3_0.inst y))) (B := fun (rec : pt_38_3.den → Option R) (x : pt_38_3.den) k => B_38_3 N rec x (fun y => k (.exit 0) (px_38_3_0.inst y))) (fun _ _ => rfl) (fun _ _ _ => rfl) (fun n x k => (gstep_38_3 (l_38_3 N N) n x k).trans (by kernel_rfl))) N x k)
theorem loops_38 : loopsIn (bodyOf Tryz.f38) = [(3, loopAt 3 (bodyOf Tryz.f38))] := by kernel_rfl
theorem grun_38 (m_38_3 : Tl_38_3 R) (x : aden ap_38 × hden hp_38) (k : KF R) : fnrun TT (EG_38) (drawAny TT WW) (LG_38 m_38_3) true Tryz.f38 (instA ap_38 x.1) (instH hp_38 x.2) k = Q_38 m_38_3 x (fun y => k (Pat.inst (.ros (.int .u8)) y) (instH hp_38 x.2)) := by kernel_rfl
theorem good_38 (N : Nat) : GD (X := R) Tryz.prog QQ AA 38 ap_38 hp_38 (fun (x : aden ap_38 × hden hp_38) k => p_38 N x (fun y => k (Pat.inst (.ros (.int .u8)) y) (instH hp_38 x.2))) :=
  gd_quiet (E := E_38 N) (p := fun (x : aden ap_38 × hden hp_38) κ => p_38 N x (fun y => κ (Pat.inst (.ros (.int .u8)) y))) mixed tyok (ek_base _ _ _) Tryz.func38 (by kernel_rfl) (by kernel_rfl) (loops_all (L := L_38 N) loops_38 (by
  simp only [List.forall_mem_cons, List.not_mem_nil, false_implies, implies_true, and_true]
  exact rounds_38_3 N)) (fun x k => (grun_38 (l_38_3 N N) x k).trans (by kernel_rfl))

def lv_85_1 : Live := [(0, none), (1, none)]
def pt_85_1 : SPat := ⟨[(0, .str), (1, .int .i64)], []⟩
def px_85_1_0 : SPat := ⟨[(0, .str)], []⟩
def lo_85_1 : Exit → Live
  | .exit 0 => [(0, none)]
  | _ => []
def ap_85 : List Pat := [.str, .int .i64]
def hp_85 : List (Option (Pat × Nat)) := []
abbrev Tl_85_1 (R : Type) : Type := ((ByteArray × Int × Unit) × (Unit)) → (((ByteArray × Unit) × (Unit)) → Option R) → Option R
abbrev Tp_85 (R : Type) : Type := (ByteArray × Int × Unit) × (Unit) → (ByteArray → Option R) → Option R
def C_85_1 (rec : ((ByteArray × Int × Unit) × (Unit)) → Option R) (x : ((ByteArray × Int × Unit) × (Unit))) (κ0 : ((ByteArray × Unit) × (Unit)) → Option R) : Option R :=
let a := x.1.1
let b := x.1.2.1
let c : Int := ((ByteArray.size a : Nat) : Int)
bif (decide (c < b)) then (
bif decide (ByteArray.size a + ByteArray.size (⟨#[0]⟩) ≤ maxI64) then (
let d : ByteArray := (a ++ ⟨#[0]⟩)
rec ((d, b, ()), ())) else none) else (
κ0 ((a, ()), ()))
def B_85_1 (N : Nat) (rec : ((ByteArray × Int × Unit) × (Unit)) → Option R) (x : ((ByteArray × Int × Unit) × (Unit))) (κ0 : ((ByteArray × Unit) × (Unit)) → Option R) : Option R := C_85_1 rec x κ0
def l_85_1 (N : Nat) : Nat → ((ByteArray × Int × Unit) × (Unit)) → (((ByteArray × Unit) × (Unit)) → Option R) → Option R
  | 0, _, _ => none
  | n + 1, x, κ0 => B_85_1 N (fun y => l_85_1 N n y κ0) x κ0
def Q_85 (m_85_1 : Tl_85_1 R) (x : (ByteArray × Int × Unit) × (Unit)) (κ0 : ByteArray → Option R) : Option R :=
let d := x.1.1
let b := x.1.2.1
m_85_1 ((d, b, ()), ()) (fun c =>
let a := c.1.1
κ0 a)
def p_85 (N : Nat) (x : (ByteArray × Int × Unit) × (Unit)) (κ0 : ByteArray → Option R) : Option R := Q_85 (l_85_1 N N) x κ0
def EG_85 : Env R := Env.base QQ LN AA
def LG_85 (m_85_1 : Tl_85_1 R) : Loops R := (Loops.none).add 1 (loopBy 0 lv_85_1 pt_85_1 (fun x k => m_85_1 x (fun y => k (.exit 0) (px_85_1_0.inst y))))
def E_85 (N : Nat) : Env R := EG_85
def L_85 (N : Nat) : Loops R := LG_85 (l_85_1 N N)
theorem gstep_85_1 (m_85_1 : Tl_85_1 R) (n : Nat) (x : pt_85_1.den) (k : Exit → St → Option R) : iter 0 lv_85_1 lo_85_1 (aexec TT (EG_85) (drawAny TT WW) (LG_85 m_85_1) (loopAt 1 (bodyOf Tryz.f85))) (n + 1) (pt_85_1.inst x) k = C_85_1 (fun y => iter 0 lv_85_1 lo_85_1 (aexec TT (EG_85) (drawAny TT WW) (LG_85 m_85_1) (loopAt 1 (bodyOf Tryz.f85))) n (pt_85_1.inst y) k) x (fun y => k (.exit 0) (px_85_1_0.inst y)) := by kernel_rfl
theorem rounds_85_1 (N : Nat) : Rounds 0 TT (E_85 (R := R) N) (drawAny TT WW) (L_85 N) 1 (loopAt 1 (bodyOf Tryz.f85)) :=
  rounds_of (p := pt_85_1) (l := fun (x : pt_85_1.den) k => l_85_1 N N x (fun y => k (.exit 0) (px_85_1_0.inst y))) (fun s k => rfl) (fun x k => (iter_eq (K := Exit → St → Option R) (ks := fun k => k) (l := fun n (x : pt_85_1.den) k => l_85_1 N n x (fun y => k (.exit 0) (px_85_1_0.inst y))) (B := fun (rec : pt_85_1.den → Option R) (x : pt_85_1.den) k => B_85_1 N rec x (fun y => k (.exit 0) (px_85_1_0.inst y))) (fun _ _ => rfl) (fun _ _ _ => rfl) (fun n x k => (gstep_85_1 (l_85_1 N N) n x k).trans (by kernel_rfl))) N x k)
theorem loops_85 : loopsIn (bodyOf Tryz.f85) = [(1, loopAt 1 (bodyOf Tryz.f85))] := by kernel_rfl
theorem grun_85 (m_85_1 : Tl_85_1 R) (x : aden ap_85 × hden hp_85) (k : KF R) : fnrun TT (EG_85) (drawAny TT WW) (LG_85 m_85_1) true Tryz.f85 (instA ap_85 x.1) (instH hp_85 x.2) k = Q_85 m_85_1 x (fun y => k (Pat.inst (.str) y) (instH hp_85 x.2)) := by kernel_rfl
theorem good_85 (N : Nat) : GD (X := R) Tryz.prog QQ AA 85 ap_85 hp_85 (fun (x : aden ap_85 × hden hp_85) k => p_85 N x (fun y => k (Pat.inst (.str) y) (instH hp_85 x.2))) :=
  gd_quiet (E := E_85 N) (p := fun (x : aden ap_85 × hden hp_85) κ => p_85 N x (fun y => κ (Pat.inst (.str) y))) mixed tyok (ek_base _ _ _) Tryz.func85 (by kernel_rfl) (by kernel_rfl) (loops_all (L := L_85 N) loops_85 (by
  simp only [List.forall_mem_cons, List.not_mem_nil, false_implies, implies_true, and_true]
  exact rounds_85_1 N)) (fun x k => (grun_85 (l_85_1 N N) x k).trans (by kernel_rfl))

def lv_62_9 : Live := [(0, none), (1, none), (6, none), (7, none), (8, none), (9, none)]
def pt_62_9 : SPat := ⟨[(0, .sl 0), (1, .int .i64), (6, .sl 1), (7, .int .i64), (8, .int .u64), (9, .int .i64)], [some (.lst (.int .u8), 5), some (.lst (.int .u64), 39)]⟩
def px_62_9_0 : SPat := ⟨[(0, .sl 0), (1, .int .i64), (6, .sl 1), (7, .int .i64), (8, .int .u64)], [some (.lst (.int .u8), 5), some (.lst (.int .u64), 39)]⟩
def lo_62_9 : Exit → Live
  | .exit 2 => [(0, none), (1, none), (6, none), (7, none), (8, none)]
  | _ => []
def lv_62_5 : Live := [(0, none), (1, none), (6, some (.int .u64, 39)), (7, none)]
def pt_62_5 : SPat := ⟨[(0, .sl 0), (1, .int .i64), (6, .sl 1), (7, .int .i64)], [some (.lst (.int .u8), 5), some (.lst (.int .u64), 39)]⟩
def px_62_5_0 : SPat := ⟨[(6, .sl 1)], [some (.lst (.int .u8), 5), some (.lst (.int .u64), 39)]⟩
def lo_62_5 : Exit → Live
  | .exit 0 => [(6, none)]
  | _ => []
def ap_62 : List Pat := [.sl 0, .int .i64]
def hp_62 : List (Option (Pat × Nat)) := J7
abbrev Tl_62_9 (R : Type) : Type := ((Unit × Int × Unit × Int × Int × Int × Unit) × Y16) → (((Unit × Int × Unit × Int × Int × Unit) × Y16) → Option R) → Option R
abbrev Tl_62_5 (R : Type) : Type := ((Unit × Int × Unit × Int × Unit) × Y16) → (((Unit × Unit) × Y16) → Option R) → Option R
abbrev Tp_62 (R : Type) : Type := (Unit × Int × Unit) × ((List Int) × Unit) → ((((List Int) × (Bool × Unit)) × ((List Int) × Unit)) → Option R) → Option R
def C_62_9 (rec : ((Unit × Int × Unit × Int × Int × Int × Unit) × Y16) → Option R) (x : ((Unit × Int × Unit × Int × Int × Int × Unit) × Y16)) (κ0 : ((Unit × Int × Unit × Int × Int × Unit) × Y16) → Option R) : Option R :=
let f := x.1.2.1
let d := x.1.2.2.2.1
let g := x.1.2.2.2.2.1
let c := x.1.2.2.2.2.2.1
let a := x.2.1
let e := x.2.2.1
bif (decide (c ≥ 0)) then (
let i : Int := mulA .u64 256 g
let b : Int := addA .i64 d c
bif decide (0 ≤ b) then (
bif decide (b < ((List.length a) : Int)) then (
let m : Int := (List.getD a ((Int.toNat b)) (Sch.zero (.int .u8)))
let j : Int := IntKind.wrap .u64 m
let l : Int := addA .u64 i j
let h : Int := subA .i64 c 1
rec (((), f, (), d, l, h, ()), (a, e, ()))) else none) else none) else (
κ0 (((), f, (), d, g, ()), (a, e, ())))
def C_62_5 (m_62_9 : Tl_62_9 R) (rec : ((Unit × Int × Unit × Int × Unit) × Y16) → Option R) (x : ((Unit × Int × Unit × Int × Unit) × Y16)) (κ0 : ((Unit × Unit) × Y16) → Option R) : Option R :=
let f := x.1.2.1
let e := x.1.2.2.2.1
let b := x.2.1
let h := x.2.2.1
let j : Int := (((List.length b) : Nat) : Int)
bif (decide (e < j)) then (
let p : Int := subA .i64 f 1
m_62_9 (((), f, (), e, 0, p, ()), (b, h, ())) (fun a =>
let c := a.1.2.1
let o := a.1.2.2.2.1
let m := a.1.2.2.2.2.1
let i := a.2.1
let g := a.2.2.1
let d : (List Int) := [m]
bif (decide ((List.length g + List.length d) * 8 ≤ 140737488355328) && true) then (
let l : (List Int) := (g ++ d)
let n : Int := addA .i64 o c
rec (((), c, (), n, ()), (i, l, ()))) else none)) else (
κ0 (((), ()), (b, h, ())))
def B_62_9 (N : Nat) (rec : ((Unit × Int × Unit × Int × Int × Int × Unit) × Y16) → Option R) (x : ((Unit × Int × Unit × Int × Int × Int × Unit) × Y16)) (κ0 : ((Unit × Int × Unit × Int × Int × Unit) × Y16) → Option R) : Option R := C_62_9 rec x κ0
def l_62_9 (N : Nat) : Nat → ((Unit × Int × Unit × Int × Int × Int × Unit) × Y16) → (((Unit × Int × Unit × Int × Int × Unit) × Y16) → Option R) → Option R
  | 0, _, _ => none
  | n + 1, x, κ0 => B_62_9 N (fun y => l_62_9 N n y κ0) x κ0
def B_62_5 (N : Nat) (rec : ((Unit × Int × Unit × Int × Unit) × Y16) → Option R) (x : ((Unit × Int × Unit × Int × Unit) × Y16)) (κ0 : ((Unit × Unit) × Y16) → Option R) : Option R := C_62_5 (l_62_9 N N) rec x κ0
def l_62_5 (N : Nat) : Nat → ((Unit × Int × Unit × Int × Unit) × Y16) → (((Unit × Unit) × Y16) → Option R) → Option R
  | 0, _, _ => none
  | n + 1, x, κ0 => B_62_5 N (fun y => l_62_5 N n y κ0) x κ0
def Q_62 (m_62_9 : Tl_62_9 R) (m_62_5 : Tl_62_5 R) (x : (Unit × Int × Unit) × ((List Int) × Unit)) (κ0 : (((List Int) × (Bool × Unit)) × ((List Int) × Unit)) → Option R) : Option R :=
let a := x.1.2.1
let b := x.2.1
let d : Int := (((List.length b) : Nat) : Int)
bif decide (a = 0) then none else (
let f : Int := remA .i64 d a
bif (f != 0) then (
κ0 (([], (false, ())), x.2)) else (
m_62_5 (((), a, (), 0, ()), (b, [], ())) (fun c =>
let g := c.2.1
let e := c.2.2.1
κ0 ((e, (true, ())), (g, ())))))
def p_62 (N : Nat) (x : (Unit × Int × Unit) × ((List Int) × Unit)) (κ0 : (((List Int) × (Bool × Unit)) × ((List Int) × Unit)) → Option R) : Option R := Q_62 (l_62_9 N N) (l_62_5 N N) x κ0
def EG_62 : Env R := Env.base QQ LN AA
def LG_62 (m_62_9 : Tl_62_9 R) (m_62_5 : Tl_62_5 R) : Loops R := ((Loops.none).add 9 (loopBy 1 lv_62_9 pt_62_9 (fun x k => m_62_9 x (fun y => k (.exit 2) (px_62_9_0.inst y))))).add 5 (loopBy 1 lv_62_5 pt_62_5 (fun x k => m_62_5 x (fun y => k (.exit 0) (px_62_5_0.inst y))))
def E_62 (N : Nat) : Env R := EG_62
def L_62 (N : Nat) : Loops R := LG_62 (l_62_9 N N) (l_62_5 N N)
theorem gstep_62_9 (m_62_9 : Tl_62_9 R) (m_62_5 : Tl_62_5 R) (n : Nat) (x : pt_62_9.den) (k : Exit → St → Option R) : iter 1 lv_62_9 lo_62_9 (aexec TT (EG_62) (drawAny TT WW) (LG_62 m_62_9 m_62_5) (loopAt 9 (bodyOf Tryz.f62))) (n + 1) (pt_62_9.inst x) k = C_62_9 (fun y => iter 1 lv_62_9 lo_62_9 (aexec TT (EG_62) (drawAny TT WW) (LG_62 m_62_9 m_62_5) (loopAt 9 (bodyOf Tryz.f62))) n (pt_62_9.inst y) k) x (fun y => k (.exit 2) (px_62_9_0.inst y)) := by kernel_rfl
theorem rounds_62_9 (N : Nat) : Rounds 1 TT (E_62 (R := R) N) (drawAny TT WW) (L_62 N) 9 (loopAt 9 (bodyOf Tryz.f62)) :=
  rounds_of (p := pt_62_9) (l := fun (x : pt_62_9.den) k => l_62_9 N N x (fun y => k (.exit 2) (px_62_9_0.inst y))) (fun s k => rfl) (fun x k => (iter_eq (K := Exit → St → Option R) (ks := fun k => k) (l := fun n (x : pt_62_9.den) k => l_62_9 N n x (fun y => k (.exit 2) (px_62_9_0.inst y))) (B := fun (rec : pt_62_9.den → Option R) (x : pt_62_9.den) k => B_62_9 N rec x (fun y => k (.exit 2) (px_62_9_0.inst y))) (fun _ _ => rfl) (fun _ _ _ => rfl) (fun n x k => (gstep_62_9 (l_62_9 N N) (l_62_5 N N) n x k).trans (by kernel_rfl))) N x k)
theorem gstep_62_5 (m_62_9 : Tl_62_9 R) (m_62_5 : Tl_62_5 R) (n : Nat) (x : pt_62_5.den) (k : Exit → St → Option R) : iter 1 lv_62_5 lo_62_5 (aexec TT (EG_62) (drawAny TT WW) (LG_62 m_62_9 m_62_5) (loopAt 5 (bodyOf Tryz.f62))) (n + 1) (pt_62_5.inst x) k = C_62_5 m_62_9 (fun y => iter 1 lv_62_5 lo_62_5 (aexec TT (EG_62) (drawAny TT WW) (LG_62 m_62_9 m_62_5) (loopAt 5 (bodyOf Tryz.f62))) n (pt_62_5.inst y) k) x (fun y => k (.exit 0) (px_62_5_0.inst y)) := by kernel_rfl
theorem rounds_62_5 (N : Nat) : Rounds 1 TT (E_62 (R := R) N) (drawAny TT WW) (L_62 N) 5 (loopAt 5 (bodyOf Tryz.f62)) :=
  rounds_of (p := pt_62_5) (l := fun (x : pt_62_5.den) k => l_62_5 N N x (fun y => k (.exit 0) (px_62_5_0.inst y))) (fun s k => rfl) (fun x k => (iter_eq (K := Exit → St → Option R) (ks := fun k => k) (l := fun n (x : pt_62_5.den) k => l_62_5 N n x (fun y => k (.exit 0) (px_62_5_0.inst y))) (B := fun (rec : pt_62_5.den → Option R) (x : pt_62_5.den) k => B_62_5 N rec x (fun y => k (.exit 0) (px_62_5_0.inst y))) (fun _ _ => rfl) (fun _ _ _ => rfl) (fun n x k => (gstep_62_5 (l_62_9 N N) (l_62_5 N N) n x k).trans (by kernel_rfl))) N x k)
theorem loops_62 : loopsIn (bodyOf Tryz.f62) = [(5, loopAt 5 (bodyOf Tryz.f62)), (9, loopAt 9 (bodyOf Tryz.f62))] := by kernel_rfl
theorem grun_62 (m_62_9 : Tl_62_9 R) (m_62_5 : Tl_62_5 R) (x : aden ap_62 × hden hp_62) (k : KF R) : fnrun TT (EG_62) (drawAny TT WW) (LG_62 m_62_9 m_62_5) true Tryz.f62 (instA ap_62 x.1) (instH hp_62 x.2) k = Q_62 m_62_9 m_62_5 x (fun y => k (Pat.inst (.tup (.fcons (.ros (.int .u64)) (.fcons (.bool) (.fnil)))) y.1) (instH J7 y.2)) := by kernel_rfl
theorem good_62 (N : Nat) : GD (X := R) Tryz.prog QQ AA 62 ap_62 hp_62 (fun (x : aden ap_62 × hden hp_62) k => p_62 N x (fun y => k (Pat.inst (.tup (.fcons (.ros (.int .u64)) (.fcons (.bool) (.fnil)))) y.1) (instH J7 y.2))) :=
  gd_loud (E := E_62 N) mixed tyok (ek_base _ _ _) Tryz.func62 (by kernel_rfl) (by kernel_rfl) (by kernel_rfl) (by kernel_rfl) (loops_all (L := L_62 N) loops_62 (by
  simp only [List.forall_mem_cons, List.not_mem_nil, false_implies, implies_true, and_true]
  exact ⟨rounds_62_5 N, rounds_62_9 N⟩)) (fun x k => (grun_62 (l_62_9 N N) (l_62_5 N N) x k).trans (by kernel_rfl))

def lv_99_11 : Live := [(2, none), (4, none), (5, none), (6, none), (7, none), (8, none)]
def pt_99_11 : SPat := ⟨[(2, .ptr 0 []), (4, .ptr 1 []), (5, .str), (6, .str), (7, .int .i64), (8, .int .i64)], J11⟩
def px_99_11_0 : SPat := ⟨[(2, .ptr 0 []), (4, .ptr 1 []), (5, .str), (6, .str), (7, .int .i64)], J11⟩
def lo_99_11 : Exit → Live
  | .exit 2 => [(2, none), (4, none), (5, none), (6, none), (7, none)]
  | _ => []
def lv_99_8 : Live := [(2, none), (4, none), (5, none), (6, none), (7, none)]
def pt_99_8 : SPat := ⟨[(2, .ptr 0 []), (4, .ptr 1 []), (5, .str), (6, .str), (7, .int .i64)], J11⟩
def px_99_8_0 : SPat := ⟨[(2, .ptr 0 []), (4, .ptr 1 [])], J11⟩
def lo_99_8 : Exit → Live
  | .exit 0 => [(2, none), (4, none)]
  | _ => []
def ap_99 : List Pat := [.int .i64]
def hp_99 : List (Option (Pat × Nat)) := []
abbrev Tl_99_11 (R : Type) : Type := ((Unit × Unit × ByteArray × ByteArray × Int × Int × Unit) × Y2) → (((Unit × Unit × ByteArray × ByteArray × Int × Unit) × Y2) → Option R) → Option R
abbrev Tl_99_8 (R : Type) : Type := ((Unit × Unit × ByteArray × ByteArray × Int × Unit) × Y2) → (Y14 → Option R) → Option R
abbrev Tp_99 (R : Type) : Type := (Int × Unit) × (Unit) → ((Nat → Int) → Option R) → Option R
def C_99_11 (rec : ((Unit × Unit × ByteArray × ByteArray × Int × Int × Unit) × Y2) → Option R) (x : ((Unit × Unit × ByteArray × ByteArray × Int × Int × Unit) × Y2)) (κ0 : ((Unit × Unit × ByteArray × ByteArray × Int × Unit) × Y2) → Option R) : Option R :=
let c := x.1.2.2.1
let d := x.1.2.2.2.1
let a := x.1.2.2.2.2.1
let b := x.1.2.2.2.2.2.1
let e := x.2.1
let f := x.2.2.1
bif (decide (b < 16)) then (
bif decide (0 ≤ b) then (
bif decide (b < (ByteArray.size d : Int)) then (
let g : Int := byteAt d ((Int.toNat b))
bif decide (0 ≤ a) then (
bif decide (a < (ByteArray.size c : Int)) then (
let l : Int := byteAt c ((Int.toNat a))
bif (g == l) then (
bif decide (0 ≤ a) then (
bif decide (a < (16 : Int)) then (
let h : (Nat → Int) := (upd f ((Int.toNat a)) b)
let i : Int := addA .i64 b 1
rec (((), (), c, d, a, i, ()), (e, h, ()))) else none) else none) else (
let j : Int := addA .i64 b 1
rec (((), (), c, d, a, j, ()), (e, f, ())))) else none) else none) else none) else none) else (
κ0 (((), (), c, d, a, ()), (e, f, ())))
def C_99_8 (m_99_11 : Tl_99_11 R) (rec : ((Unit × Unit × ByteArray × ByteArray × Int × Unit) × Y2) → Option R) (x : ((Unit × Unit × ByteArray × ByteArray × Int × Unit) × Y2)) (κ0 : Y14 → Option R) : Option R :=
let j := x.1.2.2.1
let l := x.1.2.2.2.1
let c := x.1.2.2.2.2.1
let b := x.2.1
let d := x.2.2.1
bif (decide (c < 16)) then (
m_99_11 (((), (), j, l, c, 0, ()), (b, d, ())) (fun a =>
let h := a.1.2.2.1
let g := a.1.2.2.2.1
let m := a.1.2.2.2.2.1
let f := a.2.1
let i := a.2.2.1
let e : Int := addA .i64 m 1
rec (((), (), h, g, e, ()), (f, i, ())))) else (
κ0 (((), (), ()), (b, d, ())))
def B_99_11 (N : Nat) (rec : ((Unit × Unit × ByteArray × ByteArray × Int × Int × Unit) × Y2) → Option R) (x : ((Unit × Unit × ByteArray × ByteArray × Int × Int × Unit) × Y2)) (κ0 : ((Unit × Unit × ByteArray × ByteArray × Int × Unit) × Y2) → Option R) : Option R := C_99_11 rec x κ0
def l_99_11 (N : Nat) : Nat → ((Unit × Unit × ByteArray × ByteArray × Int × Int × Unit) × Y2) → (((Unit × Unit × ByteArray × ByteArray × Int × Unit) × Y2) → Option R) → Option R
  | 0, _, _ => none
  | n + 1, x, κ0 => B_99_11 N (fun y => l_99_11 N n y κ0) x κ0
def B_99_8 (N : Nat) (rec : ((Unit × Unit × ByteArray × ByteArray × Int × Unit) × Y2) → Option R) (x : ((Unit × Unit × ByteArray × ByteArray × Int × Unit) × Y2)) (κ0 : Y14 → Option R) : Option R := C_99_8 (l_99_11 N N) rec x κ0
def l_99_8 (N : Nat) : Nat → ((Unit × Unit × ByteArray × ByteArray × Int × Unit) × Y2) → (Y14 → Option R) → Option R
  | 0, _, _ => none
  | n + 1, x, κ0 => B_99_8 N (fun y => l_99_8 N n y κ0) x κ0
def Q_99 (m_99_11 : Tl_99_11 R) (m_99_8 : Tl_99_8 R) (x : (Int × Unit) × (Unit)) (κ0 : (Nat → Int) → Option R) : Option R :=
let c := x.1.1
let a : (List ByteArray) := [⟨#[48, 49, 50, 51, 52, 53, 54, 55, 56, 57, 97, 98, 99, 100, 101, 102]⟩, ⟨#[101, 97, 52, 56, 57, 102, 100, 54, 49, 99, 48, 50, 98, 55, 53, 51]⟩, ⟨#[98, 56, 99, 48, 53, 50, 102, 100, 97, 101, 51, 54, 55, 49, 57, 52]⟩, ⟨#[55, 57, 51, 49, 100, 99, 98, 101, 50, 54, 53, 97, 52, 48, 102, 56]⟩, ⟨#[57, 48, 53, 55, 50, 52, 97, 102, 101, 49, 98, 99, 54, 56, 51, 100]⟩, ⟨#[50, 99, 54, 97, 48, 98, 56, 51, 52, 100, 55, 53, 102, 101, 49, 57]⟩, ⟨#[99, 53, 49, 102, 101, 100, 52, 97, 48, 55, 54, 51, 57, 50, 56, 98]⟩, ⟨#[100, 98, 55, 101, 99, 49, 51, 57, 53, 48, 102, 52, 56, 54, 50, 97]⟩, ⟨#[54, 102, 101, 57, 98, 51, 48, 56, 99, 50, 100, 55, 49, 52, 97, 53]⟩, ⟨#[97, 50, 56, 52, 55, 54, 49, 53, 102, 98, 57, 101, 51, 99, 100, 48]⟩]
bif (decide (c < 0)) then (
let e : (Nat → Int) := (Sch.zero (.arr 16 (.int .i64)))
κ0 e) else (
let b : Int := remA .i64 c 10
bif decide (0 ≤ b) then (
bif decide (b < ((List.length a) : Int)) then (
let d : ByteArray := (List.getD a ((Int.toNat b)) (Sch.zero (.str)))
bif decide (0 < ((List.length a) : Int)) then (
let g : ByteArray := (List.getD a 0 (Sch.zero (.str)))
m_99_8 (((), (), d, g, 0, ()), ((Sch.zero (.arr 16 (.int .i64))), (Sch.zero (.arr 16 (.int .i64))), ())) (fun f =>
let h := f.2.2.1
κ0 h)) else none) else none) else none)
def p_99 (N : Nat) (x : (Int × Unit) × (Unit)) (κ0 : (Nat → Int) → Option R) : Option R := Q_99 (l_99_11 N N) (l_99_8 N N) x κ0
def EG_99 : Env R := Env.base QQ LN AA
def LG_99 (m_99_11 : Tl_99_11 R) (m_99_8 : Tl_99_8 R) : Loops R := ((Loops.none).add 11 (loopBy 0 lv_99_11 pt_99_11 (fun x k => m_99_11 x (fun y => k (.exit 2) (px_99_11_0.inst y))))).add 8 (loopBy 0 lv_99_8 pt_99_8 (fun x k => m_99_8 x (fun y => k (.exit 0) (px_99_8_0.inst y))))
def E_99 (N : Nat) : Env R := EG_99
def L_99 (N : Nat) : Loops R := LG_99 (l_99_11 N N) (l_99_8 N N)
theorem gstep_99_11 (m_99_11 : Tl_99_11 R) (m_99_8 : Tl_99_8 R) (n : Nat) (x : pt_99_11.den) (k : Exit → St → Option R) : iter 0 lv_99_11 lo_99_11 (aexec TT (EG_99) (drawAny TT WW) (LG_99 m_99_11 m_99_8) (loopAt 11 (bodyOf Tryz.f99))) (n + 1) (pt_99_11.inst x) k = C_99_11 (fun y => iter 0 lv_99_11 lo_99_11 (aexec TT (EG_99) (drawAny TT WW) (LG_99 m_99_11 m_99_8) (loopAt 11 (bodyOf Tryz.f99))) n (pt_99_11.inst y) k) x (fun y => k (.exit 2) (px_99_11_0.inst y)) := by kernel_rfl
theorem rounds_99_11 (N : Nat) : Rounds 0 TT (E_99 (R := R) N) (drawAny TT WW) (L_99 N) 11 (loopAt 11 (bodyOf Tryz.f99)) :=
  rounds_of (p := pt_99_11) (l := fun (x : pt_99_11.den) k => l_99_11 N N x (fun y => k (.exit 2) (px_99_11_0.inst y))) (fun s k => rfl) (fun x k => (iter_eq (K := Exit → St → Option R) (ks := fun k => k) (l := fun n (x : pt_99_11.den) k => l_99_11 N n x (fun y => k (.exit 2) (px_99_11_0.inst y))) (B := fun (rec : pt_99_11.den → Option R) (x : pt_99_11.den) k => B_99_11 N rec x (fun y => k (.exit 2) (px_99_11_0.inst y))) (fun _ _ => rfl) (fun _ _ _ => rfl) (fun n x k => (gstep_99_11 (l_99_11 N N) (l_99_8 N N) n x k).trans (by kernel_rfl))) N x k)
theorem gstep_99_8 (m_99_11 : Tl_99_11 R) (m_99_8 : Tl_99_8 R) (n : Nat) (x : pt_99_8.den) (k : Exit → St → Option R) : iter 0 lv_99_8 lo_99_8 (aexec TT (EG_99) (drawAny TT WW) (LG_99 m_99_11 m_99_8) (loopAt 8 (bodyOf Tryz.f99))) (n + 1) (pt_99_8.inst x) k = C_99_8 m_99_11 (fun y => iter 0 lv_99_8 lo_99_8 (aexec TT (EG_99) (drawAny TT WW) (LG_99 m_99_11 m_99_8) (loopAt 8 (bodyOf Tryz.f99))) n (pt_99_8.inst y) k) x (fun y => k (.exit 0) (px_99_8_0.inst y)) := by kernel_rfl
theorem rounds_99_8 (N : Nat) : Rounds 0 TT (E_99 (R := R) N) (drawAny TT WW) (L_99 N) 8 (loopAt 8 (bodyOf Tryz.f99)) :=
  rounds_of (p := pt_99_8) (l := fun (x : pt_99_8.den) k => l_99_8 N N x (fun y => k (.exit 0) (px_99_8_0.inst y))) (fun s k => rfl) (fun x k => (iter_eq (K := Exit → St → Option R) (ks := fun k => k) (l := fun n (x : pt_99_8.den) k => l_99_8 N n x (fun y => k (.exit 0) (px_99_8_0.inst y))) (B := fun (rec : pt_99_8.den → Option R) (x : pt_99_8.den) k => B_99_8 N rec x (fun y => k (.exit 0) (px_99_8_0.inst y))) (fun _ _ => rfl) (fun _ _ _ => rfl) (fun n x k => (gstep_99_8 (l_99_11 N N) (l_99_8 N N) n x k).trans (by kernel_rfl))) N x k)
theorem loops_99 : loopsIn (bodyOf Tryz.f99) = [(8, loopAt 8 (bodyOf Tryz.f99)), (11, loopAt 11 (bodyOf Tryz.f99))] := by kernel_rfl
theorem grun_99 (m_99_11 : Tl_99_11 R) (m_99_8 : Tl_99_8 R) (x : aden ap_99 × hden hp_99) (k : KF R) : fnrun TT (EG_99) (drawAny TT WW) (LG_99 m_99_11 m_99_8) true Tryz.f99 (instA ap_99 x.1) (instH hp_99 x.2) k = Q_99 m_99_11 m_99_8 x (fun y => k (Pat.inst (.vec (.int .i64) 16) y) (instH hp_99 x.2)) := by kernel_rfl
theorem good_99 (N : Nat) : GD (X := R) Tryz.prog QQ AA 99 ap_99 hp_99 (fun (x : aden ap_99 × hden hp_99) k => p_99 N x (fun y => k (Pat.inst (.vec (.int .i64) 16) y) (instH hp_99 x.2))) :=
  gd_quiet (E := E_99 N) (p := fun (x : aden ap_99 × hden hp_99) κ => p_99 N x (fun y => κ (Pat.inst (.vec (.int .i64) 16) y))) mixed tyok (ek_base _ _ _) Tryz.func99 (by kernel_rfl) (by kernel_rfl) (loops_all (L := L_99 N) loops_99 (by
  simp only [List.forall_mem_cons, List.not_mem_nil, false_implies, implies_true, and_true]
  exact ⟨rounds_99_8 N, rounds_99_11 N⟩)) (fun x k => (grun_99 (l_99_11 N N) (l_99_8 N N) x k).trans (by kernel_rfl))

def ap_100 : List Pat := [.int .i64]
def hp_100 : List (Option (Pat × Nat)) := []
abbrev Tp_100 (R : Type) : Type := (Int × Unit) × (Unit) → ((Nat → Int) → Option R) → Option R
def Q_100 (x : (Int × Unit) × (Unit)) (κ0 : (Nat → Int) → Option R) : Option R :=
let a := x.1.1
bif (decide (a < 4)) then (
let l : Int := addA .i64 a 4
let j : Int := addA .i64 a 8
let m : Int := addA .i64 a 12
let h : (Nat → Int) := (upd ((upd ((upd ((upd ((Sch.zero (.arr 4 (.int .i64)))) 0 a)) 1 l)) 2 j)) 3 m)
κ0 h) else (
let b : Int := subA .i64 a 4
let c : Int := addA .i64 b 1
let o : Int := remA .i64 c 4
let n : Int := addA .i64 4 o
let r : Int := addA .i64 b 2
let i : Int := remA .i64 r 4
let e : Int := addA .i64 8 i
let d : Int := addA .i64 b 3
let f : Int := remA .i64 d 4
let p : Int := addA .i64 12 f
let g : (Nat → Int) := (upd ((upd ((upd ((upd ((Sch.zero (.arr 4 (.int .i64)))) 0 b)) 1 n)) 2 e)) 3 p)
κ0 g)
def p_100 (N : Nat) (x : (Int × Unit) × (Unit)) (κ0 : (Nat → Int) → Option R) : Option R := Q_100 x κ0
def EG_100 : Env R := Env.base QQ LN AA
def LG_100 : Loops R := Loops.none
def E_100 (N : Nat) : Env R := EG_100
def L_100 (N : Nat) : Loops R := LG_100
theorem grun_100 (x : aden ap_100 × hden hp_100) (k : KF R) : fnrun TT (EG_100) (drawAny TT WW) (LG_100) true Tryz.f100 (instA ap_100 x.1) (instH hp_100 x.2) k = Q_100 x (fun y => k (Pat.inst (.vec (.int .i64) 4) y) (instH hp_100 x.2)) := by kernel_rfl
theorem good_100 (N : Nat) : GD (X := R) Tryz.prog QQ AA 100 ap_100 hp_100 (fun (x : aden ap_100 × hden hp_100) k => p_100 N x (fun y => k (Pat.inst (.vec (.int .i64) 4) y) (instH hp_100 x.2))) :=
  gd_quiet (E := E_100 N) (p := fun (x : aden ap_100 × hden hp_100) κ => p_100 N x (fun y => κ (Pat.inst (.vec (.int .i64) 4) y))) mixed tyok (ek_base _ _ _) Tryz.func100 (by kernel_rfl) (by kernel_rfl) (loops_nil (L := L_100 N) (by kernel_rfl)) (fun x k => (grun_100 x k).trans (by kernel_rfl))

def ap_109 : List Pat := [.int .u64, .int .u64, .int .u64]
def hp_109 : List (Option (Pat × Nat)) := []
abbrev Tp_109 (R : Type) : Type := (Int × Int × Int × Unit) × (Unit) → (Int → Option R) → Option R
def Q_109 (x : (Int × Int × Int × Unit) × (Unit)) (κ0 : Int → Option R) : Option R :=
let b := x.1.1
let a := x.1.2.1
let d := x.1.2.2.1
bif decide (a = 0) then none else (
let e : Int := quoA .u64 b a
bif decide (a = 0) then none else (
let f : Int := remA .u64 b a
let c : Int := mulA .u64 f d
let g : Int := addA .u64 e c
κ0 g))
def p_109 (N : Nat) (x : (Int × Int × Int × Unit) × (Unit)) (κ0 : Int → Option R) : Option R := Q_109 x κ0
def EG_109 : Env R := Env.base QQ LN AA
def LG_109 : Loops R := Loops.none
def E_109 (N : Nat) : Env R := EG_109
def L_109 (N : Nat) : Loops R := LG_109
theorem grun_109 (x : aden ap_109 × hden hp_109) (k : KF R) : fnrun TT (EG_109) (drawAny TT WW) (LG_109) true Tryz.f109 (instA ap_109 x.1) (instH hp_109 x.2) k = Q_109 x (fun y => k (Pat.inst (.int .u64) y) (instH hp_109 x.2)) := by kernel_rfl
theorem good_109 (N : Nat) : GD (X := R) Tryz.prog QQ AA 109 ap_109 hp_109 (fun (x : aden ap_109 × hden hp_109) k => p_109 N x (fun y => k (Pat.inst (.int .u64) y) (instH hp_109 x.2))) :=
  gd_quiet (E := E_109 N) (p := fun (x : aden ap_109 × hden hp_109) κ => p_109 N x (fun y => κ (Pat.inst (.int .u64) y))) mixed tyok (ek_base _ _ _) Tryz.func109 (by kernel_rfl) (by kernel_rfl) (loops_nil (L := L_109 N) (by kernel_rfl)) (fun x k => (grun_109 x k).trans (by kernel_rfl))

def ap_101 : List Pat := [.vec (.int .u64) 4, .int .u64, .int .u64]
def hp_101 : List (Option (Pat × Nat)) := []
abbrev Tp_101 (R : Type) : Type := ((Nat → Int) × Int × Int × Unit) × (Unit) → ((Nat → Int) → Option R) → Option R
def Q_101 (q_109 : Tp_109 R) (x : ((Nat → Int) × Int × Int × Unit) × (Unit)) (κ0 : (Nat → Int) → Option R) : Option R :=
let d := x.1.1
let ae := x.1.2.1
let a2 := x.1.2.2.1
let o : Int := (d 0)
let a6 : Int := (d 1)
let v : Int := addA .u64 o a6
let al : Int := addA .u64 v ae
let f : (Nat → Int) := (upd d 0 al)
let a8 : Int := (f 3)
let aj : Int := (f 0)
let a9 : Int := xorA .u64 a8 aj
q_109 ((a9, 4294967296, 4294967296, ()), ()) (fun ag =>
let w : Int := ag
let b : (Nat → Int) := (upd f 3 w)
let af : Int := (b 2)
let p : Int := (b 3)
let a7 : Int := addA .u64 af p
let e : (Nat → Int) := (upd b 2 a7)
let ah : Int := (e 1)
let ak : Int := (e 2)
let s : Int := xorA .u64 ah ak
q_109 ((s, 16777216, 1099511627776, ()), ()) (fun ai =>
let r : Int := ai
let a : (Nat → Int) := (upd e 1 r)
let a3 : Int := (a 0)
let n : Int := (a 1)
let t : Int := addA .u64 a3 n
let a5 : Int := addA .u64 t a2
let c : (Nat → Int) := (upd a 0 a5)
let u : Int := (c 3)
let z : Int := (c 0)
let m : Int := xorA .u64 u z
q_109 ((m, 65536, 281474976710656, ()), ()) (fun ac =>
let j := ac
let g : (Nat → Int) := (upd c 3 j)
let i : Int := (g 2)
let y : Int := (g 3)
let a0 : Int := addA .u64 i y
let h : (Nat → Int) := (upd g 2 a0)
let l : Int := (h 1)
let a1 : Int := (h 2)
let ad : Int := xorA .u64 l a1
q_109 ((ad, 9223372036854775808, 2, ()), ()) (fun aa =>
let ab := aa
let a4 : (Nat → Int) := (upd h 1 ab)
κ0 a4))))
def p_101 (N : Nat) (x : ((Nat → Int) × Int × Int × Unit) × (Unit)) (κ0 : (Nat → Int) → Option R) : Option R := Q_101 (p_109 N) x κ0
def EG_101 (q_109 : Tp_109 R) : Env R := (Env.base QQ LN AA).add 109 ap_109 hp_109 (fun (x : aden ap_109 × hden hp_109) k => q_109 x (fun y => k (Pat.inst (.int .u64) y) (instH hp_109 x.2)))
def LG_101 : Loops R := Loops.none
def E_101 (N : Nat) : Env R := EG_101 (p_109 N)
def L_101 (N : Nat) : Loops R := LG_101
theorem grun_101 (q_109 : Tp_109 R) (x : aden ap_101 × hden hp_101) (k : KF R) : fnrun TT (EG_101 q_109) (drawAny TT WW) (LG_101) true Tryz.f101 (instA ap_101 x.1) (instH hp_101 x.2) k = Q_101 q_109 x (fun y => k (Pat.inst (.vec (.int .u64) 4) y) (instH hp_101 x.2)) := by kernel_rfl
theorem good_101 (N : Nat) : GD (X := R) Tryz.prog QQ AA 101 ap_101 hp_101 (fun (x : aden ap_101 × hden hp_101) k => p_101 N x (fun y => k (Pat.inst (.vec (.int .u64) 4) y) (instH hp_101 x.2))) :=
  gd_quiet (E := E_101 N) (p := fun (x : aden ap_101 × hden hp_101) κ => p_101 N x (fun y => κ (Pat.inst (.vec (.int .u64) 4) y))) mixed tyok (ek_add (ek_base _ _ _) (good_109 N)) Tryz.func101 (by kernel_rfl) (by kernel_rfl) (loops_nil (L := L_101 N) (by kernel_rfl)) (fun x k => (grun_101 (p_109 N) x k).trans (by kernel_rfl))

def lv_86_4 : Live := [(3, none), (4, none), (5, none), (6, none), (10, none), (11, none), (13, none), (14, none)]
def pt_86_4 : SPat := ⟨[(3, .int .u64), (4, .bool), (5, .ptr 0 []), (6, .ptr 1 []), (10, .ptr 2 []), (11, .ros (.int .u64)), (13, .ptr 3 []), (14, .int .i64)], [some (.vec (.int .u64) 8, 41), some (.vec (.int .u64) 8, 40), some (.vec (.int .u64) 8, 40), some (.vec (.int .u64) 16, 181)]⟩
def px_86_4_0 : SPat := ⟨[(3, .int .u64), (4, .bool), (6, .ptr 0 []), (10, .ptr 1 []), (11, .ros (.int .u64)), (13, .ptr 2 [])], J8⟩
def lo_86_4 : Exit → Live
  | .exit 0 => [(3, none), (4, none), (6, none), (10, none), (11, none), (13, none)]
  | _ => []
def lv_86_21 : Live := [(6, none), (10, none), (11, none), (13, none), (15, none), (16, none), (17, none), (18, none), (19, none), (20, none)]
def pt_86_21 : SPat := ⟨[(6, .ptr 0 []), (10, .ptr 1 []), (11, .ros (.int .u64)), (13, .ptr 2 []), (15, .int .i64), (16, .ptr 3 []), (17, .int .i64), (18, .ptr 4 []), (19, .ptr 5 []), (20, .int .i64)], [some (.vec (.int .u64) 8, 40), some (.vec (.int .u64) 8, 40), some (.vec (.int .u64) 16, 181), some (.vec (.int .i64) 16, 183), some (.vec (.int .i64) 4, 185), some (.vec (.int .u64) 4, 187)]⟩
def px_86_21_0 : SPat := ⟨[(6, .ptr 0 []), (10, .ptr 1 []), (11, .ros (.int .u64)), (13, .ptr 2 []), (15, .int .i64), (16, .ptr 3 []), (17, .int .i64)], [some (.vec (.int .u64) 8, 40), some (.vec (.int .u64) 8, 40), some (.vec (.int .u64) 16, 181), some (.vec (.int .i64) 16, 183)]⟩
def lo_86_21 : Exit → Live
  | .exit 6 => [(6, none), (10, none), (11, none), (13, none), (15, none), (16, none), (17, none)]
  | _ => []
def lv_86_16 : Live := [(6, none), (10, none), (11, none), (13, none), (15, none), (16, none), (17, none)]
def pt_86_16 : SPat := ⟨[(6, .ptr 0 []), (10, .ptr 1 []), (11, .ros (.int .u64)), (13, .ptr 2 []), (15, .int .i64), (16, .ptr 3 []), (17, .int .i64)], [some (.vec (.int .u64) 8, 40), some (.vec (.int .u64) 8, 40), some (.vec (.int .u64) 16, 181), some (.vec (.int .i64) 16, 183)]⟩
def px_86_16_0 : SPat := ⟨[(6, .ptr 0 []), (10, .ptr 1 []), (11, .ros (.int .u64)), (13, .ptr 2 []), (15, .int .i64)], J8⟩
def lo_86_16 : Exit → Live
  | .exit 4 => [(6, none), (10, none), (11, none), (13, none), (15, none)]
  | _ => []
def lv_86_12 : Live := [(6, none), (10, none), (11, none), (13, none), (15, none)]
def pt_86_12 : SPat := ⟨[(6, .ptr 0 []), (10, .ptr 1 []), (11, .ros (.int .u64)), (13, .ptr 2 []), (15, .int .i64)], J8⟩
def px_86_12_0 : SPat := ⟨[(6, .ptr 0 []), (10, .ptr 1 []), (13, .ptr 2 [])], J8⟩
def lo_86_12 : Exit → Live
  | .exit 2 => [(6, none), (10, none), (13, none)]
  | _ => []
def lv_86_25 : Live := [(6, none), (10, none), (13, none), (21, none)]
def pt_86_25 : SPat := ⟨[(6, .ptr 0 []), (10, .ptr 1 []), (13, .ptr 2 []), (21, .int .i64)], J8⟩
def px_86_25_0 : SPat := ⟨[(6, .ptr 0 []), (10, .ptr 1 [])], [some (.vec (.int .u64) 8, 40), some (.vec (.int .u64) 8, 40)]⟩
def lo_86_25 : Exit → Live
  | .exit 8 => [(6, none), (10, none)]
  | _ => []
def ap_86 : List Pat := [.vec (.int .u64) 8, .vec (.int .u64) 8, .str, .int .u64, .bool]
def hp_86 : List (Option (Pat × Nat)) := []
abbrev Tl_86_4 (R : Type) : Type := ((Int × Bool × Unit × Unit × Unit × (List Int) × Unit × Int × Unit) × Y9) → (((Int × Bool × Unit × Unit × (List Int) × Unit × Unit) × Y7) → Option R) → Option R
abbrev Tl_86_21 (R : Type) : Type := Y23 → (((Unit × Unit × (List Int) × Unit × Int × Unit × Int × Unit) × Y9) → Option R) → Option R
abbrev Tl_86_16 (R : Type) : Type := ((Unit × Unit × (List Int) × Unit × Int × Unit × Int × Unit) × Y9) → (((Unit × Unit × (List Int) × Unit × Int × Unit) × Y7) → Option R) → Option R
abbrev Tl_86_12 (R : Type) : Type := ((Unit × Unit × (List Int) × Unit × Int × Unit) × Y7) → (((Unit × Unit × Unit × Unit) × Y7) → Option R) → Option R
abbrev Tl_86_25 (R : Type) : Type := ((Unit × Unit × Unit × Int × Unit) × Y7) → (Y14 → Option R) → Option R
abbrev Tp_86 (R : Type) : Type := ((Nat → Int) × (Nat → Int) × ByteArray × Int × Bool × Unit) × (Unit) → ((Nat → Int) → Option R) → Option R
def C_86_4 (rec : ((Int × Bool × Unit × Unit × Unit × (List Int) × Unit × Int × Unit) × Y9) → Option R) (x : ((Int × Bool × Unit × Unit × Unit × (List Int) × Unit × Int × Unit) × Y9)) (κ0 : ((Int × Bool × Unit × Unit × (List Int) × Unit × Unit) × Y7) → Option R) : Option R :=
let e := x.1.1
let h := x.1.2.1
let i := x.1.2.2.2.2.2.1
let a := x.1.2.2.2.2.2.2.2.1
let g := x.2.1
let c := x.2.2.1
let d := x.2.2.2.1
let f := x.2.2.2.2.1
bif (decide (a < 8)) then (
bif decide (0 ≤ a) then (
bif decide (a < (8 : Int)) then (
let l : Int := (c ((Int.toNat a)))
bif decide (0 ≤ a) then (
bif decide (a < (16 : Int)) then (
let n : (Nat → Int) := (upd f ((Int.toNat a)) l)
let b : Int := addA .i64 a 8
bif decide (0 ≤ a) then (
bif decide (a < (8 : Int)) then (
let m : Int := (g ((Int.toNat a)))
bif decide (0 ≤ b) then (
bif decide (b < (16 : Int)) then (
let o : (Nat → Int) := (upd n ((Int.toNat b)) m)
let j : Int := addA .i64 a 1
rec ((e, h, (), (), (), i, (), j, ()), (g, c, d, o, ()))) else none) else none) else none) else none) else none) else none) else none) else none) else (
κ0 ((e, h, (), (), i, (), ()), (c, d, f, ())))
def C_86_21 (rec : Y23 → Option R) (x : Y23) (κ0 : ((Unit × Unit × (List Int) × Unit × Int × Unit × Int × Unit) × Y9) → Option R) : Option R :=
let c := x.1.2.2.1
let j := x.1.2.2.2.2.1
let l := x.1.2.2.2.2.2.2.1
let a := x.1.2.2.2.2.2.2.2.2.2.1
let i := x.2.1
let e := x.2.2.1
let d := x.2.2.2.1
let g := x.2.2.2.2.1
let f := x.2.2.2.2.2.1
let h := x.2.2.2.2.2.2.1
bif (decide (a < 4)) then (
bif decide (0 ≤ a) then (
bif decide (a < (4 : Int)) then (
let b : Int := (f ((Int.toNat a)))
bif decide (0 ≤ a) then (
bif decide (a < (4 : Int)) then (
let o : Int := (h ((Int.toNat a)))
bif decide (0 ≤ b) then (
bif decide (b < (16 : Int)) then (
let m : (Nat → Int) := (upd d ((Int.toNat b)) o)
let n : Int := addA .i64 a 1
rec (((), (), c, (), j, (), l, (), (), n, ()), (i, e, m, g, f, h, ()))) else none) else none) else none) else none) else none) else none) else (
κ0 (((), (), c, (), j, (), l, ()), (i, e, d, g, ())))
def C_86_16 (q_100 : Tp_100 R) (q_101 : Tp_101 R) (m_86_21 : Tl_86_21 R) (rec : ((Unit × Unit × (List Int) × Unit × Int × Unit × Int × Unit) × Y9) → Option R) (x : ((Unit × Unit × (List Int) × Unit × Int × Unit × Int × Unit) × Y9)) (κ0 : ((Unit × Unit × (List Int) × Unit × Int × Unit) × Y7) → Option R) : Option R :=
let b := x.1.2.2.1
let p := x.1.2.2.2.2.1
let d := x.1.2.2.2.2.2.2.1
let s := x.2.1
let r := x.2.2.1
let c := x.2.2.2.1
let l := x.2.2.2.2.1
bif (decide (d < 8)) then (
q_100 ((d, ()), ()) (fun a5 =>
let e : (Nat → Int) := a5
let i : Int := (e 0)
bif decide (0 ≤ i) then (
bif decide (i < (16 : Int)) then (
let a6 : Int := (c ((Int.toNat i)))
let f : Int := (e 1)
bif decide (0 ≤ f) then (
bif decide (f < (16 : Int)) then (
let a7 : Int := (c ((Int.toNat f)))
let g : Int := (e 2)
bif decide (0 ≤ g) then (
bif decide (g < (16 : Int)) then (
let u : Int := (c ((Int.toNat g)))
let m : Int := (e 3)
bif decide (0 ≤ m) then (
bif decide (m < (16 : Int)) then (
let a2 : Int := (c ((Int.toNat m)))
let y : (Nat → Int) := (upd ((upd ((upd ((upd ((Sch.zero (.arr 4 (.int .u64)))) 0 a6)) 1 a7)) 2 u)) 3 a2)
let h : Int := mulA .i64 2 d
bif decide (0 ≤ h) then (
bif decide (h < (16 : Int)) then (
let j : Int := (l ((Int.toNat h)))
bif decide (0 ≤ j) then (
bif decide (j < ((List.length b) : Int)) then (
let ab : Int := (List.getD b ((Int.toNat j)) (Sch.zero (.int .u64)))
let a3 : Int := mulA .i64 2 d
let n : Int := addA .i64 a3 1
bif decide (0 ≤ n) then (
bif decide (n < (16 : Int)) then (
let o : Int := (l ((Int.toNat n)))
bif decide (0 ≤ o) then (
bif decide (o < ((List.length b) : Int)) then (
let a4 : Int := (List.getD b ((Int.toNat o)) (Sch.zero (.int .u64)))
q_101 ((y, ab, a4, ()), ()) (fun a1 =>
let aa : (Nat → Int) := a1
m_86_21 (((), (), b, (), p, (), d, (), (), 0, ()), (s, r, c, l, e, aa, ())) (fun a =>
let w := a.1.2.2.1
let a8 := a.1.2.2.2.2.1
let a9 := a.1.2.2.2.2.2.2.1
let ac := a.2.1
let v := a.2.2.1
let a0 := a.2.2.2.1
let z := a.2.2.2.2.1
let t : Int := addA .i64 a9 1
rec (((), (), w, (), a8, (), t, ()), (ac, v, a0, z, ()))))) else none) else none) else none) else none) else none) else none) else none) else none) else none) else none) else none) else none) else none) else none) else none) else none)) else (
κ0 (((), (), b, (), p, ()), (s, r, c, ())))
def C_86_12 (q_99 : Tp_99 R) (m_86_16 : Tl_86_16 R) (rec : ((Unit × Unit × (List Int) × Unit × Int × Unit) × Y7) → Option R) (x : ((Unit × Unit × (List Int) × Unit × Int × Unit) × Y7)) (κ0 : ((Unit × Unit × Unit × Unit) × Y7) → Option R) : Option R :=
let j := x.1.2.2.1
let b := x.1.2.2.2.2.1
let c := x.2.1
let e := x.2.2.1
let d := x.2.2.2.1
bif (decide (b < 12)) then (
q_99 ((b, ()), ()) (fun i =>
let g : (Nat → Int) := i
m_86_16 (((), (), j, (), b, (), 0, ()), (c, e, d, g, ())) (fun a =>
let f := a.1.2.2.1
let h := a.1.2.2.2.2.1
let n := a.2.1
let o := a.2.2.1
let m := a.2.2.2.1
let l : Int := addA .i64 h 1
rec (((), (), f, (), l, ()), (n, o, m, ()))))) else (
κ0 (((), (), (), ()), (c, e, d, ())))
def C_86_25 (rec : ((Unit × Unit × Unit × Int × Unit) × Y7) → Option R) (x : ((Unit × Unit × Unit × Int × Unit) × Y7)) (κ0 : Y14 → Option R) : Option R :=
let a := x.1.2.2.2.1
let d := x.2.1
let e := x.2.2.1
let c := x.2.2.2.1
bif (decide (a < 8)) then (
bif decide (0 ≤ a) then (
bif decide (a < (8 : Int)) then (
let m : Int := (d ((Int.toNat a)))
bif decide (0 ≤ a) then (
bif decide (a < (16 : Int)) then (
let j : Int := (c ((Int.toNat a)))
let l : Int := xorA .u64 m j
let b : Int := addA .i64 a 8
bif decide (0 ≤ b) then (
bif decide (b < (16 : Int)) then (
let h : Int := (c ((Int.toNat b)))
let f : Int := xorA .u64 l h
bif decide (0 ≤ a) then (
bif decide (a < (8 : Int)) then (
let i : (Nat → Int) := (upd d ((Int.toNat a)) f)
let g : Int := addA .i64 a 1
rec (((), (), (), g, ()), (i, e, c, ()))) else none) else none) else none) else none) else none) else none) else none) else none) else (
κ0 (((), (), ()), (d, e, ())))
def B_86_4 (N : Nat) (rec : ((Int × Bool × Unit × Unit × Unit × (List Int) × Unit × Int × Unit) × Y9) → Option R) (x : ((Int × Bool × Unit × Unit × Unit × (List Int) × Unit × Int × Unit) × Y9)) (κ0 : ((Int × Bool × Unit × Unit × (List Int) × Unit × Unit) × Y7) → Option R) : Option R := C_86_4 rec x κ0
def l_86_4 (N : Nat) : Nat → ((Int × Bool × Unit × Unit × Unit × (List Int) × Unit × Int × Unit) × Y9) → (((Int × Bool × Unit × Unit × (List Int) × Unit × Unit) × Y7) → Option R) → Option R
  | 0, _, _ => none
  | n + 1, x, κ0 => B_86_4 N (fun y => l_86_4 N n y κ0) x κ0
def B_86_21 (N : Nat) (rec : Y23 → Option R) (x : Y23) (κ0 : ((Unit × Unit × (List Int) × Unit × Int × Unit × Int × Unit) × Y9) → Option R) : Option R := C_86_21 rec x κ0
def l_86_21 (N : Nat) : Nat → Y23 → (((Unit × Unit × (List Int) × Unit × Int × Unit × Int × Unit) × Y9) → Option R) → Option R
  | 0, _, _ => none
  | n + 1, x, κ0 => B_86_21 N (fun y => l_86_21 N n y κ0) x κ0
def B_86_16 (N : Nat) (rec : ((Unit × Unit × (List Int) × Unit × Int × Unit × Int × Unit) × Y9) → Option R) (x : ((Unit × Unit × (List Int) × Unit × Int × Unit × Int × Unit) × Y9)) (κ0 : ((Unit × Unit × (List Int) × Unit × Int × Unit) × Y7) → Option R) : Option R := C_86_16 (p_100 N) (p_101 N) (l_86_21 N N) rec x κ0
def l_86_16 (N : Nat) : Nat → ((Unit × Unit × (List Int) × Unit × Int × Unit × Int × Unit) × Y9) → (((Unit × Unit × (List Int) × Unit × Int × Unit) × Y7) → Option R) → Option R
  | 0, _, _ => none
  | n + 1, x, κ0 => B_86_16 N (fun y => l_86_16 N n y κ0) x κ0
def B_86_12 (N : Nat) (rec : ((Unit × Unit × (List Int) × Unit × Int × Unit) × Y7) → Option R) (x : ((Unit × Unit × (List Int) × Unit × Int × Unit) × Y7)) (κ0 : ((Unit × Unit × Unit × Unit) × Y7) → Option R) : Option R := C_86_12 (p_99 N) (l_86_16 N N) rec x κ0
def l_86_12 (N : Nat) : Nat → ((Unit × Unit × (List Int) × Unit × Int × Unit) × Y7) → (((Unit × Unit × Unit × Unit) × Y7) → Option R) → Option R
  | 0, _, _ => none
  | n + 1, x, κ0 => B_86_12 N (fun y => l_86_12 N n y κ0) x κ0
def B_86_25 (N : Nat) (rec : ((Unit × Unit × Unit × Int × Unit) × Y7) → Option R) (x : ((Unit × Unit × Unit × Int × Unit) × Y7)) (κ0 : Y14 → Option R) : Option R := C_86_25 rec x κ0
def l_86_25 (N : Nat) : Nat → ((Unit × Unit × Unit × Int × Unit) × Y7) → (Y14 → Option R) → Option R
  | 0, _, _ => none
  | n + 1, x, κ0 => B_86_25 N (fun y => l_86_25 N n y κ0) x κ0
def Q_86 (q_62 : Tp_62 R) (q_100 : Tp_100 R) (q_101 : Tp_101 R) (q_99 : Tp_99 R) (m_86_4 : Tl_86_4 R) (m_86_21 : Tl_86_21 R) (m_86_16 : Tl_86_16 R) (m_86_12 : Tl_86_12 R) (m_86_25 : Tl_86_25 R) (x : ((Nat → Int) × (Nat → Int) × ByteArray × Int × Bool × Unit) × (Unit)) (κ0 : (Nat → Int) → Option R) : Option R :=
let y := x.1.1
let v := x.1.2.1
let g := x.1.2.2.1
let a4 := x.1.2.2.2.1
let u := x.1.2.2.2.2.1
bif decide (ByteArray.size g ≤ maxI64) then (
let n : (List Int) := strList g
q_62 (((), 8, ()), (n, ())) (fun j =>
let a0 := j.1.1
m_86_4 ((a4, u, (), (), (), a0, (), 0, ()), (y, v, (Sch.zero (.arr 8 (.int .u64))), (Sch.zero (.arr 16 (.int .u64))), ())) (fun a =>
let a3 := a.1.1
let a6 := a.1.2.1
let i := a.1.2.2.2.2.1
let f := a.2.1
let e := a.2.2.1
let h := a.2.2.2.1
let a1 : Int := (h 12)
let z : Int := xorA .u64 a1 a3
let c : (Nat → Int) := (upd h 12 z)
bif a6 then (
let a5 : Int := (c 14)
let s : Int := subA .u64 18446744073709551615 a5
let r : (Nat → Int) := (upd c 14 s)
m_86_12 (((), (), i, (), 0, ()), (f, e, r, ())) (fun d =>
let p := d.2.1
let a9 := d.2.2.1
let a7 := d.2.2.2.1
m_86_25 (((), (), (), 0, ()), (p, a9, a7, ())) (fun t =>
let o := t.2.1
κ0 o))) else (
m_86_12 (((), (), i, (), 0, ()), (f, e, c, ())) (fun b =>
let a2 := b.2.1
let a8 := b.2.2.1
let l := b.2.2.2.1
m_86_25 (((), (), (), 0, ()), (a2, a8, l, ())) (fun w =>
let m := w.2.1
κ0 m)))))) else none
def p_86 (N : Nat) (x : ((Nat → Int) × (Nat → Int) × ByteArray × Int × Bool × Unit) × (Unit)) (κ0 : (Nat → Int) → Option R) : Option R := Q_86 (p_62 N) (p_100 N) (p_101 N) (p_99 N) (l_86_4 N N) (l_86_21 N N) (l_86_16 N N) (l_86_12 N N) (l_86_25 N N) x κ0
def EG_86 (q_62 : Tp_62 R) (q_100 : Tp_100 R) (q_101 : Tp_101 R) (q_99 : Tp_99 R) : Env R := ((((Env.base QQ LN AA).add 62 ap_62 hp_62 (fun (x : aden ap_62 × hden hp_62) k => q_62 x (fun y => k (Pat.inst (.tup (.fcons (.ros (.int .u64)) (.fcons (.bool) (.fnil)))) y.1) (instH J7 y.2)))).add 100 ap_100 hp_100 (fun (x : aden ap_100 × hden hp_100) k => q_100 x (fun y => k (Pat.inst (.vec (.int .i64) 4) y) (instH hp_100 x.2)))).add 101 ap_101 hp_101 (fun (x : aden ap_101 × hden hp_101) k => q_101 x (fun y => k (Pat.inst (.vec (.int .u64) 4) y) (instH hp_101 x.2)))).add 99 ap_99 hp_99 (fun (x : aden ap_99 × hden hp_99) k => q_99 x (fun y => k (Pat.inst (.vec (.int .i64) 16) y) (instH hp_99 x.2)))
def LG_86 (m_86_4 : Tl_86_4 R) (m_86_21 : Tl_86_21 R) (m_86_16 : Tl_86_16 R) (m_86_12 : Tl_86_12 R) (m_86_25 : Tl_86_25 R) : Loops R := (((((Loops.none).add 4 (loopBy 0 lv_86_4 pt_86_4 (fun x k => m_86_4 x (fun y => k (.exit 0) (px_86_4_0.inst y))))).add 21 (loopBy 0 lv_86_21 pt_86_21 (fun x k => m_86_21 x (fun y => k (.exit 6) (px_86_21_0.inst y))))).add 16 (loopBy 0 lv_86_16 pt_86_16 (fun x k => m_86_16 x (fun y => k (.exit 4) (px_86_16_0.inst y))))).add 12 (loopBy 0 lv_86_12 pt_86_12 (fun x k => m_86_12 x (fun y => k (.exit 2) (px_86_12_0.inst y))))).add 25 (loopBy 0 lv_86_25 pt_86_25 (fun x k => m_86_25 x (fun y => k (.exit 8) (px_86_25_0.inst y))))
def E_86 (N : Nat) : Env R := EG_86 (p_62 N) (p_100 N) (p_101 N) (p_99 N)
def L_86 (N : Nat) : Loops R := LG_86 (l_86_4 N N) (l_86_21 N N) (l_86_16 N N) (l_86_12 N N) (l_86_25 N N)
theorem gstep_86_4 (q_62 : Tp_62 R) (q_100 : Tp_100 R) (q_101 : Tp_101 R) (q_99 : Tp_99 R) (m_86_4 : Tl_86_4 R) (m_86_21 : Tl_86_21 R) (m_86_16 : Tl_86_16 R) (m_86_12 : Tl_86_12 R) (m_86_25 : Tl_86_25 R) (n : Nat) (x : pt_86_4.den) (k : Exit → St → Option R) : iter 0 lv_86_4 lo_86_4 (aexec TT (EG_86 q_62 q_100 q_101 q_99) (drawAny TT WW) (LG_86 m_86_4 m_86_21 m_86_16 m_86_12 m_86_25) (loopAt 4 (bodyOf Tryz.f86))) (n + 1) (pt_86_4.inst x) k = C_86_4 (fun y => iter 0 lv_86_4 lo_86_4 (aexec TT (EG_86 q_62 q_100 q_101 q_99) (drawAny TT WW) (LG_86 m_86_4 m_86_21 m_86_16 m_86_12 m_86_25) (loopAt 4 (bodyOf Tryz.f86))) n (pt_86_4.inst y) k) x (fun y => k (.exit 0) (px_86_4_0.inst y)) := by kernel_rfl
theorem rounds_86_4 (N : Nat) : Rounds 0 TT (E_86 (R := R) N) (drawAny TT WW) (L_86 N) 4 (loopAt 4 (bodyOf Tryz.f86)) :=
  rounds_of (p := pt_86_4) (l := fun (x : pt_86_4.den) k => l_86_4 N N x (fun y => k (.exit 0) (px_86_4_0.inst y))) (fun s k => rfl) (fun x k => (iter_eq (K := Exit → St → Option R) (ks := fun k => k) (l := fun n (x : pt_86_4.den) k => l_86_4 N n x (fun y => k (.exit 0) (px_86_4_0.inst y))) (B := fun (rec : pt_86_4.den → Option R) (x : pt_86_4.den) k => B_86_4 N rec x (fun y => k (.exit 0) (px_86_4_0.inst y))) (fun _ _ => rfl) (fun _ _ _ => rfl) (fun n x k => (gstep_86_4 (p_62 N) (p_100 N) (p_101 N) (p_99 N) (l_86_4 N N) (l_86_21 N N) (l_86_16 N N) (l_86_12 N N) (l_86_25 N N) n x k).trans (by kernel_rfl))) N x k)
theorem gstep_86_21 (q_62 : Tp_62 R) (q_100 : Tp_100 R) (q_101 : Tp_101 R) (q_99 : Tp_99 R) (m_86_4 : Tl_86_4 R) (m_86_21 : Tl_86_21 R) (m_86_16 : Tl_86_16 R) (m_86_12 : Tl_86_12 R) (m_86_25 : Tl_86_25 R) (n : Nat) (x : pt_86_21.den) (k : Exit → St → Option R) : iter 0 lv_86_21 lo_86_21 (aexec TT (EG_86 q_62 q_100 q_101 q_99) (drawAny TT WW) (LG_86 m_86_4 m_86_21 m_86_16 m_86_12 m_86_25) (loopAt 21 (bodyOf Tryz.f86))) (n + 1) (pt_86_21.inst x) k = C_86_21 (fun y => iter 0 lv_86_21 lo_86_21 (aexec TT (EG_86 q_62 q_100 q_101 q_99) (drawAny TT WW) (LG_86 m_86_4 m_86_21 m_86_16 m_86_12 m_86_25) (loopAt 21 (bodyOf Tryz.f86))) n (pt_86_21.inst y) k) x (fun y => k (.exit 6) (px_86_21_0.inst y)) := by kernel_rfl
theorem rounds_86_21 (N : Nat) : Rounds 0 TT (E_86 (R := R) N) (drawAny TT WW) (L_86 N) 21 (loopAt 21 (bodyOf Tryz.f86)) :=
  rounds_of (p := pt_86_21) (l := fun (x : pt_86_21.den) k => l_86_21 N N x (fun y => k (.exit 6) (px_86_21_0.inst y))) (fun s k => rfl) (fun x k => (iter_eq (K := Exit → St → Option R) (ks := fun k => k) (l := fun n (x : pt_86_21.den) k => l_86_21 N n x (fun y => k (.exit 6) (px_86_21_0.inst y))) (B := fun (rec : pt_86_21.den → Option R) (x : pt_86_21.den) k => B_86_21 N rec x (fun y => k (.exit 6) (px_86_21_0.inst y))) (fun _ _ => rfl) (fun _ _ _ => rfl) (fun n x k => (gstep_86_21 (p_62 N) (p_100 N) (p_101 N) (p_99 N) (l_86_4 N N) (l_86_21 N N) (l_86_16 N N) (l_86_12 N N) (l_86_25 N N) n x k).trans (by kernel_rfl))) N x k)
theorem gstep_86_16 (q_62 : Tp_62 R) (q_100 : Tp_100 R) (q_101 : Tp_101 R) (q_99 : Tp_99 R) (m_86_4 : Tl_86_4 R) (m_86_21 : Tl_86_21 R) (m_86_16 : Tl_86_16 R) (m_86_12 : Tl_86_12 R) (m_86_25 : Tl_86_25 R) (n : Nat) (x : pt_86_16.den) (k : Exit → St → Option R) : iter 0 lv_86_16 lo_86_16 (aexec TT (EG_86 q_62 q_100 q_101 q_99) (drawAny TT WW) (LG_86 m_86_4 m_86_21 m_86_16 m_86_12 m_86_25) (loopAt 16 (bodyOf Tryz.f86))) (n + 1) (pt_86_16.inst x) k = C_86_16 q_100 q_101 m_86_21 (fun y => iter 0 lv_86_16 lo_86_16 (aexec TT (EG_86 q_62 q_100 q_101 q_99) (drawAny TT WW) (LG_86 m_86_4 m_86_21 m_86_16 m_86_12 m_86_25) (loopAt 16 (bodyOf Tryz.f86))) n (pt_86_16.inst y) k) x (fun y => k (.exit 4) (px_86_16_0.inst y)) := by kernel_rfl
theorem rounds_86_16 (N : Nat) : Rounds 0 TT (E_86 (R := R) N) (drawAny TT WW) (L_86 N) 16 (loopAt 16 (bodyOf Tryz.f86)) :=
  rounds_of (p := pt_86_16) (l := fun (x : pt_86_16.den) k => l_86_16 N N x (fun y => k (.exit 4) (px_86_16_0.inst y))) (fun s k => rfl) (fun x k => (iter_eq (K := Exit → St → Option R) (ks := fun k => k) (l := fun n (x : pt_86_16.den) k => l_86_16 N n x (fun y => k (.exit 4) (px_86_16_0.inst y))) (B := fun (rec : pt_86_16.den → Option R) (x : pt_86_16.den) k => B_86_16 N rec x (fun y => k (.exit 4) (px_86_16_0.inst y))) (fun _ _ => rfl) (fun _ _ _ => rfl) (fun n x k => (gstep_86_16 (p_62 N) (p_100 N) (p_101 N) (p_99 N) (l_86_4 N N) (l_86_21 N N) (l_86_16 N N) (l_86_12 N N) (l_86_25 N N) n x k).trans (by kernel_rfl))) N x k)
theorem gstep_86_12 (q_62 : Tp_62 R) (q_100 : Tp_100 R) (q_101 : Tp_101 R) (q_99 : Tp_99 R) (m_86_4 : Tl_86_4 R) (m_86_21 : Tl_86_21 R) (m_86_16 : Tl_86_16 R) (m_86_12 : Tl_86_12 R) (m_86_25 : Tl_86_25 R) (n : Nat) (x : pt_86_12.den) (k : Exit → St → Option R) : iter 0 lv_86_12 lo_86_12 (aexec TT (EG_86 q_62 q_100 q_101 q_99) (drawAny TT WW) (LG_86 m_86_4 m_86_21 m_86_16 m_86_12 m_86_25) (loopAt 12 (bodyOf Tryz.f86))) (n + 1) (pt_86_12.inst x) k = C_86_12 q_99 m_86_16 (fun y => iter 0 lv_86_12 lo_86_12 (aexec TT (EG_86 q_62 q_100 q_101 q_99) (drawAny TT WW) (LG_86 m_86_4 m_86_21 m_86_16 m_86_12 m_86_25) (loopAt 12 (bodyOf Tryz.f86))) n (pt_86_12.inst y) k) x (fun y => k (.exit 2) (px_86_12_0.inst y)) := by kernel_rfl
theorem rounds_86_12 (N : Nat) : Rounds 0 TT (E_86 (R := R) N) (drawAny TT WW) (L_86 N) 12 (loopAt 12 (bodyOf Tryz.f86)) :=
  rounds_of (p := pt_86_12) (l := fun (x : pt_86_12.den) k => l_86_12 N N x (fun y => k (.exit 2) (px_86_12_0.inst y))) (fun s k => rfl) (fun x k => (iter_eq (K := Exit → St → Option R) (ks := fun k => k) (l := fun n (x : pt_86_12.den) k => l_86_12 N n x (fun y => k (.exit 2) (px_86_12_0.inst y))) (B := fun (rec : pt_86_12.den → Option R) (x : pt_86_12.den) k => B_86_12 N rec x (fun y => k (.exit 2) (px_86_12_0.inst y))) (fun _ _ => rfl) (fun _ _ _ => rfl) (fun n x k => (gstep_86_12 (p_62 N) (p_100 N) (p_101 N) (p_99 N) (l_86_4 N N) (l_86_21 N N) (l_86_16 N N) (l_86_12 N N) (l_86_25 N N) n x k).trans (by kernel_rfl))) N x k)
theorem gstep_86_25 (q_62 : Tp_62 R) (q_100 : Tp_100 R) (q_101 : Tp_101 R) (q_99 : Tp_99 R) (m_86_4 : Tl_86_4 R) (m_86_21 : Tl_86_21 R) (m_86_16 : Tl_86_16 R) (m_86_12 : Tl_86_12 R) (m_86_25 : Tl_86_25 R) (n : Nat) (x : pt_86_25.den) (k : Exit → St → Option R) : iter 0 lv_86_25 lo_86_25 (aexec TT (EG_86 q_62 q_100 q_101 q_99) (drawAny TT WW) (LG_86 m_86_4 m_86_21 m_86_16 m_86_12 m_86_25) (loopAt 25 (bodyOf Tryz.f86))) (n + 1) (pt_86_25.inst x) k = C_86_25 (fun y => iter 0 lv_86_25 lo_86_25 (aexec TT (EG_86 q_62 q_100 q_101 q_99) (drawAny TT WW) (LG_86 m_86_4 m_86_21 m_86_16 m_86_12 m_86_25) (loopAt 25 (bodyOf Tryz.f86))) n (pt_86_25.inst y) k) x (fun y => k (.exit 8) (px_86_25_0.inst y)) := by kernel_rfl
theorem rounds_86_25 (N : Nat) : Rounds 0 TT (E_86 (R := R) N) (drawAny TT WW) (L_86 N) 25 (loopAt 25 (bodyOf Tryz.f86)) :=
  rounds_of (p := pt_86_25) (l := fun (x : pt_86_25.den) k => l_86_25 N N x (fun y => k (.exit 8) (px_86_25_0.inst y))) (fun s k => rfl) (fun x k => (iter_eq (K := Exit → St → Option R) (ks := fun k => k) (l := fun n (x : pt_86_25.den) k => l_86_25 N n x (fun y => k (.exit 8) (px_86_25_0.inst y))) (B := fun (rec : pt_86_25.den → Option R) (x : pt_86_25.den) k => B_86_25 N rec x (fun y => k (.exit 8) (px_86_25_0.inst y))) (fun _ _ => rfl) (fun _ _ _ => rfl) (fun n x k => (gstep_86_25 (p_62 N) (p_100 N) (p_101 N) (p_99 N) (l_86_4 N N) (l_86_21 N N) (l_86_16 N N) (l_86_12 N N) (l_86_25 N N) n x k).trans (by kernel_rfl))) N x k)
theorem loops_86 : loopsIn (bodyOf Tryz.f86) = [(4, loopAt 4 (bodyOf Tryz.f86)), (12, loopAt 12 (bodyOf Tryz.f86)), (16, loopAt 16 (bodyOf Tryz.f86)), (21, loopAt 21 (bodyOf Tryz.f86)), (25, loopAt 25 (bodyOf Tryz.f86))] := by kernel_rfl
theorem grun_86 (q_62 : Tp_62 R) (q_100 : Tp_100 R) (q_101 : Tp_101 R) (q_99 : Tp_99 R) (m_86_4 : Tl_86_4 R) (m_86_21 : Tl_86_21 R) (m_86_16 : Tl_86_16 R) (m_86_12 : Tl_86_12 R) (m_86_25 : Tl_86_25 R) (x : aden ap_86 × hden hp_86) (k : KF R) : fnrun TT (EG_86 q_62 q_100 q_101 q_99) (drawAny TT WW) (LG_86 m_86_4 m_86_21 m_86_16 m_86_12 m_86_25) true Tryz.f86 (instA ap_86 x.1) (instH hp_86 x.2) k = Q_86 q_62 q_100 q_101 q_99 m_86_4 m_86_21 m_86_16 m_86_12 m_86_25 x (fun y => k (Pat.inst (.vec (.int .u64) 8) y) (instH hp_86 x.2)) := by kernel_rfl
theorem good_86 (N : Nat) : GD (X := R) Tryz.prog QQ AA 86 ap_86 hp_86 (fun (x : aden ap_86 × hden hp_86) k => p_86 N x (fun y => k (Pat.inst (.vec (.int .u64) 8) y) (instH hp_86 x.2))) :=
  gd_quiet (E := E_86 N) (p := fun (x : aden ap_86 × hden hp_86) κ => p_86 N x (fun y => κ (Pat.inst (.vec (.int .u64) 8) y))) mixed tyok (ek_add (ek_add (ek_add (ek_add (ek_base _ _ _) (good_62 N)) (good_100 N)) (good_101 N)) (good_99 N)) Tryz.func86 (by kernel_rfl) (by kernel_rfl) (loops_all (L := L_86 N) loops_86 (by
  simp only [List.forall_mem_cons, List.not_mem_nil, false_implies, implies_true, and_true]
  exact ⟨rounds_86_4 N, rounds_86_12 N, rounds_86_16 N, rounds_86_21 N, rounds_86_25 N⟩)) (fun x k => (grun_86 (p_62 N) (p_100 N) (p_101 N) (p_99 N) (l_86_4 N N) (l_86_21 N N) (l_86_16 N N) (l_86_12 N N) (l_86_25 N N) x k).trans (by kernel_rfl))

def lv_87_3 : Live := [(0, none), (3, some (.int .u8, 5)), (4, none)]
def pt_87_3 : SPat := ⟨[(0, .int .u64), (3, .sl 0), (4, .int .i64)], J7⟩
def px_87_3_0 : SPat := ⟨[(3, .sl 0)], J7⟩
def lo_87_3 : Exit → Live
  | .exit 0 => [(3, none)]
  | _ => []
def ap_87 : List Pat := [.int .u64]
def hp_87 : List (Option (Pat × Nat)) := []
abbrev Tl_87_3 (R : Type) : Type := ((Int × Unit × Int × Unit) × ((List Int) × Unit)) → (((Unit × Unit) × ((List Int) × Unit)) → Option R) → Option R
abbrev Tp_87 (R : Type) : Type := (Int × Unit) × (Unit) → ((List Int) → Option R) → Option R
def C_87_3 (rec : ((Int × Unit × Int × Unit) × ((List Int) × Unit)) → Option R) (x : ((Int × Unit × Int × Unit) × ((List Int) × Unit))) (κ0 : ((Unit × Unit) × ((List Int) × Unit)) → Option R) : Option R :=
let d := x.1.1
let c := x.1.2.2.1
let b := x.2.1
bif (decide (c < 8)) then (
let i : Int := remA .u64 d 256
let g : Int := IntKind.wrap .u8 i
let a : (List Int) := [g]
bif (decide ((List.length b + List.length a) * 1 ≤ 140737488355328) && true) then (
let f : (List Int) := (b ++ a)
let h : Int := quoA .u64 d 256
let e : Int := addA .i64 c 1
rec ((h, (), e, ()), (f, ()))) else none) else (
κ0 (((), ()), x.2))
def B_87_3 (N : Nat) (rec : ((Int × Unit × Int × Unit) × ((List Int) × Unit)) → Option R) (x : ((Int × Unit × Int × Unit) × ((List Int) × Unit))) (κ0 : ((Unit × Unit) × ((List Int) × Unit)) → Option R) : Option R := C_87_3 rec x κ0
def l_87_3 (N : Nat) : Nat → ((Int × Unit × Int × Unit) × ((List Int) × Unit)) → (((Unit × Unit) × ((List Int) × Unit)) → Option R) → Option R
  | 0, _, _ => none
  | n + 1, x, κ0 => B_87_3 N (fun y => l_87_3 N n y κ0) x κ0
def Q_87 (m_87_3 : Tl_87_3 R) (x : (Int × Unit) × (Unit)) (κ0 : (List Int) → Option R) : Option R :=
let c := x.1.1
m_87_3 ((c, (), 0, ()), ([], ())) (fun b =>
let a := b.2.1
κ0 a)
def p_87 (N : Nat) (x : (Int × Unit) × (Unit)) (κ0 : (List Int) → Option R) : Option R := Q_87 (l_87_3 N N) x κ0
def EG_87 : Env R := Env.base QQ LN AA
def LG_87 (m_87_3 : Tl_87_3 R) : Loops R := (Loops.none).add 3 (loopBy 0 lv_87_3 pt_87_3 (fun x k => m_87_3 x (fun y => k (.exit 0) (px_87_3_0.inst y))))
def E_87 (N : Nat) : Env R := EG_87
def L_87 (N : Nat) : Loops R := LG_87 (l_87_3 N N)
theorem gstep_87_3 (m_87_3 : Tl_87_3 R) (n : Nat) (x : pt_87_3.den) (k : Exit → St → Option R) : iter 0 lv_87_3 lo_87_3 (aexec TT (EG_87) (drawAny TT WW) (LG_87 m_87_3) (loopAt 3 (bodyOf Tryz.f87))) (n + 1) (pt_87_3.inst x) k = C_87_3 (fun y => iter 0 lv_87_3 lo_87_3 (aexec TT (EG_87) (drawAny TT WW) (LG_87 m_87_3) (loopAt 3 (bodyOf Tryz.f87))) n (pt_87_3.inst y) k) x (fun y => k (.exit 0) (px_87_3_0.inst y)) := by kernel_rfl
theorem rounds_87_3 (N : Nat) : Rounds 0 TT (E_87 (R := R) N) (drawAny TT WW) (L_87 N) 3 (loopAt 3 (bodyOf Tryz.f87)) :=
  rounds_of (p := pt_87_3) (l := fun (x : pt_87_3.den) k => l_87_3 N N x (fun y => k (.exit 0) (px_87_3_0.inst y))) (fun s k => rfl) (fun x k => (iter_eq (K := Exit → St → Option R) (ks := fun k => k) (l := fun n (x : pt_87_3.den) k => l_87_3 N n x (fun y => k (.exit 0) (px_87_3_0.inst y))) (B := fun (rec : pt_87_3.den → Option R) (x : pt_87_3.den) k => B_87_3 N rec x (fun y => k (.exit 0) (px_87_3_0.inst y))) (fun _ _ => rfl) (fun _ _ _ => rfl) (fun n x k => (gstep_87_3 (l_87_3 N N) n x k).trans (by kernel_rfl))) N x k)
theorem loops_87 : loopsIn (bodyOf Tryz.f87) = [(3, loopAt 3 (bodyOf Tryz.f87))] := by kernel_rfl
theorem grun_87 (m_87_3 : Tl_87_3 R) (x : aden ap_87 × hden hp_87) (k : KF R) : fnrun TT (EG_87) (drawAny TT WW) (LG_87 m_87_3) true Tryz.f87 (instA ap_87 x.1) (instH hp_87 x.2) k = Q_87 m_87_3 x (fun y => k (Pat.inst (.ros (.int .u8)) y) (instH hp_87 x.2)) := by kernel_rfl
theorem good_87 (N : Nat) : GD (X := R) Tryz.prog QQ AA 87 ap_87 hp_87 (fun (x : aden ap_87 × hden hp_87) k => p_87 N x (fun y => k (Pat.inst (.ros (.int .u8)) y) (instH hp_87 x.2))) :=
  gd_quiet (E := E_87 N) (p := fun (x : aden ap_87 × hden hp_87) κ => p_87 N x (fun y => κ (Pat.inst (.ros (.int .u8)) y))) mixed tyok (ek_base _ _ _) Tryz.func87 (by kernel_rfl) (by kernel_rfl) (loops_all (L := L_87 N) loops_87 (by
  simp only [List.forall_mem_cons, List.not_mem_nil, false_implies, implies_true, and_true]
  exact rounds_87_3 N)) (fun x k => (grun_87 (l_87_3 N N) x k).trans (by kernel_rfl))

def lv_63_6 : Live := [(1, none), (3, none), (4, none), (9, none), (10, none)]
def pt_63_6 : SPat := ⟨[(1, .int .i64), (3, .str), (4, .ptr 0 []), (9, .ptr 1 []), (10, .int .i64)], [some (.vec (.int .u64) 8, 41), some (.vec (.int .u64) 8, 40)]⟩
def px_63_6_0 : SPat := ⟨[(1, .int .i64), (3, .str), (4, .ptr 0 []), (9, .ptr 1 []), (10, .int .i64)], [some (.vec (.int .u64) 8, 41), some (.vec (.int .u64) 8, 40)]⟩
def lo_63_6 : Exit → Live
  | .exit 0 => [(1, none), (3, none), (4, none), (9, none), (10, none)]
  | _ => []
def lv_63_12 : Live := [(1, none), (9, none), (11, some (.int .u8, 5)), (12, none)]
def pt_63_12 : SPat := ⟨[(1, .int .i64), (9, .ptr 0 []), (11, .sl 1), (12, .int .i64)], [some (.vec (.int .u64) 8, 40), some (.lst (.int .u8), 5)]⟩
def px_63_12_0 : SPat := ⟨[(1, .int .i64), (11, .sl 0)], J7⟩
def lo_63_12 : Exit → Live
  | .exit 2 => [(1, none), (11, none)]
  | _ => []
def ap_63 : List Pat := [.vec (.int .u64) 8, .int .i64, .str, .str]
def hp_63 : List (Option (Pat × Nat)) := []
abbrev Tl_63_6 (R : Type) : Type := ((Int × ByteArray × Unit × Unit × Int × Unit) × Y2) → (((Int × ByteArray × Unit × Unit × Int × Unit) × Y2) → Option R) → Option R
abbrev Tl_63_12 (R : Type) : Type := ((Int × Unit × Unit × Int × Unit) × ((Nat → Int) × (List Int) × Unit)) → (((Int × Unit × Unit) × ((List Int) × Unit)) → Option R) → Option R
abbrev Tp_63 (R : Type) : Type := ((Nat → Int) × Int × ByteArray × ByteArray × Unit) × (Unit) → (ByteArray → Option R) → Option R
def C_63_6 (q_86 : Tp_86 R) (rec : ((Int × ByteArray × Unit × Unit × Int × Unit) × Y2) → Option R) (x : ((Int × ByteArray × Unit × Unit × Int × Unit) × Y2)) (κ0 : ((Int × ByteArray × Unit × Unit × Int × Unit) × Y2) → Option R) : Option R :=
let e := x.1.1
let b := x.1.2.1
let a := x.1.2.2.2.2.1
let d := x.2.1
let f := x.2.2.1
let j : Int := ((ByteArray.size b : Nat) : Int)
let o : Int := subA .i64 j a
bif (decide (o > 128)) then (
let c : Int := addA .i64 a 128
bif decide (0 ≤ c) then (
bif decide (c ≤ ((ByteArray.size b : Nat) : Int)) then (
bif decide (0 ≤ a) then (
bif decide (a ≤ c) then (
let h : ByteArray := ByteArray.extract b ((Int.toNat a)) ((Int.toNat c))
let m : Int := addA .i64 a 128
let l : Int := IntKind.wrap .u64 m
q_86 ((d, f, h, l, false, ()), ()) (fun i =>
let n : (Nat → Int) := i
let g : Int := addA .i64 a 128
rec ((e, b, (), (), g, ()), (d, n, ())))) else none) else none) else none) else none) else (
κ0 ((e, b, (), (), a, ()), (d, f, ())))
def C_63_12 (q_87 : Tp_87 R) (rec : ((Int × Unit × Unit × Int × Unit) × ((Nat → Int) × (List Int) × Unit)) → Option R) (x : ((Int × Unit × Unit × Int × Unit) × ((Nat → Int) × (List Int) × Unit))) (κ0 : ((Int × Unit × Unit) × ((List Int) × Unit)) → Option R) : Option R :=
let d := x.1.1
let a := x.1.2.2.2.1
let e := x.2.1
let c := x.2.2.1
bif (decide (a < 8)) then (
bif decide (0 ≤ a) then (
bif decide (a < (8 : Int)) then (
let h : Int := (e ((Int.toNat a)))
q_87 ((h, ()), ()) (fun i =>
let b : (List Int) := i
bif (decide ((List.length c + List.length b) * 1 ≤ 140737488355328) && true) then (
let g : (List Int) := (c ++ b)
let f : Int := addA .i64 a 1
rec ((d, (), (), f, ()), (e, g, ()))) else none)) else none) else none) else (
κ0 ((d, (), ()), x.2.2))
def B_63_6 (N : Nat) (rec : ((Int × ByteArray × Unit × Unit × Int × Unit) × Y2) → Option R) (x : ((Int × ByteArray × Unit × Unit × Int × Unit) × Y2)) (κ0 : ((Int × ByteArray × Unit × Unit × Int × Unit) × Y2) → Option R) : Option R := C_63_6 (p_86 N) rec x κ0
def l_63_6 (N : Nat) : Nat → ((Int × ByteArray × Unit × Unit × Int × Unit) × Y2) → (((Int × ByteArray × Unit × Unit × Int × Unit) × Y2) → Option R) → Option R
  | 0, _, _ => none
  | n + 1, x, κ0 => B_63_6 N (fun y => l_63_6 N n y κ0) x κ0
def B_63_12 (N : Nat) (rec : ((Int × Unit × Unit × Int × Unit) × ((Nat → Int) × (List Int) × Unit)) → Option R) (x : ((Int × Unit × Unit × Int × Unit) × ((Nat → Int) × (List Int) × Unit))) (κ0 : ((Int × Unit × Unit) × ((List Int) × Unit)) → Option R) : Option R := C_63_12 (p_87 N) rec x κ0
def l_63_12 (N : Nat) : Nat → ((Int × Unit × Unit × Int × Unit) × ((Nat → Int) × (List Int) × Unit)) → (((Int × Unit × Unit) × ((List Int) × Unit)) → Option R) → Option R
  | 0, _, _ => none
  | n + 1, x, κ0 => B_63_12 N (fun y => l_63_12 N n y κ0) x κ0
def Q_63 (q_85 : Tp_85 R) (q_86 : Tp_86 R) (q_87 : Tp_87 R) (m_63_6 : Tl_63_6 R) (m_63_12 : Tl_63_12 R) (x : ((Nat → Int) × Int × ByteArray × ByteArray × Unit) × (Unit)) (κ0 : ByteArray → Option R) : Option R :=
let f := x.1.1
let l := x.1.2.1
let i := x.1.2.2.1
let h := x.1.2.2.2.1
let aa : Int := (f 0)
let ac : Int := ((ByteArray.size i : Nat) : Int)
let ap : Int := IntKind.wrap .u64 ac
let ah : Int := mulA .u64 256 ap
let a6 : Int := addA .u64 16842752 ah
let ao : Int := IntKind.wrap .u64 l
let z : Int := addA .u64 a6 ao
let w : Int := xorA .u64 aa z
let r : (Nat → Int) := (upd f 0 w)
bif (!eqS i (⟨#[]⟩)) then (
q_85 ((i, 128, ()), ()) (fun ai =>
let p : ByteArray := ai
bif decide (ByteArray.size p + ByteArray.size h ≤ maxI64) then (
let a4 : ByteArray := (p ++ h)
m_63_6 ((l, a4, (), (), 0, ()), (f, r, ())) (fun d =>
let an := d.1.1
let b := d.1.2.1
let j := d.1.2.2.2.2.1
let ak := d.2.1
let af := d.2.2.1
bif decide (0 ≤ ((ByteArray.size b : Nat) : Int)) then (
bif decide (((ByteArray.size b : Nat) : Int) ≤ ((ByteArray.size b : Nat) : Int)) then (
bif decide (0 ≤ j) then (
bif decide (j ≤ ((ByteArray.size b : Nat) : Int)) then (
let a2 : ByteArray := ByteArray.extract b ((Int.toNat j)) (ByteArray.size b)
q_85 ((a2, 128, ()), ()) (fun am =>
let a5 : ByteArray := am
let u : Int := ((ByteArray.size b : Nat) : Int)
let ae : Int := IntKind.wrap .u64 u
q_86 ((ak, af, a5, ae, true, ()), ()) (fun ab =>
let aq := ab
m_63_12 ((an, (), (), 0, ()), (aq, [], ())) (fun o =>
let e := o.1.1
let t := o.2.1
bif decide (0 ≤ e) then (
bif decide (e ≤ (((List.length t) : Nat) : Int)) then (
bif decide (0 ≤ e) then (
let y : ByteArray := listStr ((List.take (((Int.toNat e) - 0)) (List.drop 0 t)))
κ0 y) else none) else none) else none)))) else none) else none) else none) else none)) else none)) else (
m_63_6 ((l, h, (), (), 0, ()), (f, r, ())) (fun c =>
let a7 := c.1.1
let a := c.1.2.1
let m := c.1.2.2.2.2.1
let a8 := c.2.1
let v := c.2.2.1
bif decide (0 ≤ ((ByteArray.size a : Nat) : Int)) then (
bif decide (((ByteArray.size a : Nat) : Int) ≤ ((ByteArray.size a : Nat) : Int)) then (
bif decide (0 ≤ m) then (
bif decide (m ≤ ((ByteArray.size a : Nat) : Int)) then (
let ag : ByteArray := ByteArray.extract a ((Int.toNat m)) (ByteArray.size a)
q_85 ((ag, 128, ()), ()) (fun a3 =>
let a9 : ByteArray := a3
let aj : Int := ((ByteArray.size a : Nat) : Int)
let ad : Int := IntKind.wrap .u64 aj
q_86 ((a8, v, a9, ad, true, ()), ()) (fun a0 =>
let a1 : (Nat → Int) := a0
m_63_12 ((a7, (), (), 0, ()), (a1, [], ())) (fun s =>
let g := s.1.1
let n := s.2.1
bif decide (0 ≤ g) then (
bif decide (g ≤ (((List.length n) : Nat) : Int)) then (
bif decide (0 ≤ g) then (
let al : ByteArray := listStr ((List.take (((Int.toNat g) - 0)) (List.drop 0 n)))
κ0 al) else none) else none) else none)))) else none) else none) else none) else none))
def p_63 (N : Nat) (x : ((Nat → Int) × Int × ByteArray × ByteArray × Unit) × (Unit)) (κ0 : ByteArray → Option R) : Option R := Q_63 (p_85 N) (p_86 N) (p_87 N) (l_63_6 N N) (l_63_12 N N) x κ0
def EG_63 (q_85 : Tp_85 R) (q_86 : Tp_86 R) (q_87 : Tp_87 R) : Env R := (((Env.base QQ LN AA).add 85 ap_85 hp_85 (fun (x : aden ap_85 × hden hp_85) k => q_85 x (fun y => k (Pat.inst (.str) y) (instH hp_85 x.2)))).add 86 ap_86 hp_86 (fun (x : aden ap_86 × hden hp_86) k => q_86 x (fun y => k (Pat.inst (.vec (.int .u64) 8) y) (instH hp_86 x.2)))).add 87 ap_87 hp_87 (fun (x : aden ap_87 × hden hp_87) k => q_87 x (fun y => k (Pat.inst (.ros (.int .u8)) y) (instH hp_87 x.2)))
def LG_63 (m_63_6 : Tl_63_6 R) (m_63_12 : Tl_63_12 R) : Loops R := ((Loops.none).add 6 (loopBy 0 lv_63_6 pt_63_6 (fun x k => m_63_6 x (fun y => k (.exit 0) (px_63_6_0.inst y))))).add 12 (loopBy 0 lv_63_12 pt_63_12 (fun x k => m_63_12 x (fun y => k (.exit 2) (px_63_12_0.inst y))))
def E_63 (N : Nat) : Env R := EG_63 (p_85 N) (p_86 N) (p_87 N)
def L_63 (N : Nat) : Loops R := LG_63 (l_63_6 N N) (l_63_12 N N)
theorem gstep_63_6 (q_85 : Tp_85 R) (q_86 : Tp_86 R) (q_87 : Tp_87 R) (m_63_6 : Tl_63_6 R) (m_63_12 : Tl_63_12 R) (n : Nat) (x : pt_63_6.den) (k : Exit → St → Option R) : iter 0 lv_63_6 lo_63_6 (aexec TT (EG_63 q_85 q_86 q_87) (drawAny TT WW) (LG_63 m_63_6 m_63_12) (loopAt 6 (bodyOf Tryz.f63))) (n + 1) (pt_63_6.inst x) k = C_63_6 q_86 (fun y => iter 0 lv_63_6 lo_63_6 (aexec TT (EG_63 q_85 q_86 q_87) (drawAny TT WW) (LG_63 m_63_6 m_63_12) (loopAt 6 (bodyOf Tryz.f63))) n (pt_63_6.inst y) k) x (fun y => k (.exit 0) (px_63_6_0.inst y)) := by kernel_rfl
theorem rounds_63_6 (N : Nat) : Rounds 0 TT (E_63 (R := R) N) (drawAny TT WW) (L_63 N) 6 (loopAt 6 (bodyOf Tryz.f63)) :=
  rounds_of (p := pt_63_6) (l := fun (x : pt_63_6.den) k => l_63_6 N N x (fun y => k (.exit 0) (px_63_6_0.inst y))) (fun s k => rfl) (fun x k => (iter_eq (K := Exit → St → Option R) (ks := fun k => k) (l := fun n (x : pt_63_6.den) k => l_63_6 N n x (fun y => k (.exit 0) (px_63_6_0.inst y))) (B := fun (rec : pt_63_6.den → Option R) (x : pt_63_6.den) k => B_63_6 N rec x (fun y => k (.exit 0) (px_63_6_0.inst y))) (fun _ _ => rfl) (fun _ _ _ => rfl) (fun n x k => (gstep_63_6 (p_85 N) (p_86 N) (p_87 N) (l_63_6 N N) (l_63_12 N N) n x k).trans (by kernel_rfl))) N x k)
theorem gstep_63_12 (q_85 : Tp_85 R) (q_86 : Tp_86 R) (q_87 : Tp_87 R) (m_63_6 : Tl_63_6 R) (m_63_12 : Tl_63_12 R) (n : Nat) (x : pt_63_12.den) (k : Exit → St → Option R) : iter 0 lv_63_12 lo_63_12 (aexec TT (EG_63 q_85 q_86 q_87) (drawAny TT WW) (LG_63 m_63_6 m_63_12) (loopAt 12 (bodyOf Tryz.f63))) (n + 1) (pt_63_12.inst x) k = C_63_12 q_87 (fun y => iter 0 lv_63_12 lo_63_12 (aexec TT (EG_63 q_85 q_86 q_87) (drawAny TT WW) (LG_63 m_63_6 m_63_12) (loopAt 12 (bodyOf Tryz.f63))) n (pt_63_12.inst y) k) x (fun y => k (.exit 2) (px_63_12_0.inst y)) := by kernel_rfl
theorem rounds_63_12 (N : Nat) : Rounds 0 TT (E_63 (R := R) N) (drawAny TT WW) (L_63 N) 12 (loopAt 12 (bodyOf Tryz.f63)) :=
  rounds_of (p := pt_63_12) (l := fun (x : pt_63_12.den) k => l_63_12 N N x (fun y => k (.exit 2) (px_63_12_0.inst y))) (fun s k => rfl) (fun x k => (iter_eq (K := Exit → St → Option R) (ks := fun k => k) (l := fun n (x : pt_63_12.den) k => l_63_12 N n x (fun y => k (.exit 2) (px_63_12_0.inst y))) (B := fun (rec : pt_63_12.den → Option R) (x : pt_63_12.den) k => B_63_12 N rec x (fun y => k (.exit 2) (px_63_12_0.inst y))) (fun _ _ => rfl) (fun _ _ _ => rfl) (fun n x k => (gstep_63_12 (p_85 N) (p_86 N) (p_87 N) (l_63_6 N N) (l_63_12 N N) n x k).trans (by kernel_rfl))) N x k)
theorem loops_63 : loopsIn (bodyOf Tryz.f63) = [(6, loopAt 6 (bodyOf Tryz.f63)), (12, loopAt 12 (bodyOf Tryz.f63))] := by kernel_rfl
theorem grun_63 (q_85 : Tp_85 R) (q_86 : Tp_86 R) (q_87 : Tp_87 R) (m_63_6 : Tl_63_6 R) (m_63_12 : Tl_63_12 R) (x : aden ap_63 × hden hp_63) (k : KF R) : fnrun TT (EG_63 q_85 q_86 q_87) (drawAny TT WW) (LG_63 m_63_6 m_63_12) true Tryz.f63 (instA ap_63 x.1) (instH hp_63 x.2) k = Q_63 q_85 q_86 q_87 m_63_6 m_63_12 x (fun y => k (Pat.inst (.str) y) (instH hp_63 x.2)) := by kernel_rfl
theorem good_63 (N : Nat) : GD (X := R) Tryz.prog QQ AA 63 ap_63 hp_63 (fun (x : aden ap_63 × hden hp_63) k => p_63 N x (fun y => k (Pat.inst (.str) y) (instH hp_63 x.2))) :=
  gd_quiet (E := E_63 N) (p := fun (x : aden ap_63 × hden hp_63) κ => p_63 N x (fun y => κ (Pat.inst (.str) y))) mixed tyok (ek_add (ek_add (ek_add (ek_base _ _ _) (good_85 N)) (good_86 N)) (good_87 N)) Tryz.func63 (by kernel_rfl) (by kernel_rfl) (loops_all (L := L_63 N) loops_63 (by
  simp only [List.forall_mem_cons, List.not_mem_nil, false_implies, implies_true, and_true]
  exact ⟨rounds_63_6 N, rounds_63_12 N⟩)) (fun x k => (grun_63 (p_85 N) (p_86 N) (p_87 N) (l_63_6 N N) (l_63_12 N N) x k).trans (by kernel_rfl))

def lv_40_6 : Live := [(1, none), (3, none), (7, none), (8, none)]
def pt_40_6 : SPat := ⟨[(1, .int .i64), (3, .ptr 0 []), (7, .str), (8, .str)], [some (.vec (.int .u64) 8, 41)]⟩
def px_40_6_0 : SPat := ⟨[(1, .int .i64), (3, .ptr 0 []), (7, .str), (8, .str)], [some (.vec (.int .u64) 8, 41)]⟩
def lo_40_6 : Exit → Live
  | .exit 0 => [(1, none), (3, none), (7, none), (8, none)]
  | _ => []
def ap_40 : List Pat := [.vec (.int .u64) 8, .int .i64, .str]
def hp_40 : List (Option (Pat × Nat)) := []
abbrev Tl_40_6 (R : Type) : Type := ((Int × Unit × ByteArray × ByteArray × Unit) × ((Nat → Int) × Unit)) → (((Int × Unit × ByteArray × ByteArray × Unit) × ((Nat → Int) × Unit)) → Option R) → Option R
abbrev Tp_40 (R : Type) : Type := ((Nat → Int) × Int × ByteArray × Unit) × (Unit) → (ByteArray → Option R) → Option R
def C_40_6 (q_63 : Tp_63 R) (rec : ((Int × Unit × ByteArray × ByteArray × Unit) × ((Nat → Int) × Unit)) → Option R) (x : ((Int × Unit × ByteArray × ByteArray × Unit) × ((Nat → Int) × Unit))) (κ0 : ((Int × Unit × ByteArray × ByteArray × Unit) × ((Nat → Int) × Unit)) → Option R) : Option R :=
let c := x.1.1
let d := x.1.2.2.1
let a := x.1.2.2.2.1
let h := x.2.1
let g : Int := ((ByteArray.size a : Nat) : Int)
let i : Int := subA .i64 c g
bif (decide (i > 64)) then (
q_63 ((h, 64, ⟨#[]⟩, d, ()), ()) (fun f =>
let b : ByteArray := f
bif decide (32 ≤ ((ByteArray.size b : Nat) : Int)) then (
let e : ByteArray := ByteArray.extract b 0 32
bif decide (ByteArray.size a + ByteArray.size e ≤ maxI64) then (
let j : ByteArray := (a ++ e)
rec ((c, (), b, j, ()), x.2)) else none) else none)) else (
κ0 ((c, (), d, a, ()), x.2))
def B_40_6 (N : Nat) (rec : ((Int × Unit × ByteArray × ByteArray × Unit) × ((Nat → Int) × Unit)) → Option R) (x : ((Int × Unit × ByteArray × ByteArray × Unit) × ((Nat → Int) × Unit))) (κ0 : ((Int × Unit × ByteArray × ByteArray × Unit) × ((Nat → Int) × Unit)) → Option R) : Option R := C_40_6 (p_63 N) rec x κ0
def l_40_6 (N : Nat) : Nat → ((Int × Unit × ByteArray × ByteArray × Unit) × ((Nat → Int) × Unit)) → (((Int × Unit × ByteArray × ByteArray × Unit) × ((Nat → Int) × Unit)) → Option R) → Option R
  | 0, _, _ => none
  | n + 1, x, κ0 => B_40_6 N (fun y => l_40_6 N n y κ0) x κ0
def Q_40 (q_38 : Tp_38 R) (q_63 : Tp_63 R) (m_40_6 : Tl_40_6 R) (x : ((Nat → Int) × Int × ByteArray × Unit) × (Unit)) (κ0 : ByteArray → Option R) : Option R :=
let c := x.1.1
let a := x.1.2.1
let h := x.1.2.2.1
let l : Int := IntKind.wrap .u32 a
q_38 ((l, ()), ()) (fun t =>
let w : (List Int) := t
let i : ByteArray := listStr w
bif decide (ByteArray.size i + ByteArray.size h ≤ maxI64) then (
let g : ByteArray := (i ++ h)
bif (decide (a ≤ 64)) then (
q_63 ((c, a, ⟨#[]⟩, g, ()), ()) (fun z =>
let s : ByteArray := z
κ0 s)) else (
q_63 ((c, 64, ⟨#[]⟩, g, ()), ()) (fun p =>
let e : ByteArray := p
bif decide (32 ≤ ((ByteArray.size e : Nat) : Int)) then (
let u : ByteArray := ByteArray.extract e 0 32
m_40_6 ((a, (), e, u, ()), (c, ())) (fun b =>
let v := b.1.1
let r := b.1.2.2.1
let d := b.1.2.2.2.1
let o := b.2.1
let y : Int := ((ByteArray.size d : Nat) : Int)
let j : Int := subA .i64 v y
q_63 ((o, j, ⟨#[]⟩, r, ()), ()) (fun m =>
let f : ByteArray := m
bif decide (ByteArray.size d + ByteArray.size f ≤ maxI64) then (
let n : ByteArray := (d ++ f)
κ0 n) else none))) else none))) else none)
def p_40 (N : Nat) (x : ((Nat → Int) × Int × ByteArray × Unit) × (Unit)) (κ0 : ByteArray → Option R) : Option R := Q_40 (p_38 N) (p_63 N) (l_40_6 N N) x κ0
def EG_40 (q_38 : Tp_38 R) (q_63 : Tp_63 R) : Env R := ((Env.base QQ LN AA).add 38 ap_38 hp_38 (fun (x : aden ap_38 × hden hp_38) k => q_38 x (fun y => k (Pat.inst (.ros (.int .u8)) y) (instH hp_38 x.2)))).add 63 ap_63 hp_63 (fun (x : aden ap_63 × hden hp_63) k => q_63 x (fun y => k (Pat.inst (.str) y) (instH hp_63 x.2)))
def LG_40 (m_40_6 : Tl_40_6 R) : Loops R := (Loops.none).add 6 (loopBy 0 lv_40_6 pt_40_6 (fun x k => m_40_6 x (fun y => k (.exit 0) (px_40_6_0.inst y))))
def E_40 (N : Nat) : Env R := EG_40 (p_38 N) (p_63 N)
def L_40 (N : Nat) : Loops R := LG_40 (l_40_6 N N)
theorem gstep_40_6 (q_38 : Tp_38 R) (q_63 : Tp_63 R) (m_40_6 : Tl_40_6 R) (n : Nat) (x : pt_40_6.den) (k : Exit → St → Option R) : iter 0 lv_40_6 lo_40_6 (aexec TT (EG_40 q_38 q_63) (drawAny TT WW) (LG_40 m_40_6) (loopAt 6 (bodyOf Tryz.f40))) (n + 1) (pt_40_6.inst x) k = C_40_6 q_63 (fun y => iter 0 lv_40_6 lo_40_6 (aexec TT (EG_40 q_38 q_63) (drawAny TT WW) (LG_40 m_40_6) (loopAt 6 (bodyOf Tryz.f40))) n (pt_40_6.inst y) k) x (fun y => k (.exit 0) (px_40_6_0.inst y)) := by kernel_rfl
theorem rounds_40_6 (N : Nat) : Rounds 0 TT (E_40 (R := R) N) (drawAny TT WW) (L_40 N) 6 (loopAt 6 (bodyOf Tryz.f40)) :=
  rounds_of (p := pt_40_6) (l := fun (x : pt_40_6.den) k => l_40_6 N N x (fun y => k (.exit 0) (px_40_6_0.inst y))) (fun s k => rfl) (fun x k => (iter_eq (K := Exit → St → Option R) (ks := fun k => k) (l := fun n (x : pt_40_6.den) k => l_40_6 N n x (fun y => k (.exit 0) (px_40_6_0.inst y))) (B := fun (rec : pt_40_6.den → Option R) (x : pt_40_6.den) k => B_40_6 N rec x (fun y => k (.exit 0) (px_40_6_0.inst y))) (fun _ _ => rfl) (fun _ _ _ => rfl) (fun n x k => (gstep_40_6 (p_38 N) (p_63 N) (l_40_6 N N) n x k).trans (by kernel_rfl))) N x k)
theorem loops_40 : loopsIn (bodyOf Tryz.f40) = [(6, loopAt 6 (bodyOf Tryz.f40))] := by kernel_rfl
theorem grun_40 (q_38 : Tp_38 R) (q_63 : Tp_63 R) (m_40_6 : Tl_40_6 R) (x : aden ap_40 × hden hp_40) (k : KF R) : fnrun TT (EG_40 q_38 q_63) (drawAny TT WW) (LG_40 m_40_6) true Tryz.f40 (instA ap_40 x.1) (instH hp_40 x.2) k = Q_40 q_38 q_63 m_40_6 x (fun y => k (Pat.inst (.str) y) (instH hp_40 x.2)) := by kernel_rfl
theorem good_40 (N : Nat) : GD (X := R) Tryz.prog QQ AA 40 ap_40 hp_40 (fun (x : aden ap_40 × hden hp_40) k => p_40 N x (fun y => k (Pat.inst (.str) y) (instH hp_40 x.2))) :=
  gd_quiet (E := E_40 N) (p := fun (x : aden ap_40 × hden hp_40) κ => p_40 N x (fun y => κ (Pat.inst (.str) y))) mixed tyok (ek_add (ek_add (ek_base _ _ _) (good_38 N)) (good_63 N)) Tryz.func40 (by kernel_rfl) (by kernel_rfl) (loops_all (L := L_40 N) loops_40 (by
  simp only [List.forall_mem_cons, List.not_mem_nil, false_implies, implies_true, and_true]
  exact rounds_40_6 N)) (fun x k => (grun_40 (p_38 N) (p_63 N) (l_40_6 N N) x k).trans (by kernel_rfl))

def lv_39_4 : Live := [(2, none), (3, none), (4, none), (6, none)]
def pt_39_4 : SPat := ⟨[(2, .ptr 0 []), (3, .ptr 1 []), (4, .ros (.int .u64)), (6, .int .i64)], J1⟩
def px_39_4_0 : SPat := ⟨[(2, .ptr 0 []), (3, .ptr 1 [])], J1⟩
def lo_39_4 : Exit → Live
  | .exit 0 => [(2, none), (3, none)]
  | _ => []
def ap_39 : List Pat := [.str]
def hp_39 : List (Option (Pat × Nat)) := []
abbrev Tl_39_4 (R : Type) : Type := ((Unit × Unit × (List Int) × Int × Unit) × Y2) → (Y14 → Option R) → Option R
abbrev Tp_39 (R : Type) : Type := (ByteArray × Unit) × (Unit) → ((Nat → Int) → Option R) → Option R
def C_39_4 (rec : ((Unit × Unit × (List Int) × Int × Unit) × Y2) → Option R) (x : ((Unit × Unit × (List Int) × Int × Unit) × Y2)) (κ0 : Y14 → Option R) : Option R :=
let b := x.1.2.2.1
let a := x.1.2.2.2.1
let c := x.2.1
let d := x.2.2.1
bif (decide (a < 128)) then (
bif decide (0 ≤ a) then (
bif decide (a < ((List.length b) : Int)) then (
let e : Int := (List.getD b ((Int.toNat a)) (Sch.zero (.int .u64)))
bif decide (0 ≤ a) then (
bif decide (a < (128 : Int)) then (
let g : (Nat → Int) := (upd d ((Int.toNat a)) e)
let f : Int := addA .i64 a 1
rec (((), (), b, f, ()), (c, g, ()))) else none) else none) else none) else none) else (
κ0 (((), (), ()), (c, d, ())))
def B_39_4 (N : Nat) (rec : ((Unit × Unit × (List Int) × Int × Unit) × Y2) → Option R) (x : ((Unit × Unit × (List Int) × Int × Unit) × Y2)) (κ0 : Y14 → Option R) : Option R := C_39_4 rec x κ0
def l_39_4 (N : Nat) : Nat → ((Unit × Unit × (List Int) × Int × Unit) × Y2) → (Y14 → Option R) → Option R
  | 0, _, _ => none
  | n + 1, x, κ0 => B_39_4 N (fun y => l_39_4 N n y κ0) x κ0
def Q_39 (q_62 : Tp_62 R) (m_39_4 : Tl_39_4 R) (x : (ByteArray × Unit) × (Unit)) (κ0 : (Nat → Int) → Option R) : Option R :=
let a := x.1.1
bif decide (ByteArray.size a ≤ maxI64) then (
let f : (List Int) := strList a
q_62 (((), 8, ()), (f, ())) (fun b =>
let d := b.1.1
m_39_4 (((), (), d, 0, ()), ((Sch.zero (.arr 128 (.int .u64))), (Sch.zero (.arr 128 (.int .u64))), ())) (fun e =>
let c := e.2.2.1
κ0 c))) else none
def p_39 (N : Nat) (x : (ByteArray × Unit) × (Unit)) (κ0 : (Nat → Int) → Option R) : Option R := Q_39 (p_62 N) (l_39_4 N N) x κ0
def EG_39 (q_62 : Tp_62 R) : Env R := (Env.base QQ LN AA).add 62 ap_62 hp_62 (fun (x : aden ap_62 × hden hp_62) k => q_62 x (fun y => k (Pat.inst (.tup (.fcons (.ros (.int .u64)) (.fcons (.bool) (.fnil)))) y.1) (instH J7 y.2)))
def LG_39 (m_39_4 : Tl_39_4 R) : Loops R := (Loops.none).add 4 (loopBy 0 lv_39_4 pt_39_4 (fun x k => m_39_4 x (fun y => k (.exit 0) (px_39_4_0.inst y))))
def E_39 (N : Nat) : Env R := EG_39 (p_62 N)
def L_39 (N : Nat) : Loops R := LG_39 (l_39_4 N N)
theorem gstep_39_4 (q_62 : Tp_62 R) (m_39_4 : Tl_39_4 R) (n : Nat) (x : pt_39_4.den) (k : Exit → St → Option R) : iter 0 lv_39_4 lo_39_4 (aexec TT (EG_39 q_62) (drawAny TT WW) (LG_39 m_39_4) (loopAt 4 (bodyOf Tryz.f39))) (n + 1) (pt_39_4.inst x) k = C_39_4 (fun y => iter 0 lv_39_4 lo_39_4 (aexec TT (EG_39 q_62) (drawAny TT WW) (LG_39 m_39_4) (loopAt 4 (bodyOf Tryz.f39))) n (pt_39_4.inst y) k) x (fun y => k (.exit 0) (px_39_4_0.inst y)) := by kernel_rfl
theorem rounds_39_4 (N : Nat) : Rounds 0 TT (E_39 (R := R) N) (drawAny TT WW) (L_39 N) 4 (loopAt 4 (bodyOf Tryz.f39)) :=
  rounds_of (p := pt_39_4) (l := fun (x : pt_39_4.den) k => l_39_4 N N x (fun y => k (.exit 0) (px_39_4_0.inst y))) (fun s k => rfl) (fun x k => (iter_eq (K := Exit → St → Option R) (ks := fun k => k) (l := fun n (x : pt_39_4.den) k => l_39_4 N n x (fun y => k (.exit 0) (px_39_4_0.inst y))) (B := fun (rec : pt_39_4.den → Option R) (x : pt_39_4.den) k => B_39_4 N rec x (fun y => k (.exit 0) (px_39_4_0.inst y))) (fun _ _ => rfl) (fun _ _ _ => rfl) (fun n x k => (gstep_39_4 (p_62 N) (l_39_4 N N) n x k).trans (by kernel_rfl))) N x k)
theorem loops_39 : loopsIn (bodyOf Tryz.f39) = [(4, loopAt 4 (bodyOf Tryz.f39))] := by kernel_rfl
theorem grun_39 (q_62 : Tp_62 R) (m_39_4 : Tl_39_4 R) (x : aden ap_39 × hden hp_39) (k : KF R) : fnrun TT (EG_39 q_62) (drawAny TT WW) (LG_39 m_39_4) true Tryz.f39 (instA ap_39 x.1) (instH hp_39 x.2) k = Q_39 q_62 m_39_4 x (fun y => k (Pat.inst (.vec (.int .u64) 128) y) (instH hp_39 x.2)) := by kernel_rfl
theorem good_39 (N : Nat) : GD (X := R) Tryz.prog QQ AA 39 ap_39 hp_39 (fun (x : aden ap_39 × hden hp_39) k => p_39 N x (fun y => k (Pat.inst (.vec (.int .u64) 128) y) (instH hp_39 x.2))) :=
  gd_quiet (E := E_39 N) (p := fun (x : aden ap_39 × hden hp_39) κ => p_39 N x (fun y => κ (Pat.inst (.vec (.int .u64) 128) y))) mixed tyok (ek_add (ek_base _ _ _) (good_62 N)) Tryz.func39 (by kernel_rfl) (by kernel_rfl) (loops_all (L := L_39 N) loops_39 (by
  simp only [List.forall_mem_cons, List.not_mem_nil, false_implies, implies_true, and_true]
  exact rounds_39_4 N)) (fun x k => (grun_39 (p_62 N) (l_39_4 N N) x k).trans (by kernel_rfl))

def lv_9_6 : Live := [(2, none), (3, none), (4, none), (7, none), (8, none), (9, none)]
def pt_9_6 : SPat := ⟨[(2, .str), (3, .ptr 0 []), (4, .ptr 1 []), (7, .sl 2), (8, .int .i64), (9, .int .i64)], [some (.vec (.int .u64) 8, 41), some (Z0, 30), some (.fam 88 (.arr 128 (.int .u64)), 94)]⟩
def px_9_6_0 : SPat := ⟨[(2, .str), (3, .ptr 0 []), (4, .ptr 1 []), (7, .sl 2), (8, .int .i64)], [some (.vec (.int .u64) 8, 41), some (Z0, 30), some (.fam 88 (.arr 128 (.int .u64)), 94)]⟩
def lo_9_6 : Exit → Live
  | .exit 2 => [(2, none), (3, none), (4, none), (7, none), (8, none)]
  | _ => []
def lv_9_3 : Live := [(2, none), (3, none), (4, none), (7, none), (8, none)]
def pt_9_3 : SPat := ⟨[(2, .str), (3, .ptr 0 []), (4, .ptr 1 []), (7, .sl 2), (8, .int .i64)], [some (.vec (.int .u64) 8, 41), some (Z0, 30), some (.fam 88 (.arr 128 (.int .u64)), 94)]⟩
def px_9_3_0 : SPat := ⟨[(7, .sl 0)], J6⟩
def lo_9_3 : Exit → Live
  | .exit 0 => [(7, none)]
  | _ => []
def ap_9 : List Pat := [.vec (.int .u64) 8, .node (.fcons (.int .i64) (.fcons (.int .i64) (.fcons (.int .i64) (.fcons (.int .i64) (.fcons (.int .i64) (.fcons (.int .i64) (.fcons (.int .i64) (.fcons (.int .i64) (.fnil))))))))), .str]
def hp_9 : List (Option (Pat × Nat)) := []
abbrev Tl_9_6 (R : Type) : Type := ((ByteArray × Unit × Unit × Unit × Int × Int × Unit) × ((Nat → Int) × Y0 × Y3 × Unit)) → (Y26 → Option R) → Option R
abbrev Tl_9_3 (R : Type) : Type := Y26 → (((Unit × Unit) × (Y3 × Unit)) → Option R) → Option R
abbrev Tp_9 (R : Type) : Type := ((Nat → Int) × Y0 × ByteArray × Unit) × (Unit) → ((Unit × (Y3 × Unit)) → Option R) → Option R
def C_9_6 (q_38 : Tp_38 R) (q_40 : Tp_40 R) (q_39 : Tp_39 R) (rec : ((ByteArray × Unit × Unit × Unit × Int × Int × Unit) × ((Nat → Int) × Y0 × Y3 × Unit)) → Option R) (x : ((ByteArray × Unit × Unit × Unit × Int × Int × Unit) × ((Nat → Int) × Y0 × Y3 × Unit))) (κ0 : Y26 → Option R) : Option R :=
let d := x.1.1
let a := x.1.2.2.2.2.1
let b := x.1.2.2.2.2.2.1
let e := x.2.1
let c := x.2.2.2.1
bif (decide (b < 2)) then (
let j : Int := IntKind.wrap .u32 b
q_38 ((j, ()), ()) (fun p =>
let r : (List Int) := p
let g : ByteArray := listStr r
let i : Int := IntKind.wrap .u32 a
q_38 ((i, ()), ()) (fun l =>
let n : (List Int) := l
let f : ByteArray := listStr n
bif decide (ByteArray.size g + ByteArray.size f ≤ maxI64) then (
let h : ByteArray := (g ++ f)
bif decide (0 ≤ a) then (
bif decide (a < ((List.length c) : Int)) then (
bif decide (ByteArray.size d + ByteArray.size h ≤ maxI64) then (
let w : ByteArray := (d ++ h)
q_40 ((e, 1024, w, ()), ()) (fun v =>
let o : ByteArray := v
q_39 ((o, ()), ()) (fun s =>
let t : (Nat → Int) := s
bif decide (0 ≤ b) then (
bif decide (b < ((List.length ((List.getD c ((Int.toNat a)) []))) : Int)) then (
let m : Y3 := (List.set c ((Int.toNat a)) ((List.set ((List.getD c ((Int.toNat a)) [])) ((Int.toNat b)) t)))
let u : Int := addA .i64 b 1
rec ((d, (), (), (), a, u, ()), (e, x.2.2.1, m, ()))) else none) else none))) else none) else none) else none) else none))) else (
κ0 ((d, (), (), (), a, ()), (e, x.2.2.1, c, ())))
def C_9_3 (m_9_6 : Tl_9_6 R) (rec : Y26 → Option R) (x : Y26) (κ0 : ((Unit × Unit) × (Y3 × Unit)) → Option R) : Option R :=
let d := x.1.1
let b := x.1.2.2.2.2.1
let c := x.2.1
let h := x.2.2.1.2.2.1
let g := x.2.2.2.1
bif (decide (b < h)) then (
m_9_6 ((d, (), (), (), b, 0, ()), (c, x.2.2.1, g, ())) (fun a =>
let j := a.1.1
let e := a.1.2.2.2.2.1
let l := a.2.1
let i := a.2.2.2.1
let f : Int := addA .i64 e 1
rec ((j, (), (), (), f, ()), (l, a.2.2.1, i, ())))) else (
κ0 (((), ()), x.2.2.2))
def B_9_6 (N : Nat) (rec : ((ByteArray × Unit × Unit × Unit × Int × Int × Unit) × ((Nat → Int) × Y0 × Y3 × Unit)) → Option R) (x : ((ByteArray × Unit × Unit × Unit × Int × Int × Unit) × ((Nat → Int) × Y0 × Y3 × Unit))) (κ0 : Y26 → Option R) : Option R := C_9_6 (p_38 N) (p_40 N) (p_39 N) rec x κ0
def l_9_6 (N : Nat) : Nat → ((ByteArray × Unit × Unit × Unit × Int × Int × Unit) × ((Nat → Int) × Y0 × Y3 × Unit)) → (Y26 → Option R) → Option R
  | 0, _, _ => none
  | n + 1, x, κ0 => B_9_6 N (fun y => l_9_6 N n y κ0) x κ0
def B_9_3 (N : Nat) (rec : Y26 → Option R) (x : Y26) (κ0 : ((Unit × Unit) × (Y3 × Unit)) → Option R) : Option R := C_9_3 (l_9_6 N N) rec x κ0
def l_9_3 (N : Nat) : Nat → Y26 → (((Unit × Unit) × (Y3 × Unit)) → Option R) → Option R
  | 0, _, _ => none
  | n + 1, x, κ0 => B_9_3 N (fun y => l_9_3 N n y κ0) x κ0
def Q_9 (q_37 : Tp_37 R) (q_38 : Tp_38 R) (q_40 : Tp_40 R) (q_39 : Tp_39 R) (m_9_6 : Tl_9_6 R) (m_9_3 : Tl_9_3 R) (x : ((Nat → Int) × Y0 × ByteArray × Unit) × (Unit)) (κ0 : (Unit × (Y3 × Unit)) → Option R) : Option R :=
let e := x.1.1
let c := x.1.2.2.1
q_37 ((x.1.2.1, ()), ()) (fun a =>
let d := a.2.1
m_9_3 ((c, (), (), (), 0, ()), (e, x.1.2.1, d, ())) (fun b =>
κ0 ((), b.2)))
def p_9 (N : Nat) (x : ((Nat → Int) × Y0 × ByteArray × Unit) × (Unit)) (κ0 : (Unit × (Y3 × Unit)) → Option R) : Option R := Q_9 (p_37 N) (p_38 N) (p_40 N) (p_39 N) (l_9_6 N N) (l_9_3 N N) x κ0
def EG_9 (q_37 : Tp_37 R) (q_38 : Tp_38 R) (q_40 : Tp_40 R) (q_39 : Tp_39 R) : Env R := ((((Env.base QQ LN AA).add 37 ap_37 hp_37 (fun (x : aden ap_37 × hden hp_37) k => q_37 x (fun y => k (Pat.inst (.sl 0) y.1) (instH J6 y.2)))).add 38 ap_38 hp_38 (fun (x : aden ap_38 × hden hp_38) k => q_38 x (fun y => k (Pat.inst (.ros (.int .u8)) y) (instH hp_38 x.2)))).add 40 ap_40 hp_40 (fun (x : aden ap_40 × hden hp_40) k => q_40 x (fun y => k (Pat.inst (.str) y) (instH hp_40 x.2)))).add 39 ap_39 hp_39 (fun (x : aden ap_39 × hden hp_39) k => q_39 x (fun y => k (Pat.inst (.vec (.int .u64) 128) y) (instH hp_39 x.2)))
def LG_9 (m_9_6 : Tl_9_6 R) (m_9_3 : Tl_9_3 R) : Loops R := ((Loops.none).add 6 (loopBy 0 lv_9_6 pt_9_6 (fun x k => m_9_6 x (fun y => k (.exit 2) (px_9_6_0.inst y))))).add 3 (loopBy 0 lv_9_3 pt_9_3 (fun x k => m_9_3 x (fun y => k (.exit 0) (px_9_3_0.inst y))))
def E_9 (N : Nat) : Env R := EG_9 (p_37 N) (p_38 N) (p_40 N) (p_39 N)
def L_9 (N : Nat) : Loops R := LG_9 (l_9_6 N N) (l_9_3 N N)
theorem gstep_9_6 (q_37 : Tp_37 R) (q_38 : Tp_38 R) (q_40 : Tp_40 R) (q_39 : Tp_39 R) (m_9_6 : Tl_9_6 R) (m_9_3 : Tl_9_3 R) (n : Nat) (x : pt_9_6.den) (k : Exit → St → Option R) : iter 0 lv_9_6 lo_9_6 (aexec TT (EG_9 q_37 q_38 q_40 q_39) (drawAny TT WW) (LG_9 m_9_6 m_9_3) (loopAt 6 (bodyOf Tryz.f9))) (n + 1) (pt_9_6.inst x) k = C_9_6 q_38 q_40 q_39 (fun y => iter 0 lv_9_6 lo_9_6 (aexec TT (EG_9 q_37 q_38 q_40 q_39) (drawAny TT WW) (LG_9 m_9_6 m_9_3) (loopAt 6 (bodyOf Tryz.f9))) n (pt_9_6.inst y) k) x (fun y => k (.exit 2) (px_9_6_0.inst y)) := by kernel_rfl
theorem rounds_9_6 (N : Nat) : Rounds 0 TT (E_9 (R := R) N) (drawAny TT WW) (L_9 N) 6 (loopAt 6 (bodyOf Tryz.f9)) :=
  rounds_of (p := pt_9_6) (l := fun (x : pt_9_6.den) k => l_9_6 N N x (fun y => k (.exit 2) (px_9_6_0.inst y))) (fun s k => rfl) (fun x k => (iter_eq (K := Exit → St → Option R) (ks := fun k => k) (l := fun n (x : pt_9_6.den) k => l_9_6 N n x (fun y => k (.exit 2) (px_9_6_0.inst y))) (B := fun (rec : pt_9_6.den → Option R) (x : pt_9_6.den) k => B_9_6 N rec x (fun y => k (.exit 2) (px_9_6_0.inst y))) (fun _ _ => rfl) (fun _ _ _ => rfl) (fun n x k => (gstep_9_6 (p_37 N) (p_38 N) (p_40 N) (p_39 N) (l_9_6 N N) (l_9_3 N N) n x k).trans (by kernel_rfl))) N x k)
theorem gstep_9_3 (q_37 : Tp_37 R) (q_38 : Tp_38 R) (q_40 : Tp_40 R) (q_39 : Tp_39 R) (m_9_6 : Tl_9_6 R) (m_9_3 : Tl_9_3 R) (n : Nat) (x : pt_9_3.den) (k : Exit → St → Option R) : iter 0 lv_9_3 lo_9_3 (aexec TT (EG_9 q_37 q_38 q_40 q_39) (drawAny TT WW) (LG_9 m_9_6 m_9_3) (loopAt 3 (bodyOf Tryz.f9))) (n + 1) (pt_9_3.inst x) k = C_9_3 m_9_6 (fun y => iter 0 lv_9_3 lo_9_3 (aexec TT (EG_9 q_37 q_38 q_40 q_39) (drawAny TT WW) (LG_9 m_9_6 m_9_3) (loopAt 3 (bodyOf Tryz.f9))) n (pt_9_3.inst y) k) x (fun y => k (.exit 0) (px_9_3_0.inst y)) := by kernel_rfl
theorem rounds_9_3 (N : Nat) : Rounds 0 TT (E_9 (R := R) N) (drawAny TT WW) (L_9 N) 3 (loopAt 3 (bodyOf Tryz.f9)) :=
  rounds_of (p := pt_9_3) (l := fun (x : pt_9_3.den) k => l_9_3 N N x (fun y => k (.exit 0) (px_9_3_0.inst y))) (fun s k => rfl) (fun x k => (iter_eq (K := Exit → St → Option R) (ks := fun k => k) (l := fun n (x : pt_9_3.den) k => l_9_3 N n x (fun y => k (.exit 0) (px_9_3_0.inst y))) (B := fun (rec : pt_9_3.den → Option R) (x : pt_9_3.den) k => B_9_3 N rec x (fun y => k (.exit 0) (px_9_3_0.inst y))) (fun _ _ => rfl) (fun _ _ _ => rfl) (fun n x k => (gstep_9_3 (p_37 N) (p_38 N) (p_40 N) (p_39 N) (l_9_6 N N) (l_9_3 N N) n x k).trans (by kernel_rfl))) N x k)
theorem loops_9 : loopsIn (bodyOf Tryz.f9) = [(3, loopAt 3 (bodyOf Tryz.f9)), (6, loopAt 6 (bodyOf Tryz.f9))] := by kernel_rfl
theorem grun_9 (q_37 : Tp_37 R) (q_38 : Tp_38 R) (q_40 : Tp_40 R) (q_39 : Tp_39 R) (m_9_6 : Tl_9_6 R) (m_9_3 : Tl_9_3 R) (x : aden ap_9 × hden hp_9) (k : KF R) : fnrun TT (EG_9 q_37 q_38 q_40 q_39) (drawAny TT WW) (LG_9 m_9_6 m_9_3) true Tryz.f9 (instA ap_9 x.1) (instH hp_9 x.2) k = Q_9 q_37 q_38 q_40 q_39 m_9_6 m_9_3 x (fun y => k (Pat.inst (.sl 0) y.1) (instH J6 y.2)) := by kernel_rfl
theorem good_9 (N : Nat) : GD (X := R) Tryz.prog QQ AA 9 ap_9 hp_9 (fun (x : aden ap_9 × hden hp_9) k => p_9 N x (fun y => k (Pat.inst (.sl 0) y.1) (instH J6 y.2))) :=
  gd_loud (E := E_9 N) mixed tyok (ek_add (ek_add (ek_add (ek_add (ek_base _ _ _) (good_37 N)) (good_38 N)) (good_40 N)) (good_39 N)) Tryz.func9 (by kernel_rfl) (by kernel_rfl) (by kernel_rfl) (by kernel_rfl) (loops_all (L := L_9 N) loops_9 (by
  simp only [List.forall_mem_cons, List.not_mem_nil, false_implies, implies_true, and_true]
  exact ⟨rounds_9_3 N, rounds_9_6 N⟩)) (fun x k => (grun_9 (p_37 N) (p_38 N) (p_40 N) (p_39 N) (l_9_6 N N) (l_9_3 N N) x k).trans (by kernel_rfl))

def ap_35 : List Pat := [.int .i64, .int .i64]
def hp_35 : List (Option (Pat × Nat)) := []
abbrev Tp_35 (R : Type) : Type := (Int × Int × Unit) × (Unit) → (Int → Option R) → Option R
def Q_35 (x : (Int × Int × Unit) × (Unit)) (κ0 : Int → Option R) : Option R :=
let b := x.1.1
let a := x.1.2.1
bif (b == 0) then (
bif (a == 0) then (
κ0 2) else (
κ0 0)) else (
κ0 0)
def p_35 (N : Nat) (x : (Int × Int × Unit) × (Unit)) (κ0 : Int → Option R) : Option R := Q_35 x κ0
def EG_35 : Env R := Env.base QQ LN AA
def LG_35 : Loops R := Loops.none
def E_35 (N : Nat) : Env R := EG_35
def L_35 (N : Nat) : Loops R := LG_35
theorem grun_35 (x : aden ap_35 × hden hp_35) (k : KF R) : fnrun TT (EG_35) (drawAny TT WW) (LG_35) true Tryz.f35 (instA ap_35 x.1) (instH hp_35 x.2) k = Q_35 x (fun y => k (Pat.inst (.int .i64) y) (instH hp_35 x.2)) := by kernel_rfl
theorem good_35 (N : Nat) : GD (X := R) Tryz.prog QQ AA 35 ap_35 hp_35 (fun (x : aden ap_35 × hden hp_35) k => p_35 N x (fun y => k (Pat.inst (.int .i64) y) (instH hp_35 x.2))) :=
  gd_quiet (E := E_35 N) (p := fun (x : aden ap_35 × hden hp_35) κ => p_35 N x (fun y => κ (Pat.inst (.int .i64) y))) mixed tyok (ek_base _ _ _) Tryz.func35 (by kernel_rfl) (by kernel_rfl) (loops_nil (L := L_35 N) (by kernel_rfl)) (fun x k => (grun_35 x k).trans (by kernel_rfl))

def ap_57 : List Pat := [.node (.fcons (.int .i64) (.fcons (.int .i64) (.fcons (.int .i64) (.fcons (.int .i64) (.fcons (.int .i64) (.fcons (.int .i64) (.fcons (.int .i64) (.fcons (.int .i64) (.fnil))))))))), .int .i64, .int .i64]
def hp_57 : List (Option (Pat × Nat)) := []
abbrev Tp_57 (R : Type) : Type := (Y0 × Int × Int × Unit) × (Unit) → (Bool → Option R) → Option R
def Q_57 (x : (Y0 × Int × Int × Unit) × (Unit)) (κ0 : Bool → Option R) : Option R :=
let a := x.1.1.1
let b := x.1.2.1
let c := x.1.2.2.1
bif (a == 3) then (
bif (b == 0) then (
κ0 ((decide (c < 2)))) else (
κ0 false)) else (
κ0 ((a == 2)))
def p_57 (N : Nat) (x : (Y0 × Int × Int × Unit) × (Unit)) (κ0 : Bool → Option R) : Option R := Q_57 x κ0
def EG_57 : Env R := Env.base QQ LN AA
def LG_57 : Loops R := Loops.none
def E_57 (N : Nat) : Env R := EG_57
def L_57 (N : Nat) : Loops R := LG_57
theorem grun_57 (x : aden ap_57 × hden hp_57) (k : KF R) : fnrun TT (EG_57) (drawAny TT WW) (LG_57) true Tryz.f57 (instA ap_57 x.1) (instH hp_57 x.2) k = Q_57 x (fun y => k (Pat.inst (.bool) y) (instH hp_57 x.2)) := by kernel_rfl
theorem good_57 (N : Nat) : GD (X := R) Tryz.prog QQ AA 57 ap_57 hp_57 (fun (x : aden ap_57 × hden hp_57) k => p_57 N x (fun y => k (Pat.inst (.bool) y) (instH hp_57 x.2))) :=
  gd_quiet (E := E_57 N) (p := fun (x : aden ap_57 × hden hp_57) κ => p_57 N x (fun y => κ (Pat.inst (.bool) y))) mixed tyok (ek_base _ _ _) Tryz.func57 (by kernel_rfl) (by kernel_rfl) (loops_nil (L := L_57 N) (by kernel_rfl)) (fun x k => (grun_57 x k).trans (by kernel_rfl))

def lv_61_6 : Live := [(0, none), (2, none), (3, none), (4, none), (5, none)]
def pt_61_6 : SPat := ⟨[(0, .ros (.arr 128 (.int .u64))), (2, .ptr 0 []), (3, .ptr 1 []), (4, .int .i64), (5, .int .i64)], J1⟩
def px_61_6_0 : SPat := ⟨[(0, .ros (.arr 128 (.int .u64))), (2, .ptr 0 []), (3, .ptr 1 []), (4, .int .i64)], J1⟩
def lo_61_6 : Exit → Live
  | .exit 2 => [(0, none), (2, none), (3, none), (4, none)]
  | _ => []
def lv_61_3 : Live := [(0, none), (2, none), (3, none), (4, none)]
def pt_61_3 : SPat := ⟨[(0, .ros (.arr 128 (.int .u64))), (2, .ptr 0 []), (3, .ptr 1 []), (4, .int .i64)], J1⟩
def px_61_3_0 : SPat := ⟨[(2, .ptr 0 []), (3, .ptr 1 [])], J1⟩
def lo_61_3 : Exit → Live
  | .exit 0 => [(2, none), (3, none)]
  | _ => []
def ap_61 : List Pat := [.ros (.arr 128 (.int .u64))]
def hp_61 : List (Option (Pat × Nat)) := []
abbrev Tl_61_6 (R : Type) : Type := (((List (Nat → Int)) × Unit × Unit × Int × Int × Unit) × Y2) → ((((List (Nat → Int)) × Unit × Unit × Int × Unit) × Y2) → Option R) → Option R
abbrev Tl_61_3 (R : Type) : Type := (((List (Nat → Int)) × Unit × Unit × Int × Unit) × Y2) → (Y14 → Option R) → Option R
abbrev Tp_61 (R : Type) : Type := ((List (Nat → Int)) × Unit) × (Unit) → ((Nat → Int) → Option R) → Option R
def C_61_6 (rec : (((List (Nat → Int)) × Unit × Unit × Int × Int × Unit) × Y2) → Option R) (x : (((List (Nat → Int)) × Unit × Unit × Int × Int × Unit) × Y2)) (κ0 : (((List (Nat → Int)) × Unit × Unit × Int × Unit) × Y2) → Option R) : Option R :=
let b := x.1.1
let a := x.1.2.2.2.1
let c := x.1.2.2.2.2.1
let e := x.2.1
let d := x.2.2.1
let g : Int := (((List.length b) : Nat) : Int)
bif (decide (c < g)) then (
bif decide (0 ≤ a) then (
bif decide (a < (128 : Int)) then (
let h : Int := (d ((Int.toNat a)))
bif decide (0 ≤ c) then (
bif decide (c < ((List.length b) : Int)) then (
let l : (Nat → Int) := (List.getD b ((Int.toNat c)) (Sch.zero (.arr 128 (.int .u64))))
bif decide (0 ≤ a) then (
bif decide (a < (128 : Int)) then (
let j : Int := (l ((Int.toNat a)))
let f : Int := xorA .u64 h j
bif decide (0 ≤ a) then (
bif decide (a < (128 : Int)) then (
let m : (Nat → Int) := (upd d ((Int.toNat a)) f)
let i : Int := addA .i64 c 1
rec ((b, (), (), a, i, ()), (e, m, ()))) else none) else none) else none) else none) else none) else none) else none) else none) else (
κ0 ((b, (), (), a, ()), (e, d, ())))
def C_61_3 (m_61_6 : Tl_61_6 R) (rec : (((List (Nat → Int)) × Unit × Unit × Int × Unit) × Y2) → Option R) (x : (((List (Nat → Int)) × Unit × Unit × Int × Unit) × Y2)) (κ0 : Y14 → Option R) : Option R :=
let i := x.1.1
let b := x.1.2.2.2.1
let d := x.2.1
let c := x.2.2.1
bif (decide (b < 128)) then (
m_61_6 ((i, (), (), b, 0, ()), (d, c, ())) (fun a =>
let h := a.1.1
let e := a.1.2.2.2.1
let j := a.2.1
let g := a.2.2.1
let f : Int := addA .i64 e 1
rec ((h, (), (), f, ()), (j, g, ())))) else (
κ0 (((), (), ()), (d, c, ())))
def B_61_6 (N : Nat) (rec : (((List (Nat → Int)) × Unit × Unit × Int × Int × Unit) × Y2) → Option R) (x : (((List (Nat → Int)) × Unit × Unit × Int × Int × Unit) × Y2)) (κ0 : (((List (Nat → Int)) × Unit × Unit × Int × Unit) × Y2) → Option R) : Option R := C_61_6 rec x κ0
def l_61_6 (N : Nat) : Nat → (((List (Nat → Int)) × Unit × Unit × Int × Int × Unit) × Y2) → ((((List (Nat → Int)) × Unit × Unit × Int × Unit) × Y2) → Option R) → Option R
  | 0, _, _ => none
  | n + 1, x, κ0 => B_61_6 N (fun y => l_61_6 N n y κ0) x κ0
def B_61_3 (N : Nat) (rec : (((List (Nat → Int)) × Unit × Unit × Int × Unit) × Y2) → Option R) (x : (((List (Nat → Int)) × Unit × Unit × Int × Unit) × Y2)) (κ0 : Y14 → Option R) : Option R := C_61_3 (l_61_6 N N) rec x κ0
def l_61_3 (N : Nat) : Nat → (((List (Nat → Int)) × Unit × Unit × Int × Unit) × Y2) → (Y14 → Option R) → Option R
  | 0, _, _ => none
  | n + 1, x, κ0 => B_61_3 N (fun y => l_61_3 N n y κ0) x κ0
def Q_61 (m_61_6 : Tl_61_6 R) (m_61_3 : Tl_61_3 R) (x : ((List (Nat → Int)) × Unit) × (Unit)) (κ0 : (Nat → Int) → Option R) : Option R :=
let b := x.1.1
m_61_3 ((b, (), (), 0, ()), ((Sch.zero (.arr 128 (.int .u64))), (Sch.zero (.arr 128 (.int .u64))), ())) (fun c =>
let a := c.2.2.1
κ0 a)
def p_61 (N : Nat) (x : ((List (Nat → Int)) × Unit) × (Unit)) (κ0 : (Nat → Int) → Option R) : Option R := Q_61 (l_61_6 N N) (l_61_3 N N) x κ0
def EG_61 : Env R := Env.base QQ LN AA
def LG_61 (m_61_6 : Tl_61_6 R) (m_61_3 : Tl_61_3 R) : Loops R := ((Loops.none).add 6 (loopBy 0 lv_61_6 pt_61_6 (fun x k => m_61_6 x (fun y => k (.exit 2) (px_61_6_0.inst y))))).add 3 (loopBy 0 lv_61_3 pt_61_3 (fun x k => m_61_3 x (fun y => k (.exit 0) (px_61_3_0.inst y))))
def E_61 (N : Nat) : Env R := EG_61
def L_61 (N : Nat) : Loops R := LG_61 (l_61_6 N N) (l_61_3 N N)
theorem gstep_61_6 (m_61_6 : Tl_61_6 R) (m_61_3 : Tl_61_3 R) (n : Nat) (x : pt_61_6.den) (k : Exit → St → Option R) : iter 0 lv_61_6 lo_61_6 (aexec TT (EG_61) (drawAny TT WW) (LG_61 m_61_6 m_61_3) (loopAt 6 (bodyOf Tryz.f61))) (n + 1) (pt_61_6.inst x) k = C_61_6 (fun y => iter 0 lv_61_6 lo_61_6 (aexec TT (EG_61) (drawAny TT WW) (LG_61 m_61_6 m_61_3) (loopAt 6 (bodyOf Tryz.f61))) n (pt_61_6.inst y) k) x (fun y => k (.exit 2) (px_61_6_0.inst y)) := by kernel_rfl
theorem rounds_61_6 (N : Nat) : Rounds 0 TT (E_61 (R := R) N) (drawAny TT WW) (L_61 N) 6 (loopAt 6 (bodyOf Tryz.f61)) :=
  rounds_of (p := pt_61_6) (l := fun (x : pt_61_6.den) k => l_61_6 N N x (fun y => k (.exit 2) (px_61_6_0.inst y))) (fun s k => rfl) (fun x k => (iter_eq (K := Exit → St → Option R) (ks := fun k => k) (l := fun n (x : pt_61_6.den) k => l_61_6 N n x (fun y => k (.exit 2) (px_61_6_0.inst y))) (B := fun (rec : pt_61_6.den → Option R) (x : pt_61_6.den) k => B_61_6 N rec x (fun y => k (.exit 2) (px_61_6_0.inst y))) (fun _ _ => rfl) (fun _ _ _ => rfl) (fun n x k => (gstep_61_6 (l_61_6 N N) (l_61_3 N N) n x k).trans (by kernel_rfl))) N x k)
theorem gstep_61_3 (m_61_6 : Tl_61_6 R) (m_61_3 : Tl_61_3 R) (n : Nat) (x : pt_61_3.den) (k : Exit → St → Option R) : iter 0 lv_61_3 lo_61_3 (aexec TT (EG_61) (drawAny TT WW) (LG_61 m_61_6 m_61_3) (loopAt 3 (bodyOf Tryz.f61))) (n + 1) (pt_61_3.inst x) k = C_61_3 m_61_6 (fun y => iter 0 lv_61_3 lo_61_3 (aexec TT (EG_61) (drawAny TT WW) (LG_61 m_61_6 m_61_3) (loopAt 3 (bodyOf Tryz.f61))) n (pt_61_3.inst y) k) x (fun y => k (.exit 0) (px_61_3_0.inst y)) := by kernel_rfl
theorem rounds_61_3 (N : Nat) : Rounds 0 TT (E_61 (R := R) N) (drawAny TT WW) (L_61 N) 3 (loopAt 3 (bodyOf Tryz.f61)) :=
  rounds_of (p := pt_61_3) (l := fun (x : pt_61_3.den) k => l_61_3 N N x (fun y => k (.exit 0) (px_61_3_0.inst y))) (fun s k => rfl) (fun x k => (iter_eq (K := Exit → St → Option R) (ks := fun k => k) (l := fun n (x : pt_61_3.den) k => l_61_3 N n x (fun y => k (.exit 0) (px_61_3_0.inst y))) (B := fun (rec : pt_61_3.den → Option R) (x : pt_61_3.den) k => B_61_3 N rec x (fun y => k (.exit 0) (px_61_3_0.inst y))) (fun _ _ => rfl) (fun _ _ _ => rfl) (fun n x k => (gstep_61_3 (l_61_6 N N) (l_61_3 N N) n x k).trans (by kernel_rfl))) N x k)
theorem loops_61 : loopsIn (bodyOf Tryz.f61) = [(3, loopAt 3 (bodyOf Tryz.f61)), (6, loopAt 6 (bodyOf Tryz.f61))] := by kernel_rfl
theorem grun_61 (m_61_6 : Tl_61_6 R) (m_61_3 : Tl_61_3 R) (x : aden ap_61 × hden hp_61) (k : KF R) : fnrun TT (EG_61) (drawAny TT WW) (LG_61 m_61_6 m_61_3) true Tryz.f61 (instA ap_61 x.1) (instH hp_61 x.2) k = Q_61 m_61_6 m_61_3 x (fun y => k (Pat.inst (.vec (.int .u64) 128) y) (instH hp_61 x.2)) := by kernel_rfl
theorem good_61 (N : Nat) : GD (X := R) Tryz.prog QQ AA 61 ap_61 hp_61 (fun (x : aden ap_61 × hden hp_61) k => p_61 N x (fun y => k (Pat.inst (.vec (.int .u64) 128) y) (instH hp_61 x.2))) :=
  gd_quiet (E := E_61 N) (p := fun (x : aden ap_61 × hden hp_61) κ => p_61 N x (fun y => κ (Pat.inst (.vec (.int .u64) 128) y))) mixed tyok (ek_base _ _ _) Tryz.func61 (by kernel_rfl) (by kernel_rfl) (loops_all (L := L_61 N) loops_61 (by
  simp only [List.forall_mem_cons, List.not_mem_nil, false_implies, implies_true, and_true]
  exact ⟨rounds_61_3 N, rounds_61_6 N⟩)) (fun x k => (grun_61 (l_61_6 N N) (l_61_3 N N) x k).trans (by kernel_rfl))

def ap_114 : List Pat := [.int .u64, .int .u64]
def hp_114 : List (Option (Pat × Nat)) := []
abbrev Tp_114 (R : Type) : Type := (Int × Int × Unit) × (Unit) → (Int → Option R) → Option R
def Q_114 (x : (Int × Int × Unit) × (Unit)) (κ0 : Int → Option R) : Option R :=
let b := x.1.1
let a := x.1.2.1
let f : Int := addA .u64 b a
let e : Int := remA .u64 b 4294967296
let g : Int := mulA .u64 2 e
let c : Int := remA .u64 a 4294967296
let h : Int := mulA .u64 g c
let d : Int := addA .u64 f h
κ0 d
def p_114 (N : Nat) (x : (Int × Int × Unit) × (Unit)) (κ0 : Int → Option R) : Option R := Q_114 x κ0
def EG_114 : Env R := Env.base QQ LN AA
def LG_114 : Loops R := Loops.none
def E_114 (N : Nat) : Env R := EG_114
def L_114 (N : Nat) : Loops R := LG_114
theorem grun_114 (x : aden ap_114 × hden hp_114) (k : KF R) : fnrun TT (EG_114) (drawAny TT WW) (LG_114) true Tryz.f114 (instA ap_114 x.1) (instH hp_114 x.2) k = Q_114 x (fun y => k (Pat.inst (.int .u64) y) (instH hp_114 x.2)) := by kernel_rfl
theorem good_114 (N : Nat) : GD (X := R) Tryz.prog QQ AA 114 ap_114 hp_114 (fun (x : aden ap_114 × hden hp_114) k => p_114 N x (fun y => k (Pat.inst (.int .u64) y) (instH hp_114 x.2))) :=
  gd_quiet (E := E_114 N) (p := fun (x : aden ap_114 × hden hp_114) κ => p_114 N x (fun y => κ (Pat.inst (.int .u64) y))) mixed tyok (ek_base _ _ _) Tryz.func114 (by kernel_rfl) (by kernel_rfl) (loops_nil (L := L_114 N) (by kernel_rfl)) (fun x k => (grun_114 x k).trans (by kernel_rfl))

def ap_108 : List Pat := [.vec (.int .u64) 4]
def hp_108 : List (Option (Pat × Nat)) := []
abbrev Tp_108 (R : Type) : Type := ((Nat → Int) × Unit) × (Unit) → ((Nat → Int) → Option R) → Option R
def Q_108 (q_114 : Tp_114 R) (q_109 : Tp_109 R) (x : ((Nat → Int) × Unit) × (Unit)) (κ0 : (Nat → Int) → Option R) : Option R :=
let d := x.1.1
let a9 : Int := (d 0)
let j : Int := (d 1)
q_114 ((a9, j, ()), ()) (fun ak =>
let r : Int := ak
let h : (Nat → Int) := (upd d 0 r)
let aj : Int := (h 3)
let z : Int := (h 0)
let a2 : Int := xorA .u64 aj z
q_109 ((a2, 4294967296, 4294967296, ()), ()) (fun a8 =>
let o := a8
let b : (Nat → Int) := (upd h 3 o)
let al : Int := (b 2)
let ad : Int := (b 3)
q_114 ((al, ad, ()), ()) (fun l =>
let af : Int := l
let a : (Nat → Int) := (upd b 2 af)
let a4 : Int := (a 1)
let a0 : Int := (a 2)
let v : Int := xorA .u64 a4 a0
q_109 ((v, 16777216, 1099511627776, ()), ()) (fun a6 =>
let ac : Int := a6
let c : (Nat → Int) := (upd a 1 ac)
let t : Int := (c 0)
let s : Int := (c 1)
q_114 ((t, s, ()), ()) (fun u =>
let a3 : Int := u
let f : (Nat → Int) := (upd c 0 a3)
let m : Int := (f 3)
let w : Int := (f 0)
let aa : Int := xorA .u64 m w
q_109 ((aa, 65536, 281474976710656, ()), ()) (fun ae =>
let n : Int := ae
let e : (Nat → Int) := (upd f 3 n)
let y : Int := (e 2)
let a7 : Int := (e 3)
q_114 ((y, a7, ()), ()) (fun p =>
let ab : Int := p
let g : (Nat → Int) := (upd e 2 ab)
let a1 : Int := (g 1)
let ai : Int := (g 2)
let i : Int := xorA .u64 a1 ai
q_109 ((i, 9223372036854775808, 2, ()), ()) (fun a5 =>
let ag : Int := a5
let ah : (Nat → Int) := (upd g 1 ag)
κ0 ah))))))))
def p_108 (N : Nat) (x : ((Nat → Int) × Unit) × (Unit)) (κ0 : (Nat → Int) → Option R) : Option R := Q_108 (p_114 N) (p_109 N) x κ0
def EG_108 (q_114 : Tp_114 R) (q_109 : Tp_109 R) : Env R := ((Env.base QQ LN AA).add 114 ap_114 hp_114 (fun (x : aden ap_114 × hden hp_114) k => q_114 x (fun y => k (Pat.inst (.int .u64) y) (instH hp_114 x.2)))).add 109 ap_109 hp_109 (fun (x : aden ap_109 × hden hp_109) k => q_109 x (fun y => k (Pat.inst (.int .u64) y) (instH hp_109 x.2)))
def LG_108 : Loops R := Loops.none
def E_108 (N : Nat) : Env R := EG_108 (p_114 N) (p_109 N)
def L_108 (N : Nat) : Loops R := LG_108
theorem grun_108 (q_114 : Tp_114 R) (q_109 : Tp_109 R) (x : aden ap_108 × hden hp_108) (k : KF R) : fnrun TT (EG_108 q_114 q_109) (drawAny TT WW) (LG_108) true Tryz.f108 (instA ap_108 x.1) (instH hp_108 x.2) k = Q_108 q_114 q_109 x (fun y => k (Pat.inst (.vec (.int .u64) 4) y) (instH hp_108 x.2)) := by kernel_rfl
theorem good_108 (N : Nat) : GD (X := R) Tryz.prog QQ AA 108 ap_108 hp_108 (fun (x : aden ap_108 × hden hp_108) k => p_108 N x (fun y => k (Pat.inst (.vec (.int .u64) 4) y) (instH hp_108 x.2))) :=
  gd_quiet (E := E_108 N) (p := fun (x : aden ap_108 × hden hp_108) κ => p_108 N x (fun y => κ (Pat.inst (.vec (.int .u64) 4) y))) mixed tyok (ek_add (ek_add (ek_base _ _ _) (good_114 N)) (good_109 N)) Tryz.func108 (by kernel_rfl) (by kernel_rfl) (loops_nil (L := L_108 N) (by kernel_rfl)) (fun x k => (grun_108 (p_114 N) (p_109 N) x k).trans (by kernel_rfl))

def lv_98_7 : Live := [(1, none), (2, none), (3, none), (4, none), (5, none), (6, none)]
def pt_98_7 : SPat := ⟨[(1, .ptr 0 []), (2, .ptr 1 []), (3, .int .i64), (4, .ptr 2 []), (5, .ptr 3 []), (6, .int .i64)], [some (.vec (.int .u64) 16, 181), some (.vec (.int .u64) 16, 181), some (.vec (.int .i64) 4, 185), some (.vec (.int .u64) 4, 187)]⟩
def px_98_7_0 : SPat := ⟨[(1, .ptr 0 []), (2, .ptr 1 []), (3, .int .i64), (4, .ptr 2 []), (5, .ptr 3 [])], [some (.vec (.int .u64) 16, 181), some (.vec (.int .u64) 16, 181), some (.vec (.int .i64) 4, 185), some (.vec (.int .u64) 4, 187)]⟩
def lo_98_7 : Exit → Live
  | .exit 2 => [(1, none), (2, none), (3, none), (4, none), (5, none)]
  | _ => []
def lv_98_15 : Live := [(1, none), (2, none), (3, none), (4, none), (5, none), (7, none)]
def pt_98_15 : SPat := ⟨[(1, .ptr 0 []), (2, .ptr 1 []), (3, .int .i64), (4, .ptr 2 []), (5, .ptr 3 []), (7, .int .i64)], [some (.vec (.int .u64) 16, 181), some (.vec (.int .u64) 16, 181), some (.vec (.int .i64) 4, 185), some (.vec (.int .u64) 4, 187)]⟩
def px_98_15_0 : SPat := ⟨[(1, .ptr 0 []), (2, .ptr 1 []), (3, .int .i64)], [some (.vec (.int .u64) 16, 181), some (.vec (.int .u64) 16, 181)]⟩
def lo_98_15 : Exit → Live
  | .exit 4 => [(1, none), (2, none), (3, none)]
  | _ => []
def lv_98_2 : Live := [(1, none), (2, none), (3, none)]
def pt_98_2 : SPat := ⟨[(1, .ptr 0 []), (2, .ptr 1 []), (3, .int .i64)], [some (.vec (.int .u64) 16, 181), some (.vec (.int .u64) 16, 181)]⟩
def px_98_2_0 : SPat := ⟨[(1, .ptr 0 []), (2, .ptr 1 [])], [some (.vec (.int .u64) 16, 181), some (.vec (.int .u64) 16, 181)]⟩
def lo_98_2 : Exit → Live
  | .exit 0 => [(1, none), (2, none)]
  | _ => []
def ap_98 : List Pat := [.vec (.int .u64) 16]
def hp_98 : List (Option (Pat × Nat)) := []
abbrev Tl_98_7 (R : Type) : Type := ((Unit × Unit × Int × Unit × Unit × Int × Unit) × Y9) → (((Unit × Unit × Int × Unit × Unit × Unit) × Y9) → Option R) → Option R
abbrev Tl_98_15 (R : Type) : Type := ((Unit × Unit × Int × Unit × Unit × Int × Unit) × Y9) → ((Y18 × Y2) → Option R) → Option R
abbrev Tl_98_2 (R : Type) : Type := (Y18 × Y2) → (Y14 → Option R) → Option R
abbrev Tp_98 (R : Type) : Type := ((Nat → Int) × Unit) × (Unit) → ((Nat → Int) → Option R) → Option R
def C_98_7 (rec : ((Unit × Unit × Int × Unit × Unit × Int × Unit) × Y9) → Option R) (x : ((Unit × Unit × Int × Unit × Unit × Int × Unit) × Y9)) (κ0 : ((Unit × Unit × Int × Unit × Unit × Unit) × Y9) → Option R) : Option R :=
let b := x.1.2.2.1
let a := x.1.2.2.2.2.2.1
let c := x.2.1
let f := x.2.2.1
let j := x.2.2.2.1
let e := x.2.2.2.2.1
bif (decide (a < 4)) then (
let v : Int := mulA .i64 4 a
let y : Int := remA .i64 b 4
let p : Int := addA .i64 v y
bif decide (0 ≤ a) then (
bif decide (a < (4 : Int)) then (
let d : (Nat → Int) := (upd j ((Int.toNat a)) p)
bif (decide (b ≥ 4)) then (
let z : Int := mulA .i64 4 a
let r : Int := addA .i64 b a
let o : Int := remA .i64 r 4
let l : Int := addA .i64 z o
bif decide (0 ≤ a) then (
bif decide (a < (4 : Int)) then (
let i : (Nat → Int) := (upd d ((Int.toNat a)) l)
bif decide (0 ≤ a) then (
bif decide (a < (4 : Int)) then (
let h : Int := (i ((Int.toNat a)))
bif decide (0 ≤ h) then (
bif decide (h < (16 : Int)) then (
let n : Int := (c ((Int.toNat h)))
bif decide (0 ≤ a) then (
bif decide (a < (4 : Int)) then (
let w : (Nat → Int) := (upd e ((Int.toNat a)) n)
let m : Int := addA .i64 a 1
rec (((), (), b, (), (), m, ()), (c, f, i, w, ()))) else none) else none) else none) else none) else none) else none) else none) else none) else (
bif decide (0 ≤ a) then (
bif decide (a < (4 : Int)) then (
let g : Int := (d ((Int.toNat a)))
bif decide (0 ≤ g) then (
bif decide (g < (16 : Int)) then (
let u : Int := (c ((Int.toNat g)))
bif decide (0 ≤ a) then (
bif decide (a < (4 : Int)) then (
let t : (Nat → Int) := (upd e ((Int.toNat a)) u)
let s : Int := addA .i64 a 1
rec (((), (), b, (), (), s, ()), (c, f, d, t, ()))) else none) else none) else none) else none) else none) else none)) else none) else none) else (
κ0 (((), (), b, (), (), ()), (c, f, j, e, ())))
def C_98_15 (rec : ((Unit × Unit × Int × Unit × Unit × Int × Unit) × Y9) → Option R) (x : ((Unit × Unit × Int × Unit × Unit × Int × Unit) × Y9)) (κ0 : (Y18 × Y2) → Option R) : Option R :=
let d := x.1.2.2.1
let a := x.1.2.2.2.2.2.1
let g := x.2.1
let f := x.2.2.1
let c := x.2.2.2.1
let e := x.2.2.2.2.1
bif (decide (a < 4)) then (
bif decide (0 ≤ a) then (
bif decide (a < (4 : Int)) then (
let b : Int := (c ((Int.toNat a)))
bif decide (0 ≤ a) then (
bif decide (a < (4 : Int)) then (
let h : Int := (e ((Int.toNat a)))
bif decide (0 ≤ b) then (
bif decide (b < (16 : Int)) then (
let i : (Nat → Int) := (upd g ((Int.toNat b)) h)
let j : Int := addA .i64 a 1
rec (((), (), d, (), (), j, ()), (i, f, c, e, ()))) else none) else none) else none) else none) else none) else none) else (
κ0 (((), (), d, ()), (g, f, ())))
def C_98_2 (q_108 : Tp_108 R) (m_98_7 : Tl_98_7 R) (m_98_15 : Tl_98_15 R) (rec : (Y18 × Y2) → Option R) (x : (Y18 × Y2)) (κ0 : Y14 → Option R) : Option R :=
let c := x.1.2.2.1
let e := x.2.1
let d := x.2.2.1
bif (decide (c < 8)) then (
m_98_7 (((), (), c, (), (), 0, ()), (e, d, (Sch.zero (.arr 4 (.int .i64))), (Sch.zero (.arr 4 (.int .u64))), ())) (fun a =>
let j := a.1.2.2.1
let h := a.2.1
let p := a.2.2.1
let n := a.2.2.2.1
let f := a.2.2.2.2.1
q_108 ((f, ()), ()) (fun l =>
let m : (Nat → Int) := l
m_98_15 (((), (), j, (), (), 0, ()), (h, p, n, m, ())) (fun b =>
let i := b.1.2.2.1
let o := b.2.1
let r := b.2.2.1
let g : Int := addA .i64 i 1
rec (((), (), g, ()), (o, r, ())))))) else (
κ0 (((), (), ()), (e, d, ())))
def B_98_7 (N : Nat) (rec : ((Unit × Unit × Int × Unit × Unit × Int × Unit) × Y9) → Option R) (x : ((Unit × Unit × Int × Unit × Unit × Int × Unit) × Y9)) (κ0 : ((Unit × Unit × Int × Unit × Unit × Unit) × Y9) → Option R) : Option R := C_98_7 rec x κ0
def l_98_7 (N : Nat) : Nat → ((Unit × Unit × Int × Unit × Unit × Int × Unit) × Y9) → (((Unit × Unit × Int × Unit × Unit × Unit) × Y9) → Option R) → Option R
  | 0, _, _ => none
  | n + 1, x, κ0 => B_98_7 N (fun y => l_98_7 N n y κ0) x κ0
def B_98_15 (N : Nat) (rec : ((Unit × Unit × Int × Unit × Unit × Int × Unit) × Y9) → Option R) (x : ((Unit × Unit × Int × Unit × Unit × Int × Unit) × Y9)) (κ0 : (Y18 × Y2) → Option R) : Option R := C_98_15 rec x κ0
def l_98_15 (N : Nat) : Nat → ((Unit × Unit × Int × Unit × Unit × Int × Unit) × Y9) → ((Y18 × Y2) → Option R) → Option R
  | 0, _, _ => none
  | n + 1, x, κ0 => B_98_15 N (fun y => l_98_15 N n y κ0) x κ0
def B_98_2 (N : Nat) (rec : (Y18 × Y2) → Option R) (x : (Y18 × Y2)) (κ0 : Y14 → Option R) : Option R := C_98_2 (p_108 N) (l_98_7 N N) (l_98_15 N N) rec x κ0
def l_98_2 (N : Nat) : Nat → (Y18 × Y2) → (Y14 → Option R) → Option R
  | 0, _, _ => none
  | n + 1, x, κ0 => B_98_2 N (fun y => l_98_2 N n y κ0) x κ0
def Q_98 (q_108 : Tp_108 R) (m_98_7 : Tl_98_7 R) (m_98_15 : Tl_98_15 R) (m_98_2 : Tl_98_2 R) (x : ((Nat → Int) × Unit) × (Unit)) (κ0 : (Nat → Int) → Option R) : Option R :=
let b := x.1.1
m_98_2 (((), (), 0, ()), (b, (Sch.zero (.arr 16 (.int .u64))), ())) (fun a =>
let c := a.2.1
κ0 c)
def p_98 (N : Nat) (x : ((Nat → Int) × Unit) × (Unit)) (κ0 : (Nat → Int) → Option R) : Option R := Q_98 (p_108 N) (l_98_7 N N) (l_98_15 N N) (l_98_2 N N) x κ0
def EG_98 (q_108 : Tp_108 R) : Env R := (Env.base QQ LN AA).add 108 ap_108 hp_108 (fun (x : aden ap_108 × hden hp_108) k => q_108 x (fun y => k (Pat.inst (.vec (.int .u64) 4) y) (instH hp_108 x.2)))
def LG_98 (m_98_7 : Tl_98_7 R) (m_98_15 : Tl_98_15 R) (m_98_2 : Tl_98_2 R) : Loops R := (((Loops.none).add 7 (loopBy 0 lv_98_7 pt_98_7 (fun x k => m_98_7 x (fun y => k (.exit 2) (px_98_7_0.inst y))))).add 15 (loopBy 0 lv_98_15 pt_98_15 (fun x k => m_98_15 x (fun y => k (.exit 4) (px_98_15_0.inst y))))).add 2 (loopBy 0 lv_98_2 pt_98_2 (fun x k => m_98_2 x (fun y => k (.exit 0) (px_98_2_0.inst y))))
def E_98 (N : Nat) : Env R := EG_98 (p_108 N)
def L_98 (N : Nat) : Loops R := LG_98 (l_98_7 N N) (l_98_15 N N) (l_98_2 N N)
theorem gstep_98_7 (q_108 : Tp_108 R) (m_98_7 : Tl_98_7 R) (m_98_15 : Tl_98_15 R) (m_98_2 : Tl_98_2 R) (n : Nat) (x : pt_98_7.den) (k : Exit → St → Option R) : iter 0 lv_98_7 lo_98_7 (aexec TT (EG_98 q_108) (drawAny TT WW) (LG_98 m_98_7 m_98_15 m_98_2) (loopAt 7 (bodyOf Tryz.f98))) (n + 1) (pt_98_7.inst x) k = C_98_7 (fun y => iter 0 lv_98_7 lo_98_7 (aexec TT (EG_98 q_108) (drawAny TT WW) (LG_98 m_98_7 m_98_15 m_98_2) (loopAt 7 (bodyOf Tryz.f98))) n (pt_98_7.inst y) k) x (fun y => k (.exit 2) (px_98_7_0.inst y)) := by kernel_rfl
theorem rounds_98_7 (N : Nat) : Rounds 0 TT (E_98 (R := R) N) (drawAny TT WW) (L_98 N) 7 (loopAt 7 (bodyOf Tryz.f98)) :=
  rounds_of (p := pt_98_7) (l := fun (x : pt_98_7.den) k => l_98_7 N N x (fun y => k (.exit 2) (px_98_7_0.inst y))) (fun s k => rfl) (fun x k => (iter_eq (K := Exit → St → Option R) (ks := fun k => k) (l := fun n (x : pt_98_7.den) k => l_98_7 N n x (fun y => k (.exit 2) (px_98_7_0.inst y))) (B := fun (rec : pt_98_7.den → Option R) (x : pt_98_7.den) k => B_98_7 N rec x (fun y => k (.exit 2) (px_98_7_0.inst y))) (fun _ _ => rfl) (fun _ _ _ => rfl) (fun n x k => (gstep_98_7 (p_108 N) (l_98_7 N N) (l_98_15 N N) (l_98_2 N N) n x k).trans (by kernel_rfl))) N x k)
theorem gstep_98_15 (q_108 : Tp_108 R) (m_98_7 : Tl_98_7 R) (m_98_15 : Tl_98_15 R) (m_98_2 : Tl_98_2 R) (n : Nat) (x : pt_98_15.den) (k : Exit → St → Option R) : iter 0 lv_98_15 lo_98_15 (aexec TT (EG_98 q_108) (drawAny TT WW) (LG_98 m_98_7 m_98_15 m_98_2) (loopAt 15 (bodyOf Tryz.f98))) (n + 1) (pt_98_15.inst x) k = C_98_15 (fun y => iter 0 lv_98_15 lo_98_15 (aexec TT (EG_98 q_108) (drawAny TT WW) (LG_98 m_98_7 m_98_15 m_98_2) (loopAt 15 (bodyOf Tryz.f98))) n (pt_98_15.inst y) k) x (fun y => k (.exit 4) (px_98_15_0.inst y)) := by kernel_rfl
theorem rounds_98_15 (N : Nat) : Rounds 0 TT (E_98 (R := R) N) (drawAny TT WW) (L_98 N) 15 (loopAt 15 (bodyOf Tryz.f98)) :=
  rounds_of (p := pt_98_15) (l := fun (x : pt_98_15.den) k => l_98_15 N N x (fun y => k (.exit 4) (px_98_15_0.inst y))) (fun s k => rfl) (fun x k => (iter_eq (K := Exit → St → Option R) (ks := fun k => k) (l := fun n (x : pt_98_15.den) k => l_98_15 N n x (fun y => k (.exit 4) (px_98_15_0.inst y))) (B := fun (rec : pt_98_15.den → Option R) (x : pt_98_15.den) k => B_98_15 N rec x (fun y => k (.exit 4) (px_98_15_0.inst y))) (fun _ _ => rfl) (fun _ _ _ => rfl) (fun n x k => (gstep_98_15 (p_108 N) (l_98_7 N N) (l_98_15 N N) (l_98_2 N N) n x k).trans (by kernel_rfl))) N x k)
theorem gstep_98_2 (q_108 : Tp_108 R) (m_98_7 : Tl_98_7 R) (m_98_15 : Tl_98_15 R) (m_98_2 : Tl_98_2 R) (n : Nat) (x : pt_98_2.den) (k : Exit → St → Option R) : iter 0 lv_98_2 lo_98_2 (aexec TT (EG_98 q_108) (drawAny TT WW) (LG_98 m_98_7 m_98_15 m_98_2) (loopAt 2 (bodyOf Tryz.f98))) (n + 1) (pt_98_2.inst x) k = C_98_2 q_108 m_98_7 m_98_15 (fun y => iter 0 lv_98_2 lo_98_2 (aexec TT (EG_98 q_108) (drawAny TT WW) (LG_98 m_98_7 m_98_15 m_98_2) (loopAt 2 (bodyOf Tryz.f98))) n (pt_98_2.inst y) k) x (fun y => k (.exit 0) (px_98_2_0.inst y)) := by kernel_rfl
theorem rounds_98_2 (N : Nat) : Rounds 0 TT (E_98 (R := R) N) (drawAny TT WW) (L_98 N) 2 (loopAt 2 (bodyOf Tryz.f98)) :=
  rounds_of (p := pt_98_2) (l := fun (x : pt_98_2.den) k => l_98_2 N N x (fun y => k (.exit 0) (px_98_2_0.inst y))) (fun s k => rfl) (fun x k => (iter_eq (K := Exit → St → Option R) (ks := fun k => k) (l := fun n (x : pt_98_2.den) k => l_98_2 N n x (fun y => k (.exit 0) (px_98_2_0.inst y))) (B := fun (rec : pt_98_2.den → Option R) (x : pt_98_2.den) k => B_98_2 N rec x (fun y => k (.exit 0) (px_98_2_0.inst y))) (fun _ _ => rfl) (fun _ _ _ => rfl) (fun n x k => (gstep_98_2 (p_108 N) (l_98_7 N N) (l_98_15 N N) (l_98_2 N N) n x k).trans (by kernel_rfl))) N x k)
theorem loops_98 : loopsIn (bodyOf Tryz.f98) = [(2, loopAt 2 (bodyOf Tryz.f98)), (7, loopAt 7 (bodyOf Tryz.f98)), (15, loopAt 15 (bodyOf Tryz.f98))] := by kernel_rfl
theorem grun_98 (q_108 : Tp_108 R) (m_98_7 : Tl_98_7 R) (m_98_15 : Tl_98_15 R) (m_98_2 : Tl_98_2 R) (x : aden ap_98 × hden hp_98) (k : KF R) : fnrun TT (EG_98 q_108) (drawAny TT WW) (LG_98 m_98_7 m_98_15 m_98_2) true Tryz.f98 (instA ap_98 x.1) (instH hp_98 x.2) k = Q_98 q_108 m_98_7 m_98_15 m_98_2 x (fun y => k (Pat.inst (.vec (.int .u64) 16) y) (instH hp_98 x.2)) := by kernel_rfl
theorem good_98 (N : Nat) : GD (X := R) Tryz.prog QQ AA 98 ap_98 hp_98 (fun (x : aden ap_98 × hden hp_98) k => p_98 N x (fun y => k (Pat.inst (.vec (.int .u64) 16) y) (instH hp_98 x.2))) :=
  gd_quiet (E := E_98 N) (p := fun (x : aden ap_98 × hden hp_98) κ => p_98 N x (fun y => κ (Pat.inst (.vec (.int .u64) 16) y))) mixed tyok (ek_add (ek_base _ _ _) (good_108 N)) Tryz.func98 (by kernel_rfl) (by kernel_rfl) (loops_all (L := L_98 N) loops_98 (by
  simp only [List.forall_mem_cons, List.not_mem_nil, false_implies, implies_true, and_true]
  exact ⟨rounds_98_2 N, rounds_98_7 N, rounds_98_15 N⟩)) (fun x k => (grun_98 (p_108 N) (l_98_7 N N) (l_98_15 N N) (l_98_2 N N) x k).trans (by kernel_rfl))

def lv_84_9 : Live := [(1, none), (2, none), (3, none), (4, none), (5, none), (6, none)]
def pt_84_9 : SPat := ⟨[(1, .ptr 0 []), (2, .ptr 1 []), (3, .int .i64), (4, .int .i64), (5, .ptr 2 []), (6, .int .i64)], [some (.vec (.int .u64) 128, 88), some (.vec (.int .u64) 128, 88), some (.vec (.int .u64) 16, 181)]⟩
def px_84_9_0 : SPat := ⟨[(1, .ptr 0 []), (2, .ptr 1 []), (3, .int .i64), (4, .int .i64), (5, .ptr 2 [])], [some (.vec (.int .u64) 128, 88), some (.vec (.int .u64) 128, 88), some (.vec (.int .u64) 16, 181)]⟩
def lo_84_9 : Exit → Live
  | .exit 4 => [(1, none), (2, none), (3, none), (4, none), (5, none)]
  | _ => []
def lv_84_19 : Live := [(1, none), (2, none), (3, none), (4, none), (5, none), (9, none)]
def pt_84_19 : SPat := ⟨[(1, .ptr 0 []), (2, .ptr 1 []), (3, .int .i64), (4, .int .i64), (5, .ptr 2 []), (9, .int .i64)], [some (.vec (.int .u64) 128, 88), some (.vec (.int .u64) 128, 88), some (.vec (.int .u64) 16, 181)]⟩
def px_84_19_0 : SPat := ⟨[(1, .ptr 0 []), (2, .ptr 1 []), (3, .int .i64), (4, .int .i64)], J1⟩
def lo_84_19 : Exit → Live
  | .exit 6 => [(1, none), (2, none), (3, none), (4, none)]
  | _ => []
def lv_84_5 : Live := [(1, none), (2, none), (3, none), (4, none)]
def pt_84_5 : SPat := ⟨[(1, .ptr 0 []), (2, .ptr 1 []), (3, .int .i64), (4, .int .i64)], J1⟩
def px_84_5_0 : SPat := ⟨[(1, .ptr 0 []), (2, .ptr 1 []), (3, .int .i64)], J1⟩
def lo_84_5 : Exit → Live
  | .exit 2 => [(1, none), (2, none), (3, none)]
  | _ => []
def lv_84_2 : Live := [(1, none), (2, none), (3, none)]
def pt_84_2 : SPat := ⟨[(1, .ptr 0 []), (2, .ptr 1 []), (3, .int .i64)], J1⟩
def px_84_2_0 : SPat := ⟨[(1, .ptr 0 []), (2, .ptr 1 [])], J1⟩
def lo_84_2 : Exit → Live
  | .exit 0 => [(1, none), (2, none)]
  | _ => []
def ap_84 : List Pat := [.vec (.int .u64) 128]
def hp_84 : List (Option (Pat × Nat)) := []
abbrev Tl_84_9 (R : Type) : Type := ((Unit × Unit × Int × Int × Unit × Int × Unit) × Y7) → (((Unit × Unit × Int × Int × Unit × Unit) × Y7) → Option R) → Option R
abbrev Tl_84_19 (R : Type) : Type := ((Unit × Unit × Int × Int × Unit × Int × Unit) × Y7) → ((Y11 × Y2) → Option R) → Option R
abbrev Tl_84_5 (R : Type) : Type := (Y11 × Y2) → ((Y18 × Y2) → Option R) → Option R
abbrev Tl_84_2 (R : Type) : Type := (Y18 × Y2) → (Y14 → Option R) → Option R
abbrev Tp_84 (R : Type) : Type := ((Nat → Int) × Unit) × (Unit) → ((Nat → Int) → Option R) → Option R
def C_84_9 (rec : ((Unit × Unit × Int × Int × Unit × Int × Unit) × Y7) → Option R) (x : ((Unit × Unit × Int × Int × Unit × Int × Unit) × Y7)) (κ0 : ((Unit × Unit × Int × Int × Unit × Unit) × Y7) → Option R) : Option R :=
let d := x.1.2.2.1
let b := x.1.2.2.2.1
let a := x.1.2.2.2.2.2.1
let c := x.2.1
let f := x.2.2.1
let g := x.2.2.2.1
bif (decide (a < 16)) then (
let r : Int := quoA .i64 a 2
bif (d == 1) then (
let a0 : Int := quoA .i64 a 2
let j : Int := mulA .i64 16 a0
let y : Int := mulA .i64 2 b
let u : Int := addA .i64 j y
let z : Int := remA .i64 a 2
let e : Int := addA .i64 u z
bif decide (0 ≤ e) then (
bif decide (e < (128 : Int)) then (
let i : Int := (c ((Int.toNat e)))
bif decide (0 ≤ a) then (
bif decide (a < (16 : Int)) then (
let m : (Nat → Int) := (upd g ((Int.toNat a)) i)
let v : Int := addA .i64 a 1
rec (((), (), d, b, (), v, ()), (c, f, m, ()))) else none) else none) else none) else none) else (
let l : Int := mulA .i64 16 b
let w : Int := mulA .i64 2 r
let p : Int := addA .i64 l w
let n : Int := remA .i64 a 2
let h : Int := addA .i64 p n
bif decide (0 ≤ h) then (
bif decide (h < (128 : Int)) then (
let o : Int := (c ((Int.toNat h)))
bif decide (0 ≤ a) then (
bif decide (a < (16 : Int)) then (
let s : (Nat → Int) := (upd g ((Int.toNat a)) o)
let t : Int := addA .i64 a 1
rec (((), (), d, b, (), t, ()), (c, f, s, ()))) else none) else none) else none) else none)) else (
κ0 (((), (), d, b, (), ()), (c, f, g, ())))
def C_84_19 (rec : ((Unit × Unit × Int × Int × Unit × Int × Unit) × Y7) → Option R) (x : ((Unit × Unit × Int × Int × Unit × Int × Unit) × Y7)) (κ0 : (Y11 × Y2) → Option R) : Option R :=
let d := x.1.2.2.1
let b := x.1.2.2.2.1
let a := x.1.2.2.2.2.2.1
let f := x.2.1
let g := x.2.2.1
let c := x.2.2.2.1
bif (decide (a < 16)) then (
let a0 : Int := quoA .i64 a 2
bif (d == 1) then (
let t : Int := quoA .i64 a 2
let r : Int := mulA .i64 16 t
let w : Int := mulA .i64 2 b
let o : Int := addA .i64 r w
let i : Int := remA .i64 a 2
let e : Int := addA .i64 o i
bif decide (0 ≤ a) then (
bif decide (a < (16 : Int)) then (
let u : Int := (c ((Int.toNat a)))
bif decide (0 ≤ e) then (
bif decide (e < (128 : Int)) then (
let y : (Nat → Int) := (upd f ((Int.toNat e)) u)
let j : Int := addA .i64 a 1
rec (((), (), d, b, (), j, ()), (y, g, c, ()))) else none) else none) else none) else none) else (
let l : Int := mulA .i64 16 b
let n : Int := mulA .i64 2 a0
let m : Int := addA .i64 l n
let p : Int := remA .i64 a 2
let h : Int := addA .i64 m p
bif decide (0 ≤ a) then (
bif decide (a < (16 : Int)) then (
let z : Int := (c ((Int.toNat a)))
bif decide (0 ≤ h) then (
bif decide (h < (128 : Int)) then (
let v : (Nat → Int) := (upd f ((Int.toNat h)) z)
let s : Int := addA .i64 a 1
rec (((), (), d, b, (), s, ()), (v, g, c, ()))) else none) else none) else none) else none)) else (
κ0 (((), (), d, b, ()), (f, g, ())))
def C_84_5 (q_98 : Tp_98 R) (m_84_9 : Tl_84_9 R) (m_84_19 : Tl_84_19 R) (rec : (Y11 × Y2) → Option R) (x : (Y11 × Y2)) (κ0 : (Y18 × Y2) → Option R) : Option R :=
let e := x.1.2.2.1
let d := x.1.2.2.2.1
let c := x.2.1
let f := x.2.2.1
bif (decide (d < 8)) then (
m_84_9 (((), (), e, d, (), 0, ()), (c, f, (Sch.zero (.arr 16 (.int .u64))), ())) (fun a =>
let i := a.1.2.2.1
let g := a.1.2.2.2.1
let m := a.2.1
let o := a.2.2.1
let p := a.2.2.2.1
q_98 ((p, ()), ()) (fun h =>
let t : (Nat → Int) := h
m_84_19 (((), (), i, g, (), 0, ()), (m, o, t, ())) (fun b =>
let n := b.1.2.2.1
let s := b.1.2.2.2.1
let j := b.2.1
let l := b.2.2.1
let r : Int := addA .i64 s 1
rec (((), (), n, r, ()), (j, l, ())))))) else (
κ0 (((), (), e, ()), (c, f, ())))
def C_84_2 (m_84_5 : Tl_84_5 R) (rec : (Y18 × Y2) → Option R) (x : (Y18 × Y2)) (κ0 : Y14 → Option R) : Option R :=
let c := x.1.2.2.1
let b := x.2.1
let d := x.2.2.1
bif (decide (c < 2)) then (
m_84_5 (((), (), c, 0, ()), (b, d, ())) (fun a =>
let g := a.1.2.2.1
let e := a.2.1
let f := a.2.2.1
let h : Int := addA .i64 g 1
rec (((), (), h, ()), (e, f, ())))) else (
κ0 (((), (), ()), (b, d, ())))
def B_84_9 (N : Nat) (rec : ((Unit × Unit × Int × Int × Unit × Int × Unit) × Y7) → Option R) (x : ((Unit × Unit × Int × Int × Unit × Int × Unit) × Y7)) (κ0 : ((Unit × Unit × Int × Int × Unit × Unit) × Y7) → Option R) : Option R := C_84_9 rec x κ0
def l_84_9 (N : Nat) : Nat → ((Unit × Unit × Int × Int × Unit × Int × Unit) × Y7) → (((Unit × Unit × Int × Int × Unit × Unit) × Y7) → Option R) → Option R
  | 0, _, _ => none
  | n + 1, x, κ0 => B_84_9 N (fun y => l_84_9 N n y κ0) x κ0
def B_84_19 (N : Nat) (rec : ((Unit × Unit × Int × Int × Unit × Int × Unit) × Y7) → Option R) (x : ((Unit × Unit × Int × Int × Unit × Int × Unit) × Y7)) (κ0 : (Y11 × Y2) → Option R) : Option R := C_84_19 rec x κ0
def l_84_19 (N : Nat) : Nat → ((Unit × Unit × Int × Int × Unit × Int × Unit) × Y7) → ((Y11 × Y2) → Option R) → Option R
  | 0, _, _ => none
  | n + 1, x, κ0 => B_84_19 N (fun y => l_84_19 N n y κ0) x κ0
def B_84_5 (N : Nat) (rec : (Y11 × Y2) → Option R) (x : (Y11 × Y2)) (κ0 : (Y18 × Y2) → Option R) : Option R := C_84_5 (p_98 N) (l_84_9 N N) (l_84_19 N N) rec x κ0
def l_84_5 (N : Nat) : Nat → (Y11 × Y2) → ((Y18 × Y2) → Option R) → Option R
  | 0, _, _ => none
  | n + 1, x, κ0 => B_84_5 N (fun y => l_84_5 N n y κ0) x κ0
def B_84_2 (N : Nat) (rec : (Y18 × Y2) → Option R) (x : (Y18 × Y2)) (κ0 : Y14 → Option R) : Option R := C_84_2 (l_84_5 N N) rec x κ0
def l_84_2 (N : Nat) : Nat → (Y18 × Y2) → (Y14 → Option R) → Option R
  | 0, _, _ => none
  | n + 1, x, κ0 => B_84_2 N (fun y => l_84_2 N n y κ0) x κ0
def Q_84 (q_98 : Tp_98 R) (m_84_9 : Tl_84_9 R) (m_84_19 : Tl_84_19 R) (m_84_5 : Tl_84_5 R) (m_84_2 : Tl_84_2 R) (x : ((Nat → Int) × Unit) × (Unit)) (κ0 : (Nat → Int) → Option R) : Option R :=
let b := x.1.1
m_84_2 (((), (), 0, ()), (b, (Sch.zero (.arr 128 (.int .u64))), ())) (fun a =>
let c := a.2.1
κ0 c)
def p_84 (N : Nat) (x : ((Nat → Int) × Unit) × (Unit)) (κ0 : (Nat → Int) → Option R) : Option R := Q_84 (p_98 N) (l_84_9 N N) (l_84_19 N N) (l_84_5 N N) (l_84_2 N N) x κ0
def EG_84 (q_98 : Tp_98 R) : Env R := (Env.base QQ LN AA).add 98 ap_98 hp_98 (fun (x : aden ap_98 × hden hp_98) k => q_98 x (fun y => k (Pat.inst (.vec (.int .u64) 16) y) (instH hp_98 x.2)))
def LG_84 (m_84_9 : Tl_84_9 R) (m_84_19 : Tl_84_19 R) (m_84_5 : Tl_84_5 R) (m_84_2 : Tl_84_2 R) : Loops R := ((((Loops.none).add 9 (loopBy 0 lv_84_9 pt_84_9 (fun x k => m_84_9 x (fun y => k (.exit 4) (px_84_9_0.inst y))))).add 19 (loopBy 0 lv_84_19 pt_84_19 (fun x k => m_84_19 x (fun y => k (.exit 6) (px_84_19_0.inst y))))).add 5 (loopBy 0 lv_84_5 pt_84_5 (fun x k => m_84_5 x (fun y => k (.exit 2) (px_84_5_0.inst y))))).add 2 (loopBy 0 lv_84_2 pt_84_2 (fun x k => m_84_2 x (fun y => k (.exit 0) (px_84_2_0.inst y))))
def E_84 (N : Nat) : Env R := EG_84 (p_98 N)
def L_84 (N : Nat) : Loops R := LG_84 (l_84_9 N N) (l_84_19 N N) (l_84_5 N N) (l_84_2 N N)
theorem gstep_84_9 (q_98 : Tp_98 R) (m_84_9 : Tl_84_9 R) (m_84_19 : Tl_84_19 R) (m_84_5 : Tl_84_5 R) (m_84_2 : Tl_84_2 R) (n : Nat) (x : pt_84_9.den) (k : Exit → St → Option R) : iter 0 lv_84_9 lo_84_9 (aexec TT (EG_84 q_98) (drawAny TT WW) (LG_84 m_84_9 m_84_19 m_84_5 m_84_2) (loopAt 9 (bodyOf Tryz.f84))) (n + 1) (pt_84_9.inst x) k = C_84_9 (fun y => iter 0 lv_84_9 lo_84_9 (aexec TT (EG_84 q_98) (drawAny TT WW) (LG_84 m_84_9 m_84_19 m_84_5 m_84_2) (loopAt 9 (bodyOf Tryz.f84))) n (pt_84_9.inst y) k) x (fun y => k (.exit 4) (px_84_9_0.inst y)) := by kernel_rfl
theorem rounds_84_9 (N : Nat) : Rounds 0 TT (E_84 (R := R) N) (drawAny TT WW) (L_84 N) 9 (loopAt 9 (bodyOf Tryz.f84)) :=
  rounds_of (p := pt_84_9) (l := fun (x : pt_84_9.den) k => l_84_9 N N x (fun y => k (.exit 4) (px_84_9_0.inst y))) (fun s k => rfl) (fun x k => (iter_eq (K := Exit → St → Option R) (ks := fun k => k) (l := fun n (x : pt_84_9.den) k => l_84_9 N n x (fun y => k (.exit 4) (px_84_9_0.inst y))) (B := fun (rec : pt_84_9.den → Option R) (x : pt_84_9.den) k => B_84_9 N rec x (fun y => k (.exit 4) (px_84_9_0.inst y))) (fun _ _ => rfl) (fun _ _ _ => rfl) (fun n x k => (gstep_84_9 (p_98 N) (l_84_9 N N) (l_84_19 N N) (l_84_5 N N) (l_84_2 N N) n x k).trans (by kernel_rfl))) N x k)
theorem gstep_84_19 (q_98 : Tp_98 R) (m_84_9 : Tl_84_9 R) (m_84_19 : Tl_84_19 R) (m_84_5 : Tl_84_5 R) (m_84_2 : Tl_84_2 R) (n : Nat) (x : pt_84_19.den) (k : Exit → St → Option R) : iter 0 lv_84_19 lo_84_19 (aexec TT (EG_84 q_98) (drawAny TT WW) (LG_84 m_84_9 m_84_19 m_84_5 m_84_2) (loopAt 19 (bodyOf Tryz.f84))) (n + 1) (pt_84_19.inst x) k = C_84_19 (fun y => iter 0 lv_84_19 lo_84_19 (aexec TT (EG_84 q_98) (drawAny TT WW) (LG_84 m_84_9 m_84_19 m_84_5 m_84_2) (loopAt 19 (bodyOf Tryz.f84))) n (pt_84_19.inst y) k) x (fun y => k (.exit 6) (px_84_19_0.inst y)) := by kernel_rfl
theorem rounds_84_19 (N : Nat) : Rounds 0 TT (E_84 (R := R) N) (drawAny TT WW) (L_84 N) 19 (loopAt 19 (bodyOf Tryz.f84)) :=
  rounds_of (p := pt_84_19) (l := fun (x : pt_84_19.den) k => l_84_19 N N x (fun y => k (.exit 6) (px_84_19_0.inst y))) (fun s k => rfl) (fun x k => (iter_eq (K := Exit → St → Option R) (ks := fun k => k) (l := fun n (x : pt_84_19.den) k => l_84_19 N n x (fun y => k (.exit 6) (px_84_19_0.inst y))) (B := fun (rec : pt_84_19.den → Option R) (x : pt_84_19.den) k => B_84_19 N rec x (fun y => k (.exit 6) (px_84_19_0.inst y))) (fun _ _ => rfl) (fun _ _ _ => rfl) (fun n x k => (gstep_84_19 (p_98 N) (l_84_9 N N) (l_84_19 N N) (l_84_5 N N) (l_84_2 N N) n x k).trans (by kernel_rfl))) N x k)
theorem gstep_84_5 (q_98 : Tp_98 R) (m_84_9 : Tl_84_9 R) (m_84_19 : Tl_84_19 R) (m_84_5 : Tl_84_5 R) (m_84_2 : Tl_84_2 R) (n : Nat) (x : pt_84_5.den) (k : Exit → St → Option R) : iter 0 lv_84_5 lo_84_5 (aexec TT (EG_84 q_98) (drawAny TT WW) (LG_84 m_84_9 m_84_19 m_84_5 m_84_2) (loopAt 5 (bodyOf Tryz.f84))) (n + 1) (pt_84_5.inst x) k = C_84_5 q_98 m_84_9 m_84_19 (fun y => iter 0 lv_84_5 lo_84_5 (aexec TT (EG_84 q_98) (drawAny TT WW) (LG_84 m_84_9 m_84_19 m_84_5 m_84_2) (loopAt 5 (bodyOf Tryz.f84))) n (pt_84_5.inst y) k) x (fun y => k (.exit 2) (px_84_5_0.inst y)) := by kernel_rfl
theorem rounds_84_5 (N : Nat) : Rounds 0 TT (E_84 (R := R) N) (drawAny TT WW) (L_84 N) 5 (loopAt 5 (bodyOf Tryz.f84)) :=
  rounds_of (p := pt_84_5) (l := fun (x : pt_84_5.den) k => l_84_5 N N x (fun y => k (.exit 2) (px_84_5_0.inst y))) (fun s k => rfl) (fun x k => (iter_eq (K := Exit → St → Option R) (ks := fun k => k) (l := fun n (x : pt_84_5.den) k => l_84_5 N n x (fun y => k (.exit 2) (px_84_5_0.inst y))) (B := fun (rec : pt_84_5.den → Option R) (x : pt_84_5.den) k => B_84_5 N rec x (fun y => k (.exit 2) (px_84_5_0.inst y))) (fun _ _ => rfl) (fun _ _ _ => rfl) (fun n x k => (gstep_84_5 (p_98 N) (l_84_9 N N) (l_84_19 N N) (l_84_5 N N) (l_84_2 N N) n x k).trans (by kernel_rfl))) N x k)
theorem gstep_84_2 (q_98 : Tp_98 R) (m_84_9 : Tl_84_9 R) (m_84_19 : Tl_84_19 R) (m_84_5 : Tl_84_5 R) (m_84_2 : Tl_84_2 R) (n : Nat) (x : pt_84_2.den) (k : Exit → St → Option R) : iter 0 lv_84_2 lo_84_2 (aexec TT (EG_84 q_98) (drawAny TT WW) (LG_84 m_84_9 m_84_19 m_84_5 m_84_2) (loopAt 2 (bodyOf Tryz.f84))) (n + 1) (pt_84_2.inst x) k = C_84_2 m_84_5 (fun y => iter 0 lv_84_2 lo_84_2 (aexec TT (EG_84 q_98) (drawAny TT WW) (LG_84 m_84_9 m_84_19 m_84_5 m_84_2) (loopAt 2 (bodyOf Tryz.f84))) n (pt_84_2.inst y) k) x (fun y => k (.exit 0) (px_84_2_0.inst y)) := by kernel_rfl
theorem rounds_84_2 (N : Nat) : Rounds 0 TT (E_84 (R := R) N) (drawAny TT WW) (L_84 N) 2 (loopAt 2 (bodyOf Tryz.f84)) :=
  rounds_of (p := pt_84_2) (l := fun (x : pt_84_2.den) k => l_84_2 N N x (fun y => k (.exit 0) (px_84_2_0.inst y))) (fun s k => rfl) (fun x k => (iter_eq (K := Exit → St → Option R) (ks := fun k => k) (l := fun n (x : pt_84_2.den) k => l_84_2 N n x (fun y => k (.exit 0) (px_84_2_0.inst y))) (B := fun (rec : pt_84_2.den → Option R) (x : pt_84_2.den) k => B_84_2 N rec x (fun y => k (.exit 0) (px_84_2_0.inst y))) (fun _ _ => rfl) (fun _ _ _ => rfl) (fun n x k => (gstep_84_2 (p_98 N) (l_84_9 N N) (l_84_19 N N) (l_84_5 N N) (l_84_2 N N) n x k).trans (by kernel_rfl))) N x k)
theorem loops_84 : loopsIn (bodyOf Tryz.f84) = [(2, loopAt 2 (bodyOf Tryz.f84)), (5, loopAt 5 (bodyOf Tryz.f84)), (9, loopAt 9 (bodyOf Tryz.f84)), (19, loopAt 19 (bodyOf Tryz.f84))] := by kernel_rfl
theorem grun_84 (q_98 : Tp_98 R) (m_84_9 : Tl_84_9 R) (m_84_19 : Tl_84_19 R) (m_84_5 : Tl_84_5 R) (m_84_2 : Tl_84_2 R) (x : aden ap_84 × hden hp_84) (k : KF R) : fnrun TT (EG_84 q_98) (drawAny TT WW) (LG_84 m_84_9 m_84_19 m_84_5 m_84_2) true Tryz.f84 (instA ap_84 x.1) (instH hp_84 x.2) k = Q_84 q_98 m_84_9 m_84_19 m_84_5 m_84_2 x (fun y => k (Pat.inst (.vec (.int .u64) 128) y) (instH hp_84 x.2)) := by kernel_rfl
theorem good_84 (N : Nat) : GD (X := R) Tryz.prog QQ AA 84 ap_84 hp_84 (fun (x : aden ap_84 × hden hp_84) k => p_84 N x (fun y => k (Pat.inst (.vec (.int .u64) 128) y) (instH hp_84 x.2))) :=
  gd_quiet (E := E_84 N) (p := fun (x : aden ap_84 × hden hp_84) κ => p_84 N x (fun y => κ (Pat.inst (.vec (.int .u64) 128) y))) mixed tyok (ek_add (ek_base _ _ _) (good_98 N)) Tryz.func84 (by kernel_rfl) (by kernel_rfl) (loops_all (L := L_84 N) loops_84 (by
  simp only [List.forall_mem_cons, List.not_mem_nil, false_implies, implies_true, and_true]
  exact ⟨rounds_84_2 N, rounds_84_5 N, rounds_84_9 N, rounds_84_19 N⟩)) (fun x k => (grun_84 (p_98 N) (l_84_9 N N) (l_84_19 N N) (l_84_5 N N) (l_84_2 N N) x k).trans (by kernel_rfl))

def ap_60 : List Pat := [.vec (.int .u64) 128, .vec (.int .u64) 128]
def hp_60 : List (Option (Pat × Nat)) := []
abbrev Tp_60 (R : Type) : Type := Y2 × (Unit) → ((Nat → Int) → Option R) → Option R
def Q_60 (q_61 : Tp_61 R) (q_84 : Tp_84 R) (x : Y2 × (Unit)) (κ0 : (Nat → Int) → Option R) : Option R :=
let e := x.1.1
let i := x.1.2.1
let j : (List (Nat → Int)) := [e, i]
q_61 ((j, ()), ()) (fun c =>
let a := c
q_84 ((a, ()), ()) (fun f =>
let g : (Nat → Int) := f
let b : (List (Nat → Int)) := [a, g]
q_61 ((b, ()), ()) (fun d =>
let h := d
κ0 h)))
def p_60 (N : Nat) (x : Y2 × (Unit)) (κ0 : (Nat → Int) → Option R) : Option R := Q_60 (p_61 N) (p_84 N) x κ0
def EG_60 (q_61 : Tp_61 R) (q_84 : Tp_84 R) : Env R := ((Env.base QQ LN AA).add 61 ap_61 hp_61 (fun (x : aden ap_61 × hden hp_61) k => q_61 x (fun y => k (Pat.inst (.vec (.int .u64) 128) y) (instH hp_61 x.2)))).add 84 ap_84 hp_84 (fun (x : aden ap_84 × hden hp_84) k => q_84 x (fun y => k (Pat.inst (.vec (.int .u64) 128) y) (instH hp_84 x.2)))
def LG_60 : Loops R := Loops.none
def E_60 (N : Nat) : Env R := EG_60 (p_61 N) (p_84 N)
def L_60 (N : Nat) : Loops R := LG_60
theorem grun_60 (q_61 : Tp_61 R) (q_84 : Tp_84 R) (x : aden ap_60 × hden hp_60) (k : KF R) : fnrun TT (EG_60 q_61 q_84) (drawAny TT WW) (LG_60) true Tryz.f60 (instA ap_60 x.1) (instH hp_60 x.2) k = Q_60 q_61 q_84 x (fun y => k (Pat.inst (.vec (.int .u64) 128) y) (instH hp_60 x.2)) := by kernel_rfl
theorem good_60 (N : Nat) : GD (X := R) Tryz.prog QQ AA 60 ap_60 hp_60 (fun (x : aden ap_60 × hden hp_60) k => p_60 N x (fun y => k (Pat.inst (.vec (.int .u64) 128) y) (instH hp_60 x.2))) :=
  gd_quiet (E := E_60 N) (p := fun (x : aden ap_60 × hden hp_60) κ => p_60 N x (fun y => κ (Pat.inst (.vec (.int .u64) 128) y))) mixed tyok (ek_add (ek_add (ek_base _ _ _) (good_61 N)) (good_84 N)) Tryz.func60 (by kernel_rfl) (by kernel_rfl) (loops_nil (L := L_60 N) (by kernel_rfl)) (fun x k => (grun_60 (p_61 N) (p_84 N) x k).trans (by kernel_rfl))

def ap_81 : List Pat := [.node (.fcons (.int .i64) (.fcons (.int .i64) (.fcons (.int .i64) (.fcons (.int .i64) (.fcons (.int .i64) (.fcons (.int .i64) (.fcons (.int .i64) (.fcons (.int .i64) (.fnil))))))))), .int .i64, .int .i64, .int .i64, .int .i64]
def hp_81 : List (Option (Pat × Nat)) := []
abbrev Tp_81 (R : Type) : Type := (Y0 × Int × Int × Int × Int × Unit) × (Unit) → ((Nat → Int) → Option R) → Option R
def Q_81 (q_60 : Tp_60 R) (x : (Y0 × Int × Int × Int × Int × Unit) × (Unit)) (κ0 : (Nat → Int) → Option R) : Option R :=
let o := x.1.1.1
let p := x.1.1.2.1
let t := x.1.1.2.2.2.2.1
let a1 := x.1.2.1
let w := x.1.2.2.1
let f := x.1.2.2.2.1
let a0 := x.1.2.2.2.2.1
let i : Int := IntKind.wrap .u64 a1
let s : (Nat → Int) := (upd ((Sch.zero (.arr 128 (.int .u64)))) 0 i)
let v : Int := IntKind.wrap .u64 f
let a : (Nat → Int) := (upd s 1 v)
let y : Int := IntKind.wrap .u64 w
let h : (Nat → Int) := (upd a 2 y)
let l : Int := IntKind.wrap .u64 t
let z : (Nat → Int) := (upd h 3 l)
let r : Int := IntKind.wrap .u64 p
let a3 : (Nat → Int) := (upd z 4 r)
let u : Int := subA .i64 o 1
let n : Int := IntKind.wrap .u64 u
let d : (Nat → Int) := (upd a3 5 n)
let m : Int := IntKind.wrap .u64 a0
let b : (Nat → Int) := (upd d 6 m)
let g : (Nat → Int) := (Sch.zero (.arr 128 (.int .u64)))
let e : (Nat → Int) := (Sch.zero (.arr 128 (.int .u64)))
q_60 ((e, b, ()), ()) (fun c =>
let j : (Nat → Int) := c
q_60 ((g, j, ()), ()) (fun a4 =>
let a2 : (Nat → Int) := a4
κ0 a2))
def p_81 (N : Nat) (x : (Y0 × Int × Int × Int × Int × Unit) × (Unit)) (κ0 : (Nat → Int) → Option R) : Option R := Q_81 (p_60 N) x κ0
def EG_81 (q_60 : Tp_60 R) : Env R := (Env.base QQ LN AA).add 60 ap_60 hp_60 (fun (x : aden ap_60 × hden hp_60) k => q_60 x (fun y => k (Pat.inst (.vec (.int .u64) 128) y) (instH hp_60 x.2)))
def LG_81 : Loops R := Loops.none
def E_81 (N : Nat) : Env R := EG_81 (p_60 N)
def L_81 (N : Nat) : Loops R := LG_81
theorem grun_81 (q_60 : Tp_60 R) (x : aden ap_81 × hden hp_81) (k : KF R) : fnrun TT (EG_81 q_60) (drawAny TT WW) (LG_81) true Tryz.f81 (instA ap_81 x.1) (instH hp_81 x.2) k = Q_81 q_60 x (fun y => k (Pat.inst (.vec (.int .u64) 128) y) (instH hp_81 x.2)) := by kernel_rfl
theorem good_81 (N : Nat) : GD (X := R) Tryz.prog QQ AA 81 ap_81 hp_81 (fun (x : aden ap_81 × hden hp_81) k => p_81 N x (fun y => k (Pat.inst (.vec (.int .u64) 128) y) (instH hp_81 x.2))) :=
  gd_quiet (E := E_81 N) (p := fun (x : aden ap_81 × hden hp_81) κ => p_81 N x (fun y => κ (Pat.inst (.vec (.int .u64) 128) y))) mixed tyok (ek_add (ek_base _ _ _) (good_60 N)) Tryz.func81 (by kernel_rfl) (by kernel_rfl) (loops_nil (L := L_81 N) (by kernel_rfl)) (fun x k => (grun_81 (p_60 N) x k).trans (by kernel_rfl))

def ap_58 : List Pat := [.node (.fcons (.int .i64) (.fcons (.int .i64) (.fcons (.int .i64) (.fcons (.int .i64) (.fcons (.int .i64) (.fcons (.int .i64) (.fcons (.int .i64) (.fcons (.int .i64) (.fnil))))))))), .int .i64, .int .i64, .int .i64, .int .i64]
def hp_58 : List (Option (Pat × Nat)) := []
abbrev Tp_58 (R : Type) : Type := (Y0 × Int × Int × Int × Int × Unit) × (Unit) → (Int → Option R) → Option R
def Q_58 (q_81 : Tp_81 R) (x : (Y0 × Int × Int × Int × Int × Unit) × (Unit)) (κ0 : Int → Option R) : Option R :=
let j := x.1.2.1
let c := x.1.2.2.1
let e := x.1.2.2.2.1
let b := x.1.2.2.2.2.1
let h : Int := quoA .i64 b 128
let d : Int := addA .i64 h 1
q_81 ((x.1.1, j, c, e, d, ()), ()) (fun g =>
let i : (Nat → Int) := g
let a : Int := remA .i64 b 128
bif decide (0 ≤ a) then (
bif decide (a < (128 : Int)) then (
let f : Int := (i ((Int.toNat a)))
κ0 f) else none) else none)
def p_58 (N : Nat) (x : (Y0 × Int × Int × Int × Int × Unit) × (Unit)) (κ0 : Int → Option R) : Option R := Q_58 (p_81 N) x κ0
def EG_58 (q_81 : Tp_81 R) : Env R := (Env.base QQ LN AA).add 81 ap_81 hp_81 (fun (x : aden ap_81 × hden hp_81) k => q_81 x (fun y => k (Pat.inst (.vec (.int .u64) 128) y) (instH hp_81 x.2)))
def LG_58 : Loops R := Loops.none
def E_58 (N : Nat) : Env R := EG_58 (p_81 N)
def L_58 (N : Nat) : Loops R := LG_58
theorem grun_58 (q_81 : Tp_81 R) (x : aden ap_58 × hden hp_58) (k : KF R) : fnrun TT (EG_58 q_81) (drawAny TT WW) (LG_58) true Tryz.f58 (instA ap_58 x.1) (instH hp_58 x.2) k = Q_58 q_81 x (fun y => k (Pat.inst (.int .u64) y) (instH hp_58 x.2)) := by kernel_rfl
theorem good_58 (N : Nat) : GD (X := R) Tryz.prog QQ AA 58 ap_58 hp_58 (fun (x : aden ap_58 × hden hp_58) k => p_58 N x (fun y => k (Pat.inst (.int .u64) y) (instH hp_58 x.2))) :=
  gd_quiet (E := E_58 N) (p := fun (x : aden ap_58 × hden hp_58) κ => p_58 N x (fun y => κ (Pat.inst (.int .u64) y))) mixed tyok (ek_add (ek_base _ _ _) (good_81 N)) Tryz.func58 (by kernel_rfl) (by kernel_rfl) (loops_nil (L := L_58 N) (by kernel_rfl)) (fun x k => (grun_58 (p_81 N) x k).trans (by kernel_rfl))

def lv_82_5 : Live := [(3, none), (4, none), (5, none), (11, none), (12, some (.int .i64, 3)), (13, none)]
def pt_82_5 : SPat := ⟨[(3, .int .i64), (4, .bool), (5, .ptr 0 []), (11, .int .i64), (12, .sl 1), (13, .int .i64)], [some (Z0, 30), some (.lst (.int .i64), 3)]⟩
def px_82_5_0 : SPat := ⟨[(3, .int .i64), (4, .bool), (11, .int .i64), (12, .sl 0)], [some (.lst (.int .i64), 3)]⟩
def lo_82_5 : Exit → Live
  | .exit 0 => [(3, none), (4, none), (11, none), (12, none)]
  | _ => []
def lv_82_9 : Live := [(3, none), (4, none), (11, none), (12, some (.int .i64, 3)), (14, none)]
def pt_82_9 : SPat := ⟨[(3, .int .i64), (4, .bool), (11, .int .i64), (12, .sl 0), (14, .int .i64)], [some (.lst (.int .i64), 3)]⟩
def px_82_9_0 : SPat := ⟨[(3, .int .i64), (4, .bool), (11, .int .i64), (12, .sl 0)], [some (.lst (.int .i64), 3)]⟩
def lo_82_9 : Exit → Live
  | .exit 2 => [(3, none), (4, none), (11, none), (12, none)]
  | _ => []
def lv_82_14 : Live := [(3, none), (4, none), (11, none), (12, none), (15, none)]
def pt_82_14 : SPat := ⟨[(3, .int .i64), (4, .bool), (11, .int .i64), (12, .sl 0), (15, .int .i64)], [some (.lst (.int .i64), 3)]⟩
def px_82_14_0 : SPat := ⟨[(3, .int .i64), (4, .bool), (12, .sl 0)], [some (.lst (.int .i64), 3)]⟩
def lo_82_14 : Exit → Live
  | .exit 4 => [(3, none), (4, none), (12, none)]
  | _ => []
def ap_82 : List Pat := [.node (.fcons (.int .i64) (.fcons (.int .i64) (.fcons (.int .i64) (.fcons (.int .i64) (.fcons (.int .i64) (.fcons (.int .i64) (.fcons (.int .i64) (.fcons (.int .i64) (.fnil))))))))), .int .i64, .int .i64, .int .i64, .bool]
def hp_82 : List (Option (Pat × Nat)) := []
abbrev Tl_82_5 (R : Type) : Type := ((Int × Bool × Unit × Int × Unit × Int × Unit) × (Y0 × (List Int) × Unit)) → (((Int × Bool × Int × Unit × Unit) × ((List Int) × Unit)) → Option R) → Option R
abbrev Tl_82_14 (R : Type) : Type := Y28 → (((Int × Bool × Unit × Unit) × ((List Int) × Unit)) → Option R) → Option R
abbrev Tl_82_9 (R : Type) : Type := Y28 → (((Int × Bool × Int × Unit × Unit) × ((List Int) × Unit)) → Option R) → Option R
abbrev Tp_82 (R : Type) : Type := (Y0 × Int × Int × Int × Bool × Unit) × (Unit) → ((List Int) → Option R) → Option R
def C_82_5 (rec : ((Int × Bool × Unit × Int × Unit × Int × Unit) × (Y0 × (List Int) × Unit)) → Option R) (x : ((Int × Bool × Unit × Int × Unit × Int × Unit) × (Y0 × (List Int) × Unit))) (κ0 : ((Int × Bool × Int × Unit × Unit) × ((List Int) × Unit)) → Option R) : Option R :=
let g := x.1.1
let f := x.1.2.1
let a := x.1.2.2.2.1
let c := x.1.2.2.2.2.2.1
let b := x.2.1.2.2.2.2.2.1
let e := x.2.1.2.2.2.2.2.2.1
let h := x.2.2.1
let o : Int := subA .i64 b e
bif (decide (c < o)) then (
let i : Int := addA .i64 a e
let n : Int := addA .i64 i c
bif decide (b = 0) then none else (
let j : Int := remA .i64 n b
let d : (List Int) := [j]
bif (decide ((List.length h + List.length d) * 8 ≤ 140737488355328) && true) then (
let m : (List Int) := (h ++ d)
let l : Int := addA .i64 c 1
rec ((g, f, (), a, (), l, ()), (x.2.1, m, ()))) else none)) else (
κ0 ((g, f, a, (), ()), x.2.2))
def C_82_14 (rec : Y28 → Option R) (x : Y28) (κ0 : ((Int × Bool × Unit × Unit) × ((List Int) × Unit)) → Option R) : Option R :=
let b := x.1.1
let e := x.1.2.1
let c := x.1.2.2.1
let a := x.1.2.2.2.2.1
let f := x.2.1
bif (decide (a < b)) then (
let i : Int := addA .i64 c a
let d : (List Int) := [i]
bif (decide ((List.length f + List.length d) * 8 ≤ 140737488355328) && true) then (
let g : (List Int) := (f ++ d)
let h : Int := addA .i64 a 1
rec ((b, e, c, (), h, ()), (g, ()))) else none) else (
κ0 ((b, e, (), ()), x.2))
def C_82_9 (rec : Y28 → Option R) (x : Y28) (κ0 : ((Int × Bool × Int × Unit × Unit) × ((List Int) × Unit)) → Option R) : Option R :=
let c := x.1.1
let d := x.1.2.1
let b := x.1.2.2.1
let a := x.1.2.2.2.2.1
let e := x.2.1
bif (decide (a < b)) then (
let f : (List Int) := [a]
bif (decide ((List.length e + List.length f) * 8 ≤ 140737488355328) && true) then (
let h : (List Int) := (e ++ f)
let g : Int := addA .i64 a 1
rec ((c, d, b, (), g, ()), (h, ()))) else none) else (
κ0 ((c, d, b, (), ()), x.2))
def B_82_5 (N : Nat) (rec : ((Int × Bool × Unit × Int × Unit × Int × Unit) × (Y0 × (List Int) × Unit)) → Option R) (x : ((Int × Bool × Unit × Int × Unit × Int × Unit) × (Y0 × (List Int) × Unit))) (κ0 : ((Int × Bool × Int × Unit × Unit) × ((List Int) × Unit)) → Option R) : Option R := C_82_5 rec x κ0
def l_82_5 (N : Nat) : Nat → ((Int × Bool × Unit × Int × Unit × Int × Unit) × (Y0 × (List Int) × Unit)) → (((Int × Bool × Int × Unit × Unit) × ((List Int) × Unit)) → Option R) → Option R
  | 0, _, _ => none
  | n + 1, x, κ0 => B_82_5 N (fun y => l_82_5 N n y κ0) x κ0
def B_82_9 (N : Nat) (rec : Y28 → Option R) (x : Y28) (κ0 : ((Int × Bool × Int × Unit × Unit) × ((List Int) × Unit)) → Option R) : Option R := C_82_9 rec x κ0
def l_82_9 (N : Nat) : Nat → Y28 → (((Int × Bool × Int × Unit × Unit) × ((List Int) × Unit)) → Option R) → Option R
  | 0, _, _ => none
  | n + 1, x, κ0 => B_82_9 N (fun y => l_82_9 N n y κ0) x κ0
def B_82_14 (N : Nat) (rec : Y28 → Option R) (x : Y28) (κ0 : ((Int × Bool × Unit × Unit) × ((List Int) × Unit)) → Option R) : Option R := C_82_14 rec x κ0
def l_82_14 (N : Nat) : Nat → Y28 → (((Int × Bool × Unit × Unit) × ((List Int) × Unit)) → Option R) → Option R
  | 0, _, _ => none
  | n + 1, x, κ0 => B_82_14 N (fun y => l_82_14 N n y κ0) x κ0
def Q_82 (m_82_5 : Tl_82_5 R) (m_82_14 : Tl_82_14 R) (m_82_9 : Tl_82_9 R) (x : (Y0 × Int × Int × Int × Bool × Unit) × (Unit)) (κ0 : (List Int) → Option R) : Option R :=
let a5 := x.1.1.2.2.2.2.2.2.1
let ae := x.1.2.1
let a7 := x.1.2.2.1
let z := x.1.2.2.2.1
let w := x.1.2.2.2.2.1
let u : Int := mulA .i64 a7 a5
bif (decide (ae > 0)) then (
m_82_5 ((z, w, (), u, (), 0, ()), (x.1.1, [], ())) (fun e =>
let y := e.1.1
let t := e.1.2.1
let a0 := e.1.2.2.1
let c := e.2.1
bif t then (
m_82_14 ((y, t, a0, (), 0, ()), e.2) (fun p =>
let ac := p.1.1
let af := p.1.2.1
let a := p.2.1
bif af then (
let a6 : Int := (((List.length a) : Nat) : Int)
let h : Int := subA .i64 a6 1
bif decide (0 ≤ h) then (
bif decide (h ≤ (((List.length a) : Nat) : Int)) then (
bif decide (0 ≤ h) then (
κ0 ((List.take (((Int.toNat h) - 0)) (List.drop 0 a)))) else none) else none) else none) else (
bif (ac == 0) then (
let ag : Int := (((List.length a) : Nat) : Int)
let m : Int := subA .i64 ag 1
bif decide (0 ≤ m) then (
bif decide (m ≤ (((List.length a) : Nat) : Int)) then (
bif decide (0 ≤ m) then (
κ0 ((List.take (((Int.toNat m) - 0)) (List.drop 0 a)))) else none) else none) else none) else (
κ0 a)))) else (
bif t then (
let ad : Int := (((List.length c) : Nat) : Int)
let g : Int := subA .i64 ad 1
bif decide (0 ≤ g) then (
bif decide (g ≤ (((List.length c) : Nat) : Int)) then (
bif decide (0 ≤ g) then (
κ0 ((List.take (((Int.toNat g) - 0)) (List.drop 0 c)))) else none) else none) else none) else (
bif (y == 0) then (
let a9 : Int := (((List.length c) : Nat) : Int)
let i : Int := subA .i64 a9 1
bif decide (0 ≤ i) then (
bif decide (i ≤ (((List.length c) : Nat) : Int)) then (
bif decide (0 ≤ i) then (
κ0 ((List.take (((Int.toNat i) - 0)) (List.drop 0 c)))) else none) else none) else none) else (
κ0 c))))) else (
m_82_9 ((z, w, u, (), 0, ()), ([], ())) (fun f =>
let v := f.1.1
let s := f.1.2.1
let a1 := f.1.2.2.1
let d := f.2.1
bif s then (
m_82_14 ((v, s, a1, (), 0, ()), f.2) (fun r =>
let a3 := r.1.1
let aa := r.1.2.1
let b := r.2.1
bif aa then (
let a4 : Int := (((List.length b) : Nat) : Int)
let l : Int := subA .i64 a4 1
bif decide (0 ≤ l) then (
bif decide (l ≤ (((List.length b) : Nat) : Int)) then (
bif decide (0 ≤ l) then (
κ0 ((List.take (((Int.toNat l) - 0)) (List.drop 0 b)))) else none) else none) else none) else (
bif (a3 == 0) then (
let a8 : Int := (((List.length b) : Nat) : Int)
let n : Int := subA .i64 a8 1
bif decide (0 ≤ n) then (
bif decide (n ≤ (((List.length b) : Nat) : Int)) then (
bif decide (0 ≤ n) then (
κ0 ((List.take (((Int.toNat n) - 0)) (List.drop 0 b)))) else none) else none) else none) else (
κ0 b)))) else (
bif s then (
let a2 : Int := (((List.length d) : Nat) : Int)
let o : Int := subA .i64 a2 1
bif decide (0 ≤ o) then (
bif decide (o ≤ (((List.length d) : Nat) : Int)) then (
bif decide (0 ≤ o) then (
κ0 ((List.take (((Int.toNat o) - 0)) (List.drop 0 d)))) else none) else none) else none) else (
bif (v == 0) then (
let ab : Int := (((List.length d) : Nat) : Int)
let j : Int := subA .i64 ab 1
bif decide (0 ≤ j) then (
bif decide (j ≤ (((List.length d) : Nat) : Int)) then (
bif decide (0 ≤ j) then (
κ0 ((List.take (((Int.toNat j) - 0)) (List.drop 0 d)))) else none) else none) else none) else (
κ0 d)))))
def p_82 (N : Nat) (x : (Y0 × Int × Int × Int × Bool × Unit) × (Unit)) (κ0 : (List Int) → Option R) : Option R := Q_82 (l_82_5 N N) (l_82_14 N N) (l_82_9 N N) x κ0
def EG_82 : Env R := Env.base QQ LN AA
def LG_82 (m_82_5 : Tl_82_5 R) (m_82_14 : Tl_82_14 R) (m_82_9 : Tl_82_9 R) : Loops R := (((Loops.none).add 5 (loopBy 0 lv_82_5 pt_82_5 (fun x k => m_82_5 x (fun y => k (.exit 0) (px_82_5_0.inst y))))).add 14 (loopBy 0 lv_82_14 pt_82_14 (fun x k => m_82_14 x (fun y => k (.exit 4) (px_82_14_0.inst y))))).add 9 (loopBy 0 lv_82_9 pt_82_9 (fun x k => m_82_9 x (fun y => k (.exit 2) (px_82_9_0.inst y))))
def E_82 (N : Nat) : Env R := EG_82
def L_82 (N : Nat) : Loops R := LG_82 (l_82_5 N N) (l_82_14 N N) (l_82_9 N N)
theorem gstep_82_5 (m_82_5 : Tl_82_5 R) (m_82_14 : Tl_82_14 R) (m_82_9 : Tl_82_9 R) (n : Nat) (x : pt_82_5.den) (k : Exit → St → Option R) : iter 0 lv_82_5 lo_82_5 (aexec TT (EG_82) (drawAny TT WW) (LG_82 m_82_5 m_82_14 m_82_9) (loopAt 5 (bodyOf Tryz.f82))) (n + 1) (pt_82_5.inst x) k = C_82_5 (fun y => iter 0 lv_82_5 lo_82_5 (aexec TT (EG_82) (drawAny TT WW) (LG_82 m_82_5 m_82_14 m_82_9) (loopAt 5 (bodyOf Tryz.f82))) n (pt_82_5.inst y) k) x (fun y => k (.exit 0) (px_82_5_0.inst y)) := by kernel_rfl
theorem rounds_82_5 (N : Nat) : Rounds 0 TT (E_82 (R := R) N) (drawAny TT WW) (L_82 N) 5 (loopAt 5 (bodyOf Tryz.f82)) :=
  rounds_of (p := pt_82_5) (l := fun (x : pt_82_5.den) k => l_82_5 N N x (fun y => k (.exit 0) (px_82_5_0.inst y))) (fun s k => rfl) (fun x k => (iter_eq (K := Exit → St → Option R) (ks := fun k => k) (l := fun n (x : pt_82_5.den) k => l_82_5 N n x (fun y => k (.exit 0) (px_82_5_0.inst y))) (B := fun (rec : pt_82_5.den → Option R) (x : pt_82_5.den) k => B_82_5 N rec x (fun y => k (.exit 0) (px_82_5_0.inst y))) (fun _ _ => rfl) (fun _ _ _ => rfl) (fun n x k => (gstep_82_5 (l_82_5 N N) (l_82_14 N N) (l_82_9 N N) n x k).trans (by kernel_rfl))) N x k)
theorem gstep_82_14 (m_82_5 : Tl_82_5 R) (m_82_14 : Tl_82_14 R) (m_82_9 : Tl_82_9 R) (n : Nat) (x : pt_82_14.den) (k : Exit → St → Option R) : iter 0 lv_82_14 lo_82_14 (aexec TT (EG_82) (drawAny TT WW) (LG_82 m_82_5 m_82_14 m_82_9) (loopAt 14 (bodyOf Tryz.f82))) (n + 1) (pt_82_14.inst x) k = C_82_14 (fun y => iter 0 lv_82_14 lo_82_14 (aexec TT (EG_82) (drawAny TT WW) (LG_82 m_82_5 m_82_14 m_82_9) (loopAt 14 (bodyOf Tryz.f82))) n (pt_82_14.inst y) k) x (fun y => k (.exit 4) (px_82_14_0.inst y)) := by kernel_rfl
theorem rounds_82_14 (N : Nat) : Rounds 0 TT (E_82 (R := R) N) (drawAny TT WW) (L_82 N) 14 (loopAt 14 (bodyOf Tryz.f82)) :=
  rounds_of (p := pt_82_14) (l := fun (x : pt_82_14.den) k => l_82_14 N N x (fun y => k (.exit 4) (px_82_14_0.inst y))) (fun s k => rfl) (fun x k => (iter_eq (K := Exit → St → Option R) (ks := fun k => k) (l := fun n (x : pt_82_14.den) k => l_82_14 N n x (fun y => k (.exit 4) (px_82_14_0.inst y))) (B := fun (rec : pt_82_14.den → Option R) (x : pt_82_14.den) k => B_82_14 N rec x (fun y => k (.exit 4) (px_82_14_0.inst y))) (fun _ _ => rfl) (fun _ _ _ => rfl) (fun n x k => (gstep_82_14 (l_82_5 N N) (l_82_14 N N) (l_82_9 N N) n x k).trans (by kernel_rfl))) N x k)
theorem gstep_82_9 (m_82_5 : Tl_82_5 R) (m_82_14 : Tl_82_14 R) (m_82_9 : Tl_82_9 R) (n : Nat) (x : pt_82_9.den) (k : Exit → St → Option R) : iter 0 lv_82_9 lo_82_9 (aexec TT (EG_82) (drawAny TT WW) (LG_82 m_82_5 m_82_14 m_82_9) (loopAt 9 (bodyOf Tryz.f82))) (n + 1) (pt_82_9.inst x) k = C_82_9 (fun y => iter 0 lv_82_9 lo_82_9 (aexec TT (EG_82) (drawAny TT WW) (LG_82 m_82_5 m_82_14 m_82_9) (loopAt 9 (bodyOf Tryz.f82))) n (pt_82_9.inst y) k) x (fun y => k (.exit 2) (px_82_9_0.inst y)) := by kernel_rfl
theorem rounds_82_9 (N : Nat) : Rounds 0 TT (E_82 (R := R) N) (drawAny TT WW) (L_82 N) 9 (loopAt 9 (bodyOf Tryz.f82)) :=
  rounds_of (p := pt_82_9) (l := fun (x : pt_82_9.den) k => l_82_9 N N x (fun y => k (.exit 2) (px_82_9_0.inst y))) (fun s k => rfl) (fun x k => (iter_eq (K := Exit → St → Option R) (ks := fun k => k) (l := fun n (x : pt_82_9.den) k => l_82_9 N n x (fun y => k (.exit 2) (px_82_9_0.inst y))) (B := fun (rec : pt_82_9.den → Option R) (x : pt_82_9.den) k => B_82_9 N rec x (fun y => k (.exit 2) (px_82_9_0.inst y))) (fun _ _ => rfl) (fun _ _ _ => rfl) (fun n x k => (gstep_82_9 (l_82_5 N N) (l_82_14 N N) (l_82_9 N N) n x k).trans (by kernel_rfl))) N x k)
theorem loops_82 : loopsIn (bodyOf Tryz.f82) = [(5, loopAt 5 (bodyOf Tryz.f82)), (9, loopAt 9 (bodyOf Tryz.f82)), (14, loopAt 14 (bodyOf Tryz.f82))] := by kernel_rfl
theorem grun_82 (m_82_5 : Tl_82_5 R) (m_82_14 : Tl_82_14 R) (m_82_9 : Tl_82_9 R) (x : aden ap_82 × hden hp_82) (k : KF R) : fnrun TT (EG_82) (drawAny TT WW) (LG_82 m_82_5 m_82_14 m_82_9) true Tryz.f82 (instA ap_82 x.1) (instH hp_82 x.2) k = Q_82 m_82_5 m_82_14 m_82_9 x (fun y => k (Pat.inst (.ros (.int .i64)) y) (instH hp_82 x.2)) := by kernel_rfl
theorem good_82 (N : Nat) : GD (X := R) Tryz.prog QQ AA 82 ap_82 hp_82 (fun (x : aden ap_82 × hden hp_82) k => p_82 N x (fun y => k (Pat.inst (.ros (.int .i64)) y) (instH hp_82 x.2))) :=
  gd_quiet (E := E_82 N) (p := fun (x : aden ap_82 × hden hp_82) κ => p_82 N x (fun y => κ (Pat.inst (.ros (.int .i64)) y))) mixed tyok (ek_base _ _ _) Tryz.func82 (by kernel_rfl) (by kernel_rfl) (loops_all (L := L_82 N) loops_82 (by
  simp only [List.forall_mem_cons, List.not_mem_nil, false_implies, implies_true, and_true]
  exact ⟨rounds_82_5 N, rounds_82_9 N, rounds_82_14 N⟩)) (fun x k => (grun_82 (l_82_5 N N) (l_82_14 N N) (l_82_9 N N) x k).trans (by kernel_rfl))

def ap_83 : List Pat := [.int .i64, .int .u32]
def hp_83 : List (Option (Pat × Nat)) := []
abbrev Tp_83 (R : Type) : Type := (Int × Int × Unit) × (Unit) → (Int → Option R) → Option R
def Q_83 (x : (Int × Int × Unit) × (Unit)) (κ0 : Int → Option R) : Option R :=
let a := x.1.1
let b := x.1.2.1
let c : Int := IntKind.wrap .u64 b
let e : Int := IntKind.wrap .u64 b
let f : Int := mulA .u64 c e
let l : Int := quoA .u64 f 4294967296
let h : Int := IntKind.wrap .u64 a
let d : Int := mulA .u64 h l
let g : Int := quoA .u64 d 4294967296
let i : Int := subA .i64 a 1
let m : Int := IntKind.wrap .i64 g
let j : Int := subA .i64 i m
κ0 j
def p_83 (N : Nat) (x : (Int × Int × Unit) × (Unit)) (κ0 : Int → Option R) : Option R := Q_83 x κ0
def EG_83 : Env R := Env.base QQ LN AA
def LG_83 : Loops R := Loops.none
def E_83 (N : Nat) : Env R := EG_83
def L_83 (N : Nat) : Loops R := LG_83
theorem grun_83 (x : aden ap_83 × hden hp_83) (k : KF R) : fnrun TT (EG_83) (drawAny TT WW) (LG_83) true Tryz.f83 (instA ap_83 x.1) (instH hp_83 x.2) k = Q_83 x (fun y => k (Pat.inst (.int .i64) y) (instH hp_83 x.2)) := by kernel_rfl
theorem good_83 (N : Nat) : GD (X := R) Tryz.prog QQ AA 83 ap_83 hp_83 (fun (x : aden ap_83 × hden hp_83) k => p_83 N x (fun y => k (Pat.inst (.int .i64) y) (instH hp_83 x.2))) :=
  gd_quiet (E := E_83 N) (p := fun (x : aden ap_83 × hden hp_83) κ => p_83 N x (fun y => κ (Pat.inst (.int .i64) y))) mixed tyok (ek_base _ _ _) Tryz.func83 (by kernel_rfl) (by kernel_rfl) (loops_nil (L := L_83 N) (by kernel_rfl)) (fun x k => (grun_83 x k).trans (by kernel_rfl))

def ap_59 : List Pat := [.node (.fcons (.int .i64) (.fcons (.int .i64) (.fcons (.int .i64) (.fcons (.int .i64) (.fcons (.int .i64) (.fcons (.int .i64) (.fcons (.int .i64) (.fcons (.int .i64) (.fnil))))))))), .int .i64, .int .i64, .int .i64, .int .i64, .int .u32, .int .u32]
def hp_59 : List (Option (Pat × Nat)) := []
abbrev Tp_59 (R : Type) : Type := (Y0 × Int × Int × Int × Int × Int × Int × Unit) × (Unit) → ((Int × (Int × Unit)) → Option R) → Option R
def Q_59 (q_82 : Tp_82 R) (q_83 : Tp_83 R) (x : (Y0 × Int × Int × Int × Int × Int × Int × Unit) × (Unit)) (κ0 : (Int × (Int × Unit)) → Option R) : Option R :=
let n := x.1.1.2.2.1
let d := x.1.2.1
let b := x.1.2.2.1
let a := x.1.2.2.2.1
let i := x.1.2.2.2.2.1
let j := x.1.2.2.2.2.2.1
let a0 := x.1.2.2.2.2.2.2.1
let a1 : Int := IntKind.wrap .i64 a0
bif decide (n = 0) then none else (
let c : Int := remA .i64 a1 n
bif (d == 0) then (
bif (b == 0) then (
q_82 ((x.1.1, d, b, i, (a == a), ()), ()) (fun z =>
let e : (List Int) := z
let p : Int := (((List.length e) : Nat) : Int)
q_83 ((p, j, ()), ()) (fun w =>
let l : Int := w
bif decide (0 ≤ l) then (
bif decide (l < ((List.length e) : Int)) then (
let y : Int := (List.getD e ((Int.toNat l)) (Sch.zero (.int .i64)))
κ0 ((a, (y, ())))) else none) else none))) else (
q_82 ((x.1.1, d, b, i, (c == a), ()), ()) (fun s =>
let h : (List Int) := s
let o : Int := (((List.length h) : Nat) : Int)
q_83 ((o, j, ()), ()) (fun a3 =>
let g := a3
bif decide (0 ≤ g) then (
bif decide (g < ((List.length h) : Int)) then (
let r : Int := (List.getD h ((Int.toNat g)) (Sch.zero (.int .i64)))
κ0 ((c, (r, ())))) else none) else none)))) else (
q_82 ((x.1.1, d, b, i, (c == a), ()), ()) (fun t =>
let f : (List Int) := t
let v : Int := (((List.length f) : Nat) : Int)
q_83 ((v, j, ()), ()) (fun u =>
let m : Int := u
bif decide (0 ≤ m) then (
bif decide (m < ((List.length f) : Int)) then (
let a2 : Int := (List.getD f ((Int.toNat m)) (Sch.zero (.int .i64)))
κ0 ((c, (a2, ())))) else none) else none))))
def p_59 (N : Nat) (x : (Y0 × Int × Int × Int × Int × Int × Int × Unit) × (Unit)) (κ0 : (Int × (Int × Unit)) → Option R) : Option R := Q_59 (p_82 N) (p_83 N) x κ0
def EG_59 (q_82 : Tp_82 R) (q_83 : Tp_83 R) : Env R := ((Env.base QQ LN AA).add 82 ap_82 hp_82 (fun (x : aden ap_82 × hden hp_82) k => q_82 x (fun y => k (Pat.inst (.ros (.int .i64)) y) (instH hp_82 x.2)))).add 83 ap_83 hp_83 (fun (x : aden ap_83 × hden hp_83) k => q_83 x (fun y => k (Pat.inst (.int .i64) y) (instH hp_83 x.2)))
def LG_59 : Loops R := Loops.none
def E_59 (N : Nat) : Env R := EG_59 (p_82 N) (p_83 N)
def L_59 (N : Nat) : Loops R := LG_59
theorem grun_59 (q_82 : Tp_82 R) (q_83 : Tp_83 R) (x : aden ap_59 × hden hp_59) (k : KF R) : fnrun TT (EG_59 q_82 q_83) (drawAny TT WW) (LG_59) true Tryz.f59 (instA ap_59 x.1) (instH hp_59 x.2) k = Q_59 q_82 q_83 x (fun y => k (Pat.inst (.tup (.fcons (.int .i64) (.fcons (.int .i64) (.fnil)))) y) (instH hp_59 x.2)) := by kernel_rfl
theorem good_59 (N : Nat) : GD (X := R) Tryz.prog QQ AA 59 ap_59 hp_59 (fun (x : aden ap_59 × hden hp_59) k => p_59 N x (fun y => k (Pat.inst (.tup (.fcons (.int .i64) (.fcons (.int .i64) (.fnil)))) y) (instH hp_59 x.2))) :=
  gd_quiet (E := E_59 N) (p := fun (x : aden ap_59 × hden hp_59) κ => p_59 N x (fun y => κ (Pat.inst (.tup (.fcons (.int .i64) (.fcons (.int .i64) (.fnil)))) y))) mixed tyok (ek_add (ek_add (ek_base _ _ _) (good_82 N)) (good_83 N)) Tryz.func59 (by kernel_rfl) (by kernel_rfl) (loops_nil (L := L_59 N) (by kernel_rfl)) (fun x k => (grun_59 (p_82 N) (p_83 N) x k).trans (by kernel_rfl))

def ap_36 : List Pat := [.node (.fcons (.int .i64) (.fcons (.int .i64) (.fcons (.int .i64) (.fcons (.int .i64) (.fcons (.int .i64) (.fcons (.int .i64) (.fcons (.int .i64) (.fcons (.int .i64) (.fnil))))))))), .sl 0, .int .i64, .int .i64, .int .i64, .int .i64]
def hp_36 : List (Option (Pat × Nat)) := J6
abbrev Tp_36 (R : Type) : Type := (Y0 × Unit × Int × Int × Int × Int × Unit) × (Y3 × Unit) → ((Nat → Int) → Option R) → Option R
def Q_36 (q_57 : Tp_57 R) (q_58 : Tp_58 R) (q_59 : Tp_59 R) (q_60 : Tp_60 R) (q_61 : Tp_61 R) (x : (Y0 × Unit × Int × Int × Int × Int × Unit) × (Y3 × Unit)) (κ0 : (Nat → Int) → Option R) : Option R :=
let l := x.1.1.2.2.2.2.2.1
let af := x.1.1.2.2.2.2.2.2.1
let e := x.1.2.2.1
let f := x.1.2.2.2.1
let a := x.1.2.2.2.2.1
let g := x.1.2.2.2.2.2.1
let b := x.2.1
let a7 : Int := mulA .i64 f af
let d : Int := addA .i64 a7 g
let y : Int := addA .i64 d l
let v : Int := subA .i64 y 1
bif decide (l = 0) then none else (
let c : Int := remA .i64 v l
bif decide (0 ≤ a) then (
bif decide (a < ((List.length b) : Int)) then (
bif decide (0 ≤ c) then (
bif decide (c < ((List.length ((List.getD b ((Int.toNat a)) []))) : Int)) then (
let o : Int := ((List.getD ((List.getD b ((Int.toNat a)) [])) ((Int.toNat c)) (Sch.zero (.arr 128 (.int .u64)))) 0)
q_57 ((x.1.1, e, f, ()), ()) (fun ak =>
let ag : Bool := ak
bif ag then (
q_58 ((x.1.1, e, f, a, g, ()), ()) (fun ac =>
let p := ac
let ah : Int := remA .u64 p 4294967296
let a2 : Int := IntKind.wrap .u32 ah
let aa : Int := quoA .u64 p 4294967296
let al : Int := IntKind.wrap .u32 aa
q_59 ((x.1.1, e, f, a, g, a2, al, ()), ()) (fun r =>
let h := r.1
let m := r.2.1
bif decide (0 ≤ a) then (
bif decide (a < ((List.length b) : Int)) then (
bif decide (0 ≤ c) then (
bif decide (c < ((List.length ((List.getD b ((Int.toNat a)) []))) : Int)) then (
let z : (Nat → Int) := (List.getD ((List.getD b ((Int.toNat a)) [])) ((Int.toNat c)) (Sch.zero (.arr 128 (.int .u64))))
bif decide (0 ≤ h) then (
bif decide (h < ((List.length b) : Int)) then (
bif decide (0 ≤ m) then (
bif decide (m < ((List.length ((List.getD b ((Int.toNat h)) []))) : Int)) then (
let a5 : (Nat → Int) := (List.getD ((List.getD b ((Int.toNat h)) [])) ((Int.toNat m)) (Sch.zero (.arr 128 (.int .u64))))
q_60 ((z, a5, ()), ()) (fun a1 =>
let n : (Nat → Int) := a1
bif (decide (e > 0)) then (
bif decide (0 ≤ a) then (
bif decide (a < ((List.length b) : Int)) then (
bif decide (0 ≤ d) then (
bif decide (d < ((List.length ((List.getD b ((Int.toNat a)) []))) : Int)) then (
let a3 : (Nat → Int) := (List.getD ((List.getD b ((Int.toNat a)) [])) ((Int.toNat d)) (Sch.zero (.arr 128 (.int .u64))))
let ad : (List (Nat → Int)) := [n, a3]
q_61 ((ad, ()), ()) (fun an =>
let ab : (Nat → Int) := an
κ0 ab)) else none) else none) else none) else none) else (
κ0 n))) else none) else none) else none) else none) else none) else none) else none) else none))) else (
let a8 : Int := remA .u64 o 4294967296
let a4 : Int := IntKind.wrap .u32 a8
let ae : Int := quoA .u64 o 4294967296
let a9 : Int := IntKind.wrap .u32 ae
q_59 ((x.1.1, e, f, a, g, a4, a9, ()), ()) (fun s =>
let i := s.1
let j := s.2.1
bif decide (0 ≤ a) then (
bif decide (a < ((List.length b) : Int)) then (
bif decide (0 ≤ c) then (
bif decide (c < ((List.length ((List.getD b ((Int.toNat a)) []))) : Int)) then (
let u : (Nat → Int) := (List.getD ((List.getD b ((Int.toNat a)) [])) ((Int.toNat c)) (Sch.zero (.arr 128 (.int .u64))))
bif decide (0 ≤ i) then (
bif decide (i < ((List.length b) : Int)) then (
bif decide (0 ≤ j) then (
bif decide (j < ((List.length ((List.getD b ((Int.toNat i)) []))) : Int)) then (
let ai : (Nat → Int) := (List.getD ((List.getD b ((Int.toNat i)) [])) ((Int.toNat j)) (Sch.zero (.arr 128 (.int .u64))))
q_60 ((u, ai, ()), ()) (fun am =>
let t : (Nat → Int) := am
bif (decide (e > 0)) then (
bif decide (0 ≤ a) then (
bif decide (a < ((List.length b) : Int)) then (
bif decide (0 ≤ d) then (
bif decide (d < ((List.length ((List.getD b ((Int.toNat a)) []))) : Int)) then (
let aj : (Nat → Int) := (List.getD ((List.getD b ((Int.toNat a)) [])) ((Int.toNat d)) (Sch.zero (.arr 128 (.int .u64))))
let a6 : (List (Nat → Int)) := [t, aj]
q_61 ((a6, ()), ()) (fun a0 =>
let w : (Nat → Int) := a0
κ0 w)) else none) else none) else none) else none) else (
κ0 t))) else none) else none) else none) else none) else none) else none) else none) else none)))) else none) else none) else none) else none)
def p_36 (N : Nat) (x : (Y0 × Unit × Int × Int × Int × Int × Unit) × (Y3 × Unit)) (κ0 : (Nat → Int) → Option R) : Option R := Q_36 (p_57 N) (p_58 N) (p_59 N) (p_60 N) (p_61 N) x κ0
def EG_36 (q_57 : Tp_57 R) (q_58 : Tp_58 R) (q_59 : Tp_59 R) (q_60 : Tp_60 R) (q_61 : Tp_61 R) : Env R := (((((Env.base QQ LN AA).add 57 ap_57 hp_57 (fun (x : aden ap_57 × hden hp_57) k => q_57 x (fun y => k (Pat.inst (.bool) y) (instH hp_57 x.2)))).add 58 ap_58 hp_58 (fun (x : aden ap_58 × hden hp_58) k => q_58 x (fun y => k (Pat.inst (.int .u64) y) (instH hp_58 x.2)))).add 59 ap_59 hp_59 (fun (x : aden ap_59 × hden hp_59) k => q_59 x (fun y => k (Pat.inst (.tup (.fcons (.int .i64) (.fcons (.int .i64) (.fnil)))) y) (instH hp_59 x.2)))).add 60 ap_60 hp_60 (fun (x : aden ap_60 × hden hp_60) k => q_60 x (fun y => k (Pat.inst (.vec (.int .u64) 128) y) (instH hp_60 x.2)))).add 61 ap_61 hp_61 (fun (x : aden ap_61 × hden hp_61) k => q_61 x (fun y => k (Pat.inst (.vec (.int .u64) 128) y) (instH hp_61 x.2)))
def LG_36 : Loops R := Loops.none
def E_36 (N : Nat) : Env R := EG_36 (p_57 N) (p_58 N) (p_59 N) (p_60 N) (p_61 N)
def L_36 (N : Nat) : Loops R := LG_36
theorem grun_36 (q_57 : Tp_57 R) (q_58 : Tp_58 R) (q_59 : Tp_59 R) (q_60 : Tp_60 R) (q_61 : Tp_61 R) (x : aden ap_36 × hden hp_36) (k : KF R) : fnrun TT (EG_36 q_57 q_58 q_59 q_60 q_61) (drawAny TT WW) (LG_36) true Tryz.f36 (instA ap_36 x.1) (instH hp_36 x.2) k = Q_36 q_57 q_58 q_59 q_60 q_61 x (fun y => k (Pat.inst (.vec (.int .u64) 128) y) (instH hp_36 x.2)) := by kernel_rfl
theorem good_36 (N : Nat) : GD (X := R) Tryz.prog QQ AA 36 ap_36 hp_36 (fun (x : aden ap_36 × hden hp_36) k => p_36 N x (fun y => k (Pat.inst (.vec (.int .u64) 128) y) (instH hp_36 x.2))) :=
  gd_quiet (E := E_36 N) (p := fun (x : aden ap_36 × hden hp_36) κ => p_36 N x (fun y => κ (Pat.inst (.vec (.int .u64) 128) y))) mixed tyok (ek_add (ek_add (ek_add (ek_add (ek_add (ek_base _ _ _) (good_57 N)) (good_58 N)) (good_59 N)) (good_60 N)) (good_61 N)) Tryz.func36 (by kernel_rfl) (by kernel_rfl) (loops_nil (L := L_36 N) (by kernel_rfl)) (fun x k => (grun_36 (p_57 N) (p_58 N) (p_59 N) (p_60 N) (p_61 N) x k).trans (by kernel_rfl))

def lv_8_11 : Live := [(1, none), (2, none), (5, none), (6, none), (7, none), (8, none)]
def pt_8_11 : SPat := ⟨[(1, .sl 0), (2, .ptr 1 []), (5, .int .i64), (6, .int .i64), (7, .int .i64), (8, .int .i64)], J12⟩
def px_8_11_0 : SPat := ⟨[(1, .sl 0), (2, .ptr 1 []), (5, .int .i64), (6, .int .i64), (7, .int .i64)], J12⟩
def lo_8_11 : Exit → Live
  | .exit 6 => [(1, none), (2, none), (5, none), (6, none), (7, none)]
  | _ => []
def lv_8_8 : Live := [(1, none), (2, none), (5, none), (6, none), (7, none)]
def pt_8_8 : SPat := ⟨[(1, .sl 0), (2, .ptr 1 []), (5, .int .i64), (6, .int .i64), (7, .int .i64)], J12⟩
def px_8_8_0 : SPat := ⟨[(1, .sl 0), (2, .ptr 1 []), (5, .int .i64), (6, .int .i64)], J12⟩
def lo_8_8 : Exit → Live
  | .exit 4 => [(1, none), (2, none), (5, none), (6, none)]
  | _ => []
def lv_8_5 : Live := [(1, none), (2, none), (5, none), (6, none)]
def pt_8_5 : SPat := ⟨[(1, .sl 0), (2, .ptr 1 []), (5, .int .i64), (6, .int .i64)], J12⟩
def px_8_5_0 : SPat := ⟨[(1, .sl 0), (2, .ptr 1 []), (5, .int .i64)], J12⟩
def lo_8_5 : Exit → Live
  | .exit 2 => [(1, none), (2, none), (5, none)]
  | _ => []
def lv_8_2 : Live := [(1, none), (2, none), (5, none)]
def pt_8_2 : SPat := ⟨[(1, .sl 0), (2, .ptr 1 []), (5, .int .i64)], J12⟩
def px_8_2_0 : SPat := ⟨[(1, .sl 0)], J6⟩
def lo_8_2 : Exit → Live
  | .exit 0 => [(1, none)]
  | _ => []
def ap_8 : List Pat := [.node (.fcons (.int .i64) (.fcons (.int .i64) (.fcons (.int .i64) (.fcons (.int .i64) (.fcons (.int .i64) (.fcons (.int .i64) (.fcons (.int .i64) (.fcons (.int .i64) (.fnil))))))))), .sl 0]
def hp_8 : List (Option (Pat × Nat)) := J6
abbrev Tl_8_11 (R : Type) : Type := ((Unit × Unit × Int × Int × Int × Int × Unit) × (Y3 × Y0 × Unit)) → (((Unit × Unit × Int × Int × Int × Unit) × (Y3 × Y0 × Unit)) → Option R) → Option R
abbrev Tl_8_8 (R : Type) : Type := ((Unit × Unit × Int × Int × Int × Unit) × (Y3 × Y0 × Unit)) → ((Y11 × (Y3 × Y0 × Unit)) → Option R) → Option R
abbrev Tl_8_5 (R : Type) : Type := (Y11 × (Y3 × Y0 × Unit)) → ((Y18 × (Y3 × Y0 × Unit)) → Option R) → Option R
abbrev Tl_8_2 (R : Type) : Type := (Y18 × (Y3 × Y0 × Unit)) → (((Unit × Unit) × (Y3 × Unit)) → Option R) → Option R
abbrev Tp_8 (R : Type) : Type := (Y0 × Unit × Unit) × (Y3 × Unit) → ((Unit × (Y3 × Unit)) → Option R) → Option R
def C_8_11 (q_36 : Tp_36 R) (rec : ((Unit × Unit × Int × Int × Int × Int × Unit) × (Y3 × Y0 × Unit)) → Option R) (x : ((Unit × Unit × Int × Int × Int × Int × Unit) × (Y3 × Y0 × Unit))) (κ0 : ((Unit × Unit × Int × Int × Int × Unit) × (Y3 × Y0 × Unit)) → Option R) : Option R :=
let e := x.1.2.2.1
let c := x.1.2.2.2.1
let a := x.1.2.2.2.2.1
let d := x.1.2.2.2.2.2.1
let b := x.2.1
let g := x.2.2.1.2.2.2.2.2.2.1
bif (decide (d < g)) then (
bif decide (0 ≤ a) then (
bif decide (a < ((List.length b) : Int)) then (
let h : Int := mulA .i64 c g
let f : Int := addA .i64 h d
q_36 ((x.2.2.1, (), e, c, a, d, ()), (b, ())) (fun i =>
let j : (Nat → Int) := i
bif decide (0 ≤ f) then (
bif decide (f < ((List.length ((List.getD b ((Int.toNat a)) []))) : Int)) then (
let l : Y3 := (List.set b ((Int.toNat a)) ((List.set ((List.getD b ((Int.toNat a)) [])) ((Int.toNat f)) j)))
let m : Int := addA .i64 d 1
rec (((), (), e, c, a, m, ()), (l, x.2.2.1, ()))) else none) else none)) else none) else none) else (
κ0 (((), (), e, c, a, ()), (b, x.2.2.1, ())))
def C_8_8 (q_35 : Tp_35 R) (m_8_11 : Tl_8_11 R) (rec : ((Unit × Unit × Int × Int × Int × Unit) × (Y3 × Y0 × Unit)) → Option R) (x : ((Unit × Unit × Int × Int × Int × Unit) × (Y3 × Y0 × Unit))) (κ0 : (Y11 × (Y3 × Y0 × Unit)) → Option R) : Option R :=
let b := x.1.2.2.1
let c := x.1.2.2.2.1
let d := x.1.2.2.2.2.1
let e := x.2.1
let g := x.2.2.1.2.2.1
bif (decide (d < g)) then (
q_35 ((b, c, ()), ()) (fun j =>
let l := j
m_8_11 (((), (), b, c, d, l, ()), (e, x.2.2.1, ())) (fun a =>
let m := a.1.2.2.1
let i := a.1.2.2.2.1
let n := a.1.2.2.2.2.1
let f := a.2.1
let h : Int := addA .i64 n 1
rec (((), (), m, i, h, ()), (f, a.2.2.1, ()))))) else (
κ0 (((), (), b, c, ()), (e, x.2.2.1, ())))
def C_8_5 (m_8_8 : Tl_8_8 R) (rec : (Y11 × (Y3 × Y0 × Unit)) → Option R) (x : (Y11 × (Y3 × Y0 × Unit))) (κ0 : (Y18 × (Y3 × Y0 × Unit)) → Option R) : Option R :=
let b := x.1.2.2.1
let d := x.1.2.2.2.1
let c := x.2.1
bif (decide (d < 4)) then (
m_8_8 (((), (), b, d, 0, ()), (c, x.2.2.1, ())) (fun a =>
let h := a.1.2.2.1
let e := a.1.2.2.2.1
let f := a.2.1
let g : Int := addA .i64 e 1
rec (((), (), h, g, ()), (f, a.2.2.1, ())))) else (
κ0 (((), (), b, ()), (c, x.2.2.1, ())))
def C_8_2 (m_8_5 : Tl_8_5 R) (rec : (Y18 × (Y3 × Y0 × Unit)) → Option R) (x : (Y18 × (Y3 × Y0 × Unit))) (κ0 : ((Unit × Unit) × (Y3 × Unit)) → Option R) : Option R :=
let c := x.1.2.2.1
let b := x.2.1
let g := x.2.2.1.2.1
bif (decide (c < g)) then (
m_8_5 (((), (), c, 0, ()), (b, x.2.2.1, ())) (fun a =>
let f := a.1.2.2.1
let e := a.2.1
let d : Int := addA .i64 f 1
rec (((), (), d, ()), (e, a.2.2.1, ())))) else (
κ0 (((), ()), (b, ())))
def B_8_11 (N : Nat) (rec : ((Unit × Unit × Int × Int × Int × Int × Unit) × (Y3 × Y0 × Unit)) → Option R) (x : ((Unit × Unit × Int × Int × Int × Int × Unit) × (Y3 × Y0 × Unit))) (κ0 : ((Unit × Unit × Int × Int × Int × Unit) × (Y3 × Y0 × Unit)) → Option R) : Option R := C_8_11 (p_36 N) rec x κ0
def l_8_11 (N : Nat) : Nat → ((Unit × Unit × Int × Int × Int × Int × Unit) × (Y3 × Y0 × Unit)) → (((Unit × Unit × Int × Int × Int × Unit) × (Y3 × Y0 × Unit)) → Option R) → Option R
  | 0, _, _ => none
  | n + 1, x, κ0 => B_8_11 N (fun y => l_8_11 N n y κ0) x κ0
def B_8_8 (N : Nat) (rec : ((Unit × Unit × Int × Int × Int × Unit) × (Y3 × Y0 × Unit)) → Option R) (x : ((Unit × Unit × Int × Int × Int × Unit) × (Y3 × Y0 × Unit))) (κ0 : (Y11 × (Y3 × Y0 × Unit)) → Option R) : Option R := C_8_8 (p_35 N) (l_8_11 N N) rec x κ0
def l_8_8 (N : Nat) : Nat → ((Unit × Unit × Int × Int × Int × Unit) × (Y3 × Y0 × Unit)) → ((Y11 × (Y3 × Y0 × Unit)) → Option R) → Option R
  | 0, _, _ => none
  | n + 1, x, κ0 => B_8_8 N (fun y => l_8_8 N n y κ0) x κ0
def B_8_5 (N : Nat) (rec : (Y11 × (Y3 × Y0 × Unit)) → Option R) (x : (Y11 × (Y3 × Y0 × Unit))) (κ0 : (Y18 × (Y3 × Y0 × Unit)) → Option R) : Option R := C_8_5 (l_8_8 N N) rec x κ0
def l_8_5 (N : Nat) : Nat → (Y11 × (Y3 × Y0 × Unit)) → ((Y18 × (Y3 × Y0 × Unit)) → Option R) → Option R
  | 0, _, _ => none
  | n + 1, x, κ0 => B_8_5 N (fun y => l_8_5 N n y κ0) x κ0
def B_8_2 (N : Nat) (rec : (Y18 × (Y3 × Y0 × Unit)) → Option R) (x : (Y18 × (Y3 × Y0 × Unit))) (κ0 : ((Unit × Unit) × (Y3 × Unit)) → Option R) : Option R := C_8_2 (l_8_5 N N) rec x κ0
def l_8_2 (N : Nat) : Nat → (Y18 × (Y3 × Y0 × Unit)) → (((Unit × Unit) × (Y3 × Unit)) → Option R) → Option R
  | 0, _, _ => none
  | n + 1, x, κ0 => B_8_2 N (fun y => l_8_2 N n y κ0) x κ0
def Q_8 (q_36 : Tp_36 R) (q_35 : Tp_35 R) (m_8_11 : Tl_8_11 R) (m_8_8 : Tl_8_8 R) (m_8_5 : Tl_8_5 R) (m_8_2 : Tl_8_2 R) (x : (Y0 × Unit × Unit) × (Y3 × Unit)) (κ0 : (Unit × (Y3 × Unit)) → Option R) : Option R :=
let b := x.2.1
m_8_2 (((), (), 0, ()), (b, x.1.1, ())) (fun a =>
κ0 ((), a.2))
def p_8 (N : Nat) (x : (Y0 × Unit × Unit) × (Y3 × Unit)) (κ0 : (Unit × (Y3 × Unit)) → Option R) : Option R := Q_8 (p_36 N) (p_35 N) (l_8_11 N N) (l_8_8 N N) (l_8_5 N N) (l_8_2 N N) x κ0
def EG_8 (q_36 : Tp_36 R) (q_35 : Tp_35 R) : Env R := ((Env.base QQ LN AA).add 36 ap_36 hp_36 (fun (x : aden ap_36 × hden hp_36) k => q_36 x (fun y => k (Pat.inst (.vec (.int .u64) 128) y) (instH hp_36 x.2)))).add 35 ap_35 hp_35 (fun (x : aden ap_35 × hden hp_35) k => q_35 x (fun y => k (Pat.inst (.int .i64) y) (instH hp_35 x.2)))
def LG_8 (m_8_11 : Tl_8_11 R) (m_8_8 : Tl_8_8 R) (m_8_5 : Tl_8_5 R) (m_8_2 : Tl_8_2 R) : Loops R := ((((Loops.none).add 11 (loopBy 1 lv_8_11 pt_8_11 (fun x k => m_8_11 x (fun y => k (.exit 6) (px_8_11_0.inst y))))).add 8 (loopBy 1 lv_8_8 pt_8_8 (fun x k => m_8_8 x (fun y => k (.exit 4) (px_8_8_0.inst y))))).add 5 (loopBy 1 lv_8_5 pt_8_5 (fun x k => m_8_5 x (fun y => k (.exit 2) (px_8_5_0.inst y))))).add 2 (loopBy 1 lv_8_2 pt_8_2 (fun x k => m_8_2 x (fun y => k (.exit 0) (px_8_2_0.inst y))))
def E_8 (N : Nat) : Env R := EG_8 (p_36 N) (p_35 N)
def L_8 (N : Nat) : Loops R := LG_8 (l_8_11 N N) (l_8_8 N N) (l_8_5 N N) (l_8_2 N N)
theorem gstep_8_11 (q_36 : Tp_36 R) (q_35 : Tp_35 R) (m_8_11 : Tl_8_11 R) (m_8_8 : Tl_8_8 R) (m_8_5 : Tl_8_5 R) (m_8_2 : Tl_8_2 R) (n : Nat) (x : pt_8_11.den) (k : Exit → St → Option R) : iter 1 lv_8_11 lo_8_11 (aexec TT (EG_8 q_36 q_35) (drawAny TT WW) (LG_8 m_8_11 m_8_8 m_8_5 m_8_2) (loopAt 11 (bodyOf Tryz.f8))) (n + 1) (pt_8_11.inst x) k = C_8_11 q_36 (fun y => iter 1 lv_8_11 lo_8_11 (aexec TT (EG_8 q_36 q_35) (drawAny TT WW) (LG_8 m_8_11 m_8_8 m_8_5 m_8_2) (loopAt 11 (bodyOf Tryz.f8))) n (pt_8_11.inst y) k) x (fun y => k (.exit 6) (px_8_11_0.inst y)) := by kernel_rfl
theorem rounds_8_11 (N : Nat) : Rounds 1 TT (E_8 (R := R) N) (drawAny TT WW) (L_8 N) 11 (loopAt 11 (bodyOf Tryz.f8)) :=
  rounds_of (p := pt_8_11) (l := fun (x : pt_8_11.den) k => l_8_11 N N x (fun y => k (.exit 6) (px_8_11_0.inst y))) (fun s k => rfl) (fun x k => (iter_eq (K := Exit → St → Option R) (ks := fun k => k) (l := fun n (x : pt_8_11.den) k => l_8_11 N n x (fun y => k (.exit 6) (px_8_11_0.inst y))) (B := fun (rec : pt_8_11.den → Option R) (x : pt_8_11.den) k => B_8_11 N rec x (fun y => k (.exit 6) (px_8_11_0.inst y))) (fun _ _ => rfl) (fun _ _ _ => rfl) (fun n x k => (gstep_8_11 (p_36 N) (p_35 N) (l_8_11 N N) (l_8_8 N N) (l_8_5 N N) (l_8_2 N N) n x k).trans (by kernel_rfl))) N x k)
theorem gstep_8_8 (q_36 : Tp_36 R) (q_35 : Tp_35 R) (m_8_11 : Tl_8_11 R) (m_8_8 : Tl_8_8 R) (m_8_5 : Tl_8_5 R) (m_8_2 : Tl_8_2 R) (n : Nat) (x : pt_8_8.den) (k : Exit → St → Option R) : iter 1 lv_8_8 lo_8_8 (aexec TT (EG_8 q_36 q_35) (drawAny TT WW) (LG_8 m_8_11 m_8_8 m_8_5 m_8_2) (loopAt 8 (bodyOf Tryz.f8))) (n + 1) (pt_8_8.inst x) k = C_8_8 q_35 m_8_11 (fun y => iter 1 lv_8_8 lo_8_8 (aexec TT (EG_8 q_36 q_35) (drawAny TT WW) (LG_8 m_8_11 m_8_8 m_8_5 m_8_2) (loopAt 8 (bodyOf Tryz.f8))) n (pt_8_8.inst y) k) x (fun y => k (.exit 4) (px_8_8_0.inst y)) := by kernel_rfl
theorem rounds_8_8 (N : Nat) : Rounds 1 TT (E_8 (R := R) N) (drawAny TT WW) (L_8 N) 8 (loopAt 8 (bodyOf Tryz.f8)) :=
  rounds_of (p := pt_8_8) (l := fun (x : pt_8_8.den) k => l_8_8 N N x (fun y => k (.exit 4) (px_8_8_0.inst y))) (fun s k => rfl) (fun x k => (iter_eq (K := Exit → St → Option R) (ks := fun k => k) (l := fun n (x : pt_8_8.den) k => l_8_8 N n x (fun y => k (.exit 4) (px_8_8_0.inst y))) (B := fun (rec : pt_8_8.den → Option R) (x : pt_8_8.den) k => B_8_8 N rec x (fun y => k (.exit 4) (px_8_8_0.inst y))) (fun _ _ => rfl) (fun _ _ _ => rfl) (fun n x k => (gstep_8_8 (p_36 N) (p_35 N) (l_8_11 N N) (l_8_8 N N) (l_8_5 N N) (l_8_2 N N) n x k).trans (by kernel_rfl))) N x k)
theorem gstep_8_5 (q_36 : Tp_36 R) (q_35 : Tp_35 R) (m_8_11 : Tl_8_11 R) (m_8_8 : Tl_8_8 R) (m_8_5 : Tl_8_5 R) (m_8_2 : Tl_8_2 R) (n : Nat) (x : pt_8_5.den) (k : Exit → St → Option R) : iter 1 lv_8_5 lo_8_5 (aexec TT (EG_8 q_36 q_35) (drawAny TT WW) (LG_8 m_8_11 m_8_8 m_8_5 m_8_2) (loopAt 5 (bodyOf Tryz.f8))) (n + 1) (pt_8_5.inst x) k = C_8_5 m_8_8 (fun y => iter 1 lv_8_5 lo_8_5 (aexec TT (EG_8 q_36 q_35) (drawAny TT WW) (LG_8 m_8_11 m_8_8 m_8_5 m_8_2) (loopAt 5 (bodyOf Tryz.f8))) n (pt_8_5.inst y) k) x (fun y => k (.exit 2) (px_8_5_0.inst y)) := by kernel_rfl
theorem rounds_8_5 (N : Nat) : Rounds 1 TT (E_8 (R := R) N) (drawAny TT WW) (L_8 N) 5 (loopAt 5 (bodyOf Tryz.f8)) :=
  rounds_of (p := pt_8_5) (l := fun (x : pt_8_5.den) k => l_8_5 N N x (fun y => k (.exit 2) (px_8_5_0.inst y))) (fun s k => rfl) (fun x k => (iter_eq (K := Exit → St → Option R) (ks := fun k => k) (l := fun n (x : pt_8_5.den) k => l_8_5 N n x (fun y => k (.exit 2) (px_8_5_0.inst y))) (B := fun (rec : pt_8_5.den → Option R) (x : pt_8_5.den) k => B_8_5 N rec x (fun y => k (.exit 2) (px_8_5_0.inst y))) (fun _ _ => rfl) (fun _ _ _ => rfl) (fun n x k => (gstep_8_5 (p_36 N) (p_35 N) (l_8_11 N N) (l_8_8 N N) (l_8_5 N N) (l_8_2 N N) n x k).trans (by kernel_rfl))) N x k)
theorem gstep_8_2 (q_36 : Tp_36 R) (q_35 : Tp_35 R) (m_8_11 : Tl_8_11 R) (m_8_8 : Tl_8_8 R) (m_8_5 : Tl_8_5 R) (m_8_2 : Tl_8_2 R) (n : Nat) (x : pt_8_2.den) (k : Exit → St → Option R) : iter 1 lv_8_2 lo_8_2 (aexec TT (EG_8 q_36 q_35) (drawAny TT WW) (LG_8 m_8_11 m_8_8 m_8_5 m_8_2) (loopAt 2 (bodyOf Tryz.f8))) (n + 1) (pt_8_2.inst x) k = C_8_2 m_8_5 (fun y => iter 1 lv_8_2 lo_8_2 (aexec TT (EG_8 q_36 q_35) (drawAny TT WW) (LG_8 m_8_11 m_8_8 m_8_5 m_8_2) (loopAt 2 (bodyOf Tryz.f8))) n (pt_8_2.inst y) k) x (fun y => k (.exit 0) (px_8_2_0.inst y)) := by kernel_rfl
theorem rounds_8_2 (N : Nat) : Rounds 1 TT (E_8 (R := R) N) (drawAny TT WW) (L_8 N) 2 (loopAt 2 (bodyOf Tryz.f8)) :=
  rounds_of (p := pt_8_2) (l := fun (x : pt_8_2.den) k => l_8_2 N N x (fun y => k (.exit 0) (px_8_2_0.inst y))) (fun s k => rfl) (fun x k => (iter_eq (K := Exit → St → Option R) (ks := fun k => k) (l := fun n (x : pt_8_2.den) k => l_8_2 N n x (fun y => k (.exit 0) (px_8_2_0.inst y))) (B := fun (rec : pt_8_2.den → Option R) (x : pt_8_2.den) k => B_8_2 N rec x (fun y => k (.exit 0) (px_8_2_0.inst y))) (fun _ _ => rfl) (fun _ _ _ => rfl) (fun n x k => (gstep_8_2 (p_36 N) (p_35 N) (l_8_11 N N) (l_8_8 N N) (l_8_5 N N) (l_8_2 N N) n x k).trans (by kernel_rfl))) N x k)
theorem loops_8 : loopsIn (bodyOf Tryz.f8) = [(2, loopAt 2 (bodyOf Tryz.f8)), (5, loopAt 5 (bodyOf Tryz.f8)), (8, loopAt 8 (bodyOf Tryz.f8)), (11, loopAt 11 (bodyOf Tryz.f8))] := by kernel_rfl
theorem grun_8 (q_36 : Tp_36 R) (q_35 : Tp_35 R) (m_8_11 : Tl_8_11 R) (m_8_8 : Tl_8_8 R) (m_8_5 : Tl_8_5 R) (m_8_2 : Tl_8_2 R) (x : aden ap_8 × hden hp_8) (k : KF R) : fnrun TT (EG_8 q_36 q_35) (drawAny TT WW) (LG_8 m_8_11 m_8_8 m_8_5 m_8_2) true Tryz.f8 (instA ap_8 x.1) (instH hp_8 x.2) k = Q_8 q_36 q_35 m_8_11 m_8_8 m_8_5 m_8_2 x (fun y => k (Pat.inst (.sl 0) y.1) (instH J6 y.2)) := by kernel_rfl
theorem good_8 (N : Nat) : GD (X := R) Tryz.prog QQ AA 8 ap_8 hp_8 (fun (x : aden ap_8 × hden hp_8) k => p_8 N x (fun y => k (Pat.inst (.sl 0) y.1) (instH J6 y.2))) :=
  gd_loud (E := E_8 N) mixed tyok (ek_add (ek_add (ek_base _ _ _) (good_36 N)) (good_35 N)) Tryz.func8 (by kernel_rfl) (by kernel_rfl) (by kernel_rfl) (by kernel_rfl) (loops_all (L := L_8 N) loops_8 (by
  simp only [List.forall_mem_cons, List.not_mem_nil, false_implies, implies_true, and_true]
  exact ⟨rounds_8_2 N, rounds_8_5 N, rounds_8_8 N, rounds_8_11 N⟩)) (fun x k => (grun_8 (p_36 N) (p_35 N) (l_8_11 N N) (l_8_8 N N) (l_8_5 N N) (l_8_2 N N) x k).trans (by kernel_rfl))

def ap_66 : List Pat := [.vec (.int .u64) 128, .vec (.int .u64) 128, .sl 0]
def hp_66 : List (Option (Pat × Nat)) := [some (.lst (.arr 128 (.int .u64)), 88)]
abbrev Tp_66 (R : Type) : Type := ((Nat → Int) × (Nat → Int) × Unit × Unit) × ((List (Nat → Int)) × Unit) → ((Nat → Int) → Option R) → Option R
def Q_66 (q_89 : Tp_89 R) (q_88 : Tp_88 R) (x : ((Nat → Int) × (Nat → Int) × Unit × Unit) × ((List (Nat → Int)) × Unit)) (κ0 : (Nat → Int) → Option R) : Option R :=
let h := x.1.1
let g := x.1.2.1
let a := x.2.1
q_89 ((h, g, ()), ()) (fun i =>
let e : (Nat → Int) := i
let b : (List (Nat → Int)) := [e]
bif (decide ((List.length b + List.length a) * 1024 ≤ 140737488355328) && true) then (
let d : (List (Nat → Int)) := (b ++ a)
q_88 ((d, ()), ()) (fun f =>
let c := f
κ0 c)) else none)
def p_66 (N : Nat) (x : ((Nat → Int) × (Nat → Int) × Unit × Unit) × ((List (Nat → Int)) × Unit)) (κ0 : (Nat → Int) → Option R) : Option R := Q_66 (p_89 N) (p_88 N) x κ0
def EG_66 (q_89 : Tp_89 R) (q_88 : Tp_88 R) : Env R := ((Env.base QQ LN AA).add 89 ap_89 hp_89 (fun (x : aden ap_89 × hden hp_89) k => q_89 x (fun y => k (Pat.inst (.vec (.int .u64) 128) y) (instH hp_89 x.2)))).add 88 ap_88 hp_88 (fun (x : aden ap_88 × hden hp_88) k => q_88 x (fun y => k (Pat.inst (.vec (.int .u64) 128) y) (instH hp_88 x.2)))
def LG_66 : Loops R := Loops.none
def E_66 (N : Nat) : Env R := EG_66 (p_89 N) (p_88 N)
def L_66 (N : Nat) : Loops R := LG_66
theorem grun_66 (q_89 : Tp_89 R) (q_88 : Tp_88 R) (x : aden ap_66 × hden hp_66) (k : KF R) : fnrun TT (EG_66 q_89 q_88) (drawAny TT WW) (LG_66) true Tryz.f66 (instA ap_66 x.1) (instH hp_66 x.2) k = Q_66 q_89 q_88 x (fun y => k (Pat.inst (.vec (.int .u64) 128) y) (instH hp_66 x.2)) := by kernel_rfl
theorem good_66 (N : Nat) : GD (X := R) Tryz.prog QQ AA 66 ap_66 hp_66 (fun (x : aden ap_66 × hden hp_66) k => p_66 N x (fun y => k (Pat.inst (.vec (.int .u64) 128) y) (instH hp_66 x.2))) :=
  gd_quiet (E := E_66 N) (p := fun (x : aden ap_66 × hden hp_66) κ => p_66 N x (fun y => κ (Pat.inst (.vec (.int .u64) 128) y))) mixed tyok (ek_add (ek_add (ek_base _ _ _) (good_89 N)) (good_88 N)) Tryz.func66 (by kernel_rfl) (by kernel_rfl) (loops_nil (L := L_66 N) (by kernel_rfl)) (fun x k => (grun_66 (p_89 N) (p_88 N) x k).trans (by kernel_rfl))

def ap_44 : List Pat := [.ptr 0 [], .node (.fcons (.int .i64) (.fcons (.int .i64) (.fnil))), .node (.fcons Z7 (.fcons Z7 (.fcons Z7 (.fnil))))]
def hp_44 : List (Option (Pat × Nat)) := J0
abbrev Tp_44 (R : Type) : Type := (Unit × (Int × (Int × Unit)) × ((Int × (Int × Unit)) × ((Int × (Int × Unit)) × ((Int × (Int × Unit)) × Unit))) × Unit) × Y1 → ((Int × Y1) → Option R) → Option R
def Q_44 (q_43 : Tp_43 R) (q_66 : Tp_66 R) (q_34 : Tp_34 R) (x : (Unit × (Int × (Int × Unit)) × ((Int × (Int × Unit)) × ((Int × (Int × Unit)) × ((Int × (Int × Unit)) × Unit))) × Unit) × Y1) (κ0 : (Int × Y1) → Option R) : Option R :=
let s := x.1.2.1.1
let a := x.2.2.2.2.1
q_43 (((), x.1.2.2.1.2.1, ()), (x.2.1, x.2.2.1, x.2.2.2.1, a, ())) (fun l =>
let g := l.1
let e := l.2.1
bif (e != 0) then (
κ0 (e, (x.2.1, x.2.2.1, x.2.2.2.1, a, ()))) else (
q_43 (((), x.1.2.2.1.2.2.1, ()), (x.2.1, x.2.2.1, x.2.2.2.1, a, ())) (fun h =>
let f := h.1
let d := h.2.1
bif (d != 0) then (
κ0 (d, (x.2.1, x.2.2.1, x.2.2.2.1, a, ()))) else (
q_43 (((), x.1.2.2.1.1, ()), (x.2.1, x.2.2.1, x.2.2.2.1, a, ())) (fun i =>
let z := i.1
let j := i.2.1
bif (j != 0) then (
κ0 (j, (x.2.1, x.2.2.1, x.2.2.2.1, a, ()))) else (
bif (s == 0) then (
let p : (Nat → Int) := (Sch.zero (.arr 128 (.int .u64)))
let t : (List (Nat → Int)) := [p]
q_66 ((g, f, (), ()), (t, ())) (fun w =>
let m : (Nat → Int) := w
q_34 (((), x.1.2.2.1.1, m, ()), (x.2.1, x.2.2.1, x.2.2.2.1, a, ())) (fun b =>
let u := b.1
let n := b.2.2.2.2.1
κ0 (u, (b.2.1, b.2.2.1, b.2.2.2.1, n, ()))))) else (
let v : (List (Nat → Int)) := [z]
q_66 ((g, f, (), ()), (v, ())) (fun o =>
let y := o
q_34 (((), x.1.2.2.1.1, y, ()), (x.2.1, x.2.2.1, x.2.2.2.1, a, ())) (fun c =>
let a0 := c.1
let r := c.2.2.2.2.1
κ0 (a0, (c.2.1, c.2.2.1, c.2.2.2.1, r, ())))))))))))
def p_44 (N : Nat) (x : (Unit × (Int × (Int × Unit)) × ((Int × (Int × Unit)) × ((Int × (Int × Unit)) × ((Int × (Int × Unit)) × Unit))) × Unit) × Y1) (κ0 : (Int × Y1) → Option R) : Option R := Q_44 (p_43 N) (p_66 N) (p_34 N) x κ0
def EG_44 (q_43 : Tp_43 R) (q_66 : Tp_66 R) (q_34 : Tp_34 R) : Env R := (((Env.base QQ LN AA).add 43 ap_43 hp_43 (fun (x : aden ap_43 × hden hp_43) k => q_43 x (fun y => k (Pat.inst (.tup (.fcons (.vec (.int .u64) 128) (.fcons (.int .i64) (.fnil)))) y) (instH hp_43 x.2)))).add 66 ap_66 hp_66 (fun (x : aden ap_66 × hden hp_66) k => q_66 x (fun y => k (Pat.inst (.vec (.int .u64) 128) y) (instH hp_66 x.2)))).add 34 ap_34 hp_34 (fun (x : aden ap_34 × hden hp_34) k => q_34 x (fun y => k (Pat.inst (.int .i64) y.1) (instH J0 y.2)))
def LG_44 : Loops R := Loops.none
def E_44 (N : Nat) : Env R := EG_44 (p_43 N) (p_66 N) (p_34 N)
def L_44 (N : Nat) : Loops R := LG_44
theorem grun_44 (q_43 : Tp_43 R) (q_66 : Tp_66 R) (q_34 : Tp_34 R) (x : aden ap_44 × hden hp_44) (k : KF R) : fnrun TT (EG_44 q_43 q_66 q_34) (drawAny TT WW) (LG_44) true Tryz.f44 (instA ap_44 x.1) (instH hp_44 x.2) k = Q_44 q_43 q_66 q_34 x (fun y => k (Pat.inst (.int .i64) y.1) (instH J0 y.2)) := by kernel_rfl
theorem good_44 (N : Nat) : GD (X := R) Tryz.prog QQ AA 44 ap_44 hp_44 (fun (x : aden ap_44 × hden hp_44) k => p_44 N x (fun y => k (Pat.inst (.int .i64) y.1) (instH J0 y.2))) :=
  gd_loud (E := E_44 N) mixed tyok (ek_add (ek_add (ek_add (ek_base _ _ _) (good_43 N)) (good_66 N)) (good_34 N)) Tryz.func44 (by kernel_rfl) (by kernel_rfl) (by kernel_rfl) (by kernel_rfl) (loops_nil (L := L_44 N) (by kernel_rfl)) (fun x k => (grun_44 (p_43 N) (p_66 N) (p_34 N) x k).trans (by kernel_rfl))

def lv_42_5 : Live := [(0, none), (2, none), (4, none), (7, none), (8, none)]
def pt_42_5 : SPat := ⟨[(0, .ptr 0 []), (2, .int .i64), (4, .ptr 4 []), (7, .ptr 5 []), (8, .int .i64)], [some (Z4, 34), some (Z2, 120), some (Z1, 118), some (.lst (.arr 128 (.int .u64)), 88), some (Z7, 50), some (Z3, 113)]⟩
def px_42_5_0 : SPat := ⟨[(6, .int .i64)], J0⟩
def px_42_5_1 : SPat := ⟨[], J0⟩
def lo_42_5 : Exit → Live
  | .ret => [(6, none)]
  | .exit 0 => []
  | _ => []
def ap_42 : List Pat := [.ptr 0 [], .node (.fcons (.int .i64) (.fcons (.int .i64) (.fnil))), .int .i64]
def hp_42 : List (Option (Pat × Nat)) := J0
abbrev Tl_42_5 (R : Type) : Type := ((Unit × Int × Unit × Unit × Int × Unit) × ((Unit × (Y0 × Unit)) × Y6 × Y4 × (List (Nat → Int)) × (Int × (Int × Unit)) × Y10 × Unit)) → (((Int × Unit) × Y1) → Option R) → (((Unit) × Y1) → Option R) → Option R
abbrev Tp_42 (R : Type) : Type := (Unit × (Int × (Int × Unit)) × Int × Unit) × Y1 → ((Int × Y1) → Option R) → Option R
def C_42_5 (q_24 : Tp_24 R) (q_44 : Tp_44 R) (rec : ((Unit × Int × Unit × Unit × Int × Unit) × ((Unit × (Y0 × Unit)) × Y6 × Y4 × (List (Nat → Int)) × (Int × (Int × Unit)) × Y10 × Unit)) → Option R) (x : ((Unit × Int × Unit × Unit × Int × Unit) × ((Unit × (Y0 × Unit)) × Y6 × Y4 × (List (Nat → Int)) × (Int × (Int × Unit)) × Y10 × Unit))) (κ0 : ((Int × Unit) × Y1) → Option R) (κ1 : ((Unit) × Y1) → Option R) : Option R :=
let g := x.1.2.1
let c := x.1.2.2.2.2.1
let l := x.2.1.2.1.2.2.2.2.2.2.1
let h := x.2.2.2.2.1
bif (decide (c < l)) then (
q_24 (((), x.2.2.2.2.2.1, g, c, (), ()), (x.2.1, x.2.2.1, x.2.2.2.1, h, x.2.2.2.2.2.2.1, ())) (fun a =>
let j := a.1.2.1
let d := a.2.2.2.2.1
bif (j != 0) then (
κ0 (a.1.2, (a.2.1, a.2.2.1, a.2.2.2.1, d, ()))) else (
q_44 (((), x.2.2.2.2.2.1, a.1.1, ()), (a.2.1, a.2.2.1, a.2.2.2.1, d, ())) (fun b =>
let f := b.1
let e := b.2.2.2.2.1
bif (f != 0) then (
κ0 ((f, ()), (b.2.1, b.2.2.1, b.2.2.2.1, e, ()))) else (
let i : Int := addA .i64 c 1
rec (((), g, (), (), i, ()), (b.2.1, b.2.2.1, b.2.2.2.1, e, x.2.2.2.2.2.1, a.2.2.2.2.2.1, ()))))))) else (
κ1 ((), (x.2.1, x.2.2.1, x.2.2.2.1, h, ())))
def B_42_5 (N : Nat) (rec : ((Unit × Int × Unit × Unit × Int × Unit) × ((Unit × (Y0 × Unit)) × Y6 × Y4 × (List (Nat → Int)) × (Int × (Int × Unit)) × Y10 × Unit)) → Option R) (x : ((Unit × Int × Unit × Unit × Int × Unit) × ((Unit × (Y0 × Unit)) × Y6 × Y4 × (List (Nat → Int)) × (Int × (Int × Unit)) × Y10 × Unit))) (κ0 : ((Int × Unit) × Y1) → Option R) (κ1 : ((Unit) × Y1) → Option R) : Option R := C_42_5 (p_24 N) (p_44 N) rec x κ0 κ1
def l_42_5 (N : Nat) : Nat → ((Unit × Int × Unit × Unit × Int × Unit) × ((Unit × (Y0 × Unit)) × Y6 × Y4 × (List (Nat → Int)) × (Int × (Int × Unit)) × Y10 × Unit)) → (((Int × Unit) × Y1) → Option R) → (((Unit) × Y1) → Option R) → Option R
  | 0, _, _, _ => none
  | n + 1, x, κ0, κ1 => B_42_5 N (fun y => l_42_5 N n y κ0 κ1) x κ0 κ1
def Q_42 (q_25 : Tp_25 R) (q_64 : Tp_64 R) (q_24 : Tp_24 R) (q_44 : Tp_44 R) (m_42_5 : Tl_42_5 R) (x : (Unit × (Int × (Int × Unit)) × Int × Unit) × Y1) (κ0 : (Int × Y1) → Option R) : Option R :=
let g := x.1.2.1.1
let h := x.1.2.1.2.1
let c := x.1.2.2.1
let i := x.2.2.2.2.1
q_25 ((x.2.1.2.1, x.1.2.1, c, ()), ()) (fun m =>
q_64 ((x.2.1.2.1, g, h, ()), ()) (fun f =>
let j : Int := f
m_42_5 (((), c, (), (), j, ()), (x.2.1, x.2.2.1, x.2.2.2.1, i, x.1.2.1, m.2.1, ())) (fun a =>
let l := a.1.1
let d := a.2.2.2.2.1
κ0 (l, (a.2.1, a.2.2.1, a.2.2.2.1, d, ()))) (fun b =>
let e := b.2.2.2.2.1
κ0 (0, (b.2.1, b.2.2.1, b.2.2.2.1, e, ())))))
def p_42 (N : Nat) (x : (Unit × (Int × (Int × Unit)) × Int × Unit) × Y1) (κ0 : (Int × Y1) → Option R) : Option R := Q_42 (p_25 N) (p_64 N) (p_24 N) (p_44 N) (l_42_5 N N) x κ0
def EG_42 (q_25 : Tp_25 R) (q_64 : Tp_64 R) (q_24 : Tp_24 R) (q_44 : Tp_44 R) : Env R := ((((Env.base QQ LN AA).add 25 ap_25 hp_25 (fun (x : aden ap_25 × hden hp_25) k => q_25 x (fun y => k (Pat.inst (.ptr 0 []) y.1) (instH hp_25 x.2 ++ instH [some (Z3, 113)] y.2)))).add 64 ap_64 hp_64 (fun (x : aden ap_64 × hden hp_64) k => q_64 x (fun y => k (Pat.inst (.int .i64) y) (instH hp_64 x.2)))).add 24 ap_24 hp_24 (fun (x : aden ap_24 × hden hp_24) k => q_24 x (fun y => k (Pat.inst (.tup (.fcons (.node (.fcons Z7 (.fcons Z7 (.fcons Z7 (.fnil))))) (.fcons (.int .i64) (.fnil)))) y.1) (instH J2 y.2)))).add 44 ap_44 hp_44 (fun (x : aden ap_44 × hden hp_44) k => q_44 x (fun y => k (Pat.inst (.int .i64) y.1) (instH J0 y.2)))
def LG_42 (m_42_5 : Tl_42_5 R) : Loops R := (Loops.none).add 5 (loopBy 4 lv_42_5 pt_42_5 (fun x k => m_42_5 x (fun y => k .ret (px_42_5_0.inst y)) (fun y => k (.exit 0) (px_42_5_1.inst y))))
def E_42 (N : Nat) : Env R := EG_42 (p_25 N) (p_64 N) (p_24 N) (p_44 N)
def L_42 (N : Nat) : Loops R := LG_42 (l_42_5 N N)
theorem gstep_42_5 (q_25 : Tp_25 R) (q_64 : Tp_64 R) (q_24 : Tp_24 R) (q_44 : Tp_44 R) (m_42_5 : Tl_42_5 R) (n : Nat) (x : pt_42_5.den) (k : Exit → St → Option R) : iter 4 lv_42_5 lo_42_5 (aexec TT (EG_42 q_25 q_64 q_24 q_44) (drawAny TT WW) (LG_42 m_42_5) (loopAt 5 (bodyOf Tryz.f42))) (n + 1) (pt_42_5.inst x) k = C_42_5 q_24 q_44 (fun y => iter 4 lv_42_5 lo_42_5 (aexec TT (EG_42 q_25 q_64 q_24 q_44) (drawAny TT WW) (LG_42 m_42_5) (loopAt 5 (bodyOf Tryz.f42))) n (pt_42_5.inst y) k) x (fun y => k .ret (px_42_5_0.inst y)) (fun y => k (.exit 0) (px_42_5_1.inst y)) := by kernel_rfl
theorem rounds_42_5 (N : Nat) : Rounds 4 TT (E_42 (R := R) N) (drawAny TT WW) (L_42 N) 5 (loopAt 5 (bodyOf Tryz.f42)) :=
  rounds_of (p := pt_42_5) (l := fun (x : pt_42_5.den) k => l_42_5 N N x (fun y => k .ret (px_42_5_0.inst y)) (fun y => k (.exit 0) (px_42_5_1.inst y))) (fun s k => rfl) (fun x k => (iter_eq (K := Exit → St → Option R) (ks := fun k => k) (l := fun n (x : pt_42_5.den) k => l_42_5 N n x (fun y => k .ret (px_42_5_0.inst y)) (fun y => k (.exit 0) (px_42_5_1.inst y))) (B := fun (rec : pt_42_5.den → Option R) (x : pt_42_5.den) k => B_42_5 N rec x (fun y => k .ret (px_42_5_0.inst y)) (fun y => k (.exit 0) (px_42_5_1.inst y))) (fun _ _ => rfl) (fun _ _ _ => rfl) (fun n x k => (gstep_42_5 (p_25 N) (p_64 N) (p_24 N) (p_44 N) (l_42_5 N N) n x k).trans (by kernel_rfl))) N x k)
theorem loops_42 : loopsIn (bodyOf Tryz.f42) = [(5, loopAt 5 (bodyOf Tryz.f42))] := by kernel_rfl
theorem grun_42 (q_25 : Tp_25 R) (q_64 : Tp_64 R) (q_24 : Tp_24 R) (q_44 : Tp_44 R) (m_42_5 : Tl_42_5 R) (x : aden ap_42 × hden hp_42) (k : KF R) : fnrun TT (EG_42 q_25 q_64 q_24 q_44) (drawAny TT WW) (LG_42 m_42_5) true Tryz.f42 (instA ap_42 x.1) (instH hp_42 x.2) k = Q_42 q_25 q_64 q_24 q_44 m_42_5 x (fun y => k (Pat.inst (.int .i64) y.1) (instH J0 y.2)) := by kernel_rfl
theorem good_42 (N : Nat) : GD (X := R) Tryz.prog QQ AA 42 ap_42 hp_42 (fun (x : aden ap_42 × hden hp_42) k => p_42 N x (fun y => k (Pat.inst (.int .i64) y.1) (instH J0 y.2))) :=
  gd_loud (E := E_42 N) mixed tyok (ek_add (ek_add (ek_add (ek_add (ek_base _ _ _) (good_25 N)) (good_64 N)) (good_24 N)) (good_44 N)) Tryz.func42 (by kernel_rfl) (by kernel_rfl) (by kernel_rfl) (by kernel_rfl) (loops_all (L := L_42 N) loops_42 (by
  simp only [List.forall_mem_cons, List.not_mem_nil, false_implies, implies_true, and_true]
  exact rounds_42_5 N)) (fun x k => (grun_42 (p_25 N) (p_64 N) (p_24 N) (p_44 N) (l_42_5 N N) x k).trans (by kernel_rfl))

end Go.Proofs.YtfcloeflcpcheaaGreat.Eng
