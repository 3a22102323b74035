/-
FillOrder: what the mirrors come to, in plain numbers and lists: the law's mirror answers true.
Conditions: none.
-/
import Derived.Test.YtfcloeflcpcheaaMirFillOrder
set_option linter.unusedVariables false
set_option linter.unusedSimpArgs false
namespace Go.Proofs.Ytfcloeflcpcheaa.Eng
namespace Bk
def W (x : Int) : Prop := 0 ≤ x ∧ x < 18446744073709551616
theorem upd_same {α : Type} (f : Nat → α) (i : Nat) (x : α) : upd f i x i = x := by simp [upd]
theorem upd_other {α : Type} (f : Nat → α) {i j : Nat} (x : α) (h : j ≠ i) : upd f i x j = f j := by
  show (bif Nat.beq j i then x else f j) = f j
  cases hq : Nat.beq j i with
  | false => rfl
  | true => exact absurd (Nat.eq_of_beq_eq_true hq) h
theorem upd_if {α : Type} (f : Nat → α) (i j : Nat) (x : α) : upd f i x j = if j = i then x else f j := by
  by_cases h : j = i
  · subst h; rw [upd_same, if_pos rfl]
  · rw [upd_other f x h, if_neg h]
abbrev Bl := Nat → Int
def nulB : Bl := fun _ => 0
def rotF (x n : Int) : Int := orA .u64 (shrA .u64 x n) (shlA .u64 x (64 - n))
theorem bloop (bs : ByteArray) : ∀ (n i : Nat) (r : List UInt8), bs.size - i ≤ n → ByteArray.toList.loop bs i r = r.reverse ++ bs.data.toList.drop i
  | 0, i, r, h => by
    rw [ByteArray.toList.loop]
    have h1 : bs.data.size = bs.size := rfl
    rw [if_neg (by omega), List.drop_eq_nil_of_le (by simp; omega)]
    simp
  | n + 1, i, r, h => by
    rw [ByteArray.toList.loop]
    have h1 : bs.data.size = bs.size := rfl
    by_cases hi : i < bs.size
    · rw [if_pos hi, bloop bs n (i + 1) _ (by omega)]
      have : bs.get! i = bs.data.toList[i]'(by simp; omega) := by
        show bs.data[i]! = _
        rw [getElem!_pos bs.data i (by omega)]
        simp
      rw [this]
      rw [List.drop_eq_getElem_cons (i := i) (by simp; omega)]
      simp
    · rw [if_neg hi, List.drop_eq_nil_of_le (by simp; omega)]
      simp
theorem btoList (bs : ByteArray) : bs.toList = bs.data.toList := by
  unfold ByteArray.toList
  rw [bloop bs bs.size 0 [] (by omega)]
  simp
theorem strList_inj {a b : ByteArray} (h : strList a = strList b) : a = b := by
  unfold strList at h
  have h1 : a.data.toList = b.data.toList := by
    refine List.map_inj_right (f := fun b : UInt8 => (b.toNat : Int)) (fun x y hxy => ?_) |>.1 h
    exact UInt8.toNat_inj.1 (Int.ofNat_inj.1 hxy)
  obtain ⟨⟨l⟩⟩ := a
  obtain ⟨⟨m⟩⟩ := b
  simp at h1
  rw [h1]
theorem eqS_dec (a b : ByteArray) : eqS a b = decide (strList a = strList b) := by
  unfold eqS
  rw [btoList, btoList]
  by_cases h : strList a = strList b
  · rw [strList_inj h]; simp
  · have : ¬ a.data.toList = b.data.toList := fun e => h (by unfold strList; rw [e])
    rw [decide_eq_false h]
    exact beq_eq_false_iff_ne.2 this
theorem strList_app (a b : ByteArray) : strList (a ++ b) = strList a ++ strList b := by
  unfold strList
  simp
theorem strList_ext (s : ByteArray) (i j : Nat) : strList (s.extract i j) = ((strList s).take j).drop i := by
  unfold strList
  simp [ByteArray.data_extract]
  rw [List.drop_take]
theorem strList_size (s : ByteArray) : s.size = (strList s).length := by simp [strList]
theorem strList_mk (l : List Int) (h : ∀ x ∈ l, 0 ≤ x ∧ x < 256) : strList (listStr l) = l := by
  unfold strList listStr
  simp only [List.map_map]
  refine (List.map_congr_left (g := id) fun x hx => ?_).trans (by simp)
  have := h x hx
  simp [UInt8.toNat_ofNat']
  omega
theorem strList_rng (s : ByteArray) : ∀ x ∈ strList s, 0 ≤ x ∧ x < 256 := by
  unfold strList
  intro x hx
  simp only [List.mem_map] at hx
  obtain ⟨b, _, rfl⟩ := hx
  have := b.toNat_lt
  omega
abbrev Q9004 := Int × (Int × (Int × (Int × Unit)))
def qF (a b c d x y : Int) : Q9004 :=
  let a1 := addA .u64 a (addA .u64 b x)
  let d1 := rotF (xorA .u64 d a1) 32
  let c1 := addA .u64 c d1
  let b1 := rotF (xorA .u64 b c1) 24
  let a2 := addA .u64 a1 (addA .u64 b1 y)
  let d2 := rotF (xorA .u64 d1 a2) 16
  let c2 := addA .u64 c1 d2
  let b2 := rotF (xorA .u64 b1 c2) 63
  (a2, (b2, (c2, (d2, ()))))
def ordF (r : Int) : Bl := (p_108 (R := Bl) 1301 ((r, ()), ()) some).getD nulB
def ten (P : Int → Prop) : Prop := P 0 ∧ P 1 ∧ P 2 ∧ P 3 ∧ P 4 ∧ P 5 ∧ P 6 ∧ P 7 ∧ P 8 ∧ P 9
theorem ten_mk {α : Type} {f g : Int → α} (h0 : f 0 = g 0) (h1 : f 1 = g 1) (h2 : f 2 = g 2) (h3 : f 3 = g 3) (h4 : f 4 = g 4) (h5 : f 5 = g 5) (h6 : f 6 = g 6) (h7 : f 7 = g 7) (h8 : f 8 = g 8) (h9 : f 9 = g 9) : ten fun r => f r = g r :=
  ⟨h0, h1, h2, h3, h4, h5, h6, h7, h8, h9⟩
theorem ten_all {P : Int → Prop} (h : ten P) {r : Int} (h1 : 0 ≤ r) (h2 : r < 10) : P r := by
  obtain ⟨q0, q1, q2, q3, q4, q5, q6, q7, q8, q9⟩ := h
  have : r = 0 ∨ r = 1 ∨ r = 2 ∨ r = 3 ∨ r = 4 ∨ r = 5 ∨ r = 6 ∨ r = 7 ∨ r = 8 ∨ r = 9 := by omega
  rcases this with h | h | h | h | h | h | h | h | h | h <;> subst h <;> assumption
theorem p108 {R : Type} (κ : Bl → Option R) : ten fun r => p_108 (R := R) 1301 ((r, ()), ()) κ = κ (ordF r) := by
  refine ten_mk ?_ ?_ ?_ ?_ ?_ ?_ ?_ ?_ ?_ ?_ <;> kernel_rfl
def plF : Nat → Bl := (p_107 (R := Nat → Bl) 1301 ((), ()) some).getD (fun _ => nulB)
theorem p107 {R : Type} (κ : (Nat → Bl) → Option R) : p_107 1301 ((), ()) κ = κ plF := by kernel_rfl
def stQ (v : Bl) (i j k l : Nat) (x y : Int) : Bl :=
  let q := qF (v i) (v j) (v k) (v l) x y
  upd (upd (upd (upd v i q.1) j q.2.1) k q.2.2.1) l q.2.2.2.1
def rnd (v x : Bl) : Bl := stQ (stQ (stQ (stQ (stQ (stQ (stQ (stQ v 0 4 8 12 (x 0) (x 1)) 1 5 9 13 (x 2) (x 3)) 2 6 10 14 (x 4) (x 5)) 3 7 11 15 (x 6) (x 7)) 0 5 10 15 (x 8) (x 9)) 1 6 11 12 (x 10) (x 11)) 2 7 8 13 (x 12) (x 13)) 3 4 9 14 (x 14) (x 15)
def sel (s g : Bl) : Bl := fun j => g (Int.toNat (s j))
theorem l99i {R : Type} (g a z v : Bl) (u : Int) (κ) : ten fun r =>
    l_99_17 (R := R) 1301 1301 (((), (), (List.range 16).map g, (), (), (), u, plF, 0, ()), (a, z, v, plF, ordF r, ())) κ =
      κ (((), (), (List.range 16).map g, (), (), u, ()), (a, z, rnd v (sel (ordF r) g), plF, ())) := by
  refine ten_mk ?_ ?_ ?_ ?_ ?_ ?_ ?_ ?_ ?_ ?_ <;> kernel_rfl
def rndsF (g : Bl) : Nat → Nat → Bl → Bl
  | 0, _, v => v
  | n + 1, i, v => rndsF g n (i + 1) (rnd v (sel (ordF ((i : Int) % 10)) g))
theorem p108i {R : Type} {i : Int} (h1 : 0 ≤ i) (κ : Bl → Option R) : p_108 (R := R) 1301 ((i, ()), ()) κ = κ (ordF (i % 10)) := by
  have e : p_108 (R := R) 1301 ((i, ()), ()) κ = p_108 (R := R) 1301 ((i % 10, ()), ()) κ := by
    have m1 := Int.emod_nonneg i (show (10 : Int) ≠ 0 by decide)
    unfold p_108 Q_108
    dsimp only
    rw [bif_f (dF (show ¬ i < 0 by omega)), bif_f (dF (show ¬ i % 10 < 0 by omega)), rem64 h1, rem64 m1, Int.emod_emod]
  rw [e]
  exact ten_all (p108 κ) (Int.emod_nonneg i (by decide)) (Int.emod_lt_of_pos i (by decide))
theorem l99o {R : Type} (g a z : Bl) (κ) : ∀ (n m i : Nat) (v : Bl), i + m = 12 → m < n →
    l_99_13 (R := R) 1301 n (((), (), (List.range 16).map g, (), (), (i : Int), ()), (a, z, v, plF, ())) κ = κ (((), (), (), ()), (a, z, rndsF g m i v, ()))
  | 0, m, i, v, h1, h2 => by omega
  | n + 1, 0, i, v, h1, h2 => by
    unfold l_99_13 B_99_13 C_99_13
    try dsimp only
    rw [bif_f (dF (show ¬ (i : Int) < 12 by omega))]
    rfl
  | n + 1, m + 1, i, v, h1, h2 => by
    unfold l_99_13 B_99_13 C_99_13
    try dsimp only
    have e3 : addA .i64 (i : Int) 1 = ((i + 1 : Nat) : Int) := by rw [add64 (by omega) (by omega)]; simp
    rw [bif_t (dT (show (i : Int) < 12 by omega)), p108i (by omega)]
    try dsimp only
    rw [ten_all (l99i g a z v (i : Int) _) (Int.emod_nonneg _ (by decide)) (Int.emod_lt_of_pos _ (by decide))]
    try dsimp only
    rw [e3]
    exact l99o g a z κ n m (i + 1) _ (by omega) (by omega)
def outQ (a v : Bl) : Bl := upd (upd (upd (upd (upd (upd (upd (upd a 0 (xorA .u64 (a 0) (xorA .u64 (v 0) (v 8)))) 1 (xorA .u64 (a 1) (xorA .u64 (v 1) (v 9)))) 2 (xorA .u64 (a 2) (xorA .u64 (v 2) (v 10)))) 3 (xorA .u64 (a 3) (xorA .u64 (v 3) (v 11)))) 4 (xorA .u64 (a 4) (xorA .u64 (v 4) (v 12)))) 5 (xorA .u64 (a 5) (xorA .u64 (v 5) (v 13)))) 6 (xorA .u64 (a 6) (xorA .u64 (v 6) (v 14)))) 7 (xorA .u64 (a 7) (xorA .u64 (v 7) (v 15)))
theorem l99x {R : Type} (a z v : Bl) (κ) : l_99_24 (R := R) 1301 1301 (((), (), (), 0, ()), (a, z, v, ())) κ = κ (((), (), ()), (outQ a v, z, ())) := by kernel_rfl
def wF (f : Bl) (i : Nat) : Nat → Int
  | 0 => 0
  | k + 1 => orA .u64 (wF f i k) (shlA .u64 (IntKind.wrap .u64 (f (8 * i + k))) ((8 * k : Nat) : Int))
theorem p84 {R : Type} (f : Bl) (κ) : p_84 (R := R) 1301 (((List.range 128).map f, ()), ()) κ = κ (((List.range 16).map (fun i => wF f i 8), (0, ())), ()) := by kernel_rfl
def ivF : Bl := (p_97 (R := Bl) 1301 ((), ()) some).getD nulB
theorem p97 {R : Type} (κ : Bl → Option R) : p_97 1301 ((), ()) κ = κ ivF := by kernel_rfl
def v0F (h : Bl) : Bl := copyF (copyF (Sch.zero (.arr 16 (.int .u64))) 0 (Nat.min 8 8) ((List.range 8).map fun j => h (0 + j)) (Sch.zero (.int .u64))) 8 (Nat.min 8 8) ((List.range 8).map fun j => ivF (0 + j)) (Sch.zero (.int .u64))
def initF (h : Bl) (n : Int) (last : Bool) : Bl :=
  let v := upd (v0F h) 12 (xorA .u64 (v0F h 12) n)
  bif last then upd v 14 (xorA .u64 18446744073709551615 (v 14)) else v
def compF (h f : Bl) (n : Int) (last : Bool) : Bl := outQ h (rndsF (fun i => wF f i 8) 12 0 (initF h n last))
theorem p99q {R : Type} (q45 : Tp_84 R) (q15 : Tp_97 R) (q46 : Tp_107 R) (q17 : Tp_109 R) (q19 : Tp_108 R) (m17 : Tl_99_17 R) (L : Tl_99_13 R) (L2 : Tl_99_24 R) (h f : Bl) (n : Int) (last : Bool) (κ : Bl × (Int × Unit) → Option R)
    (h45 : ∀ κ, q45 (((List.range 128).map f, ()), ()) κ = κ (((List.range 16).map (fun i => wF f i 8), (0, ())), ())) (h15 : q15 = fun _ κ => κ ivF) (h46 : q46 = fun _ κ => κ plF) :
    Q_99 q45 q15 q46 q17 q19 m17 L L2 ((h, (List.range 128).map f, n, last, ()), ()) κ =
      L (((), (), (List.range 16).map (fun i => wF f i 8), (), (), 0, ()), (h, Sch.zero (.arr 8 (.int .u64)), initF h n last, plF, ())) (fun y => L2 (((), (), (), 0, ()), (y.2.1, y.2.2.1, y.2.2.2.1, ())) (fun y => κ (y.2.1, (0, ())))) := by
  subst h15 h46
  unfold Q_99
  dsimp only
  rw [List.length_map, List.length_range, bif_f (show (((128 : Nat) : Int) != 128) = false from rfl), h45]
  cases last <;> kernel_rfl
theorem p99 {R : Type} (h f : Bl) (n : Int) (last : Bool) (κ) : p_99 (R := R) 1301 ((h, (List.range 128).map f, n, last, ()), ()) κ = κ (compF h f n last, (0, ())) := by
  have key := p99q (R := R) (p_84 1301) (p_97 1301) (p_107 1301) (p_109 1301) (p_108 1301) (l_99_17 1301 1301) (l_99_13 1301 1301) (l_99_24 1301 1301) h f n last κ (p84 f) (funext fun x => funext fun κ => p97 κ) (funext fun x => funext fun κ => p107 κ)
  refine Eq.trans ?_ (key.trans ?_)
  · kernel_rfl
  refine (l99o (fun i => wF f i 8) h _ _ 1301 12 0 _ rfl (by decide)).trans ?_
  dsimp only
  rw [l99x]
  rfl
theorem bytes128 {l : List Int} (h : l.length = 128) : l = (List.range 128).map fun j => l.getD j 0 := by
  apply List.ext_getElem
  · simp [h]
  · intro i h1 h2
    simp [h1]
def blk (l : List Int) : Bl := fun j => l.getD j 0
theorem p99b {R : Type} (h : Bl) (l : List Int) (hl : l.length = 128) (n : Int) (last : Bool) (κ) : p_99 (R := R) 1301 ((h, l, n, last, ()), ()) κ = κ (compF h (blk l) n last, (0, ())) := by
  have := p99 (R := R) h (blk l) n last κ
  unfold blk at this
  rwa [← bytes128 hl] at this
def cutN : Nat → List Int → List (List Int) × List Int
  | 0, l => ([], l)
  | n + 1, l => if 128 < l.length then (l.take 128 :: (cutN n (l.drop 128)).1, (cutN n (l.drop 128)).2) else ([], l)
theorem cutN_fuel : ∀ (n m : Nat) (l : List Int), l.length ≤ 128 * n + 128 → l.length ≤ 128 * m + 128 → cutN n l = cutN m l
  | 0, 0, l, _, _ => rfl
  | 0, m + 1, l, h1, _ => by unfold cutN; rw [if_neg (by omega)]
  | n + 1, 0, l, _, h2 => by
    show (if 128 < l.length then _ else _) = _
    rw [if_neg (by omega)]
    rfl
  | n + 1, m + 1, l, h1, h2 => by
    unfold cutN
    by_cases h : 128 < l.length
    · rw [if_pos h, if_pos h, cutN_fuel n m (l.drop 128) (by simp; omega) (by simp; omega)]
    · rw [if_neg h, if_neg h]
def cut' (l : List Int) : List (List Int) × List Int := cutN l.length l
theorem cut_le {l : List Int} (h : l.length ≤ 128) : cut' l = ([], l) := cutN_fuel l.length 0 l (by omega) (by omega)
theorem cut_gt {l : List Int} (h : 128 < l.length) : cut' l = (l.take 128 :: (cut' (l.drop 128)).1, (cut' (l.drop 128)).2) := by
  unfold cut'
  rw [cutN_fuel l.length ((l.drop 128).length + 1) l (by omega) (by simp; omega)]
  show (if 128 < l.length then _ else _) = _
  rw [if_pos h]
theorem cut_app (m : List Int) : ∀ (n : Nat) (l : List Int), l.length ≤ n → cut' (l ++ m) = ((cut' l).1 ++ (cut' ((cut' l).2 ++ m)).1, (cut' ((cut' l).2 ++ m)).2)
  | n, l, hn => by
    by_cases h : 128 < l.length
    · match n, hn with
      | 0, hn => omega
      | n + 1, hn =>
        have ih := cut_app m n (l.drop 128) (by simp; omega)
        rw [cut_gt h, cut_gt (l := l ++ m) (by simp; omega), List.take_append_of_le_length (by omega), List.drop_append_of_le_length (by omega), ih]
        simp
    · rw [cut_le (l := l) (by omega)]
      simp
theorem cut_len : ∀ (n : Nat) (l : List Int), l.length ≤ n → (cut' l).1.length + (cut' l).2.length ≤ l.length ∧ (cut' l).2.length ≤ 128 ∧ 128 * (cut' l).1.length + (cut' l).2.length = l.length ∧ (∀ b ∈ (cut' l).1, b.length = 128) ∧ (128 * (cut' l).1.length ≤ l.length ∧ (cut' l).2 = l.drop (128 * (cut' l).1.length))
  | n, l, hn => by
    by_cases h : 128 < l.length
    · match n, hn with
      | 0, hn => omega
      | n + 1, hn =>
        obtain ⟨h1, h2, h3, h4, h5, h6⟩ := cut_len n (l.drop 128) (by simp; omega)
        rw [List.length_drop] at h1 h3 h5
        rw [cut_gt h]
        refine ⟨by simp; omega, h2, by simp; omega, fun b hb => ?_, by simp; omega, ?_⟩
        · rcases List.mem_cons.1 hb with rfl | hb
          · simp; omega
          · exact h4 b hb
        · show (cut' (l.drop 128)).2 = _
          rw [h6, List.drop_drop]
          congr 1
          simp; omega
    · rw [cut_le (l := l) (by omega)]
      exact ⟨by simp, by simp; omega, by simp, by simp, by simp, by simp⟩
def comps (a : Bl) (d : Int) : List (List Int) → Bl × Int
  | [] => (a, d)
  | b :: bs => comps (compF a (blk b) (addA .u64 d 128) false) (addA .u64 d 128) bs
theorem comps_d : ∀ (x : List (List Int)) (a : Bl) (d : Nat), d + 128 * x.length ≤ 1000000 → (comps a (d : Int) x).2 = ((d + 128 * x.length : Nat) : Int)
  | [], a, d, h => by simp [comps]
  | b :: x, a, d, h => by
    simp only [List.length_cons] at h
    unfold comps
    rw [addU64 (by omega) (by omega), show ((d : Int) + 128) = ((d + 128 : Nat) : Int) by simp, comps_d x _ (d + 128) (by omega)]
    simp; omega
abbrev Fd := Int × (Bool × (Unit × (Int × Unit)))
def fd (t : Int) : Fd := (128, (true, ((), (t, ()))))
theorem p106 {R : Type} (t : Int) (l : List Int) (κ) : p_106 (R := R) 1301 (((), ()), ((128, (true, ((), (t, ())))), l, ())) κ = κ (decide (128 < (l.length : Int))) := rfl
def joinL (P : List ByteArray) : List Int := P.flatMap strList
theorem joinL_empty {P : List ByteArray} (h : ¬ 0 < P.length) : joinL P = [] := by
  have : P = [] := List.eq_nil_of_length_eq_zero (by omega)
  rw [this]; rfl
abbrev Hs := Unit × (Bl × (Int × (Int × Unit)))
def hs (a : Bl) (o d : Int) : Hs := ((), (a, (o, (d, ()))))
def addC (a : Bl) (d : Int) (l m : List Int) : Bl × Int := comps a d (cut' (l ++ m)).1
theorem put1 {R : Type} (s : ByteArray) (h : (strList s).length ≤ 128) (κ0 κ1) :
    ∃ t', p_98_v1 (R := R) 1301 (((), (), ()), (fd 0, [], [s], ())) κ0 κ1 = κ1 ([], (fd t', [s], strList s, ())) := by
  refine ⟨addA .i64 0 ((s.size : Nat) : Int), ?_⟩
  unfold p_98_v1 Q_98_v1 fd
  try dsimp only
  rw [bif_f (show ((128 : Int) == 0) = false from rfl)]
  have inner : ∀ (n : Nat) (u v t : Int) κ, l_98_v1_9 (R := R) 1301 (n + 1) (((), (), (), u, v, ()), ((128, (true, ((), (t, ())))), [s], strList s, [], ())) κ = κ (((), (), (), u, v, ()), ((128, (true, ((), (t, ())))), [s], strList s, [], ())) := by
    intro n u v t κ
    show B_98_v1_9 1301 (fun y => l_98_v1_9 1301 n y κ) _ κ = _
    unfold B_98_v1_9 C_98_v1_9
    try dsimp only
    rw [p106, bif_f (dF (show ¬ (128 : Int) < ((strList s).length : Int) by omega))]
  have step : ∀ (n : Nat) (t : Int) κ, l_98_v1_5 (R := R) 1301 (n + 2) (((), (), (), (([s].length : Nat) : Int), 0, ()), ((128, (true, ((), (t, ())))), [s], [], [], ())) κ = κ (((), (), ()), ((128, (true, ((), (addA .i64 t ((s.size : Nat) : Int), ())))), [s], strList s, [], ())) := by
    intro n t κ
    show B_98_v1_5 1301 (fun y => l_98_v1_5 1301 (n + 1) y κ) _ κ = _
    unfold B_98_v1_5 C_98_v1_5
    try dsimp only
    rw [bif_t (dT (show (0 : Int) < (([s].length : Nat) : Int) by simp)), bif_t (dT (show (0 : Int) ≤ 0 by decide)), bif_t (dT (show (0 : Int) < (([s].length : Nat) : Int) by simp)), show List.getD [s] (Int.toNat 0) (Sch.zero (.str)) = s from rfl, bif_t (show (decide ((List.length ([] : List Int) + (strList s).length) * 1 ≤ 140737488355328) && true) = true by simp; omega), List.nil_append]
    refine (inner 1300 _ _ _ _).trans ?_
    try dsimp only
    show B_98_v1_5 1301 (fun y => l_98_v1_5 1301 n y κ) _ κ = _
    unfold B_98_v1_5 C_98_v1_5
    try dsimp only
    rw [bif_f (dF (show ¬ addA .i64 0 1 < (([s].length : Nat) : Int) by rw [add64 (by decide) (by decide)]; simp))]
  refine (step 1299 0 _).trans ?_
  try dsimp only
  rw [bif_t (dT (show (strList s).length * 1 ≤ 140737488355328 by omega))]
theorem add1 {R : Type} (s : ByteArray) (h : (strList s).length ≤ 128) (a : Bl) (o d : Int) (κ) :
    ∃ t', p_80_v1 (R := R) 1301 (((), (), ()), (hs a o d, fd 0, [], [s], ())) κ = κ ((), (hs a o d, fd t', [s], strList s, ())) := by
  have le : ∀ (n : Nat) (x) κ, l_80_v1_4 (R := R) 1301 (n + 1) (((), [], (((List.length ([] : List (List Int)) : Nat) : Int)), 0, ()), x) κ = κ (((), ()), (((), (x.1.2.1, (x.1.2.2.1, (x.1.2.2.2.1, ())))), (x.2.1.1, (x.2.1.2.1, ((), (x.2.1.2.2.2.1, ())))), x.2.2.1, x.2.2.2.1, ())) := by
    intro n x κ
    show B_80_v1_4 1301 (fun y => l_80_v1_4 1301 n y κ) _ κ = _
    unfold B_80_v1_4 C_80_v1_4
    try dsimp only
    rw [bif_f (dF (show ¬ (0 : Int) < ((List.length ([] : List (List Int)) : Nat) : Int) by simp))]
  obtain ⟨t', ht⟩ := put1 (R := R) s h (fun _ => none) (fun y => l_80_v1_4 1301 1301 (((), y.1, ((y.1.length : Nat) : Int), 0, ()), (hs a o d, (y.2.1.1, (y.2.1.2.1, ((), (y.2.1.2.2.2.1, ())))), y.2.2.1, y.2.2.2.1, ())) (fun y => κ ((), (((), (y.2.1.2.1, (y.2.1.2.2.1, (y.2.1.2.2.2.1, ())))), (y.2.2.1.1, (y.2.2.1.2.1, ((), (y.2.2.1.2.2.2.1, ())))), y.2.2.2.1, y.2.2.2.2.1, ()))))
  refine ⟨t', Eq.trans ?_ (ht.trans ?_)⟩
  · unfold p_80_v1 Q_80_v1
    rfl
  · try dsimp only
    exact le 1300 _ _
def padL (r : List Int) : List Int := r ++ List.replicate (128 - r.length) 0
theorem padL_len {r : List Int} (h : r.length ≤ 128) : (padL r).length = 128 := by unfold padL; simp; omega
def leF (w : Bl) : List Int := (List.range 8).flatMap fun i => (List.range 8).map fun k => IntKind.wrap .u8 (shrA .u64 (w i) ((8 * k : Nat) : Int))
theorem leF_len (w : Bl) : (leF w).length = 64 := rfl
theorem p83 {R : Type} (w : Bl) (κ) : p_83 (R := R) 1301 ((((List.range 8).map fun j => w (0 + j)), ()), ()) κ = κ ((), (leF w, ())) := by kernel_rfl
def finF (a : Bl) (r : List Int) (n o : Int) : ByteArray := listStr ((leF (compF a (blk (padL r)) n true)).take o.toNat)
theorem p81 {R : Type} (a : Bl) (o d t : Int) (r : List Int) (hr : r.length ≤ 128) (h1 : 0 ≤ o) (h2 : o ≤ 64) (κ) :
    p_81_v2 (R := R) 1301 (((), ()), (hs a o d, fd t, r, ())) κ = κ (finF a r (addA .u64 d (r.length : Int)) o, (hs a o d, fd t, r, ())) := by
  have e1 : subA .i64 128 (r.length : Int) = ((128 - r.length : Nat) : Int) := by rw [sub64 (by omega) (by omega)]; omega
  have e2 : IntKind.wrap .u64 (r.length : Int) = (r.length : Int) := by rw [wrapU64]; omega
  have e3 : r ++ List.replicate (128 - r.length) (Sch.zero (.int .u8)) = padL r := rfl
  unfold p_81_v2 Q_81_v2 p_100_v1 Q_100_v1 hs fd
  try dsimp only
  rw [bif_t (dT (show r.length * 1 ≤ 140737488355328 by omega))]
  try dsimp only
  rw [e1, e2, Int.toNat_natCast, e3, bif_t (dT (show (0 : Int) ≤ ((128 - r.length : Nat) : Int) by omega)), bif_t (dT (show ((128 - r.length : Nat) : Int) ≤ 140737488355328 by omega)), bif_t (show (decide ((r.length + (List.replicate (128 - r.length) (Sch.zero (.int .u8))).length) * 1 ≤ 140737488355328) && true) = true by rw [List.length_replicate]; simp; omega), p99b _ _ (padL_len hr)]
  try dsimp only
  rw [p83]
  try dsimp only
  rw [leF_len, bif_t (dT h1), bif_t (dT (show o ≤ ((64 : Nat) : Int) by omega)), bif_t (dT h1)]
  rfl
def keyL (k : List Int) : List Int := if k = [] then [] else padL k
def parF (n size : Int) : Int := xorA .u64 (xorA .u64 16842752 (shlA .u64 (IntKind.wrap .u64 n) 8)) (IntKind.wrap .u64 size)
def st0 (n size : Int) : Bl := upd ivF 0 (xorA .u64 (ivF 0) (parF n size))
theorem p96 {R : Type} (κ0 κ1) : p_96 (R := R) 1301 ((128, true, ()), ()) κ0 κ1 = κ1 (((), (0, ())), (fd 0, [], ())) := by kernel_rfl
theorem eqS_nil (s : ByteArray) : eqS s ⟨#[]⟩ = decide (strList s = []) := by rw [eqS_dec]; rfl
theorem p79 {R : Type} (size : Int) (key : ByteArray) (h1 : 1 ≤ size) (h2 : size ≤ 64) (h3 : (strList key).length ≤ 64) (κ0 κ1 κ2) :
    ∃ t, p_79 (R := R) 1301 ((size, key, ()), ()) κ0 κ1 κ2 = κ2 (((), (0, ())), (hs (st0 ((key.size : Nat) : Int) size) size 0, fd t, keyL (strList key), ())) := by
  have hz := strList_size key
  by_cases hk : strList key = []
  · refine ⟨0, ?_⟩
    unfold p_79 Q_79
    try dsimp only
    rw [bif_f (dF (show ¬ size < 1 by omega)), bif_f (dF (show ¬ size > 64 by omega)), bif_f (dF (show ¬ ((key.size : Nat) : Int) > 64 by omega)), p96]
    try dsimp only
    rw [p97]
    try dsimp only
    rw [eqS_nil, bif_f (show (!decide (strList key = [])) = false by simp [hk])]
    unfold keyL
    rw [if_pos hk]
    rfl
  · have e1 : subA .i64 128 ((key.size : Nat) : Int) = ((128 - (strList key).length : Nat) : Int) := by rw [sub64 (by omega) (by omega)]; omega
    have e2 : strList (listStr (List.replicate (128 - (strList key).length) (Sch.zero (.int .u8)))) = List.replicate (128 - (strList key).length) 0 := by
      refine strList_mk _ fun x hx => ?_
      have : x = 0 := List.eq_of_mem_replicate hx
      omega
    have e3 : strList (key ++ listStr (List.replicate (128 - (strList key).length) (Sch.zero (.int .u8)))) = padL (strList key) := by rw [strList_app, e2]; rfl
    obtain ⟨t, ht⟩ := add1 (R := R) (key ++ listStr (List.replicate (128 - (strList key).length) (Sch.zero (.int .u8)))) (by rw [e3, padL_len (by omega)]; omega) (st0 ((key.size : Nat) : Int) size) size 0
      (fun y => κ2 (((), (0, ())), (((), (y.2.1.2.1, (y.2.1.2.2.1, (y.2.1.2.2.2.1, ())))), (y.2.2.1.1, (y.2.2.1.2.1, ((), (y.2.2.1.2.2.2.1, ())))), y.2.2.2.2.1, ())))
    refine ⟨t, Eq.trans ?_ (ht.trans ?_)⟩
    · unfold p_79 Q_79
      try dsimp only
      rw [bif_f (dF (show ¬ size < 1 by omega)), bif_f (dF (show ¬ size > 64 by omega)), bif_f (dF (show ¬ ((key.size : Nat) : Int) > 64 by omega)), p96]
      try dsimp only
      rw [p97]
      try dsimp only
      have hsz : (listStr (List.replicate (128 - (strList key).length) (Sch.zero (.int .u8)))).size = 128 - (strList key).length := by rw [strList_size, e2, List.length_replicate]
      rw [eqS_nil, bif_t (show (!decide (strList key = [])) = true by simp [hk]), e1, Int.toNat_natCast, bif_t (dT (show (0 : Int) ≤ ((128 - (strList key).length : Nat) : Int) by omega)), bif_t (dT (show ((128 - (strList key).length : Nat) : Int) ≤ ((128 - (strList key).length : Nat) : Int) by omega)), bif_t (dT (show ((1 : Nat) : Int) * ((128 - (strList key).length : Nat) : Int) ≤ 281474976710656 by omega)), bif_t (dT (show ((128 - (strList key).length : Nat) : Int) ≤ 9223372036854775807 by omega)), hsz, bif_t (dT (show key.size + (128 - (strList key).length) ≤ maxI64 by unfold maxI64; omega))]
      rfl
    · unfold keyL
      rw [if_neg hk, ← e3]
theorem cut_three (l : List Int) : (cut' l).2.length ≤ 128 ∧ 128 * (cut' l).1.length + (cut' l).2.length = l.length ∧ (cut' l).2 = l.drop (128 * (cut' l).1.length) := by
  obtain ⟨c1, c2, c3, c4, c5, c6⟩ := cut_len l.length l (Nat.le_refl _)
  exact ⟨c2, c3, c6⟩
def sumF (n size : Int) (l : List Int) : ByteArray := finF (comps (st0 n size) 0 (cut' l).1).1 (cut' l).2 (l.length : Int) size
theorem keyL_len {k : List Int} (h : k.length ≤ 64) : (keyL k).length ≤ 128 := by
  unfold keyL
  split
  · simp
  · rw [padL_len (by omega)]; omega
theorem l98v {R : Type} (S : List ByteArray) (u v t : Int) (κ) : ∀ (n : Nat) (l : List Int) (o : List (List Int)), l.length < 128 * n → l.length ≤ 10000 → o.length + l.length ≤ 20000 →
    l_98_v1_9 (R := R) 1301 n (((), (), (), u, v, ()), (fd t, S, l, o, ())) κ = κ (((), (), (), u, v, ()), (fd t, S, (cut' l).2, o ++ (cut' l).1, ()))
  | 0, l, o, h1, h2, h3 => by omega
  | n + 1, l, o, h1, h2, h3 => by
    show B_98_v1_9 1301 (fun y => l_98_v1_9 1301 n y κ) _ κ = _
    unfold B_98_v1_9 C_98_v1_9
    unfold fd
    try dsimp only
    rw [p106]
    by_cases hl : 128 < l.length
    · have t1 : List.take (Int.toNat 128 - 0) (List.drop 0 l) = l.take 128 := rfl
      have t2 : List.take (l.length - Int.toNat 128) (List.drop (Int.toNat 128) l) = l.drop 128 := by
        rw [List.take_of_length_le]; rfl
        simp
      rw [bif_t (dT (show (128 : Int) < (l.length : Int) by omega)), bif_t (dT (show (0 : Int) ≤ 128 by decide)), bif_t (dT (show (128 : Int) ≤ (l.length : Int) by omega)), bif_t (dT (show (0 : Int) ≤ 128 by decide)), t1, bif_t (dT (show (l.take 128).length * 1 ≤ 140737488355328 by simp; omega)),
        bif_t (show (decide ((o.length + [l.take 128].length) * 24 ≤ 140737488355328) && true) = true by simp; omega), bif_t (dT (show (0 : Int) ≤ (l.length : Int) by omega)), bif_t (dT (show (l.length : Int) ≤ (l.length : Int) by omega)), bif_t (dT (show (0 : Int) ≤ 128 by decide)), bif_t (dT (show (128 : Int) ≤ (l.length : Int) by omega)), t2]
      refine (l98v S u v t κ n (l.drop 128) (o ++ [l.take 128]) (by simp; omega) (by simp; omega) (by simp; omega)).trans ?_
      rw [cut_gt hl]
      unfold fd
      simp
    · rw [bif_f (dF (show ¬ (128 : Int) < (l.length : Int) by omega)), cut_le (by omega)]
      simp
theorem put2 {R : Type} (s : ByteArray) (t : Int) (l : List Int) (h : l.length + (strList s).length ≤ 10000) (κ0 κ1) :
    ∃ t', p_98_v1 (R := R) 1301 (((), (), ()), (fd t, l, [s], ())) κ0 κ1 = κ1 ((cut' (l ++ strList s)).1, (fd t', [s], (cut' (l ++ strList s)).2, ())) := by
  obtain ⟨c1, c2, c3⟩ := cut_three (l ++ strList s)
  refine ⟨addA .i64 t ((s.size : Nat) : Int), ?_⟩
  unfold p_98_v1 Q_98_v1 fd
  try dsimp only
  rw [bif_f (show ((128 : Int) == 0) = false from rfl)]
  have step : ∀ (n : Nat) (t : Int) κ, l_98_v1_5 (R := R) 1301 (n + 2) (((), (), (), (([s].length : Nat) : Int), 0, ()), ((128, (true, ((), (t, ())))), [s], l, [], ())) κ = κ (((), (), ()), ((128, (true, ((), (addA .i64 t ((s.size : Nat) : Int), ())))), [s], (cut' (l ++ strList s)).2, [] ++ (cut' (l ++ strList s)).1, ())) := by
    intro n t κ
    show B_98_v1_5 1301 (fun y => l_98_v1_5 1301 (n + 1) y κ) _ κ = _
    unfold B_98_v1_5 C_98_v1_5
    try dsimp only
    rw [bif_t (dT (show (0 : Int) < (([s].length : Nat) : Int) by simp)), bif_t (dT (show (0 : Int) ≤ 0 by decide)), bif_t (dT (show (0 : Int) < (([s].length : Nat) : Int) by simp)), show List.getD [s] (Int.toNat 0) (Sch.zero (.str)) = s from rfl, bif_t (show (decide ((l.length + (strList s).length) * 1 ≤ 140737488355328) && true) = true by simp; omega)]
    refine (l98v [s] _ _ (addA .i64 t ((s.size : Nat) : Int)) _ 1301 (l ++ strList s) [] (by rw [List.length_append]; omega) (by rw [List.length_append]; omega) (by rw [List.length_append, List.length_nil]; omega)).trans ?_
    unfold fd
    try dsimp only
    show B_98_v1_5 1301 (fun y => l_98_v1_5 1301 n y κ) _ κ = _
    unfold B_98_v1_5 C_98_v1_5
    try dsimp only
    rw [bif_f (dF (show ¬ addA .i64 0 1 < (([s].length : Nat) : Int) by rw [add64 (by decide) (by decide)]; simp))]
  refine (step 1299 t _).trans ?_
  try dsimp only
  rw [bif_t (dT (show (cut' (l ++ strList s)).2.length * 1 ≤ 140737488355328 by omega)), List.nil_append]
theorem l80v {R : Type} (bs : List (List Int)) (hbs : ∀ b ∈ bs, b.length = 128) (hl : bs.length ≤ 1300) (o t : Int) (S : List ByteArray) (r : List Int) (κ) : ∀ (n i : Nat) (a : Bl) (d : Int), i ≤ bs.length → bs.length - i < n →
    l_80_v1_4 (R := R) 1301 n (((), bs, (bs.length : Int), (i : Int), ()), (hs a o d, fd t, S, r, ())) κ = κ (((), ()), (hs (comps a d (bs.drop i)).1 o (comps a d (bs.drop i)).2, fd t, S, r, ()))
  | 0, i, a, d, h1, h2 => by omega
  | n + 1, i, a, d, h1, h2 => by
    show B_80_v1_4 1301 (fun y => l_80_v1_4 1301 n y κ) _ κ = _
    unfold B_80_v1_4 C_80_v1_4
    by_cases hi : i < bs.length
    · have hd : bs.drop i = bs[i] :: bs.drop (i + 1) := List.drop_eq_getElem_cons hi
      have hg : List.getD bs i (Sch.zero (.sl (.int .u8))) = bs[i] := by simp [hi]
      have e3 : addA .i64 (i : Int) 1 = ((i + 1 : Nat) : Int) := by rw [add64 (by omega) (by omega)]; simp
      unfold hs fd
      try dsimp only
      rw [bif_t (dT (show (i : Int) < (bs.length : Int) by omega)), bif_t (dT (show (0 : Int) ≤ (i : Int) by omega)), bif_t (dT (show (i : Int) < (bs.length : Int) by omega)), Int.toNat_natCast, hg, p99b _ _ (hbs _ (List.getElem_mem hi))]
      try dsimp only
      rw [e3, hd]
      exact l80v bs hbs hl o t S r κ n (i + 1) _ _ (by omega) (by omega)
    · unfold hs fd
      try dsimp only
      rw [bif_f (dF (show ¬ (i : Int) < (bs.length : Int) by omega)), List.drop_eq_nil_of_le (by omega)]
      rfl
theorem add2 {R : Type} (s : ByteArray) (a : Bl) (o d t : Int) (l : List Int) (h : l.length + (strList s).length ≤ 10000) (κ) :
    ∃ t', p_80_v1 (R := R) 1301 (((), (), ()), (hs a o d, fd t, l, [s], ())) κ = κ ((), (hs (addC a d l (strList s)).1 o (addC a d l (strList s)).2, fd t', [s], (cut' (l ++ strList s)).2, ())) := by
  obtain ⟨c1, c2, c3, c4, c5, c6⟩ := cut_len (l ++ strList s).length (l ++ strList s) (Nat.le_refl _)
  rw [List.length_append] at c3
  obtain ⟨t', ht⟩ := put2 (R := R) s t l h (fun _ => none) (fun y => l_80_v1_4 1301 1301 (((), y.1, ((y.1.length : Nat) : Int), 0, ()), (hs a o d, (y.2.1.1, (y.2.1.2.1, ((), (y.2.1.2.2.2.1, ())))), y.2.2.1, y.2.2.2.1, ())) (fun y => κ ((), (((), (y.2.1.2.1, (y.2.1.2.2.1, (y.2.1.2.2.2.1, ())))), (y.2.2.1.1, (y.2.2.1.2.1, ((), (y.2.2.1.2.2.2.1, ())))), y.2.2.2.1, y.2.2.2.2.1, ()))))
  refine ⟨t', Eq.trans ?_ (ht.trans ?_)⟩
  · unfold p_80_v1 Q_80_v1
    rfl
  · try dsimp only
    refine (l80v (cut' (l ++ strList s)).1 c4 (by omega) o t' [s] _ _ 1301 0 a d (Nat.zero_le _) (by omega)).trans ?_
    rfl
theorem p82l {R : Type} (size : Int) (key : ByteArray) (h1 : 1 ≤ size) (h2 : size ≤ 64) (h3 : (strList key).length ≤ 64) (T : ByteArray) (hb : (strList T).length ≤ 2000) (κ) :
    p_82 (R := R) 1301 ((size, key, (), ()), ([T], ())) κ = κ ((sumF ((key.size : Nat) : Int) size (keyL (strList key) ++ strList T), (0, ())), ([T], ())) := by
  have hkl := keyL_len h3
  obtain ⟨c1, c2, c3⟩ := cut_three (keyL (strList key) ++ strList T)
  rw [List.length_append] at c2
  have hd := comps_d (cut' (keyL (strList key) ++ strList T)).1 (st0 ((key.size : Nat) : Int) size) 0 (by omega)
  have hd' : (comps (st0 ((key.size : Nat) : Int) size) 0 (cut' (keyL (strList key) ++ strList T)).1).2 = ((0 + 128 * (cut' (keyL (strList key) ++ strList T)).1.length : Nat) : Int) := hd
  unfold p_82 Q_82
  try dsimp only
  obtain ⟨t, ht⟩ := p79 (R := R) size key h1 h2 h3
    (fun y1003 => bif (y1003.1.2.1 != 0) then κ ((⟨#[]⟩, (y1003.1.2.1, ())), ([T], ())) else (p_80_v2 1301 (((), (), ()), ([T], ())) (fun y1006 => p_81 1301 (((), ()), ()) (fun y1008 => κ ((y1008.1, (0, ())), (y1006.2.1, ()))))))
    (fun y1010 => bif (y1010.1.2.1 != 0) then κ ((⟨#[]⟩, (y1010.1.2.1, ())), ([T], ())) else (p_80 1301 (((), (), ()), (((), (y1010.2.1.2.1, (y1010.2.1.2.2.1, (y1010.2.1.2.2.2.1, ())))), [T], ())) (fun y1015 => p_81_v1 1301 (((), ()), (((), (y1015.2.1.2.1, (y1015.2.1.2.2.1, (y1015.2.1.2.2.2.1, ())))), ())) (fun y1065 => κ ((y1065.1, (0, ())), (y1015.2.2.1, ()))))))
    (fun y => bif (y.1.2.1 != 0) then κ ((⟨#[]⟩, (y.1.2.1, ())), ([T], ())) else (p_80_v1 1301 (((), (), ()), (((), (y.2.1.2.1, (y.2.1.2.2.1, (y.2.1.2.2.2.1, ())))), (y.2.2.1.1, (y.2.2.1.2.1, ((), (y.2.2.1.2.2.2.1, ())))), y.2.2.2.1, [T], ())) (fun z => p_81_v2 1301 (((), ()), (((), (z.2.1.2.1, (z.2.1.2.2.1, (z.2.1.2.2.2.1, ())))), (z.2.2.1.1, (z.2.2.1.2.1, ((), (z.2.2.1.2.2.2.1, ())))), z.2.2.2.2.1, ())) (fun y => κ ((y.1, (0, ())), (z.2.2.2.1, ()))))))
  refine ht.trans ?_
  unfold hs fd
  try dsimp only
  rw [bif_f (show ((0 : Int) != 0) = false from rfl)]
  obtain ⟨t', ht'⟩ := add2 (R := R) T (st0 ((key.size : Nat) : Int) size) size 0 t (keyL (strList key)) (by omega) (fun z => p_81_v2 1301 (((), ()), (((), (z.2.1.2.1, (z.2.1.2.2.1, (z.2.1.2.2.2.1, ())))), (z.2.2.1.1, (z.2.2.1.2.1, ((), (z.2.2.1.2.2.2.1, ())))), z.2.2.2.2.1, ())) (fun y => κ ((y.1, (0, ())), (z.2.2.2.1, ()))))
  refine ht'.trans ?_
  try dsimp only
  refine (p81 _ size _ t' _ c1 (by omega) h2 _).trans ?_
  try dsimp only
  unfold addC hs
  try dsimp only
  rw [hd', addU64 (by omega) (by omega)]
  unfold sumF
  rw [List.length_append]
  congr 4
  omega
def totL (t : Int) (P : List ByteArray) : Int := P.foldl (fun t s => addA .i64 t ((s.size : Nat) : Int)) t
theorem put3 {R : Type} (s : ByteArray) (t : Int) (l : List Int) (h : l.length + (strList s).length ≤ 10000) (κ0 κ1) :
    p_98_v1 (R := R) 1301 (((), (), ()), (fd t, l, [s], ())) κ0 κ1 = κ1 ((cut' (l ++ strList s)).1, (fd (addA .i64 t ((s.size : Nat) : Int)), [s], (cut' (l ++ strList s)).2, ())) := by
  obtain ⟨c1, c2, c3⟩ := cut_three (l ++ strList s)
  unfold p_98_v1 Q_98_v1 fd
  try dsimp only
  rw [bif_f (show ((128 : Int) == 0) = false from rfl)]
  have step : ∀ (n : Nat) (t : Int) κ, l_98_v1_5 (R := R) 1301 (n + 2) (((), (), (), (([s].length : Nat) : Int), 0, ()), ((128, (true, ((), (t, ())))), [s], l, [], ())) κ = κ (((), (), ()), ((128, (true, ((), (addA .i64 t ((s.size : Nat) : Int), ())))), [s], (cut' (l ++ strList s)).2, [] ++ (cut' (l ++ strList s)).1, ())) := by
    intro n t κ
    show B_98_v1_5 1301 (fun y => l_98_v1_5 1301 (n + 1) y κ) _ κ = _
    unfold B_98_v1_5 C_98_v1_5
    try dsimp only
    rw [bif_t (dT (show (0 : Int) < (([s].length : Nat) : Int) by simp)), bif_t (dT (show (0 : Int) ≤ 0 by decide)), bif_t (dT (show (0 : Int) < (([s].length : Nat) : Int) by simp)), show List.getD [s] (Int.toNat 0) (Sch.zero (.str)) = s from rfl, bif_t (show (decide ((l.length + (strList s).length) * 1 ≤ 140737488355328) && true) = true by simp; omega)]
    refine (l98v [s] _ _ (addA .i64 t ((s.size : Nat) : Int)) _ 1301 (l ++ strList s) [] (by rw [List.length_append]; omega) (by rw [List.length_append]; omega) (by rw [List.length_append, List.length_nil]; omega)).trans ?_
    unfold fd
    try dsimp only
    show B_98_v1_5 1301 (fun y => l_98_v1_5 1301 n y κ) _ κ = _
    unfold B_98_v1_5 C_98_v1_5
    try dsimp only
    rw [bif_f (dF (show ¬ addA .i64 0 1 < (([s].length : Nat) : Int) by rw [add64 (by decide) (by decide)]; simp))]
  refine (step 1299 t _).trans ?_
  try dsimp only
  rw [bif_t (dT (show (cut' (l ++ strList s)).2.length * 1 ≤ 140737488355328 by omega)), List.nil_append]
theorem add3 {R : Type} (s : ByteArray) (a : Bl) (o d t : Int) (l : List Int) (h : l.length + (strList s).length ≤ 10000) (κ) :
    p_80_v1 (R := R) 1301 (((), (), ()), (hs a o d, fd t, l, [s], ())) κ = κ ((), (hs (addC a d l (strList s)).1 o (addC a d l (strList s)).2, fd (addA .i64 t ((s.size : Nat) : Int)), [s], (cut' (l ++ strList s)).2, ())) := by
  obtain ⟨c1, c2, c3, c4, c5, c6⟩ := cut_len (l ++ strList s).length (l ++ strList s) (Nat.le_refl _)
  rw [List.length_append] at c3
  have ht := put3 (R := R) s t l h (fun _ => none) (fun y => l_80_v1_4 1301 1301 (((), y.1, ((y.1.length : Nat) : Int), 0, ()), (hs a o d, (y.2.1.1, (y.2.1.2.1, ((), (y.2.1.2.2.2.1, ())))), y.2.2.1, y.2.2.2.1, ())) (fun y => κ ((), (((), (y.2.1.2.1, (y.2.1.2.2.1, (y.2.1.2.2.2.1, ())))), (y.2.2.1.1, (y.2.2.1.2.1, ((), (y.2.2.1.2.2.2.1, ())))), y.2.2.2.1, y.2.2.2.2.1, ()))))
  refine Eq.trans ?_ (ht.trans ?_)
  · unfold p_80_v1 Q_80_v1
    rfl
  · try dsimp only
    refine (l80v (cut' (l ++ strList s)).1 c4 (by omega) o (addA .i64 t ((s.size : Nat) : Int)) [s] _ _ 1301 0 a d (Nat.zero_le _) (by omega)).trans ?_
    rfl
def le4 (x : Int) : List Int := [IntKind.wrap .u8 x, IntKind.wrap .u8 (shrA .u32 x 8), IntKind.wrap .u8 (shrA .u32 x 16), IntKind.wrap .u8 (shrA .u32 x 24)]
theorem p53 {R : Type} (x : Int) (κ) : p_53 (R := R) 1301 (((), ()), ([x], ())) κ = κ (le4 x, ([x], ())) := by kernel_rfl
theorem le4_len (x : Int) : (le4 x).length = 4 := rfl
theorem le4_str (x : Int) : strList (listStr (le4 x)) = le4 x := by
  refine strList_mk _ fun y hy => ?_
  unfold le4 at hy
  simp only [List.mem_cons, List.not_mem_nil, or_false] at hy
  rcases hy with rfl | rfl | rfl | rfl <;> (rw [wrapU8]; omega)
theorem p79e {R : Type} (size : Int) (h1 : 1 ≤ size) (h2 : size ≤ 64) (κ0 κ1 κ2) : p_79 (R := R) 1301 ((size, ⟨#[]⟩, ()), ()) κ0 κ1 κ2 = κ2 (((), (0, ())), (hs (st0 0 size) size 0, fd 0, [], ())) := by
  unfold p_79 Q_79
  try dsimp only
  rw [bif_f (dF (show ¬ size < 1 by omega)), bif_f (dF (show ¬ size > 64 by omega)), bif_f (show decide (((ByteArray.size ⟨#[]⟩ : Nat) : Int) > 64) = false from rfl), p96]
  try dsimp only
  rw [p97]
  try dsimp only
  rw [eqS_nil, bif_f (show (!decide (strList ⟨#[]⟩ = [])) = false from rfl)]
  rfl
theorem p82e {R : Type} (size : Int) (h1 : 1 ≤ size) (h2 : size ≤ 64) (T : ByteArray) (hb : (strList T).length ≤ 2000) (κ) :
    p_82 (R := R) 1301 ((size, ⟨#[]⟩, (), ()), ([T], ())) κ = κ ((sumF 0 size (strList T), (0, ())), ([T], ())) :=
  p82l size ⟨#[]⟩ h1 h2 (by show 0 ≤ 64; omega) T hb κ
theorem sum_len (n size : Int) (l : List Int) (h1 : 1 ≤ size) (h2 : size ≤ 64) : (strList (sumF n size l)).length = size.toNat := by
  unfold sumF finF
  rw [strList_mk, List.length_take, leF_len]
  · omega
  · intro x hx
    have hx := List.mem_of_mem_take hx
    unfold leF at hx
    obtain ⟨i, _, hx⟩ := List.mem_flatMap.1 hx
    obtain ⟨k, _, rfl⟩ := List.mem_map.1 hx
    rw [wrapU8]
    omega
def longGo (size : Int) : Nat → ByteArray → List Int → ByteArray × List Int
  | 0, s, o => (s, o)
  | n + 1, s, o => if size - (o.length : Int) > 64 then longGo size n (sumF 0 64 (strList s)) (o ++ (strList (sumF 0 64 (strList s))).take 32) else (s, o)
theorem longGo_spec (size : Int) : ∀ (n : Nat) (s : ByteArray) (o : List Int), (strList s).length ≤ 64 → 33 ≤ size - (o.length : Int) → size - (o.length : Int) ≤ 64 + 32 * (n : Int) →
    (strList (longGo size n s o).1).length ≤ 64 ∧ 33 ≤ size - ((longGo size n s o).2.length : Int) ∧ size - ((longGo size n s o).2.length : Int) ≤ 64 ∧ o.length ≤ (longGo size n s o).2.length
  | 0, s, o, h1, h2, h3 => ⟨h1, h2, by show size - (o.length : Int) ≤ 64; omega, Nat.le_refl _⟩
  | n + 1, s, o, h1, h2, h3 => by
    have hl := sum_len 0 64 (strList s) (by decide) (by decide)
    have hl : (strList (sumF 0 64 (strList s))).length = 64 := hl
    unfold longGo
    by_cases h : size - (o.length : Int) > 64
    · rw [if_pos h]
      have ho : (o ++ (strList (sumF 0 64 (strList s))).take 32).length = o.length + 32 := by rw [List.length_append, List.length_take]; omega
      obtain ⟨q1, q2, q3, q4⟩ := longGo_spec size n (sumF 0 64 (strList s)) (o ++ (strList (sumF 0 64 (strList s))).take 32) (by omega) (by rw [ho]; omega) (by rw [ho]; omega)
      exact ⟨q1, q2, q3, by rw [ho] at q4; omega⟩
    · rw [if_neg h]
      exact ⟨h1, h2, by show size - (o.length : Int) ≤ 64; omega, Nat.le_refl _⟩
theorem l49h {R : Type} (size : Int) (S : List ByteArray) (κ) : ∀ (n : Nat) (s : ByteArray) (o : List Int), (strList s).length ≤ 64 → 33 ≤ size - (o.length : Int) → size - (o.length : Int) ≤ 32 + 32 * (n : Int) → size ≤ 70000 →
    l_49_8 (R := R) 1301 n ((size, s, (), ()), (S, o, ())) κ = κ ((size, (longGo size n s o).1, (), ()), (S, (longGo size n s o).2, ()))
  | 0, s, o, h1, h2, h3, h4 => by omega
  | n + 1, s, o, h1, h2, h3, h4 => by
    have hl : (strList (sumF 0 64 (strList s))).length = 64 := sum_len 0 64 (strList s) (by decide) (by decide)
    have hz := strList_size (sumF 0 64 (strList s))
    show B_49_8 1301 (fun y => l_49_8 1301 n y κ) _ κ = _
    unfold B_49_8 C_49_8 longGo
    try dsimp only
    rw [sub64 (by omega) (by omega)]
    by_cases h : size - (o.length : Int) > 64
    · have ex : strList ((sumF 0 64 (strList s)).extract 0 32) = (strList (sumF 0 64 (strList s))).take 32 := by rw [strList_ext]; rfl
      have ho : (o ++ (strList (sumF 0 64 (strList s))).take 32).length = o.length + 32 := by rw [List.length_append, List.length_take]; omega
      rw [if_pos h, bif_t (dT h), p82e 64 (by decide) (by decide) s (by omega)]
      try dsimp only
      rw [bif_t (dT (show (32 : Int) ≤ (((sumF 0 64 (strList s)).size : Nat) : Int) by omega)), ex, bif_t (show (decide ((o.length + ((strList (sumF 0 64 (strList s))).take 32).length) * 1 ≤ 140737488355328) && true) = true by rw [List.length_take]; simp; omega)]
      exact l49h size S κ n _ _ (by omega) (by rw [ho]; omega) (by rw [ho]; omega) h4
    · rw [if_neg h, bif_f (dF h)]
def longS (size : Int) (l : List Int) : ByteArray := sumF 0 (minA size 64) (le4 (IntKind.wrap .u32 size) ++ l)
def longR (size : Int) (l : List Int) : ByteArray × List Int := longGo size 1301 (longS size l) ((strList (longS size l)).take 32)
def longF (size : Int) (l : List Int) : List Int :=
  if size ≤ 64 then strList (longS size l) else (longR size l).2 ++ strList (sumF 0 (size - ((longR size l).2.length : Int)) (strList (longR size l).1))
def longB (size : Int) (l : List Int) : ByteArray := if size ≤ 64 then longS size l else listStr (longF size l)
theorem min64 {size : Int} (h1 : 1 ≤ size) : 1 ≤ minA size 64 ∧ minA size 64 ≤ 64 ∧ (size ≤ 64 → minA size 64 = size) ∧ (64 < size → minA size 64 = 64) := by
  unfold minA
  by_cases h : (64 : Int) < size
  · rw [if_pos h]; exact ⟨by decide, by decide, fun _ => by omega, fun _ => rfl⟩
  · rw [if_neg h]; exact ⟨h1, by omega, fun _ => rfl, fun _ => by omega⟩
theorem longR_spec {size : Int} (h1 : 64 < size) (h2 : size ≤ 32032) (l : List Int) : (strList (longS size l)).length = 64 ∧ (strList (longR size l).1).length ≤ 64 ∧ 33 ≤ size - ((longR size l).2.length : Int) ∧ size - ((longR size l).2.length : Int) ≤ 64 := by
  obtain ⟨m1, m2, m3, m4⟩ := min64 (size := size) (by omega)
  have hl : (strList (longS size l)).length = 64 := by unfold longS; rw [sum_len _ _ _ m1 m2, m4 h1]; rfl
  have ht : ((strList (longS size l)).take 32).length = 32 := by rw [List.length_take]; omega
  obtain ⟨q1, q2, q3, q4⟩ := longGo_spec size 1301 (longS size l) ((strList (longS size l)).take 32) (by omega) (by rw [ht]; omega) (by rw [ht]; omega)
  exact ⟨hl, q1, q2, q3⟩
theorem longF_len {size : Int} (h1 : 1 ≤ size) (h2 : size ≤ 32032) (l : List Int) : ((longF size l).length : Int) = size := by
  obtain ⟨m1, m2, m3, m4⟩ := min64 h1
  unfold longF
  by_cases h : size ≤ 64
  · rw [if_pos h]
    unfold longS
    rw [sum_len _ _ _ m1 m2, m3 h]
    omega
  · rw [if_neg h]
    obtain ⟨q0, q1, q2, q3⟩ := longR_spec (by omega) h2 l
    rw [List.length_append, sum_len _ _ _ (by omega) q3]
    omega
theorem longB_str {size : Int} (l : List Int) : strList (longB size l) = longF size l := by
  unfold longB
  by_cases h : size ≤ 64
  · rw [if_pos h]; unfold longF; rw [if_pos h]
  · rw [if_neg h]
    refine strList_mk _ fun x hx => ?_
    unfold longF at hx
    rw [if_neg h] at hx
    have key : ∀ (n : Nat) (s : ByteArray) (o : List Int), (∀ x ∈ o, 0 ≤ x ∧ x < 256) → ∀ x ∈ (longGo size n s o).2, 0 ≤ x ∧ x < 256 := by
      intro n
      induction n with
      | zero => intro s o ho; exact ho
      | succ n ih =>
        intro s o ho
        unfold longGo
        split
        · refine ih _ _ fun x hx => ?_
          rcases List.mem_append.1 hx with hx | hx
          · exact ho x hx
          · exact strList_rng _ x (List.mem_of_mem_take hx)
        · exact ho
    rcases List.mem_append.1 hx with hx | hx
    · exact key _ _ _ (fun x hx => strList_rng _ x (List.mem_of_mem_take hx)) x hx
    · exact strList_rng _ x hx
theorem fin_sum (n size : Int) (L : List Int) (h : L.length ≤ 5000) : finF (comps (st0 n size) 0 (cut' L).1).1 (cut' L).2 (addA .u64 (comps (st0 n size) 0 (cut' L).1).2 ((cut' L).2.length : Int)) size = sumF n size L := by
  obtain ⟨c1, c2, c3⟩ := cut_three L
  have hd := comps_d (cut' L).1 (st0 n size) 0 (by omega)
  have hd' : (comps (st0 n size) 0 (cut' L).1).2 = ((0 + 128 * (cut' L).1.length : Nat) : Int) := hd
  rw [hd', addU64 (by omega) (by omega)]
  unfold sumF
  congr 1
  omega
theorem add_two (a : Bl) (d : Int) (x y : List Int) (h : x.length ≤ 128) : cut' x = ([], x) ∧ addC a d [] x = (a, d) := by
  refine ⟨cut_le h, ?_⟩
  unfold addC
  rw [List.nil_append, cut_le h]
  rfl
theorem l98P {R : Type} (P : List ByteArray) (hP : P.length ≤ 1300) (κ) : ∀ (n i : Nat) (t : Int) (l : List Int) (o : List (List Int)), i ≤ P.length → P.length - i < n → o.length + l.length + (joinL (P.drop i)).length ≤ 10000 →
    l_98_v1_5 (R := R) 1301 n (((), (), (), (P.length : Int), (i : Int), ()), (fd t, P, l, o, ())) κ =
      κ (((), (), ()), (fd (totL t (P.drop i)), P, (if i < P.length then (cut' (l ++ joinL (P.drop i))).2 else l), (if i < P.length then o ++ (cut' (l ++ joinL (P.drop i))).1 else o), ()))
  | 0, i, t, l, o, h1, h2, h3 => by omega
  | n + 1, i, t, l, o, h1, h2, h3 => by
    by_cases hi : i < P.length
    · have hd : P.drop i = P[i] :: P.drop (i + 1) := List.drop_eq_getElem_cons hi
      have hg : List.getD P i (Sch.zero (.str)) = P[i] := by simp [hi]
      have hj : joinL (P.drop i) = strList P[i] ++ joinL (P.drop (i + 1)) := by rw [hd]; rfl
      have e3 : addA .i64 (i : Int) 1 = ((i + 1 : Nat) : Int) := by rw [add64 (by omega) (by omega)]; simp
      rw [hj, List.length_append] at h3
      obtain ⟨c1, c2, c3, c4, c5, c6⟩ := cut_len (l ++ strList P[i]).length (l ++ strList P[i]) (Nat.le_refl _)
      rw [List.length_append] at c1
      have ht := l98P P hP κ n (i + 1) (addA .i64 t ((P[i].size : Nat) : Int)) (cut' (l ++ strList P[i])).2 (o ++ (cut' (l ++ strList P[i])).1) (by omega) (by omega) (by rw [List.length_append]; omega)
      refine Eq.trans ?_ (ht.trans ?_)
      · show B_98_v1_5 1301 (fun y => l_98_v1_5 1301 n y κ) _ κ = _
        unfold B_98_v1_5 C_98_v1_5
        unfold fd
        try dsimp only
        rw [bif_t (dT (show (i : Int) < (P.length : Int) by omega)), bif_t (dT (show (0 : Int) ≤ (i : Int) by omega)), bif_t (dT (show (i : Int) < (P.length : Int) by omega)), Int.toNat_natCast, hg, bif_t (show (decide ((l.length + (strList P[i]).length) * 1 ≤ 140737488355328) && true) = true by simp; omega)]
        refine (l98v P (P.length : Int) (i : Int) (addA .i64 t ((P[i].size : Nat) : Int)) _ 1301 (l ++ strList P[i]) o (by rw [List.length_append]; omega) (by rw [List.length_append]; omega) (by rw [List.length_append]; omega)).trans ?_
        unfold fd
        try dsimp only
        rw [e3]
      · have ca := cut_app (joinL (P.drop (i + 1))) (l ++ strList P[i]).length (l ++ strList P[i]) (Nat.le_refl _)
        rw [if_pos hi, if_pos hi, hj, ← List.append_assoc, ca, show totL t (P.drop i) = totL (addA .i64 t ((P[i].size : Nat) : Int)) (P.drop (i + 1)) by rw [hd]; rfl]
        by_cases h4 : i + 1 < P.length
        · rw [if_pos h4, if_pos h4, List.append_assoc]
        · rw [if_neg h4, if_neg h4, show P.drop (i + 1) = [] from List.drop_eq_nil_of_le (by omega)]
          show _ = κ (_, (_, (_, (cut' ((cut' (l ++ strList P[i])).2 ++ [])).2, o ++ ((cut' (l ++ strList P[i])).1 ++ (cut' ((cut' (l ++ strList P[i])).2 ++ [])).1), ())))
          rw [List.append_nil, cut_le c2, List.append_nil]
    · rw [if_neg hi, if_neg hi, show P.drop i = [] from List.drop_eq_nil_of_le (by omega)]
      unfold l_98_v1_5 B_98_v1_5 C_98_v1_5
      unfold fd
      try dsimp only
      rw [bif_f (dF (show ¬ (i : Int) < (P.length : Int) by omega))]
      rfl
theorem p98P {R : Type} (P : List ByteArray) (hP : P.length ≤ 1300) (t : Int) (l : List Int) (hl : l.length ≤ 128) (hb : l.length + (joinL P).length ≤ 10000) (κ0 κ1) :
    p_98_v1 (R := R) 1301 (((), (), ()), (fd t, l, P, ())) κ0 κ1 = κ1 ((cut' (l ++ joinL P)).1, (fd (totL t P), P, (cut' (l ++ joinL P)).2, ())) := by
  obtain ⟨c1, c2, c3, c4, c5, c6⟩ := cut_len (l ++ joinL P).length (l ++ joinL P) (Nat.le_refl _)
  rw [List.length_append] at c1
  have ht := l98P (R := R) P hP (fun y => bif decide (y.2.2.2.1.length * 1 ≤ 140737488355328) then κ1 (y.2.2.2.2.1, ((y.2.1.1, (y.2.1.2.1, ((), (y.2.1.2.2.2.1, ())))), y.2.2.1, y.2.2.2.1, ())) else none) 1301 0 t l [] (Nat.zero_le _) (by omega) (by simp only [List.length_nil, List.drop_zero]; omega)
  rw [List.drop_zero] at ht
  refine Eq.trans ?_ (ht.trans ?_)
  · unfold p_98_v1 Q_98_v1
    unfold fd
    try dsimp only
    rw [bif_f (show ((128 : Int) == 0) = false from rfl)]
    rfl
  · by_cases h0 : 0 < P.length
    · rw [if_pos h0, if_pos h0]
      try dsimp only
      rw [bif_t (dT (show (cut' (l ++ joinL P)).2.length * 1 ≤ 140737488355328 by omega))]
      rfl
    · rw [if_neg h0, if_neg h0, joinL_empty h0, List.append_nil, cut_le hl]
      try dsimp only
      rw [bif_t (dT (show l.length * 1 ≤ 140737488355328 by omega))]
theorem addP {R : Type} (P : List ByteArray) (hP : P.length ≤ 1300) (a : Bl) (o d t : Int) (l : List Int) (hl : l.length ≤ 128) (h : l.length + (joinL P).length ≤ 10000) (κ) :
    p_80_v1 (R := R) 1301 (((), (), ()), (hs a o d, fd t, l, P, ())) κ = κ ((), (hs (addC a d l (joinL P)).1 o (addC a d l (joinL P)).2, fd (totL t P), P, (cut' (l ++ joinL P)).2, ())) := by
  obtain ⟨c1, c2, c3, c4, c5, c6⟩ := cut_len (l ++ joinL P).length (l ++ joinL P) (Nat.le_refl _)
  rw [List.length_append] at c3
  have ht := p98P (R := R) P hP t l hl h (fun _ => none) (fun y => l_80_v1_4 1301 1301 (((), y.1, ((y.1.length : Nat) : Int), 0, ()), (hs a o d, (y.2.1.1, (y.2.1.2.1, ((), (y.2.1.2.2.2.1, ())))), y.2.2.1, y.2.2.2.1, ())) (fun y => κ ((), (((), (y.2.1.2.1, (y.2.1.2.2.1, (y.2.1.2.2.2.1, ())))), (y.2.2.1.1, (y.2.2.1.2.1, ((), (y.2.2.1.2.2.2.1, ())))), y.2.2.2.1, y.2.2.2.2.1, ()))))
  refine Eq.trans ?_ (ht.trans ?_)
  · unfold p_80_v1 Q_80_v1
    rfl
  · try dsimp only
    refine (l80v (cut' (l ++ joinL P)).1 c4 (by omega) o (totL t P) P _ _ 1301 0 a d (Nat.zero_le _) (by omega)).trans ?_
    rfl
theorem p49P {R : Type} (size : Int) (P : List ByteArray) (hP : P.length ≤ 1300) (h1 : 1 ≤ size) (h2 : size ≤ 32032) (hb : (joinL P).length ≤ 1500) (κ) :
    p_49 (R := R) 1301 ((size, (), ()), (P, ())) κ = κ ((longB size (joinL P), (0, ())), (P, ())) := by
  obtain ⟨m1, m2, m3, m4⟩ := min64 h1
  have e4 := le4_len (IntKind.wrap .u32 size)
  unfold p_49 Q_49
  try dsimp only
  rw [bif_f (dF (show ¬ size < 1 by omega)), bif_f (dF (show ¬ size > 65536 by omega)), p79e _ m1 m2]
  try dsimp only
  rw [p53]
  unfold hs fd
  try dsimp only
  refine (add3 (listStr (le4 (IntKind.wrap .u32 size))) (st0 0 (minA size 64)) (minA size 64) 0 0 [] (by rw [le4_str, List.length_nil]; omega) _).trans ?_
  rw [le4_str, (add_two _ 0 _ [] (by omega)).2, List.nil_append, (add_two (st0 0 (minA size 64)) 0 _ [] (by omega)).1]
  unfold hs fd
  try dsimp only
  refine (addP P hP (st0 0 (minA size 64)) (minA size 64) 0 _ (le4 (IntKind.wrap .u32 size)) (by omega) (by omega) _).trans ?_
  unfold hs fd
  try dsimp only
  obtain ⟨c1, c2, c3⟩ := cut_three (le4 (IntKind.wrap .u32 size) ++ joinL P)
  refine (p81 _ (minA size 64) _ _ _ c1 (by omega) m2 _).trans ?_
  try dsimp only
  unfold addC
  rw [fin_sum _ _ _ (by rw [List.length_append]; omega)]
  show (bif decide (size ≤ 64) then κ ((longS size (joinL P), (0, ())), (P, ())) else _) = _
  by_cases h : size ≤ 64
  · rw [bif_t (dT h)]
    unfold longB
    rw [if_pos h]
  · rw [bif_f (dF h)]
    obtain ⟨q0, q1, q2, q3⟩ := longR_spec (by omega) h2 (joinL P)
    have hz := strList_size (longS size (joinL P))
    have ex : strList ((longS size (joinL P)).extract 0 32) = (strList (longS size (joinL P))).take 32 := by rw [strList_ext]; rfl
    have hzx := strList_size ((longS size (joinL P)).extract 0 32)
    have ht : ((strList (longS size (joinL P))).take 32).length = 32 := by rw [List.length_take]; omega
    rw [ex, ht] at hzx
    show (bif decide ((32 : Int) ≤ (((longS size (joinL P)).size : Nat) : Int)) then (bif decide (((longS size (joinL P)).extract 0 32).size ≤ maxI64) then l_49_8 1301 1301 ((size, longS size (joinL P), (), ()), (P, strList ((longS size (joinL P)).extract 0 32), ())) _ else none) else none) = _
    rw [bif_t (dT (show (32 : Int) ≤ (((longS size (joinL P)).size : Nat) : Int) by omega)), hzx, bif_t (dT (show 32 ≤ maxI64 by unfold maxI64; omega)), ex]
    refine (l49h size P _ 1301 _ _ (by omega) (by rw [ht]; omega) (by rw [ht]; omega) (by omega)).trans ?_
    try dsimp only
    rw [show longGo size 1301 (longS size (joinL P)) (List.take 32 (strList (longS size (joinL P)))) = longR size (joinL P) from rfl]
    rw [sub64 (by omega) (by omega)]
    refine (p82e _ (by omega) q3 _ (by omega) _).trans ?_
    try dsimp only
    rw [bif_t (show (decide (((longR size (joinL P)).2.length + (strList (sumF 0 (size - ((longR size (joinL P)).2.length : Int)) (strList (longR size (joinL P)).1))).length) * 1 ≤ 140737488355328) && true) = true by rw [sum_len _ _ _ (by omega) q3]; simp; omega)]
    unfold longB longF
    rw [if_neg h, if_neg h]
theorem p52 {R : Type} (P : List ByteArray) (hP : P.length ≤ 1300) (hb : (joinL P).length ≤ 1500) (κ) : p_52 (R := R) 1301 (((), ()), (P, ())) κ = κ (longB 1024 (joinL P), (P, ())) := by
  unfold p_52 Q_52
  try dsimp only
  rw [p49P 1024 P hP (by omega) (by omega) hb]
end Bk
def Fit (a t m l s : Int) : Prop := (1 ≤ a ∧ a ≤ 3) ∧ (1 ≤ t ∧ t ≤ 4294967295) ∧ (1 ≤ l ∧ l ≤ 16777215) ∧ (1 ≤ m ∧ m ≤ 4294967295) ∧ l ≤ m / 8 ∧ 4 ≤ s ∧ s ≤ 1024
instance (a t m l s : Int) : Decidable (Fit a t m l s) := by unfold Fit; exact inferInstance
theorem p63 {R : Type} (N : Nat) (a b c : Int) (κ) : p_63 (R := R) N ((a, b, c, ()), ()) κ = κ (decide (b ≤ a ∧ a ≤ c)) := by
  unfold p_63 Q_63
  dsimp only
  by_cases h1 : b ≤ a
  · by_cases h2 : a ≤ c <;> simp [h1, h2]
  · simp [h1]
theorem p76 {R : Type} (N : Nat) (a b : Int) (h1 : 0 ≤ a) (h2 : a ≤ 4611686018427387904) (h3 : 1 ≤ b) (κ) : p_76 (R := R) N ((a, b, ()), ()) κ = κ (a - a % b, (0, ())) := by
  unfold p_76 Q_76 p_88 Q_88
  dsimp only
  have e1 : 0 ≤ a % b := Int.emod_nonneg a (by omega)
  have e2 : a % b ≤ a := mod_le h1 (by omega)
  rw [rem64 h1, sub64 (by omega) (by omega)]
  simp [h1, h2, show ¬ b < 1 by omega, show ¬ b = 0 by omega]
theorem p42 {R : Type} (N : Nat) (a t m l s : Int) (κ) : p_42 (R := R) N (((a, (t, (m, (l, (s, ()))))), ()), ()) κ =
    (bif decide (Fit a t m l s) then κ ((a, (t, (l, (m, (4 * l * (m / (4 * l)), (4 * (m / (4 * l)), (m / (4 * l), (s, ())))))))), (0, ())) else κ ((0, (0, (0, (0, (0, (0, (0, (0, ())))))))), (2, ()))) := by
  by_cases h : Fit a t m l s
  · obtain ⟨⟨h1, h2⟩, ⟨h3, h4⟩, ⟨h5, h6⟩, ⟨h7, h8⟩, h9, h10, h11⟩ := id h
    unfold p_42 Q_42
    dsimp only
    have e1 : quoA .i64 m 8 = m / 8 := quo64 (by omega) (by omega) (by omega)
    have e2 : mulA .i64 4 l = 4 * l := mul64 (by omega) (by omega)
    have e3 : m - m % (4 * l) = 4 * l * (m / (4 * l)) := by have := Int.mul_ediv_add_emod m (4 * l); omega
    have q0 : 0 ≤ m / (4 * l) := Int.ediv_nonneg (by omega) (by omega)
    have q1 : 0 ≤ m % (4 * l) := Int.emod_nonneg _ (by omega)
    have e4 : quoA .i64 (4 * l * (m / (4 * l))) l = 4 * (m / (4 * l)) := by
      rw [quo64 (by rw [← e3]; have := mod_le (b := 4 * l) (show 0 ≤ m by omega) (by omega); omega) (by omega) (by omega)]
      rw [show 4 * l * (m / (4 * l)) = l * (4 * (m / (4 * l))) by rw [Int.mul_comm 4 l, Int.mul_assoc]]
      exact Int.mul_ediv_cancel_left _ (by omega)
    have q2 : m / (4 * l) ≤ m := Int.ediv_le_self _ (by omega)
    have e5 : quoA .i64 (4 * (m / (4 * l))) 4 = m / (4 * l) := by
      rw [quo64 (by omega) (by omega) (by omega)]
      exact Int.mul_ediv_cancel_left _ (by omega)
    simp only [p63, e1, e2]
    rw [p76 N m (4 * l) (by omega) (by omega) (by omega)]
    simp only [e3, e4, e5]
    simp [h, h1, h2, h3, h4, h5, h6, h7, h8, h9, h10, h11, show ¬ l = 0 by omega]
  · rw [dF h]
    unfold p_42 Q_42
    dsimp only
    simp only [p63, cond_false]
    by_cases g1 : 1 ≤ a ∧ a ≤ 3
    · rw [dT g1]
      by_cases g2 : 1 ≤ t ∧ t ≤ 4294967295
      · rw [dT g2]
        by_cases g3 : 1 ≤ l ∧ l ≤ 16777215
        · rw [dT g3]
          by_cases g4 : 1 ≤ m ∧ m ≤ 4294967295
          · rw [dT g4, quo64 (by omega) (by omega) (by omega)]
            by_cases g5 : m / 8 ≥ l
            · rw [dT g5]
              by_cases g6 : 4 ≤ s ∧ s ≤ 1024
              · exact absurd ⟨g1, g2, g3, g4, g5, g6⟩ h
              · rw [dF g6]; rfl
            · rw [dF g5]; rfl
          · rw [dF g4]; rfl
        · rw [dF g3]; rfl
      · rw [dF g2]; rfl
    · rw [dF g1]; rfl
def W (x : Int) : Prop := 0 ≤ x ∧ x < 18446744073709551616
theorem upd_same {α : Type} (f : Nat → α) (i : Nat) (x : α) : upd f i x i = x := by simp [upd]
theorem upd_other {α : Type} (f : Nat → α) {i j : Nat} (x : α) (h : j ≠ i) : upd f i x j = f j := by
  show (bif Nat.beq j i then x else f j) = f j
  cases hq : Nat.beq j i with
  | false => rfl
  | true => exact absurd (Nat.eq_of_beq_eq_true hq) h
theorem upd_if {α : Type} (f : Nat → α) (i j : Nat) (x : α) : upd f i x j = if j = i then x else f j := by
  by_cases h : j = i
  · subst h; rw [upd_same, if_pos rfl]
  · rw [upd_other f x h, if_neg h]
abbrev Bl := Nat → Int
def nulB : Bl := fun _ => 0
def xorFrom (k : Nat) (o b : Bl) : Bl := fun j => if k ≤ j ∧ j < 128 then xorA .u64 (o j) (b j) else o j
def xorL (l : List Bl) : Bl := l.foldl (xorFrom 0) nulB
theorem l48i {R : Type} (N : Nat) (l : List Bl) (u v : Int) (b z : Bl) (κ) : ∀ (n m k : Nat) (o : Bl), k + m = 128 → m < n →
    l_48_6 (R := R) N n (((), (), l, u, v, b, (k : Int), ()), (z, o, ())) κ = κ (((), (), l, u, v, ()), (z, xorFrom k o b, ()))
  | 0, m, k, o, h1, h2 => by omega
  | n + 1, m, k, o, h1, h2 => by
    unfold l_48_6 B_48_6 C_48_6
    try dsimp only
    by_cases hk : k < 128
    · have e3 : addA .i64 (k : Int) 1 = ((k + 1 : Nat) : Int) := by rw [add64 (by omega) (by omega)]; simp
      rw [bif_t (dT (show (k : Int) < 128 by omega)), bif_t (dT (show (0 : Int) ≤ (k : Int) by omega)), bif_t (dT (show (k : Int) < 128 by omega)), bif_t (dT (show (0 : Int) ≤ (k : Int) by omega)), bif_t (dT (show (k : Int) < 128 by omega)), bif_t (dT (show (0 : Int) ≤ (k : Int) by omega)), bif_t (dT (show (k : Int) < 128 by omega)), e3, Int.toNat_natCast]
      rw [l48i N l u v b z κ n (m - 1) (k + 1) _ (by omega) (by omega)]
      congr 4
      funext j
      unfold xorFrom
      by_cases hj : j = k
      · subst hj; rw [if_neg (by omega), if_pos ⟨by omega, hk⟩, upd_same]
      · rw [upd_other _ _ hj]
        by_cases h3 : k + 1 ≤ j ∧ j < 128
        · rw [if_pos h3, if_pos ⟨by omega, h3.2⟩]
        · rw [if_neg h3, if_neg (by omega)]
    · rw [bif_f (dF (show ¬ (k : Int) < 128 by omega))]
      have e : xorFrom k o b = o := by funext j; unfold xorFrom; rw [if_neg (by omega)]
      rw [e]
theorem l48o {R : Type} (N : Nat) (hN : 1300 < N) (l : List Bl) (hl : l.length ≤ 1300) (z : Bl) (κ) : ∀ (n i : Nat) (o : Bl), i ≤ l.length → l.length - i < n →
    l_48_3 (R := R) N n (((), (), l, (l.length : Int), (i : Int), ()), (z, o, ())) κ = κ (((), (), ()), (z, (l.drop i).foldl (xorFrom 0) o, ()))
  | 0, i, o, h1, h2 => by omega
  | n + 1, i, o, h1, h2 => by
    unfold l_48_3 B_48_3 C_48_3
    try dsimp only
    by_cases hi : i < l.length
    · have hd : l.drop i = l[i] :: l.drop (i + 1) := List.drop_eq_getElem_cons hi
      have hg : List.getD l i (Sch.zero (.arr 128 (.int .u64))) = l[i] := by simp [hi]
      have e3 : addA .i64 (i : Int) 1 = ((i + 1 : Nat) : Int) := by rw [add64 (by omega) (by omega)]; simp
      rw [bif_t (dT (show (i : Int) < (l.length : Int) by omega)), bif_t (dT (show (0 : Int) ≤ (i : Int) by omega)), bif_t (dT (show (i : Int) < (l.length : Int) by omega)), Int.toNat_natCast, hg, hd]
      refine (l48i N l (l.length : Int) (i : Int) l[i] z _ N 128 0 o (by omega) (by omega)).trans ?_
      try dsimp only
      rw [e3]
      exact l48o N hN l hl z κ n (i + 1) _ (by omega) (by omega)
    · rw [bif_f (dF (by omega)), List.drop_eq_nil_of_le (by omega)]
      rfl
theorem p48 {R : Type} (N : Nat) (hN : 1300 < N) (l : List Bl) (hl : l.length ≤ 1300) (κ) : p_48 (R := R) N ((l, ()), ()) κ = κ (xorL l) := by
  unfold p_48 Q_48
  try dsimp only
  refine (l48o N hN l hl _ _ N 0 _ (by omega) (by omega)).trans ?_
  rfl
theorem schEq128 {x y : Bl} (h : ∀ j, j < 128 → x j = y j) : schEq (.arr 128 (.int .u64)) x y = true := by
  show (List.range 128).all (fun i => x i == y i) = true
  rw [List.all_eq_true]
  intro j hj
  rw [List.mem_range] at hj
  rw [h j hj]
  exact beq_self_eq_true _
def prodF (a b : Int) : Int := addA .u64 (addA .u64 a b) (mulA .u64 (mulA .u64 2 (IntKind.wrap .u64 (IntKind.wrap .u32 a))) (IntKind.wrap .u64 (IntKind.wrap .u32 b)))
def rotF (x n : Int) : Int := orA .u64 (shrA .u64 x n) (shlA .u64 x (64 - n))
abbrev Q4 := Int × (Int × (Int × (Int × Unit)))
def qF (a b c d : Int) : Q4 :=
  let a1 := prodF a b
  let d1 := rotF (xorA .u64 d a1) 32
  let c1 := prodF c d1
  let b1 := rotF (xorA .u64 b c1) 24
  let a2 := prodF a1 b1
  let d2 := rotF (xorA .u64 d1 a2) 16
  let c2 := prodF c1 d2
  let b2 := rotF (xorA .u64 b1 c2) 63
  (a2, (b2, (c2, (d2, ()))))
def stF (v : Bl) (i j k l : Nat) : Bl :=
  let q := qF (v i) (v j) (v k) (v l)
  upd (upd (upd (upd v i q.1) j q.2.1) k q.2.2.1) l q.2.2.2.1
def permF (v : Bl) : Bl := stF (stF (stF (stF (stF (stF (stF (stF v 0 4 8 12) 1 5 9 13) 2 6 10 14) 3 7 11 15) 0 5 10 15) 1 6 11 12) 2 7 8 13) 3 4 9 14
theorem p116 {R : Type} (N : Nat) (hN : N = 1301) (v : Bl) (κ) : p_116 (R := R) N ((v, ()), ()) κ = κ (permF v) := by subst hN; kernel_rfl
def gath (at_ b : Bl) : Nat → Nat → Bl → Bl
  | 0, _, v => v
  | n + 1, k, v => gath at_ b n (k + 1) (upd v k (b (at_ k).toNat))
def scat (at_ w : Bl) : Nat → Nat → Bl → Bl
  | 0, _, b => b
  | n + 1, k, b => scat at_ w n (k + 1) (upd b (at_ k).toNat (w k))
def chainA (f : Nat → Int) : Nat → Bl
  | 0 => nulB
  | n + 1 => upd (chainA f n) n (f n)
theorem chainA_get (f : Nat → Int) : ∀ (n k : Nat), k < n → chainA f n k = f k
  | n + 1, k, h => by
    show upd (chainA f n) n (f n) k = f k
    rw [upd_if]
    split
    · subst k; rfl
    · exact chainA_get f n k (by omega)
def atRow (i : Int) : Bl := chainA (fun k => addA .i64 (mulA .i64 16 i) (k : Int)) 16
def atCol (i : Int) : Bl := chainA (fun k => addA .i64 (addA .i64 (mulA .i64 2 i) (remA .i64 (k : Int) 2)) (mulA .i64 16 (quoA .i64 (k : Int) 2))) 16
def at_ (c : Bool) (i : Int) : Bl := bif c then atCol i else atRow i
theorem atRow_get {i : Int} (hi : 0 ≤ i ∧ i < 8) {k : Nat} (hk : k < 16) : atRow i k = 16 * i + k := by
  unfold atRow
  rw [chainA_get _ _ _ hk, mul64 (by omega) (by omega), add64 (by omega) (by omega)]
theorem atCol_get {i : Int} (hi : 0 ≤ i ∧ i < 8) {k : Nat} (hk : k < 16) : atCol i k = 2 * i + ((k % 2 : Nat) : Int) + 16 * ((k / 2 : Nat) : Int) := by
  unfold atCol
  rw [chainA_get _ _ _ hk, mul64 (a := 2) (by omega) (by omega), rem64 (by omega), quo64 (by omega) (by omega) (by omega), add64 (a := 2 * i) (by omega) (by omega), mul64 (a := 16) (by omega) (by omega), add64 (by omega) (by omega)]
  omega
theorem at_in (c : Bool) {i : Int} (hi : 0 ≤ i ∧ i < 8) {k : Nat} (hk : k < 16) : 0 ≤ at_ c i k ∧ at_ c i k < 128 := by
  cases c with
  | false => show 0 ≤ atRow i k ∧ atRow i k < 128; rw [atRow_get hi hk]; omega
  | true => show 0 ≤ atCol i k ∧ atCol i k < 128; rw [atCol_get hi hk]; omega
theorem p115 {R : Type} (N : Nat) (hN : N = 1301) (i : Int) (c : Bool) (κ) : p_115 (R := R) N ((i, c, ()), ()) κ = κ (at_ c i) := by
  subst hN
  cases c with
  | false => kernel_rfl
  | true => kernel_rfl
section
variable {R : Type} (N : Nat)
theorem l105g (b : Bool) (u v w : Int) (at_ : Bl) (hat : ∀ k, k < 16 → 0 ≤ at_ k ∧ at_ k < 128) (a a2 a3 : Bl) (l : List Bool) (κ) : ∀ (n m k : Nat) (o : Bl), k + m = 16 → m < n →
    l_105_10 (R := R) N n (((), (), b, (), (), (), u, v, w, at_, (k : Int), ()), (a, a2, a3, o, l, ())) κ = κ (((), (), b, (), (), (), u, v, w, ()), (a, a2, a3, gath at_ a m k o, l, ()))
  | 0, m, k, o, h1, h2 => by omega
  | n + 1, m, k, o, h1, h2 => by
    unfold l_105_10 B_105_10 C_105_10
    try dsimp only
    cases m with
    | zero => rw [bif_f (dF (show ¬ (k : Int) < 16 by omega))]; rfl
    | succ m =>
      have hk : k < 16 := by omega
      obtain ⟨g1, g2⟩ := hat k hk
      have e3 : addA .i64 (k : Int) 1 = ((k + 1 : Nat) : Int) := by rw [add64 (by omega) (by omega)]; simp
      rw [bif_t (dT (show (k : Int) < 16 by omega)), bif_t (dT (show (0 : Int) ≤ (k : Int) by omega)), bif_t (dT (show (k : Int) < 16 by omega)), Int.toNat_natCast, bif_t (dT g1), bif_t (dT g2), bif_t (dT (show (0 : Int) ≤ (k : Int) by omega)), bif_t (dT (show (k : Int) < 16 by omega)), e3]
      exact l105g b u v w at_ hat a a2 a3 l κ n m (k + 1) _ (by omega) (by omega)
theorem l105s (b : Bool) (u v w : Int) (at_ : Bl) (hat : ∀ k, k < 16 → 0 ≤ at_ k ∧ at_ k < 128) (a2 x : Bl) (l : List Bool) (κ) : ∀ (n m k : Nat) (a : Bl), k + m = 16 → m < n →
    l_105_16 (R := R) N n (((), (), b, (), (), u, v, w, at_, (k : Int), ()), (a, a2, x, l, ())) κ = κ (((), (), b, (), u, v, w, ()), (scat at_ x m k a, a2, l, ()))
  | 0, m, k, a, h1, h2 => by omega
  | n + 1, m, k, a, h1, h2 => by
    unfold l_105_16 B_105_16 C_105_16
    try dsimp only
    cases m with
    | zero => rw [bif_f (dF (show ¬ (k : Int) < 16 by omega))]; rfl
    | succ m =>
      have hk : k < 16 := by omega
      obtain ⟨g1, g2⟩ := hat k hk
      have e3 : addA .i64 (k : Int) 1 = ((k + 1 : Nat) : Int) := by rw [add64 (by omega) (by omega)]; simp
      rw [bif_t (dT (show (k : Int) < 16 by omega)), bif_t (dT (show (0 : Int) ≤ (k : Int) by omega)), bif_t (dT (show (k : Int) < 16 by omega)), Int.toNat_natCast, bif_t (dT (show (0 : Int) ≤ (k : Int) by omega)), bif_t (dT (show (k : Int) < 16 by omega)), bif_t (dT g1), bif_t (dT g2), e3]
      exact l105s b u v w at_ hat a2 x l κ n m (k + 1) _ (by omega) (by omega)
end
def wStep (c : Bool) (i : Int) (a : Bl) : Bl := scat (at_ c i) (permF (gath (at_ c i) a 16 0 nulB)) 16 0 a
def wRun (c : Bool) : Nat → Nat → Bl → Bl
  | 0, _, a => a
  | n + 1, i, a => wRun c n (i + 1) (wStep c (i : Int) a)
def wholeF (a : Bl) : Bl := wRun true 8 0 (wRun false 8 0 a)
theorem l105i {R : Type} (N : Nat) (hN : N = 1301) (c : Bool) (u v : Int) (a2 : Bl) (l : List Bool) (κ) : ∀ (n m i : Nat) (a : Bl), i + m = 8 → m < n →
    l_105_5 (R := R) N n (((), (), c, (), u, v, (i : Int), ()), (a, a2, l, ())) κ = κ (((), (), (), u, v, ()), (wRun c m i a, a2, l, ()))
  | 0, m, i, a, h1, h2 => by omega
  | n + 1, m, i, a, h1, h2 => by
    unfold l_105_5 B_105_5 C_105_5
    try dsimp only
    cases m with
    | zero => rw [bif_f (dF (show ¬ (i : Int) < 8 by omega))]; rfl
    | succ m =>
      have hi : (0 : Int) ≤ (i : Int) ∧ (i : Int) < 8 := by omega
      have e3 : addA .i64 (i : Int) 1 = ((i + 1 : Nat) : Int) := by rw [add64 (by omega) (by omega)]; simp
      rw [bif_t (dT (show (i : Int) < 8 by omega)), p115 N hN]
      refine (l105g N c u v (i : Int) (at_ c i) (fun k hk => at_in c hi hk) a a2 _ l _ N 16 0 _ (by omega) (by omega)).trans ?_
      try dsimp only
      rw [p116 N hN]
      refine (l105s N c u v (i : Int) (at_ c i) (fun k hk => at_in c hi hk) a2 _ l _ N 16 0 a (by omega) (by omega)).trans ?_
      try dsimp only
      rw [e3]
      exact l105i N hN c u v a2 l κ n m (i + 1) _ (by omega) (by omega)
theorem p105 {R : Type} (N : Nat) (hN : N = 1301) (a : Bl) (κ) : p_105 (R := R) N ((a, ()), ()) κ = κ (wholeF a) := by
  unfold p_105 Q_105
  try dsimp only
  have step : ∀ (n : Nat) (c : Bool) (i : Nat) (a a2 : Bl) (κ), i < 2 → [false, true].getD i false = c →
      l_105_2 (R := R) N (n + 1) (((), (), (), 2, (i : Int), ()), (a, a2, [false, true], ())) κ = l_105_2 N n (((), (), (), 2, ((i + 1 : Nat) : Int), ()), (wRun c 8 0 a, a2, [false, true], ())) κ := by
    intro n c i a a2 κ hi hc
    conv => lhs; unfold l_105_2 B_105_2 C_105_2
    try dsimp only [List.length_cons, List.length_nil]
    rw [bif_t (dT (by omega)), bif_t (dT (by omega)), bif_t (dT (by show (i : Int) < ((0 + 1 + 1 : Nat) : Int); omega)), Int.toNat_natCast]
    show l_105_5 N N (((), (), [false, true].getD i false, (), 2, (i : Int), ((0 : Nat) : Int), ()), (a, a2, [false, true], ())) _ = _
    rw [hc]
    refine (l105i N hN c 2 (i : Int) a2 [false, true] _ N 8 0 a (by omega) (by omega)).trans ?_
    try dsimp only
    rw [show addA .i64 (i : Int) 1 = ((i + 1 : Nat) : Int) by rw [add64 (by omega) (by omega)]; simp]
  obtain ⟨n, rfl⟩ : ∃ n, N = n + 3 := ⟨N - 3, by omega⟩
  refine (step (n + 2) false 0 a _ _ (by omega) rfl).trans ?_
  refine (step (n + 1) true 1 _ _ _ (by omega) rfl).trans ?_
  rfl
def mixF (x y : Bl) : Bl := xorL [xorL [x, y], wholeF (xorL [x, y])]
theorem p95 {R : Type} (N : Nat) (hN : N = 1301) (x y : Bl) (κ) : p_95 (R := R) N ((x, y, ()), ()) κ = κ (mixF x y) := by
  unfold p_95 Q_95
  try dsimp only
  rw [p48 N (by omega) [x, y] (by simp)]
  try dsimp only
  rw [p105 N hN]
  try dsimp only
  rw [p48 N (by omega) _ (by simp)]
  rfl
section
variable {R : Type} (N : Nat)
end
theorem p89 {R : Type} (N : Nat) {x y : Int} (x1 : 0 ≤ x) (x2 : x < 18446744073709551616) (y1 : 0 ≤ y) (y2 : y < 18446744073709551616) (κ) : p_89 (R := R) N ((x, y, ()), ()) κ = κ (x * y / 18446744073709551616, (x * y % 18446744073709551616, ())) := by
  unfold p_89 Q_89
  dsimp only
  rw [high64 x1 x2 y1 y2]
  unfold mulA
  rw [wrapU64 (x * y)]
theorem or_zero64 {z : Int} (h1 : 0 ≤ z) (h2 : z < 18446744073709551616) : orA .u64 0 z = z := by
  unfold orA
  rw [wrapU64, BitVec.toNat_or]
  have q1 : (BitVec.ofInt IntKind.u64.bits z).toNat = z.toNat := by
    show (BitVec.ofInt 64 z).toNat = z.toNat
    rw [BitVec.toNat_ofInt]; omega
  have q2 : (BitVec.ofInt IntKind.u64.bits 0).toNat = 0 := by decide
  rw [q1, q2, Nat.zero_or]
  omega
def pickOf (area j : Int) : Int := area - 1 - area * (j * j / 4294967296) / 4294967296
theorem pick_in {area j : Int} (h1 : 1 ≤ area) (j1 : 0 ≤ j) (j2 : j < 4294967296) : 0 ≤ pickOf area j ∧ pickOf area j ≤ area - 1 := by
  unfold pickOf
  have b1 : j * j ≤ 4294967295 * 4294967295 := Int.mul_le_mul (by omega) (by omega) j1 (by omega)
  have b0 : 0 ≤ j * j := Int.mul_nonneg j1 j1
  generalize hx : j * j / 4294967296 = x
  have x0 : 0 ≤ x ∧ x ≤ 4294967295 := by omega
  have c0 : 0 ≤ area * x := Int.mul_nonneg (by omega) x0.1
  have c1 : area * x ≤ area * 4294967295 := Int.mul_le_mul_of_nonneg_left x0.2 (by omega)
  omega
theorem p70 {R : Type} (N : Nat) (area j : Int) (h2 : area ≤ 4294967296) (j1 : 0 ≤ j) (j2 : j < 4294967296) (κ) : p_70 (R := R) N ((area, j, ()), ()) κ = if area < 1 then κ 0 else κ (pickOf area j) := by
  unfold p_70 Q_70
  try dsimp only
  by_cases h1 : area < 1
  · rw [bif_t (dT h1), if_pos h1]
  rw [bif_f (dF h1), if_neg h1, wrapU64, wrapU64, Int.emod_eq_of_lt j1 (by omega), Int.emod_eq_of_lt (by omega) (by omega)]
  have b1 : j * j ≤ 4294967295 * 4294967295 := Int.mul_le_mul (by omega) (by omega) j1 (by omega)
  have b0 : 0 ≤ j * j := Int.mul_nonneg j1 j1
  have pin := pick_in (area := area) (by omega) j1 j2
  unfold pickOf at *
  rw [mulU64 b0 (by omega), shr32 b0]
  generalize hx : j * j / 4294967296 = x at *
  have x0 : 0 ≤ x ∧ x ≤ 4294967295 := by omega
  rw [p89 N (by omega) (by omega) x0.1 (by omega)]
  have c0 : 0 ≤ area * x := Int.mul_nonneg (by omega) x0.1
  have c1 : area * x ≤ 4294967296 * 4294967295 := Int.mul_le_mul h2 x0.2 x0.1 (by omega)
  generalize area * x = z at *
  have e1 : z / 18446744073709551616 = 0 := by omega
  have e2 : z % 18446744073709551616 = z := by omega
  rw [e1, e2]
  try dsimp only
  rw [shr32 c0, show shlA .u64 0 32 = 0 from rfl, or_zero64 (by omega) (by omega), sub64 (a := area) (by omega) (by omega), wrap64 (by omega) (by omega), sub64 (by omega) (by omega)]
abbrev Shp8 := Int × (Int × (Int × (Int × (Int × (Int × (Int × (Int × Unit)))))))
def laneOf (pass slice lane j L : Int) : Int := if pass = 0 ∧ slice = 0 then lane else j % L
def doneOf (pass slice q : Int) : Int := if pass > 0 then 3 * q else slice * q
def areaOf (pass slice q index : Int) (own : Bool) : Int := if own = true then doneOf pass slice q + index - 1 else if index = 0 then doneOf pass slice q - 1 else doneOf pass slice q
def fromOf (pass slice q : Int) : Int := if pass = 0 ∨ slice = 3 then 0 else (slice + 1) * q
theorem p30 {R : Type} (N : Nat) (s : Shp8) (a b : Int) (κ) : p_30 (R := R) N ((s, a, b, ()), ()) κ = κ (if a = 0 ∧ b = 0 then 2 else 0) := by
  unfold p_30 Q_30
  try dsimp only
  by_cases h1 : a = 0
  · by_cases h2 : b = 0
    · simp [h1, h2]
    · simp [h1, h2, show (b == 0) = false from beq_eq_false_iff_ne.2 h2]
  · simp [h1, show (a == 0) = false from beq_eq_false_iff_ne.2 h1]
theorem p29 {R : Type} (N : Nat) (s0 t s2 s3 s4 s5 s6 s7 a b : Int) (ht : 1 ≤ t ∧ t ≤ 4294967295) (κ) : p_29 (R := R) N (((s0, (t, (s2, (s3, (s4, (s5, (s6, (s7, ())))))))), (a, (b, ())), ()), ()) κ = κ (decide ((0 ≤ a ∧ a ≤ t - 1) ∧ 0 ≤ b ∧ b ≤ 3)) := by
  unfold p_29 Q_29
  try dsimp only
  rw [sub64 (by omega) (by omega), p63]
  by_cases h1 : 0 ≤ a ∧ a ≤ t - 1
  · rw [dT h1, bif_t rfl, p63]
    by_cases h2 : 0 ≤ b ∧ b ≤ 3
    · rw [dT h2, dT ⟨h1, h2⟩]
    · rw [dF h2, dF (fun h => h2 h.2)]
  · rw [dF h1, bif_f rfl, dF (fun h => h1 h.1)]
section
variable {R : Type} (N : Nat) (s0 t L s3 s4 q s7 : Int)
theorem p67 (hL : 1 ≤ L ∧ L ≤ 16777215) (pass slice lane j : Int) (j1 : 0 ≤ j) (j2 : j < 4294967296) (s5 : Int) (κ : Int → Option R) :
    p_67 (R := R) N (((s0, (t, (L, (s3, (s4, (s5, (q, (s7, ())))))))), (pass, (slice, ())), lane, j, ()), ()) κ = κ (laneOf pass slice lane j L) := by
  unfold p_67 Q_67 laneOf
  try dsimp only
  have e1 : IntKind.wrap .i64 (remA .u64 (IntKind.wrap .u64 j) (IntKind.wrap .u64 L)) = j % L := by
    rw [wrapU64, wrapU64, Int.emod_eq_of_lt j1 (by omega), Int.emod_eq_of_lt (by omega) (by omega)]
    unfold remA
    rw [Int.tmod_eq_emod_of_nonneg j1]
    have := Int.emod_nonneg j (show L ≠ 0 by omega)
    have := Int.emod_lt_of_pos j (show 0 < L by omega)
    exact wrap64 (by omega) (by omega)
  have e2 : ¬ IntKind.wrap .u64 L = 0 := by rw [wrapU64]; omega
  rw [e1, dF e2]
  by_cases h1 : pass = 0
  · by_cases h2 : slice = 0
    · simp [h1, h2]
    · simp [h1, h2, show (slice == 0) = false from beq_eq_false_iff_ne.2 h2]
  · simp [h1, show (pass == 0) = false from beq_eq_false_iff_ne.2 h1]
theorem p68 (hq : 2 ≤ q ∧ 4 * q ≤ 4294967295) (pass slice index : Int) (own : Bool) (h1 : 0 ≤ pass) (h2 : 0 ≤ slice ∧ slice ≤ 3) (h3 : 0 ≤ index ∧ index < q) (κ : Int → Option R) :
    p_68 (R := R) N (((s0, (t, (L, (s3, (s4, (4 * q, (q, (s7, ())))))))), (pass, (slice, ())), index, own, ()), ()) κ = κ (areaOf pass slice q index own) := by
  unfold p_68 Q_68 areaOf doneOf
  try dsimp only
  have b1 : slice * q ≤ 3 * q := Int.mul_le_mul_of_nonneg_right h2.2 (by omega)
  have b0 : 0 ≤ slice * q := Int.mul_nonneg h2.1 (by omega)
  rw [mul64 (by omega) (by omega), sub64 (a := 4 * q) (by omega) (by omega), show 4 * q - q = 3 * q by omega]
  by_cases g1 : pass > 0
  · rw [bif_t (dT g1)]
    simp only [if_pos g1]
    cases own with
    | true => rw [bif_t rfl, if_pos rfl, add64 (a := 3 * q) (by omega) (by omega), sub64 (by omega) (by omega)]
    | false =>
      rw [bif_f rfl, if_neg (by simp)]
      by_cases g2 : index = 0
      · rw [bif_t (beq_iff_eq.2 g2), if_pos g2, sub64 (by omega) (by omega)]
      · rw [bif_f (beq_eq_false_iff_ne.2 g2), if_neg g2]
  · rw [bif_f (dF g1)]
    simp only [if_neg g1]
    cases own with
    | true => rw [bif_t rfl, if_pos rfl, add64 (a := slice * q) (by omega) (by omega), sub64 (by omega) (by omega)]
    | false =>
      rw [bif_f rfl, if_neg (by simp)]
      by_cases g2 : index = 0
      · rw [bif_t (beq_iff_eq.2 g2), if_pos g2, sub64 (by omega) (by omega)]
      · rw [bif_f (beq_eq_false_iff_ne.2 g2), if_neg g2]
theorem p69 (hq : 2 ≤ q ∧ 4 * q ≤ 4294967295) (pass slice : Int) (h2 : 0 ≤ slice ∧ slice ≤ 3) (s5 : Int) (κ : Int → Option R) :
    p_69 (R := R) N (((s0, (t, (L, (s3, (s4, (s5, (q, (s7, ())))))))), (pass, (slice, ())), ()), ()) κ = κ (fromOf pass slice q) := by
  unfold p_69 Q_69 fromOf
  try dsimp only
  by_cases g1 : pass = 0
  · rw [bif_t (beq_iff_eq.2 g1), if_pos (.inl g1)]
  rw [bif_f (beq_eq_false_iff_ne.2 g1)]
  by_cases g2 : slice = 3
  · rw [bif_t (beq_iff_eq.2 g2), if_pos (.inr g2)]
  rw [bif_f (beq_eq_false_iff_ne.2 g2), if_neg (fun h => h.elim g1 g2), add64 (by omega) (by omega)]
  have b1 : (slice + 1) * q ≤ 4 * q := Int.mul_le_mul_of_nonneg_right (by omega) (by omega)
  have b0 : 0 ≤ (slice + 1) * q := Int.mul_nonneg (by omega) (by omega)
  rw [mul64 (by omega) (by omega)]
def There (t L q pass slice lane index : Int) : Prop := ((0 ≤ pass ∧ pass ≤ t - 1) ∧ 0 ≤ slice ∧ slice ≤ 3) ∧ (0 ≤ lane ∧ lane ≤ L - 1) ∧ (if pass = 0 ∧ slice = 0 then 2 else 0) ≤ index ∧ index ≤ q - 1
theorem area_in (hq : 2 ≤ q) (pass slice lane index : Int) (own : Bool) (h : There t L q pass slice lane index) (ho : pass = 0 → slice = 0 → own = true) : 1 ≤ areaOf pass slice q index own ∧ areaOf pass slice q index own ≤ 4 * q := by
  obtain ⟨⟨⟨h1, h2⟩, h3, h4⟩, ⟨h5, h6⟩, h7, h8⟩ := h
  unfold areaOf doneOf
  have b1 : slice * q ≤ 3 * q := Int.mul_le_mul_of_nonneg_right h4 (by omega)
  have b0 : 0 ≤ slice * q := Int.mul_nonneg h3 (by omega)
  by_cases g1 : pass > 0
  · simp only [if_pos g1]
    rw [if_neg (by omega)] at h7
    split
    · omega
    · split <;> omega
  · simp only [if_neg g1]
    by_cases g2 : slice = 0
    · subst g2
      rw [if_pos ⟨by omega, rfl⟩] at h7
      rw [if_pos (ho (by omega) rfl)]
      omega
    · have b2 : 1 * q ≤ slice * q := Int.mul_le_mul_of_nonneg_right (by omega) (by omega)
      rw [if_neg (fun hh => g2 hh.2)] at h7
      split
      · omega
      · split <;> omega
def colOf (pass slice index j q : Int) (own : Bool) : Int := (fromOf pass slice q + pickOf (areaOf pass slice q index own) j) % (4 * q)
open Classical in
theorem p34 (ht : 1 ≤ t ∧ t ≤ 4294967295) (hL : 1 ≤ L ∧ L ≤ 16777215) (hq : 2 ≤ q ∧ 4 * q ≤ 4294967295) (pass slice lane index ja jb : Int) (ja1 : 0 ≤ ja) (ja2 : ja < 4294967296) (jb1 : 0 ≤ jb) (jb2 : jb < 4294967296) (κ : ((Int × (Int × Unit)) × (Int × Unit)) → Option R) :
    p_34 (R := R) N (((s0, (t, (L, (s3, (s4, (4 * q, (q, (s7, ())))))))), (pass, (slice, ())), lane, index, ja, jb, ()), ()) κ =
      if There t L q pass slice lane index then κ ((laneOf pass slice lane jb L, (colOf pass slice index ja q (laneOf pass slice lane jb L == lane), ())), (0, ())) else κ ((0, (0, ())), (11, ())) := by
  unfold p_34 Q_34
  try dsimp only
  rw [bif_t (dT (show L > 0 by omega)), p29 N _ _ _ _ _ _ _ _ _ _ ht]
  by_cases h1 : (0 ≤ pass ∧ pass ≤ t - 1) ∧ 0 ≤ slice ∧ slice ≤ 3
  · rw [dT h1]
    try dsimp only
    rw [bif_t rfl, sub64 (a := L) (by omega) (by omega), p63]
    by_cases h2 : 0 ≤ lane ∧ lane ≤ L - 1
    · rw [dT h2]
      simp only [Bool.not_true, cond_false]
      rw [p30, sub64 (a := q) (by omega) (by omega), p63]
      by_cases h3 : (if pass = 0 ∧ slice = 0 then (2 : Int) else 0) ≤ index ∧ index ≤ q - 1
      · have hth : There t L q pass slice lane index := ⟨h1, h2, h3⟩
        rw [dT h3, if_pos hth]
        simp only [Bool.not_true, cond_false]
        have hi : 0 ≤ index ∧ index < q := by
          have := h3.1
          split at this <;> omega
        rw [p67 N s0 t L s3 s4 q s7 hL pass slice lane jb jb1 jb2]
        try dsimp only
        rw [p68 N s0 t L s3 s4 q s7 hq pass slice index _ h1.1.1 h1.2 hi]
        try dsimp only
        rw [p69 N s0 t L s3 s4 q s7 hq pass slice h1.2]
        obtain ⟨a1, a2⟩ := area_in t L q hq.1 pass slice lane index (laneOf pass slice lane jb L == lane) hth (fun e1 e2 => by unfold laneOf; rw [if_pos ⟨e1, e2⟩]; simp)
        rw [p70 N _ ja (by omega) ja1 ja2, if_neg (by omega), bif_f (dF (by omega))]
        have pin := pick_in a1 ja1 ja2
        have f0 : 0 ≤ fromOf pass slice q ∧ fromOf pass slice q ≤ 4 * q := by
          unfold fromOf
          have b1 : (slice + 1) * q ≤ 4 * q := Int.mul_le_mul_of_nonneg_right (by omega) (by omega)
          have b0 : 0 ≤ (slice + 1) * q := Int.mul_nonneg (by omega) (by omega)
          split <;> omega
        rw [add64 (by omega) (by omega), rem64 (by omega)]
        rfl
      · rw [dF h3, if_neg (fun hh => h3 hh.2.2)]
        rfl
    · rw [dF h2, if_neg (fun hh => h2 hh.2.1)]
      rfl
  · rw [dF h1, if_neg (fun hh => h1 hh.1)]
    rfl
end
def seedF (alg passes blocks pass slice lane counter : Int) : Bl :=
  upd (upd (upd (upd (upd (upd (upd nulB 0 (IntKind.wrap .u64 pass)) 1 (IntKind.wrap .u64 lane)) 2 (IntKind.wrap .u64 slice)) 3 (IntKind.wrap .u64 blocks)) 4 (IntKind.wrap .u64 passes)) 5 (IntKind.wrap .u64 (subA .i64 alg 1))) 6 (IntKind.wrap .u64 counter)
theorem p103 {R : Type} (N : Nat) (hN : N = 1301) (alg t L m b c q z pass slice lane counter : Int) (κ) :
    p_103 (R := R) N (((alg, (t, (L, (m, (b, (c, (q, (z, ())))))))), (pass, (slice, ())), lane, counter, ()), ()) κ = κ (seedF alg t b pass slice lane counter) := by subst hN; kernel_rfl
def addrF (alg passes blocks pass slice lane counter : Int) : Bl := mixF nulB (mixF nulB (seedF alg passes blocks pass slice lane counter))
theorem p90 {R : Type} (N : Nat) (hN : N = 1301) (alg t L m b c q z pass slice lane counter : Int) (κ) :
    p_90 (R := R) N (((alg, (t, (L, (m, (b, (c, (q, (z, ())))))))), (pass, (slice, ())), lane, counter, ()), ()) κ = κ (addrF alg t b pass slice lane counter) := by
  unfold p_90 Q_90
  try dsimp only
  rw [p103 N hN]
  try dsimp only
  rw [p95 N hN]
  try dsimp only
  rw [p95 N hN]
  rfl
theorem nT : (!true) = false := rfl
theorem nF : (!false) = true := rfl
theorem getD_set {α : Type} (l : List α) (i j : Nat) (x z : α) (hi : i < l.length) : (l.set i x).getD j z = if j = i then x else l.getD j z := by
  by_cases h : j = i
  · subst h; simp [List.getD_eq_getElem?_getD, hi]
  · simp [List.getD_eq_getElem?_getD, List.getElem?_set, Ne.symm h, h]
def rowsF (f : Nat → Bl) (C L : Nat) : List (List Bl) := (List.range L).map fun la => (List.range C).map fun co => f (la * C + co)
theorem rowsF_len (f : Nat → Bl) (C L : Nat) : (rowsF f C L).length = L := by simp [rowsF]
theorem rowsF_row (f : Nat → Bl) (C L : Nat) {la : Nat} (h : la < L) : (rowsF f C L).getD la [] = (List.range C).map fun co => f (la * C + co) := by simp [rowsF, h]
theorem rowsF_rlen (f : Nat → Bl) (C L : Nat) {la : Nat} (h : la < L) : ((rowsF f C L).getD la []).length = C := by rw [rowsF_row f C L h]; simp
theorem rowsF_get (f : Nat → Bl) (C L : Nat) {la co : Nat} (h : la < L) (hc : co < C) (z : Bl) : ((rowsF f C L).getD la []).getD co z = f (la * C + co) := by rw [rowsF_row f C L h]; simp [hc]
theorem at_inj {C a b c d : Nat} (hb : b < C) (hd : d < C) (h : a * C + b = c * C + d) : a = c ∧ b = d := by
  have h1 : (a * C + b) / C = a := by rw [Nat.mul_comm, Nat.mul_add_div (by omega), Nat.div_eq_of_lt hb, Nat.add_zero]
  have h2 : (c * C + d) / C = c := by rw [Nat.mul_comm, Nat.mul_add_div (by omega), Nat.div_eq_of_lt hd, Nat.add_zero]
  have h3 : a = c := by rw [← h1, h, h2]
  subst h3; exact ⟨rfl, by omega⟩
theorem rowsF_set (f : Nat → Bl) (C L : Nat) {la co : Nat} (h : la < L) (hc : co < C) (b : Bl) : (rowsF f C L).set la (((rowsF f C L).getD la []).set co b) = rowsF (upd f (la * C + co) b) C L := by
  apply List.ext_getElem?
  intro i
  rw [List.getElem?_set, rowsF_len]
  by_cases hi : la = i
  · subst hi
    rw [if_pos rfl, if_pos h, rowsF_row f C L h]
    simp only [rowsF, List.getElem?_map, List.getElem?_range h, Option.map_some, Option.some.injEq]
    apply List.ext_getElem?
    intro j
    rw [List.getElem?_set]
    simp only [List.length_map, List.length_range, List.getElem?_map]
    by_cases hj : co = j
    · subst hj
      rw [if_pos rfl, if_pos hc, List.getElem?_range hc]
      simp [upd_same]
    · rw [if_neg hj]
      by_cases hjc : j < C
      · rw [List.getElem?_range hjc]
        simp only [Option.map_some, Option.some.injEq]
        rw [upd_other]; omega
      · rw [List.getElem?_eq_none (by simpa using hjc)]; rfl
  · rw [if_neg hi]
    simp only [rowsF, List.getElem?_map]
    by_cases hiL : i < L
    · rw [List.getElem?_range hiL]
      simp only [Option.map_some, Option.some.injEq]
      apply List.map_congr_left
      intro j hj
      rw [List.mem_range] at hj
      rw [upd_other]
      intro e
      exact hi (at_inj hj hc e).1.symm
    · rw [List.getElem?_eq_none (by simpa using hiL)]; rfl
theorem rowsF_congr {f g : Nat → Bl} {C L : Nat} (h : ∀ k, k < L * C → f k = g k) : rowsF f C L = rowsF g C L := by
  unfold rowsF
  apply List.map_congr_left
  intro la hla
  apply List.map_congr_left
  intro co hco
  rw [List.mem_range] at hla hco
  apply h
  have := Nat.mul_le_mul_right C (show la + 1 ≤ L by omega)
  rw [Nat.succ_mul] at this
  omega
abbrev GH := (Unit × (Shp8 × Unit)) × (Unit × (Unit × (Bool × Unit))) × (Int × (Int × (Int × (Int × Unit)))) × (List Bl) × Unit
def gh (s : Shp8) (ar : Int × (Int × (Int × (Int × Unit)))) (l : List Bl) : GH := (((), (s, ())), ((), ((), (true, ()))), ar, l, ())
def shn (s0 t m b q z : Int) (L C : Nat) : Shp8 := (s0, (t, ((L : Int), (m, (b, ((C : Int), (q, (z, ()))))))))
section
variable {R : Type} (N : Nat) (s0 t m b q z : Int) (L C : Nat)
theorem p46 (hL : L ≤ 4) (hC : C ≤ 80) (la co : Int) (ar) (l : List Bl) (κ : Int → Option R) :
    p_46 N (((), (la, (co, ())), ()), gh (shn s0 t m b q z L C) ar l) κ = κ (if 0 ≤ la ∧ la < L ∧ 0 ≤ co ∧ co < C then la * C + co else -1) := by
  unfold p_46 Q_46 gh shn
  dsimp only
  by_cases h1 : la < 0
  · rw [bif_t (dT h1), if_neg (by omega)]
  rw [bif_f (dF h1)]
  by_cases h2 : la ≥ L
  · rw [bif_t (dT h2), if_neg (by omega)]
  rw [bif_f (dF h2)]
  by_cases h3 : co < 0
  · rw [bif_t (dT h3), if_neg (by omega)]
  rw [bif_f (dF h3)]
  by_cases h4 : co ≥ C
  · rw [bif_t (dT h4), if_neg (by omega)]
  rw [bif_f (dF h4), if_pos ⟨by omega, by omega, by omega, by omega⟩]
  unfold p_78 Q_78
  dsimp only
  have e0 : 0 ≤ la * C := Int.mul_nonneg (by omega) (by omega)
  have e1 : la * C ≤ 4 * 80 := Int.mul_le_mul (by omega) (by omega) (by omega) (by omega)
  rw [mul64 (a := la) (by omega) (by omega), add64 (by omega) (by omega)]
theorem at_lt {la co L C : Nat} (h : la < L) (hc : co < C) : la * C + co < L * C := by
  have := Nat.mul_le_mul_right C (show la + 1 ≤ L by omega)
  rw [Nat.succ_mul] at this
  omega
theorem p47 (n : Int) (ar) (l : List Bl) (h0 : 0 ≤ n) (h1 : n < l.length) (κ) :
    p_47 (R := R) N (((), n, ()), (((), ((), (true, ()))), ar, l, ())) κ = κ (l.getD n.toNat nulB, (0, ())) := by
  unfold p_47 Q_47
  dsimp only
  rw [bif_f (dF (by omega)), bif_f (dF (by omega)), bif_f (show (!true) = false from rfl), bif_t (dT h0), bif_t (dT h1)]; rfl
theorem p9 (hL : L ≤ 4) (hC : C ≤ 80) (la co : Int) (ar) (l : List Bl) (hl : l.length = L * C) (κ) :
    p_9 (R := R) N (((), (la, (co, ())), ()), gh (shn s0 t m b q z L C) ar l) κ = if 0 ≤ la ∧ la < L ∧ 0 ≤ co ∧ co < C then κ (l.getD (la * C + co).toNat nulB, (0, ())) else κ (nulB, (11, ())) := by
  unfold p_9 Q_9
  dsimp only
  refine (p46 N s0 t m b q z L C hL hC la co ar l _).trans ?_
  by_cases h : 0 ≤ la ∧ la < L ∧ 0 ≤ co ∧ co < C
  · rw [if_pos h, if_pos h]
    obtain ⟨h1, h2, h3, h4⟩ := h
    have e0 : 0 ≤ la * C := Int.mul_nonneg h1 (by omega)
    obtain ⟨a, rfl⟩ := Int.eq_ofNat_of_zero_le h1
    obtain ⟨c, rfl⟩ := Int.eq_ofNat_of_zero_le h3
    have hlt := at_lt (la := a) (co := c) (L := L) (C := C) (by omega) (by omega)
    rw [bif_f (dF (by omega))]
    exact p47 N _ ar l (by omega) (by rw [hl]; exact_mod_cast hlt) _
  · rw [if_neg h, if_neg h]; rfl
theorem p12 (hL : L ≤ 4) (hC : C ≤ 80) (la co : Int) (ar) (l : List Bl) (hl : l.length = L * C) (x : Bl) (κ) :
    p_12 (R := R) N (((), (la, (co, ())), x, ()), gh (shn s0 t m b q z L C) ar l) κ = if 0 ≤ la ∧ la < L ∧ 0 ≤ co ∧ co < C then κ (0, gh (shn s0 t m b q z L C) ar (l.set (la * C + co).toNat x)) else κ (11, gh (shn s0 t m b q z L C) ar l) := by
  unfold p_12 Q_12
  dsimp only
  refine (p46 N s0 t m b q z L C hL hC la co ar l _).trans ?_
  by_cases h : 0 ≤ la ∧ la < L ∧ 0 ≤ co ∧ co < C
  · rw [if_pos h, if_pos h]
    obtain ⟨h1, h2, h3, h4⟩ := h
    have e0 : 0 ≤ la * C := Int.mul_nonneg h1 (by omega)
    obtain ⟨a, rfl⟩ := Int.eq_ofNat_of_zero_le h1
    obtain ⟨c, rfl⟩ := Int.eq_ofNat_of_zero_le h3
    have hlt := at_lt (la := a) (co := c) (L := L) (C := C) (by omega) (by omega)
    have hb : ((a : Int) * C + c) < (l.length : Int) := by rw [hl]; exact_mod_cast hlt
    rw [bif_f (dF (by omega))]
    unfold p_51 Q_51 gh shn
    dsimp only
    refine (p47 N _ ar l (by omega) hb _).trans ?_
    dsimp only
    rw [bif_f (show ((0 : Int) != 0) = false from rfl), bif_t (dT (by omega)), bif_t (dT hb)]
  · rw [if_neg h, if_neg h]; rfl
theorem rep_succ {α : Type} (n : Nat) (x : α) : List.replicate n x ++ [x] = List.replicate (n + 1) x := by rw [List.replicate_succ']
theorem l15 (hL : L ≤ 4) (hC : C ≤ 80) (κ) : ∀ (n i : Nat), i ≤ L → L - i < n →
    l_15_3 (R := R) N n (((), (), (i : Int), ()), (shn s0 t m b q z L C, List.replicate i (List.replicate C nulB), ())) κ = κ (((), ()), (List.replicate L (List.replicate C nulB), ()))
  | 0, i, h1, h2 => by omega
  | n + 1, i, h1, h2 => by
    unfold l_15_3 B_15_3 C_15_3 shn
    dsimp only
    by_cases hi : i < L
    · rw [bif_t (dT (show (i : Int) < (L : Int) by omega)), bif_t (dT (by omega)), bif_t (dT (by omega)), bif_t (dT (by omega)), bif_t (dT (by omega))]
      simp only [List.length_replicate, List.length_cons, List.length_nil]
      rw [dT (by omega)]
      simp only [Bool.and_true, cond_true]
      have := l15 hL hC κ n (i + 1) (by omega) (by omega)
      unfold shn at this
      rw [← rep_succ] at this
      rw [show addA .i64 (i : Int) 1 = ((i + 1 : Nat) : Int) by rw [add64 (by omega) (by omega)]; simp]
      exact this
    · rw [bif_f (dF (show ¬ (i : Int) < (L : Int) by omega)), show i = L by omega]
theorem rowsF_zero : rowsF (fun _ => nulB) C L = List.replicate L (List.replicate C nulB) := by
  unfold rowsF
  rw [List.map_const', List.map_const']; simp
theorem p15 (hN : 10 < N) (hL : L ≤ 4) (hC : C ≤ 80) (κ) : p_15 (R := R) N ((shn s0 t m b q z L C, ()), ()) κ = κ ((), (rowsF (fun _ => nulB) C L, ())) := by
  unfold p_15 Q_15
  refine (l15 N s0 t m b q z L C hL hC _ N 0 (by omega) (by omega)).trans ?_
  rw [rowsF_zero]
def upTo (l : List Bl) (n : Nat) : Nat → Bl := fun k => if k < n then l.getD k nulB else nulB
theorem upTo_succ (l : List Bl) (n : Nat) : upd (upTo l n) n (l.getD n nulB) = upTo l (n + 1) := by
  funext k
  rw [upd_if]
  unfold upTo
  by_cases h : k = n
  · subst h; rw [if_pos rfl, if_pos (by omega)]
  · rw [if_neg h]
    by_cases h2 : k < n
    · rw [if_pos h2, if_pos (by omega)]
    · rw [if_neg h2, if_neg (by omega)]
theorem l17i (hL : L ≤ 4) (hC : C ≤ 80) (ar) (l : List Bl) (hl : l.length = L * C) (la : Nat) (hla : la < L) (u : Int) (κ) : ∀ (n c : Nat), c ≤ C → C - c < n →
    l_17_6 (R := R) N n (((), (), (la : Int), u, (la : Int), (C : Int), (c : Int), ()), (((), (shn s0 t m b q z L C, ())), ((), ((), (true, ()))), ar, l, rowsF (upTo l (la * C + c)) C L, ())) κ =
      κ (((), (), u, (la : Int), ()), (((), (shn s0 t m b q z L C, ())), ((), ((), (true, ()))), ar, l, rowsF (upTo l (la * C + C)) C L, ()))
  | 0, i, h1, h2 => by omega
  | n + 1, c, h1, h2 => by
    unfold l_17_6 B_17_6 C_17_6
    dsimp only
    by_cases hc : c < C
    · rw [bif_t (dT (show (c : Int) < (C : Int) by omega)), bif_t (dT (by omega)), rowsF_len, bif_t (dT (by omega))]
      refine (p9 N s0 t m b q z L C hL hC la c ar l hl _).trans ?_
      rw [if_pos ⟨by omega, by omega, by omega, by omega⟩]
      dsimp only
      rw [Int.toNat_natCast la, Int.toNat_natCast c, rowsF_rlen _ C L hla, bif_t (dT (by omega)), bif_t (dT (by omega)), show ((la : Int) * C + c).toNat = la * C + c by rw [← Int.natCast_mul, ← Int.natCast_add, Int.toNat_natCast]]
      rw [rowsF_set _ C L hla hc, upTo_succ, show addA .i64 (c : Int) 1 = ((c + 1 : Nat) : Int) by rw [add64 (by omega) (by omega)]; simp]
      exact l17i hL hC ar l hl la hla u κ n (c + 1) (by omega) (by omega)
    · rw [bif_f (dF (show ¬ (c : Int) < (C : Int) by omega)), show c = C by omega]
theorem l17o (hN : 100 < N) (hL : L ≤ 4) (hC : C ≤ 80) (ar) (l : List Bl) (hl : l.length = L * C) (κ) : ∀ (n i : Nat), i ≤ L → L - i < n →
    l_17_3 (R := R) N n (((), (), (L : Int), (i : Int), ()), (((), (shn s0 t m b q z L C, ())), ((), ((), (true, ()))), ar, l, rowsF (upTo l (i * C)) C L, ())) κ =
      κ (((), ()), (((), (shn s0 t m b q z L C, ())), ((), ((), (true, ()))), ar, l, rowsF (upTo l (L * C)) C L, ()))
  | 0, i, h1, h2 => by omega
  | n + 1, i, h1, h2 => by
    unfold l_17_3 B_17_3 C_17_3
    dsimp only
    by_cases hi : i < L
    · rw [bif_t (dT (show (i : Int) < (L : Int) by omega)), bif_t (dT (by omega)), rowsF_len, bif_t (dT (by omega))]
      rw [Int.toNat_natCast i, rowsF_rlen _ C L hi]
      refine (l17i N s0 t m b q z L C hL hC ar l hl i hi (L : Int) _ N 0 (by omega) (by omega)).trans ?_
      dsimp only
      rw [show addA .i64 (i : Int) 1 = ((i + 1 : Nat) : Int) by rw [add64 (by omega) (by omega)]; simp, show i * C + C = (i + 1) * C by rw [Nat.succ_mul]]
      exact l17o hN hL hC ar l hl κ n (i + 1) (by omega) (by omega)
    · rw [bif_f (dF (show ¬ (i : Int) < (L : Int) by omega)), show i = L by omega]
def gridF (l : List Bl) (C L : Nat) : List (List Bl) := rowsF (fun k => l.getD k nulB) C L
theorem p17 (hN : 100 < N) (hL : L ≤ 4) (hC : C ≤ 80) (ar) (l : List Bl) (hl : l.length = L * C) (κ) :
    p_17 (R := R) N (((), ()), gh (shn s0 t m b q z L C) ar l) κ = κ ((), (((), (shn s0 t m b q z L C, ())), ((), ((), (true, ()))), ar, l, gridF l C L, ())) := by
  unfold p_17 Q_17 gh
  dsimp only
  refine (p15 N s0 t m b q z L C (by omega) hL hC _).trans ?_
  dsimp only
  rw [rowsF_len]
  have e : rowsF (fun _ => nulB) C L = rowsF (upTo l (0 * C)) C L := by
    apply rowsF_congr; intro k _; unfold upTo; rw [if_neg (by omega)]
  rw [e]
  refine (l17o N s0 t m b q z L C hN hL hC ar l hl _ N 0 (by omega) (by omega)).trans ?_
  have e2 : rowsF (upTo l (L * C)) C L = gridF l C L := by
    apply rowsF_congr; intro k hk; unfold upTo; rw [if_pos hk]
  rw [e2]
theorem l16i (f g : Nat → Bl) (hfg : ∀ k, k < L * C → schEq (.arr 128 (.int .u64)) (f k) (g k) = true) (la : Nat) (hla : la < L) (hC : C ≤ 80) (κ0 κ1) : ∀ (n c : Nat), c ≤ C → C - c < n →
    l_16_9 (R := R) N n (((), (), (la : Int), (c : Int), ()), (rowsF f C L, rowsF g C L, ())) κ0 κ1 = κ1 (((), (), (la : Int), ()), (rowsF f C L, rowsF g C L, ()))
  | 0, c, h1, h2 => by omega
  | n + 1, c, h1, h2 => by
    unfold l_16_9 B_16_9 C_16_9
    dsimp only
    rw [rowsF_len, rowsF_len, bif_t (dT (by omega)), bif_t (dT (by omega))]
    rw [Int.toNat_natCast la, Int.toNat_natCast c, rowsF_rlen _ C L hla, rowsF_rlen _ C L hla]
    by_cases hc : c < C
    · rw [bif_t (dT (show (c : Int) < (C : Int) by omega)), bif_t (dT (by omega)), bif_t (dT (by omega)), bif_t (dT (by omega)), bif_t (dT (by omega)), bif_t (dT (by omega)), bif_t (dT (by omega)), bif_t (dT (by omega)), bif_t (dT (by omega))]
      rw [rowsF_get f C L hla hc, rowsF_get g C L hla hc, hfg _ (at_lt hla hc), bif_f nT, show addA .i64 (c : Int) 1 = ((c + 1 : Nat) : Int) by rw [add64 (by omega) (by omega)]; simp]
      exact l16i f g hfg la hla hC κ0 κ1 n (c + 1) (by omega) (by omega)
    · rw [bif_f (dF (show ¬ (c : Int) < (C : Int) by omega))]
theorem l16o (hN : 100 < N) (f g : Nat → Bl) (hfg : ∀ k, k < L * C → schEq (.arr 128 (.int .u64)) (f k) (g k) = true) (hL : L ≤ 4) (hC : C ≤ 80) (κ0 κ1) : ∀ (n i : Nat), i ≤ L → L - i < n →
    l_16_4 (R := R) N n (((), (), (i : Int), ()), (rowsF f C L, rowsF g C L, ())) κ0 κ1 = κ1 ((), (rowsF f C L, rowsF g C L, ()))
  | 0, i, h1, h2 => by omega
  | n + 1, i, h1, h2 => by
    unfold l_16_4 B_16_4 C_16_4
    dsimp only
    rw [rowsF_len, rowsF_len]
    by_cases hi : i < L
    · rw [bif_t (dT (show (i : Int) < (L : Int) by omega)), bif_t (dT (by omega)), bif_t (dT (by omega)), bif_t (dT (by omega)), bif_t (dT (by omega))]
      rw [Int.toNat_natCast i, rowsF_rlen _ C L hi, rowsF_rlen _ C L hi, bif_f (by simp)]
      refine (l16i N L C f g hfg i hi hC _ _ N 0 (by omega) (by omega)).trans ?_
      dsimp only
      rw [show addA .i64 (i : Int) 1 = ((i + 1 : Nat) : Int) by rw [add64 (by omega) (by omega)]; simp]
      exact l16o hN f g hfg hL hC κ0 κ1 n (i + 1) (by omega) (by omega)
    · rw [bif_f (dF (show ¬ (i : Int) < (L : Int) by omega))]
theorem p16 (hN : 100 < N) (f g : Nat → Bl) (hfg : ∀ k, k < L * C → schEq (.arr 128 (.int .u64)) (f k) (g k) = true) (hL : L ≤ 4) (hC : C ≤ 80) (κ) :
    p_16 (R := R) N (((), (), ()), (rowsF f C L, rowsF g C L, ())) κ = κ (true, (rowsF f C L, rowsF g C L, ())) := by
  unfold p_16 Q_16
  dsimp only
  rw [rowsF_len, rowsF_len, bif_f (by simp)]
  exact l16o N L C hN f g hfg hL hC _ _ N 0 (by omega) (by omega)
end
def FewP (t L q : Int) : Prop := t ≤ 3 ∧ L ≤ 4 ∧ 4 * L * q ≤ 80
instance (t L q : Int) : Decidable (FewP t L q) := by unfold FewP; exact inferInstance
theorem p55 {R : Type} (N : Nat) (s0 t l m b c q z : Int) (κ) : p_55 (R := R) N (((s0, (t, (l, (m, (b, (c, (q, (z, ())))))))), ()), ()) κ = κ (decide (t ≤ 3 ∧ l ≤ 4 ∧ b ≤ 80)) := by
  unfold p_55 Q_55
  dsimp only
  by_cases h1 : t ≤ 3
  · by_cases h2 : l ≤ 4
    · simp [h1, h2]
    · simp [h2]
  · simp [h1]
theorem p43 {R : Type} (N : Nat) (n : Int) (h : 0 ≤ n ∧ n ≤ 80) (κ0 κ1) : p_43 (R := R) N ((n, ()), ()) κ0 κ1 = κ1 (((), (0, ())), ((n, (0, (0, (0, ())))), ())) := by
  unfold p_43 Q_43
  dsimp only
  rw [bif_f (dF (by omega)), bif_f (dF (by omega))]
theorem p44_v1 {R : Type} (N : Nat) (n : Int) (h : 0 ≤ n ∧ n ≤ 80) (κ0 κ1) : p_44_v1 (R := R) N (((), n, ()), ((n, (0, (0, (0, ())))), ())) κ0 κ1 = κ1 (((), (0, ())), ((n, (n, (n, (1, ())))), ((), ((), (true, ()))), List.replicate n.toNat nulB, ())) := by
  unfold p_44_v1 Q_44_v1
  dsimp only
  have e : maxA 0 n = n := by unfold maxA; split <;> omega
  rw [bif_f (dF (by omega)), sub64 (by omega) (by omega), Int.sub_zero, bif_f (dF (by omega)), add64 (by omega) (by omega), Int.zero_add, e, bif_t (dT (by omega)), bif_t (dT (by omega)), bif_t (dT (by omega)), bif_t (dT (by omega))]
  rfl
theorem p45_v1 {R : Type} (N : Nat) (s0 t l m b c q z : Int) (hl : 1 ≤ l) (ar) (bl : List Bl) (hb : (bl.length : Int) = b) (κ0 κ1) :
    p_45_v1 (R := R) N (((), (s0, (t, (l, (m, (b, (c, (q, (z, ())))))))), ()), (((), ((), (true, ()))), ar, bl, ())) κ0 κ1 = κ1 (((), (0, ())), (((), ((), (true, ()))), ar, bl, ((), ((s0, (t, (l, (m, (b, (c, (q, (z, ())))))))), ())), ())) := by
  unfold p_45_v1 Q_45_v1
  dsimp only
  rw [bif_f (dF (by omega))]
  unfold p_77 Q_77
  dsimp only
  rw [hb, bif_f (dF (by omega))]
theorem p14 {R : Type} (N : Nat) (a t m l z : Int) (κ0 κ1) : p_14 (R := R) N (((a, (t, (m, (l, (z, ()))))), ()), ()) κ0 κ1 =
    if h : Fit a t m l z ∧ FewP t l (m / (4 * l)) then κ1 ((), gh (shn a t m (4 * l * (m / (4 * l))) (m / (4 * l)) z l.toNat (4 * (m / (4 * l))).toNat) (4 * l * (m / (4 * l)), (4 * l * (m / (4 * l)), (4 * l * (m / (4 * l)), (1, ())))) (List.replicate (l.toNat * (4 * (m / (4 * l))).toNat) nulB)) else κ0 ((), ()) := by
  unfold p_14 Q_14
  dsimp only
  rw [p42]
  by_cases h : Fit a t m l z
  · rw [dT h]
    obtain ⟨⟨h1, h2⟩, ⟨h3, h4⟩, ⟨h5, h6⟩, ⟨h7, h8⟩, h9, h10, h11⟩ := id h
    simp only [cond_true, bne_self_eq_false, cond_false]
    rw [p55]
    have q0 : 0 ≤ m / (4 * l) := Int.ediv_nonneg (by omega) (by omega)
    generalize hq : m / (4 * l) = q at *
    have e2 : 4 * l * q = l * (4 * q) := by rw [Int.mul_comm 4 l, Int.mul_assoc]
    have e3 : 0 ≤ 4 * l * q := by rw [e2]; exact Int.mul_nonneg (by omega) (by omega)
    by_cases g : t ≤ 3 ∧ l ≤ 4 ∧ 4 * l * q ≤ 80
    · rw [dT g, bif_f nT]
      rw [p43 N _ ⟨e3, g.2.2⟩]
      dsimp only
      rw [p44_v1 N _ ⟨e3, g.2.2⟩]
      dsimp only
      rw [p45_v1 N _ _ _ _ _ _ _ _ h5 _ _ (by rw [List.length_replicate]; omega)]
      rw [dif_pos ⟨h, g⟩]
      unfold gh shn
      rw [show ((l.toNat : Nat) : Int) = l by omega, show (((4 * q).toNat : Nat) : Int) = 4 * q by omega, show (4 * l * q).toNat = l.toNat * (4 * q).toNat by
        rw [e2]
        obtain ⟨x, rfl⟩ := Int.eq_ofNat_of_zero_le (show 0 ≤ l by omega)
        obtain ⟨y, rfl⟩ := Int.eq_ofNat_of_zero_le q0
        rw [show (4 : Int) * (y : Int) = ((4 * y : Nat) : Int) by simp, ← Int.natCast_mul, Int.toNat_natCast, Int.toNat_natCast, Int.toNat_natCast]]
    · rw [dF g, bif_t nF, dif_neg (fun hh => g hh.2)]
  · rw [dF h, bif_f rfl, dif_neg (fun hh => h hh.1)]
    rfl
def freeF (s : Shp8) (pass slice : Int) : Bool := if s.1 = 3 then (if pass = 0 then decide (slice < 2) else false) else s.1 == 2
theorem p64 {R : Type} (N : Nat) (s : Shp8) (pass slice : Int) (κ : Bool → Option R) : p_64 N ((s, (pass, (slice, ())), ()), ()) κ = κ (freeF s pass slice) := by
  unfold p_64 Q_64 freeF
  dsimp only
  by_cases h2 : s.1 = 2
  · have h3 : ¬ s.1 = 3 := by omega
    rw [bif_t (beq_iff_eq.2 h2), if_neg h3, beq_iff_eq.2 h2]
  · rw [bif_f (beq_eq_false_iff_ne.2 h2)]
    by_cases h3 : s.1 = 3
    · rw [bif_t (beq_iff_eq.2 h3), if_pos h3]
      by_cases h4 : pass = 0
      · rw [bif_t (beq_iff_eq.2 h4), if_pos h4]
      · rw [bif_f (beq_eq_false_iff_ne.2 h4), if_neg h4]
    · rw [bif_f (beq_eq_false_iff_ne.2 h3), if_neg h3, beq_eq_false_iff_ne.2 h2]
def wordsF (w : Int) : Int × Int := (IntKind.wrap .u32 w, IntKind.wrap .u32 (shrA .u64 w 32))
theorem wordsF_in (w : Int) : (0 ≤ (wordsF w).1 ∧ (wordsF w).1 < 4294967296) ∧ 0 ≤ (wordsF w).2 ∧ (wordsF w).2 < 4294967296 := by
  unfold wordsF
  dsimp only
  rw [wrapU32, wrapU32]
  omega
theorem p66 {R : Type} (N : Nat) (w : Int) (κ) : p_66 (R := R) N ((w, ()), ()) κ = κ ((wordsF w).1, ((wordsF w).2, ())) := rfl
def shq (a t m b z : Int) (L q : Nat) : Shp8 := (a, (t, ((L : Int), (m, (b, (4 * (q : Int), ((q : Int), (z, ()))))))))
theorem shq_shn (a t m b z : Int) (L q : Nat) : shq a t m b z L q = shn a t m b q z L (4 * q) := by unfold shq shn; simp
abbrev SrB := Shp8 × ((Int × (Int × Unit)) × (Int × (Int × ((Nat → Int) × Unit))))
def src (s : Shp8) (pass slice lane c : Int) (h : Bl) : SrB := (s, ((pass, (slice, ())), (lane, (c, (h, ())))))
abbrev GS := (Unit × (Shp8 × Unit)) × (Unit × (Unit × (Bool × Unit))) × (Int × (Int × (Int × (Int × Unit)))) × (List Bl) × SrB × Unit
def ghs (s : Shp8) (ar : Int × (Int × (Int × (Int × Unit)))) (l : List Bl) (r : SrB) : GS := (((), (s, ())), ((), ((), (true, ()))), ar, l, r, ())
section
variable {R : Type} (N : Nat) (a t m b z : Int) (L q : Nat)
theorem p36 (hq : 2 ≤ q ∧ q ≤ 20) {slice index : Nat} (hs : slice < 4) (hi : index < q) (κ : Int → Option R) :
    p_36 N ((shq a t m b z L q, (slice : Int), (index : Int), ()), ()) κ = κ ((slice * q + index : Nat) : Int) := by
  unfold p_36 Q_36 shq
  dsimp only
  have h1 : slice * q ≤ 3 * q := Nat.mul_le_mul_right _ (by omega)
  have h2 : ((slice * q : Nat) : Int) = (slice : Int) * (q : Int) := Int.natCast_mul ..
  rw [mul64 (by omega) (by omega), add64 (by omega) (by omega)]
  rw [Int.natCast_add, h2]
def befQ (q col : Nat) : Nat := if col = 0 then 4 * q - 1 else col - 1
theorem befQ_lt (hq : 2 ≤ q) {col : Nat} (h : col < 4 * q) : befQ q col < 4 * q := by unfold befQ; split <;> omega
theorem p37 (hq : 2 ≤ q ∧ q ≤ 20) {col : Nat} (h : col < 4 * q) (κ : Int → Option R) :
    p_37 N ((shq a t m b z L q, (col : Int), ()), ()) κ = κ ((befQ q col : Nat) : Int) := by
  unfold p_37 Q_37 shq befQ
  dsimp only
  by_cases h0 : col = 0
  · subst h0
    rw [bif_t (by rfl), if_pos rfl, sub64 (by omega) (by omega)]
    congr 1 <;> omega
  · rw [bif_f (beq_eq_false_iff_ne.2 (by omega)), if_neg h0, sub64 (by omega) (by omega)]
    congr 1 <;> omega
def wordQ (l : List Bl) (pass slice lane index : Nat) : Int :=
  if freeF (shq a t m b z L q) pass slice = true then addrF a t b pass slice lane ((index / 128 + 1 : Nat) : Int) (index % 128) else (l.getD (lane * (4 * q) + befQ q (slice * q + index)) nulB) 0
theorem p65 (hN : N = 1301) (pass slice lane : Int) (index : Nat) (hi : index ≤ 1300) (c : Int) (h : Bl) (hok : c ≠ 0 → h = addrF a t b pass slice lane c) (κ) :
    p_65 (R := R) N (((), (index : Int), ()), (src (shq a t m b z L q) pass slice lane c h, ())) κ =
      κ (((wordsF (addrF a t b pass slice lane ((index / 128 + 1 : Nat) : Int) (index % 128))).1, ((wordsF (addrF a t b pass slice lane ((index / 128 + 1 : Nat) : Int) (index % 128))).2, ())), (src (shq a t m b z L q) pass slice lane ((index / 128 + 1 : Nat) : Int) (addrF a t b pass slice lane ((index / 128 + 1 : Nat) : Int)), ())) := by
  unfold p_65 Q_65 src shq
  dsimp only
  have e1 : quoA .i64 (index : Int) 128 = ((index / 128 : Nat) : Int) := by rw [quo64 (by omega) (by omega) (by omega)]; omega
  have e2 : addA .i64 ((index / 128 : Nat) : Int) 1 = ((index / 128 + 1 : Nat) : Int) := by rw [add64 (by omega) (by omega)]; simp
  have e3 : remA .i64 (index : Int) 128 = ((index % 128 : Nat) : Int) := by rw [rem64 (by omega)]; omega
  rw [bif_f (dF (by omega)), e1, e2, e3]
  by_cases hc : ((index / 128 + 1 : Nat) : Int) = c
  · rw [bif_f (by rw [hc]; simp), bif_t (dT (by omega)), bif_t (dT (by omega)), Int.toNat_natCast, p66]
    have hh := hok (by omega)
    subst hh
    rw [hc]
  · rw [bif_t (by simpa using hc)]
    rw [p90 N hN, bif_t (dT (by omega)), bif_t (dT (by omega)), Int.toNat_natCast, p66]
theorem p32 (hN : N = 1301) (hL : L ≤ 4) (hq : 2 ≤ q ∧ q ≤ 20) {pass slice lane index : Nat} (hs : slice < 4) (hla : lane < L) (hi : index < q) (ar) (l : List Bl) (hl : l.length = L * (4 * q)) (c : Int) (h : Bl) (hok : c ≠ 0 → h = addrF a t b pass slice lane c) :
    ∃ c' h', (c' ≠ 0 → h' = addrF a t b pass slice lane c') ∧ ∀ κ, p_32 (R := R) N (((), ((pass : Int), ((slice : Int), ())), (lane : Int), (index : Int), (), ()), ghs (shq a t m b z L q) ar l (src (shq a t m b z L q) pass slice lane c h)) κ =
      κ (((wordsF (wordQ a t m b z L q l pass slice lane index)).1, ((wordsF (wordQ a t m b z L q l pass slice lane index)).2, (0, ()))), ghs (shq a t m b z L q) ar l (src (shq a t m b z L q) pass slice lane c' h')) := by
  by_cases hf : freeF (shq a t m b z L q) pass slice = true
  · refine ⟨((index / 128 + 1 : Nat) : Int), addrF a t b pass slice lane ((index / 128 + 1 : Nat) : Int), fun _ => rfl, fun κ => ?_⟩
    unfold p_32 Q_32 ghs
    dsimp only
    refine (p64 N (shq a t m b z L q) pass slice _).trans ?_
    rw [hf, bif_t rfl]
    refine (p65 N a t m b z L q hN pass slice lane index (by omega) c h hok _).trans ?_
    unfold wordQ
    rw [if_pos hf]
  · refine ⟨c, h, hok, fun κ => ?_⟩
    unfold p_32 Q_32 ghs
    dsimp only
    refine (p64 N (shq a t m b z L q) pass slice _).trans ?_
    have hcol : slice * q + index < 4 * q := by
      have := Nat.mul_le_mul_right q (show slice + 1 ≤ 4 by omega)
      rw [Nat.succ_mul] at this; omega
    rw [bif_f (by simpa using hf)]
    refine (p36 N a t m b z L q hq hs hi _).trans ?_
    refine (p37 N a t m b z L q hq hcol _).trans ?_
    have hb := befQ_lt q hq.1 hcol
    have := p9 (R := R) N a t m b q z L (4 * q) hL (by omega) (lane : Int) ((befQ q (slice * q + index) : Nat) : Int) ar l hl
    rw [← shq_shn] at this
    refine (this _).trans ?_
    rw [if_pos ⟨by omega, by omega, by omega, by omega⟩]
    dsimp only
    rw [bif_f (show ((0 : Int) != 0) = false from rfl), p66, show ((lane : Int) * ((4 * q : Nat) : Int) + ((befQ q (slice * q + index) : Nat) : Int)).toNat = lane * (4 * q) + befQ q (slice * q + index) by rw [← Int.natCast_mul, ← Int.natCast_add, Int.toNat_natCast]]
    unfold wordQ
    rw [if_neg hf]
def refL (l : List Bl) (pass slice lane index : Nat) : Int := laneOf pass slice lane (wordsF (wordQ a t m b z L q l pass slice lane index)).2 L
def refC (l : List Bl) (pass slice lane index : Nat) : Int := colOf pass slice index (wordsF (wordQ a t m b z L q l pass slice lane index)).1 q (refL a t m b z L q l pass slice lane index == lane)
theorem refL_in (hL : 1 ≤ L) (l : List Bl) (pass slice lane index : Nat) (hla : lane < L) : 0 ≤ refL a t m b z L q l pass slice lane index ∧ refL a t m b z L q l pass slice lane index < L := by
  unfold refL laneOf
  split
  · omega
  · exact ⟨Int.emod_nonneg _ (by omega), Int.emod_lt_of_pos _ (by omega)⟩
theorem refC_in (hq : 2 ≤ q) (l : List Bl) (pass slice lane index : Nat) : 0 ≤ refC a t m b z L q l pass slice lane index ∧ refC a t m b z L q l pass slice lane index < 4 * q := by
  unfold refC colOf
  exact ⟨Int.emod_nonneg _ (by omega), Int.emod_lt_of_pos _ (by omega)⟩
def ThereN (t : Int) (L q pass slice lane index : Nat) : Prop := (pass : Int) < t ∧ slice < 4 ∧ lane < L ∧ index < q ∧ (pass = 0 → slice = 0 → 2 ≤ index)
theorem there_of {pass slice lane index : Nat} (ht : ThereN t L q pass slice lane index) : There t L q pass slice lane index := by
  obtain ⟨h1, h2, h3, h4, h5⟩ := ht
  refine ⟨⟨⟨by omega, by omega⟩, by omega, by omega⟩, ⟨by omega, by omega⟩, ?_, by omega⟩
  split
  · rename_i h
    have := h5 (by omega) (by omega)
    omega
  · omega
theorem p35 (hN : N = 1301) (ht : 1 ≤ t ∧ t ≤ 3) (hL : 1 ≤ L ∧ L ≤ 4) (hq : 2 ≤ q ∧ q ≤ 20) {pass slice lane index : Nat} (hth : ThereN t L q pass slice lane index) (ar) (l : List Bl) (hl : l.length = L * (4 * q)) (c : Int) (h : Bl) (hok : c ≠ 0 → h = addrF a t b pass slice lane c) :
    ∃ c' h', (c' ≠ 0 → h' = addrF a t b pass slice lane c') ∧ ∀ κ, p_35 (R := R) N (((), ((pass : Int), ((slice : Int), ())), (lane : Int), (index : Int), (), ()), ghs (shq a t m b z L q) ar l (src (shq a t m b z L q) pass slice lane c h)) κ =
      κ (((((lane : Int), (((slice * q + index : Nat) : Int), ())), (((lane : Int), (((befQ q (slice * q + index) : Nat) : Int), ())), ((refL a t m b z L q l pass slice lane index, (refC a t m b z L q l pass slice lane index, ())), ()))), (0, ())), ghs (shq a t m b z L q) ar l (src (shq a t m b z L q) pass slice lane c' h')) := by
  obtain ⟨g1, g2, g3, g4, g5⟩ := id hth
  obtain ⟨c', h', k1, k2⟩ := p32 (R := R) N a t m b z L q hN hL.2 hq g2 g3 g4 ar l hl c h hok
  refine ⟨c', h', k1, fun κ => ?_⟩
  unfold p_35 Q_35
  dsimp only
  refine (k2 _).trans ?_
  unfold ghs src
  dsimp only
  rw [bif_f (show ((0 : Int) != 0) = false from rfl)]
  obtain ⟨⟨w1, w2⟩, w3, w4⟩ := wordsF_in (wordQ a t m b z L q l pass slice lane index)
  refine (p34 N a t (L : Int) m b (q : Int) z ⟨ht.1, by omega⟩ ⟨by omega, by omega⟩ ⟨by omega, by omega⟩ pass slice lane index _ _ w1 w2 w3 w4 _).trans ?_
  rw [if_pos (there_of t L q hth)]
  dsimp only
  rw [bif_f (show ((0 : Int) != 0) = false from rfl)]
  have hcol : slice * q + index < 4 * q := by
    have := Nat.mul_le_mul_right q (show slice + 1 ≤ 4 by omega)
    rw [Nat.succ_mul] at this; omega
  refine (p36 N a t m b z L q hq g2 g4 _).trans ?_
  refine (p37 N a t m b z L q hq hcol _).trans ?_
  rfl
def fillQ (pass : Int) (x y was : Bl) : Bl := xorL [mixF x y, if pass = 0 then nulB else was]
theorem p75 (hN : N = 1301) (x y w : Bl) (κ : Bl → Option R) : p_75 N ((x, y, (), ()), ([w], ())) κ = κ (xorL [mixF x y, w]) := by
  unfold p_75 Q_75
  try dsimp only
  rw [p95 N hN]
  try dsimp only
  rw [bif_t (by simp)]
  refine (p48 N (by omega) _ (by simp) _).trans ?_
  rfl
theorem p39 (hN : N = 1301) (hL : L ≤ 4) (hq : 2 ≤ q ∧ q ≤ 20) (pass slice : Int) (la co lb cb lr cr : Nat) (h1 : la < L) (h2 : co < 4 * q) (h3 : lb < L) (h4 : cb < 4 * q) (h5 : lr < L) (h6 : cr < 4 * q) (ar) (l : List Bl) (hl : l.length = L * (4 * q)) (κ) :
    p_39 (R := R) N (((), (pass, (slice, ())), (((la : Int), ((co : Int), ())), (((lb : Int), ((cb : Int), ())), (((lr : Int), ((cr : Int), ())), ()))), ()), gh (shq a t m b z L q) ar l) κ =
      κ (0, gh (shq a t m b z L q) ar (l.set (la * (4 * q) + co) (fillQ pass (l.getD (lb * (4 * q) + cb) nulB) (l.getD (lr * (4 * q) + cr) nulB) (l.getD (la * (4 * q) + co) nulB)))) := by
  unfold p_39 Q_39 gh
  try dsimp only
  have get : ∀ (x y : Nat), x < L → y < 4 * q → ∀ κ, p_9 (R := R) N (((), ((x : Int), ((y : Int), ())), ()), gh (shq a t m b z L q) ar l) κ = κ (l.getD (x * (4 * q) + y) nulB, (0, ())) := by
    intro x y hx hy κ
    rw [shq_shn]
    refine (p9 (R := R) N a t m b q z L (4 * q) hL (by omega) x y ar l hl _).trans ?_
    rw [if_pos ⟨by omega, by omega, by omega, by omega⟩, show ((x : Int) * ((4 * q : Nat) : Int) + (y : Int)).toNat = x * (4 * q) + y by rw [← Int.natCast_mul, ← Int.natCast_add, Int.toNat_natCast]]
  have put : ∀ (w : Bl) κ, p_12 (R := R) N (((), ((la : Int), ((co : Int), ())), w, ()), gh (shq a t m b z L q) ar l) κ = κ (0, gh (shq a t m b z L q) ar (l.set (la * (4 * q) + co) w)) := by
    intro w κ
    rw [shq_shn]
    refine (p12 (R := R) N a t m b q z L (4 * q) hL (by omega) la co ar l hl w _).trans ?_
    rw [if_pos ⟨by omega, by omega, by omega, by omega⟩, show ((la : Int) * ((4 * q : Nat) : Int) + (co : Int)).toNat = la * (4 * q) + co by rw [← Int.natCast_mul, ← Int.natCast_add, Int.toNat_natCast]]
  refine (get lb cb h3 h4 _).trans ?_
  dsimp only
  rw [bif_f (show ((0 : Int) != 0) = false from rfl)]
  refine (get lr cr h5 h6 _).trans ?_
  dsimp only
  rw [bif_f (show ((0 : Int) != 0) = false from rfl)]
  refine (get la co h1 h2 _).trans ?_
  dsimp only
  rw [bif_f (show ((0 : Int) != 0) = false from rfl)]
  unfold fillQ
  by_cases hp : pass = 0
  · rw [bif_t (by simpa using hp), if_pos hp]
    refine (p75 N hN _ _ _ _).trans ?_
    refine (put _ _).trans ?_
    rfl
  · rw [bif_f (by simpa using hp), if_neg hp]
    refine (p75 N hN _ _ _ _).trans ?_
    refine (put _ _).trans ?_
    rfl
end
section
variable {R : Type} (N : Nat) (a t m b z : Int) (L q : Nat)
def oneQ (l : List Bl) (pass slice lane index : Nat) : Bl :=
  fillQ pass (l.getD (lane * (4 * q) + befQ q (slice * q + index)) nulB) (l.getD ((refL a t m b z L q l pass slice lane index).toNat * (4 * q) + (refC a t m b z L q l pass slice lane index).toNat) nulB) (l.getD (lane * (4 * q) + (slice * q + index)) nulB)
end
def tkF (l : List Int) : Nat → Nat → List Int → List Int
  | 0, _, o => o
  | n + 1, i, o => tkF l n (i + 1) (o.set (i / 8) (orA .u64 (o.getD (i / 8) 0) (shlA .u64 (IntKind.wrap .u64 (l.getD i 0)) ((8 * (i % 8) : Nat) : Int))))
theorem tkF_len (l : List Int) : ∀ (n i : Nat) (o : List Int), (tkF l n i o).length = o.length
  | 0, _, _ => rfl
  | n + 1, i, o => by unfold tkF; rw [tkF_len l n]; exact List.length_set ..
def fromF (l : List Int) : List Int := tkF l 1024 0 (List.replicate 128 0)
theorem fromF_len (l : List Int) : (fromF l).length = 128 := by unfold fromF; rw [tkF_len, List.length_replicate]
theorem fromF_def (l : List Int) : fromF l = tkF l 1024 0 (List.replicate 128 0) := rfl
attribute [irreducible] fromF
def fromB (s : ByteArray) : Bl := fun i => (fromF (strList s)).getD i 0
section
variable {R : Type} (N : Nat)
theorem l84_v1 (l : List Int) (hl : l.length = 1024) (κ) : ∀ (n k i : Nat) (o : List Int), i + k = 1024 → k < n → o.length = 128 →
    l_84_v1_5 (R := R) N n (((), (), 1024, (i : Int), ()), (l, o, ())) κ = κ (((), ()), (l, tkF l k i o, ()))
  | 0, k, i, o, h1, h2, h3 => by omega
  | n + 1, 0, i, o, h1, h2, h3 => by
    unfold l_84_v1_5 B_84_v1_5 C_84_v1_5
    dsimp only
    rw [bif_f (dF (by omega))]
    rfl
  | n + 1, k + 1, i, o, h1, h2, h3 => by
    conv => lhs; unfold l_84_v1_5 B_84_v1_5 C_84_v1_5
    dsimp only
    have e1 : quoA .i64 (i : Int) 8 = ((i / 8 : Nat) : Int) := by rw [quo64 (by omega) (by omega) (by omega)]; omega
    have e2 : remA .i64 (i : Int) 8 = ((i % 8 : Nat) : Int) := by rw [rem64 (by omega)]; omega
    have e3 : mulA .i64 8 ((i % 8 : Nat) : Int) = ((8 * (i % 8) : Nat) : Int) := by rw [mul64 (by omega) (by omega)]; omega
    have e4 : addA .i64 (i : Int) 1 = ((i + 1 : Nat) : Int) := by rw [add64 (by omega) (by omega)]; omega
    rw [e1, e2, e3, e4, bif_t (dT (by omega)), bif_t (dT (by omega)), bif_t (dT (by omega)), bif_t (dT (by omega)), bif_t (dT (by omega)), bif_f (dF (by omega)), bif_t (dT (by omega)), bif_t (dT (by omega)), Int.toNat_natCast, Int.toNat_natCast]
    refine (l84_v1 l hl κ n k (i + 1) _ (by omega) (by omega) (by rw [List.length_set]; exact h3)).trans ?_
    rfl
attribute [irreducible] tkF
theorem p84_v1 (hN : 1100 ≤ N) (l : List Int) (hl : l.length = 1024) (κ) : p_84_v1 (R := R) N (((), ()), (l, ())) κ = κ ((fromF l, (0, ())), (l, ())) := by
  unfold p_84_v1 Q_84_v1
  dsimp only
  rw [hl, bif_f (show (remA .i64 ((1024 : Nat) : Int) 8 != 0) = false from rfl), show quoA .i64 ((1024 : Nat) : Int) 8 = 128 from rfl, bif_t (dT (by omega)), bif_t (dT (by omega)), bif_t (dT (by omega)), bif_t (dT (by omega))]
  refine (l84_v1 N l hl _ N 1024 0 _ (by omega) (by omega) List.length_replicate).trans ?_
  rw [fromF_def]
  rfl
theorem p54 (hN : 1100 ≤ N) (s : ByteArray) (hs : (strList s).length = 1024) (κ) : p_54 (R := R) N ((s, ()), ()) κ = κ (fromB s, (0, ())) := by
  unfold p_54 Q_54
  dsimp only
  have hz := Bk.strList_size s
  rw [bif_f (by rw [hz, hs]; rfl), bif_t (dT (by unfold maxI64; omega)), p84_v1 N hN _ hs]
  dsimp only
  exact (bif_t (dT (Nat.le_of_eq (fromF_len _).symm)))
theorem p53two (hN : N = 1301) (x y : Int) (κ) : p_53 (R := R) N (((), ()), ([x, y], ())) κ = κ (Bk.le4 x ++ Bk.le4 y, ([x, y], ())) := by subst hN; kernel_rfl
end
def bgBlk (s : ByteArray) (i j : Nat) : Bl := fromB (Bk.longB 1024 (strList s ++ (Bk.le4 (IntKind.wrap .u32 (j : Int)) ++ Bk.le4 (IntKind.wrap .u32 (i : Int)))))
def begGo (s : ByteArray) (C : Nat) : Nat → Nat → List Bl → List Bl
  | 0, _, l => l
  | n + 1, i, l => begGo s C n (i + 1) ((l.set (i * C + 0) (bgBlk s i 0)).set (i * C + 1) (bgBlk s i 1))
theorem begGo_len (s : ByteArray) (C : Nat) : ∀ (n i : Nat) (l : List Bl), (begGo s C n i l).length = l.length
  | 0, _, _ => rfl
  | n + 1, i, l => by unfold begGo; rw [begGo_len]; simp
theorem listStr_le4 (x y : Int) : strList (listStr (Bk.le4 x ++ Bk.le4 y)) = Bk.le4 x ++ Bk.le4 y := by
  refine Bk.strList_mk _ fun y hy => ?_
  rw [List.mem_append] at hy
  unfold Bk.le4 at hy
  simp only [List.mem_cons, List.not_mem_nil, or_false] at hy
  rcases hy with (rfl | rfl | rfl | rfl) | (rfl | rfl | rfl | rfl) <;> (rw [wrapU8]; omega)
section
variable {R : Type} (N : Nat) (s0 t m b q z : Int) (L C : Nat)
theorem l13i (hN : N = 1301) (hL : L ≤ 4) (hC : 2 ≤ C ∧ C ≤ 80) (s : ByteArray) (hs : (strList s).length ≤ 1300) (i : Nat) (hi : i < L) (u v : Int) (ar) (κ0) (κ1) : ∀ (n j : Nat) (l : List Bl), l.length = L * C → j ≤ 2 → 2 - j < n →
    l_13_7 (R := R) N n (((), s, (i : Int), u, v, (j : Int), ()), gh (shn s0 t m b q z L C) ar l) κ0 κ1 =
      κ1 (((), s, u, v, ()), gh (shn s0 t m b q z L C) ar (if j = 0 then (l.set (i * C + 0) (bgBlk s i 0)).set (i * C + 1) (bgBlk s i 1) else if j = 1 then l.set (i * C + 1) (bgBlk s i 1) else l))
  | 0, j, l, hl, h1, h2 => by omega
  | n + 1, j, l, hl, h1, h2 => by
    conv => lhs; unfold l_13_7 B_13_7 C_13_7
    by_cases hj : j < 2
    · have hlen : (Bk.joinL [s, listStr (Bk.le4 (IntKind.wrap .u32 (j : Int)) ++ Bk.le4 (IntKind.wrap .u32 (i : Int)))]) = strList s ++ (Bk.le4 (IntKind.wrap .u32 (j : Int)) ++ Bk.le4 (IntKind.wrap .u32 (i : Int))) := by
        show strList s ++ (strList (listStr (Bk.le4 (IntKind.wrap .u32 (j : Int)) ++ Bk.le4 (IntKind.wrap .u32 (i : Int)))) ++ []) = _
        rw [List.append_nil, listStr_le4]
      have h8 : (Bk.le4 (IntKind.wrap .u32 (j : Int)) ++ Bk.le4 (IntKind.wrap .u32 (i : Int))).length = 8 := rfl
      have e4 : addA .i64 (j : Int) 1 = ((j + 1 : Nat) : Int) := by rw [add64 (by omega) (by omega)]; omega
      refine (bif_t (dT (show (j : Int) < 2 by omega))).trans ?_
      refine (p53two N hN _ _ _).trans ?_
      dsimp only
      have key := Bk.p52 (R := R) [s, listStr (Bk.le4 (IntKind.wrap .u32 (j : Int)) ++ Bk.le4 (IntKind.wrap .u32 (i : Int)))] (by simp) (by rw [hlen, List.length_append, h8]; omega)
      rw [← hN] at key
      refine (key _).trans ?_
      rw [hlen]
      dsimp only
      have hsz : (strList (Bk.longB 1024 (strList s ++ (Bk.le4 (IntKind.wrap .u32 (j : Int)) ++ Bk.le4 (IntKind.wrap .u32 (i : Int)))))).length = 1024 := by
        have := Bk.longF_len (size := 1024) (by omega) (by omega) (strList s ++ (Bk.le4 (IntKind.wrap .u32 (j : Int)) ++ Bk.le4 (IntKind.wrap .u32 (i : Int))))
        rw [Bk.longB_str]; omega
      have key2 : ∀ κ, p_54 (R := R) N ((Bk.longB 1024 (strList s ++ (Bk.le4 (IntKind.wrap .u32 (j : Int)) ++ Bk.le4 (IntKind.wrap .u32 (i : Int)))), ()), ()) κ = κ (bgBlk s i j, (0, ())) := p54 N (by omega) _ hsz
      refine (key2 _).trans ?_
      dsimp only
      refine (p12 N s0 t m b q z L C hL hC.2 i j ar l hl _ _).trans ?_
      rw [if_pos ⟨by omega, by omega, by omega, by omega⟩, show ((i : Int) * (C : Int) + (j : Int)).toNat = i * C + j by rw [← Int.natCast_mul, ← Int.natCast_add, Int.toNat_natCast]]
      dsimp only [gh]
      rw [bif_f (show ((0 : Int) != 0) = false from rfl), e4]
      refine (l13i hN hL hC s hs i hi u v ar κ0 κ1 n (j + 1) _ (by rw [List.length_set]; exact hl) (by omega) (by omega)).trans ?_
      rcases (show j = 0 ∨ j = 1 by omega) with e | e
      · subst e
        rw [if_neg (show ¬ 0 + 1 = 0 by omega), if_pos (show 0 + 1 = 1 by omega), if_pos (show 0 = 0 by omega)]
        rfl
      · subst e
        rw [if_neg (show ¬ 1 + 1 = 0 by omega), if_neg (show ¬ 1 + 1 = 1 by omega), if_neg (show ¬ 1 = 0 by omega), if_pos (show 1 = 1 by omega)]
        rfl
    · refine (bif_f (dF (show ¬ (j : Int) < 2 by omega))).trans ?_
      rw [if_neg (by omega), if_neg (by omega)]
      try rfl
theorem l13o (hN : N = 1301) (hL : L ≤ 4) (hC : 2 ≤ C ∧ C ≤ 80) (s : ByteArray) (hs : (strList s).length ≤ 1300) (ar) (κ0) (κ1) : ∀ (n k i : Nat) (l : List Bl), l.length = L * C → i + k = L → k < n →
    l_13_4 (R := R) N n (((), s, (L : Int), (i : Int), ()), gh (shn s0 t m b q z L C) ar l) κ0 κ1 = κ1 ((), gh (shn s0 t m b q z L C) ar (begGo s C k i l))
  | 0, k, i, l, hl, h1, h2 => by omega
  | n + 1, 0, i, l, hl, h1, h2 => by
    conv => lhs; unfold l_13_4 B_13_4 C_13_4
    refine (bif_f (dF (show ¬ (i : Int) < (L : Int) by omega))).trans ?_
    rfl
  | n + 1, k + 1, i, l, hl, h1, h2 => by
    conv => lhs; unfold l_13_4 B_13_4 C_13_4
    refine (bif_t (dT (show (i : Int) < (L : Int) by omega))).trans ?_
    refine (l13i N s0 t m b q z L C hN hL hC s hs i (by omega) _ _ ar _ _ N 0 l hl (by omega) (by omega)).trans ?_
    rw [if_pos rfl]
    dsimp only [gh]
    rw [add64 (by omega) (by omega)]
    refine (l13o hN hL hC s hs ar κ0 κ1 n k (i + 1) _ (by simp; exact hl) (by omega) (by omega)).trans ?_
    rfl
theorem p13 (hN : N = 1301) (hL : L ≤ 4) (hC : 2 ≤ C ∧ C ≤ 80) (s : ByteArray) (hs : (strList s).length ≤ 1300) (ar) (l : List Bl) (hl : l.length = L * C) (κ) :
    p_13 (R := R) N (((), s, ()), gh (shn s0 t m b q z L C) ar l) κ = κ (0, gh (shn s0 t m b q z L C) ar (begGo s C L 0 l)) := by
  unfold p_13 Q_13
  refine (l13o N s0 t m b q z L C hN hL hC s hs ar _ _ N L 0 l hl (by omega) (by omega)).trans ?_
  rfl
end
section
variable {R : Type} (N : Nat) (a t m b z : Int) (L q : Nat)
def stepQ (l : List Bl) (pass slice lane index : Nat) : List Bl := l.set (lane * (4 * q) + (slice * q + index)) (oneQ a t m b z L q l pass slice lane index)
def segGo (pass slice lane : Nat) : Nat → Nat → List Bl → List Bl
  | 0, _, l => l
  | n + 1, i, l => segGo pass slice lane n (i + 1) (stepQ a t m b z L q l pass slice lane i)
theorem segGo_len (pass slice lane : Nat) : ∀ (n i : Nat) (l : List Bl), (segGo a t m b z L q pass slice lane n i l).length = l.length
  | 0, _, _ => rfl
  | n + 1, i, l => by unfold segGo; rw [segGo_len]; exact List.length_set ..
theorem p39q (hN : N = 1301) (hL : 1 ≤ L ∧ L ≤ 4) (hq : 2 ≤ q ∧ q ≤ 20) {pass slice lane index : Nat} (hth : ThereN t L q pass slice lane index) (ar) (l : List Bl) (hl : l.length = L * (4 * q)) (κ) :
    p_39 (R := R) N (((), ((pass : Int), ((slice : Int), ())), (((lane : Int), (((slice * q + index : Nat) : Int), ())), (((lane : Int), (((befQ q (slice * q + index) : Nat) : Int), ())), ((refL a t m b z L q l pass slice lane index, (refC a t m b z L q l pass slice lane index, ())), ()))), ()), gh (shq a t m b z L q) ar l) κ =
      κ (0, gh (shq a t m b z L q) ar (stepQ a t m b z L q l pass slice lane index)) := by
  obtain ⟨g1, g2, g3, g4, g5⟩ := id hth
  have hcol : slice * q + index < 4 * q := by
    have := Nat.mul_le_mul_right q (show slice + 1 ≤ 4 by omega)
    rw [Nat.succ_mul] at this; omega
  obtain ⟨r1, r2⟩ := refL_in a t m b z L q hL.1 l pass slice lane index g3
  obtain ⟨r3, r4⟩ := refC_in a t m b z L q hq.1 l pass slice lane index
  unfold stepQ oneQ
  generalize refL a t m b z L q l pass slice lane index = x at *
  generalize refC a t m b z L q l pass slice lane index = y at *
  obtain ⟨lr, rfl⟩ := Int.eq_ofNat_of_zero_le r1
  obtain ⟨cr, rfl⟩ := Int.eq_ofNat_of_zero_le r3
  rw [Int.toNat_natCast, Int.toNat_natCast]
  exact p39 N a t m b z L q hN hL.2 hq pass slice lane (slice * q + index) lane (befQ q (slice * q + index)) lr cr g3 hcol g3 (befQ_lt q hq.1 hcol) (by omega) (by omega) ar l hl κ
theorem l31 (hN : N = 1301) (ht : 1 ≤ t ∧ t ≤ 3) (hL : 1 ≤ L ∧ L ≤ 4) (hq : 2 ≤ q ∧ q ≤ 20) {pass slice lane : Nat} (hp : (pass : Int) < t) (hs : slice < 4) (hla : lane < L) (ar) (κ0 κ1) : ∀ (n k i : Nat) (hi : i + k = q) (hi2 : pass = 0 → slice = 0 → 2 ≤ i) (hn : k < n) (l : List Bl) (hl : l.length = L * (4 * q)) (c : Int) (h : Bl) (hok : c ≠ 0 → h = addrF a t b pass slice lane c),
    l_31_5 (R := R) N n (((), (lane : Int), (), (), (i : Int), ()), (((), (shq a t m b z L q, ())), ((), ((), (true, ()))), ar, l, ((pass : Int), ((slice : Int), ())), src (shq a t m b z L q) pass slice lane c h, ())) κ0 κ1 =
      κ1 ((), gh (shq a t m b z L q) ar (segGo a t m b z L q pass slice lane k i l))
  | 0, k, i, hi, hi2, hn, l, hl, c, h, hok => by omega
  | n + 1, 0, i, hi, hi2, hn, l, hl, c, h, hok => by
    conv => lhs; unfold l_31_5 B_31_5 C_31_5
    refine (bif_f (dF (show ¬ (i : Int) < (q : Int) by omega))).trans ?_
    rfl
  | n + 1, k + 1, i, hi, hi2, hn, l, hl, c, h, hok => by
    conv => lhs; unfold l_31_5 B_31_5 C_31_5
    refine (bif_t (dT (show (i : Int) < (q : Int) by omega))).trans ?_
    have hth : ThereN t L q pass slice lane i := ⟨hp, hs, hla, by omega, hi2⟩
    obtain ⟨c', h', k1, k2⟩ := p35 (R := R) N a t m b z L q hN ht hL hq hth ar l hl c h hok
    refine (k2 _).trans ?_
    dsimp only [ghs]
    rw [bif_f (show ((0 : Int) != 0) = false from rfl)]
    refine (p39q N a t m b z L q hN hL hq hth ar l hl _).trans ?_
    dsimp only [gh]
    rw [bif_f (show ((0 : Int) != 0) = false from rfl), add64 (by omega) (by omega)]
    refine (l31 hN ht hL hq hp hs hla ar κ0 κ1 n k (i + 1) (by omega) (fun e1 e2 => by have := hi2 e1 e2; omega) (by omega) _ (by unfold stepQ; rw [List.length_set]; exact hl) c' h' k1).trans ?_
    rfl
theorem p31 (hN : N = 1301) (ht : 1 ≤ t ∧ t ≤ 3) (hL : 1 ≤ L ∧ L ≤ 4) (hq : 2 ≤ q ∧ q ≤ 20) {pass slice lane : Nat} (hp : (pass : Int) < t) (hs : slice < 4) (hla : lane < L) (ar) (l : List Bl) (hl : l.length = L * (4 * q)) (κ) :
    p_31 (R := R) N (((), ((pass : Int), ((slice : Int), ())), (lane : Int), ()), gh (shq a t m b z L q) ar l) κ =
      κ (0, gh (shq a t m b z L q) ar (segGo a t m b z L q pass slice lane (q - if pass = 0 ∧ slice = 0 then 2 else 0) (if pass = 0 ∧ slice = 0 then 2 else 0) l)) := by
  unfold p_31 Q_31
  show p_33 N ((shq a t m b z L q, ((pass : Int), ((slice : Int), ())), (lane : Int), ()), ()) _ = _
  unfold p_33 Q_33
  dsimp only
  refine (p30 N (shq a t m b z L q) pass slice _).trans ?_
  have e : (if (pass : Int) = 0 ∧ (slice : Int) = 0 then (2 : Int) else 0) = ((if pass = 0 ∧ slice = 0 then 2 else 0 : Nat) : Int) := by
    by_cases h : pass = 0 ∧ slice = 0
    · rw [if_pos h, if_pos ⟨by omega, by omega⟩]; rfl
    · rw [if_neg h, if_neg (by omega)]; rfl
  rw [e]
  have h2 : (if pass = 0 ∧ slice = 0 then 2 else 0) ≤ 2 := by split <;> omega
  refine (l31 N a t m b z L q hN ht hL hq hp hs hla ar _ _ N (q - if pass = 0 ∧ slice = 0 then 2 else 0) _ (by omega) (fun e1 e2 => by rw [if_pos ⟨e1, e2⟩]; omega) (by omega) l hl 0 nulB (fun h => absurd rfl h)).trans ?_
  rfl
end
theorem p17q {R : Type} (N : Nat) (hN : 100 < N) (a t m b z : Int) (L q : Nat) (hL : L ≤ 4) (hq : q ≤ 20) (ar) (l : List Bl) (hl : l.length = L * (4 * q)) (κ) :
    p_17 (R := R) N (((), ()), gh (shq a t m b z L q) ar l) κ = κ ((), (((), (shq a t m b z L q, ())), ((), ((), (true, ()))), ar, l, gridF l (4 * q) L, ())) := by
  rw [shq_shn]; exact p17 N a t m b q z L (4 * q) hN hL (by omega) ar l hl κ
theorem p13q {R : Type} (N : Nat) (hN : N = 1301) (a t m b z : Int) (L q : Nat) (hL : L ≤ 4) (hq : 2 ≤ q ∧ q ≤ 20) (s : ByteArray) (hs : (strList s).length ≤ 1300) (ar) (l : List Bl) (hl : l.length = L * (4 * q)) (κ) :
    p_13 (R := R) N (((), s, ()), gh (shq a t m b z L q) ar l) κ = κ (0, gh (shq a t m b z L q) ar (begGo s (4 * q) L 0 l)) := by
  rw [shq_shn]; exact p13 N a t m b q z L (4 * q) hN hL ⟨by omega, by omega⟩ s hs ar l hl κ
section
variable (a t m b z : Int) (L q : Nat) (pass slice : Nat)
def InR (la i : Nat) : Prop := ∃ c, slice * q ≤ c ∧ c < slice * q + q ∧ i = la * (4 * q) + c
theorem InR_one (hs : slice < 4) {x y i : Nat} (h1 : InR q slice x i) (h2 : InR q slice y i) : x = y := by
  obtain ⟨c, c1, c2, e1⟩ := h1
  obtain ⟨d, d1, d2, e2⟩ := h2
  have hm := Nat.mul_le_mul_right q (show slice + 1 ≤ 4 by omega)
  rw [Nat.succ_mul] at hm
  exact (at_inj (C := 4 * q) (by omega) (by omega) (e1.symm.trans e2)).1
def Ag (la : Nat) (l l' : List Bl) : Prop := l.length = l'.length ∧ ∀ i, (∀ x, x ≠ la → ¬ InR q slice x i) → l.getD i nulB = l'.getD i nulB
theorem ref_out {pass slice lane index : Nat} (hq : 2 ≤ q) (hL : 1 ≤ L) (ht : 1 ≤ t) (hth : ThereN t L q pass slice lane index) (l : List Bl) (hne : refL a t m b z L q l pass slice lane index ≠ lane) (x : Nat) :
    ¬ InR q slice x ((refL a t m b z L q l pass slice lane index).toNat * (4 * q) + (refC a t m b z L q l pass slice lane index).toNat) := by
  obtain ⟨g1, g2, g3, g4, g5⟩ := id hth
  obtain ⟨r3, r4⟩ := refC_in a t m b z L q hq l pass slice lane index
  obtain ⟨⟨w1, w2⟩, w3, w4⟩ := wordsF_in (wordQ a t m b z L q l pass slice lane index)
  have hown : (refL a t m b z L q l pass slice lane index == (lane : Int)) = false := beq_eq_false_iff_ne.2 hne
  have hns : ¬ (pass = 0 ∧ slice = 0) := fun h => hne (by unfold refL laneOf; rw [if_pos ⟨by omega, by omega⟩])
  obtain ⟨a1, a2⟩ := area_in t L q (by omega) pass slice lane index false (there_of t L q hth) (fun e1 e2 => absurd ⟨by omega, by omega⟩ hns)
  obtain ⟨p1, p2⟩ := pick_in (j := (wordsF (wordQ a t m b z L q l pass slice lane index)).1) a1 w1 w2
  have hm := Nat.mul_le_mul_right q (show slice + 1 ≤ 4 by omega)
  rw [Nat.succ_mul] at hm
  have hc : refC a t m b z L q l pass slice lane index = (fromOf pass slice q + pickOf (areaOf pass slice q index false) (wordsF (wordQ a t m b z L q l pass slice lane index)).1) % (4 * (q : Int)) := by
    unfold refC colOf; rw [hown]
  intro ⟨c, c1, c2, e⟩
  have hcc := (at_inj (C := 4 * q) (show (refC a t m b z L q l pass slice lane index).toNat < 4 * q by omega) (by omega) e).2
  have hcI : refC a t m b z L q l pass slice lane index = (c : Int) := by omega
  rw [hc] at hcI
  generalize pickOf (areaOf pass slice q index false) (wordsF (wordQ a t m b z L q l pass slice lane index)).1 = k at *
  have hsq : ((slice * q : Nat) : Int) = (slice : Int) * (q : Int) := Int.natCast_mul ..
  have har : areaOf pass slice q index false ≤ doneOf pass slice q := by
    unfold areaOf; rw [if_neg (by simp)]; split <;> omega
  unfold doneOf at har
  unfold fromOf at hcI
  by_cases h0 : pass = 0
  · rw [if_pos (Or.inl (by omega))] at hcI
    rw [if_neg (by omega)] at har
    rw [Int.zero_add, Int.emod_eq_of_lt p1 (by omega)] at hcI
    omega
  · rw [if_pos (by omega)] at har
    by_cases h3 : slice = 3
    · rw [if_pos (Or.inr (by omega))] at hcI
      subst h3
      rw [Int.zero_add, Int.emod_eq_of_lt p1 (by omega)] at hcI
      omega
    · rw [if_neg (by omega), Int.add_mul, Int.one_mul, ← hsq] at hcI
      by_cases hk : ((slice * q : Nat) : Int) + q + k < 4 * (q : Int)
      · rw [Int.emod_eq_of_lt (by omega) hk] at hcI; omega
      · have e2 : ((slice * q : Nat) : Int) + (q : Int) + k = ((slice * q : Nat) : Int) + q + k - 4 * (q : Int) + 4 * (q : Int) := by omega
        rw [e2, Int.add_emod_right, Int.emod_eq_of_lt (by omega) (by omega)] at hcI
        omega
theorem own_out {slice la co x : Nat} (hc : co < 4 * q) (hs : slice < 4) (hx : x ≠ la) : ¬ InR q slice x (la * (4 * q) + co) := by
  intro ⟨c, c1, c2, e⟩
  have hm := Nat.mul_le_mul_right q (show slice + 1 ≤ 4 by omega)
  rw [Nat.succ_mul] at hm
  exact hx (at_inj (C := 4 * q) hc (by omega) e).1.symm
theorem one_ag {pass slice lane index : Nat} (hq : 2 ≤ q) (hL : 1 ≤ L) (ht : 1 ≤ t) (hth : ThereN t L q pass slice lane index) {l l' : List Bl} (h : Ag q slice lane l l') :
    oneQ a t m b z L q l pass slice lane index = oneQ a t m b z L q l' pass slice lane index := by
  obtain ⟨g1, g2, g3, g4, g5⟩ := id hth
  have hcol : slice * q + index < 4 * q := by
    have := Nat.mul_le_mul_right q (show slice + 1 ≤ 4 by omega)
    rw [Nat.succ_mul] at this; omega
  have hb := befQ_lt q hq hcol
  have e1 := h.2 _ (fun x hx => own_out q hb g2 hx)
  have e2 := h.2 _ (fun x hx => own_out q hcol g2 hx)
  have ew : wordQ a t m b z L q l pass slice lane index = wordQ a t m b z L q l' pass slice lane index := by unfold wordQ; rw [e1]
  have eL : refL a t m b z L q l pass slice lane index = refL a t m b z L q l' pass slice lane index := by unfold refL; rw [ew]
  have eC : refC a t m b z L q l pass slice lane index = refC a t m b z L q l' pass slice lane index := by unfold refC; rw [ew, eL]
  obtain ⟨r1, r2⟩ := refL_in a t m b z L q hL l pass slice lane index g3
  obtain ⟨r3, r4⟩ := refC_in a t m b z L q hq l pass slice lane index
  have e3 := h.2 ((refL a t m b z L q l pass slice lane index).toNat * (4 * q) + (refC a t m b z L q l pass slice lane index).toNat) (fun x hx => by
    by_cases hn : refL a t m b z L q l pass slice lane index = lane
    · rw [hn, Int.toNat_natCast]; exact own_out q (by omega) g2 hx
    · exact ref_out a t m b z L q hq hL ht hth l hn x)
  unfold oneQ
  rw [e1, e2, e3, eL, eC]
theorem set_ag {slice lane i : Nat} {x : Bl} {l l' : List Bl} (h : Ag q slice lane l l') : Ag q slice lane (l.set i x) (l'.set i x) := by
  refine ⟨by rw [List.length_set, List.length_set]; exact h.1, fun k hk => ?_⟩
  by_cases hi : i < l.length
  · rw [getD_set _ _ _ _ _ hi, getD_set _ _ _ _ _ (h.1 ▸ hi)]
    by_cases e : k = i
    · rw [if_pos e, if_pos e]
    · rw [if_neg e, if_neg e]; exact h.2 k hk
  · rw [List.set_eq_of_length_le (by omega), List.set_eq_of_length_le (by rw [← h.1]; omega)]; exact h.2 k hk
theorem seg_ag {pass slice lane : Nat} (hq : 2 ≤ q) (hL : 1 ≤ L) (ht : 1 ≤ t) (hp : (pass : Int) < t) (hs : slice < 4) (hla : lane < L) : ∀ (k i : Nat) (hi : i + k = q) (hi2 : pass = 0 → slice = 0 → 2 ≤ i) {l l' : List Bl} (h : Ag q slice lane l l'),
    Ag q slice lane (segGo a t m b z L q pass slice lane k i l) (segGo a t m b z L q pass slice lane k i l')
  | 0, i, hi, hi2, l, l', h => h
  | k + 1, i, hi, hi2, l, l', h => by
    unfold segGo
    refine seg_ag hq hL ht hp hs hla k (i + 1) (by omega) (fun e1 e2 => by have := hi2 e1 e2; omega) ?_
    unfold stepQ
    rw [one_ag a t m b z L q hq hL ht ⟨hp, hs, hla, by omega, hi2⟩ h]
    exact set_ag q h
theorem seg_out (pass slice lane : Nat) : ∀ (k i : Nat) (hi : i + k = q) (l : List Bl) (j : Nat) (hj : ¬ InR q slice lane j),
    (segGo a t m b z L q pass slice lane k i l).getD j nulB = l.getD j nulB
  | 0, i, hi, l, j, hj => rfl
  | k + 1, i, hi, l, j, hj => by
    unfold segGo
    rw [seg_out pass slice lane k (i + 1) (by omega) _ j hj]
    unfold stepQ
    have hne : j ≠ lane * (4 * q) + (slice * q + i) := fun e => hj ⟨slice * q + i, by omega, by omega, e⟩
    by_cases h : lane * (4 * q) + (slice * q + i) < l.length
    · rw [getD_set _ _ _ _ _ h, if_neg hne]
    · rw [List.set_eq_of_length_le (by omega)]
def segT (pass slice : Nat) (l : List Bl) (lane : Nat) : List Bl := segGo a t m b z L q pass slice lane (q - if pass = 0 ∧ slice = 0 then 2 else 0) (if pass = 0 ∧ slice = 0 then 2 else 0) l
theorem first_le (pass slice : Nat) : (if pass = 0 ∧ slice = 0 then 2 else 0) ≤ 2 := by split <;> omega
def foldS (pass slice : Nat) (σ : List Nat) (l : List Bl) : List Bl := σ.foldl (segT a t m b z L q pass slice) l
theorem segT_len (pass slice : Nat) (l : List Bl) (lane : Nat) : (segT a t m b z L q pass slice l lane).length = l.length := segGo_len ..
theorem foldS_len (pass slice : Nat) : ∀ (σ : List Nat) (l : List Bl), (foldS a t m b z L q pass slice σ l).length = l.length
  | [], _ => rfl
  | x :: σ, l => (foldS_len pass slice σ (segT a t m b z L q pass slice l x)).trans (segT_len ..)
theorem fold_out (hq : 2 ≤ q) (pass slice : Nat) : ∀ (σ : List Nat) (l : List Bl) (i : Nat) (h : ∀ x ∈ σ, ¬ InR q slice x i), (foldS a t m b z L q pass slice σ l).getD i nulB = l.getD i nulB
  | [], _, _, _ => rfl
  | x :: σ, l, i, h => by
    have := first_le pass slice
    refine (fold_out hq pass slice σ (segT a t m b z L q pass slice l x) i (fun y hy => h y (List.mem_cons_of_mem _ hy))).trans ?_
    exact seg_out a t m b z L q pass slice x _ _ (by omega) l i (h x (List.mem_cons_self ..))
theorem fold_in {pass slice : Nat} (hq : 2 ≤ q) (hL : 1 ≤ L) (ht : 1 ≤ t) (hp : (pass : Int) < t) (hs : slice < 4) : ∀ (σ : List Nat) (hσ : ∀ x ∈ σ, x < L) (hn : σ.Nodup) (l : List Bl) (x i : Nat) (hx : x ∈ σ) (hi : InR q slice x i),
    (foldS a t m b z L q pass slice σ l).getD i nulB = (segT a t m b z L q pass slice l x).getD i nulB
  | [], _, _, _, _, _, hx, _ => absurd hx (List.not_mem_nil)
  | y :: σ, hσ, hn, l, x, i, hx, hi => by
    have hf := first_le pass slice
    obtain ⟨n1, n2⟩ := List.nodup_cons.1 hn
    by_cases e : x = y
    · subst e
      exact fold_out a t m b z L q hq pass slice σ _ i (fun w hw hr => n1 (by rw [InR_one q slice hs hi hr]; exact hw))
    · have hx' : x ∈ σ := (List.mem_cons.1 hx).resolve_left e
      refine (fold_in hq hL ht hp hs σ (fun w hw => hσ w (List.mem_cons_of_mem _ hw)) n2 (segT a t m b z L q pass slice l y) x i hx' hi).trans ?_
      have hag : Ag q slice x (segT a t m b z L q pass slice l y) l := ⟨segT_len .., fun j hj => seg_out a t m b z L q pass slice y _ _ (by omega) l j (hj y (fun h => e h.symm))⟩
      exact (seg_ag a t m b z L q hq hL ht hp hs (hσ x hx) _ _ (by omega) (fun e1 e2 => by rw [if_pos ⟨e1, e2⟩]; omega) hag).2 i (fun w hw hr => hw (InR_one q slice hs hr hi))
theorem fold_perm {pass slice : Nat} (hq : 2 ≤ q) (hL : 1 ≤ L) (ht : 1 ≤ t) (hp : (pass : Int) < t) (hs : slice < 4) {σ τ : List Nat} (hσ : ∀ x ∈ σ, x < L) (hn : σ.Nodup) (hst : σ.Perm τ) (l : List Bl) :
    foldS a t m b z L q pass slice σ l = foldS a t m b z L q pass slice τ l := by
  have hlen : (foldS a t m b z L q pass slice σ l).length = (foldS a t m b z L q pass slice τ l).length := by rw [foldS_len, foldS_len]
  apply List.ext_getElem hlen
  intro i h1 h2
  have key : (foldS a t m b z L q pass slice σ l).getD i nulB = (foldS a t m b z L q pass slice τ l).getD i nulB := by
    by_cases h : ∃ x, x ∈ σ ∧ InR q slice x i
    · obtain ⟨x, hx, hi⟩ := h
      rw [fold_in a t m b z L q hq hL ht hp hs σ hσ hn l x i hx hi, fold_in a t m b z L q hq hL ht hp hs τ (fun y hy => hσ y (hst.mem_iff.2 hy)) (hst.nodup_iff.1 hn) l x i (hst.mem_iff.1 hx) hi]
    · rw [fold_out a t m b z L q hq pass slice σ l i (fun x hx hi => h ⟨x, hx, hi⟩), fold_out a t m b z L q hq pass slice τ l i (fun x hx hi => h ⟨x, hst.mem_iff.2 hx, hi⟩)]
  simpa [List.getD_eq_getElem?_getD, h1, h2] using key
end
theorem p41n {R : Type} (N : Nat) (s : Shp8) (T : Nat) (hT : 1 ≤ T ∧ T ≤ 3) (hs : s.2.1 = (T : Int)) (n : Nat) (hn : n < 4 * T) (κ) :
    p_41 (R := R) N ((s, (((n / 4 : Nat) : Int), (((n % 4 : Nat) : Int), ())), ()), ()) κ =
      if n + 1 < 4 * T then κ (((((n + 1) / 4 : Nat) : Int), ((((n + 1) % 4 : Nat) : Int), ())), (true, ())) else κ ((0, (0, ())), (false, ())) := by
  unfold p_41 Q_41
  dsimp only
  rw [hs, add64 (by omega) (by omega), sub64 (by omega) (by omega)]
  by_cases h1 : n % 4 + 1 < 4
  · rw [bif_t (dT (by omega)), if_pos (by omega), show (n + 1) / 4 = n / 4 by omega, show (n + 1) % 4 = n % 4 + 1 by omega]
    rfl
  · rw [bif_f (dF (by omega))]
    by_cases h2 : n + 1 < 4 * T
    · rw [bif_t (dT (by omega)), if_pos h2, add64 (by omega) (by omega), show (n + 1) / 4 = n / 4 + 1 by omega, show (n + 1) % 4 = 0 by omega]
      rfl
    · rw [bif_f (dF (by omega)), if_neg h2]
section
variable {R : Type} (N : Nat) (a m b z : Int) (T L q : Nat)
def turnA (n : Nat) (l : List Bl) : List Bl := foldS a (T : Int) m b z L q (n / 4) (n % 4) (List.range' 0 L) l
def turnsGo : Nat → Nat → List Bl → List Bl
  | 0, _, l => l
  | d + 1, n, l => turnsGo d (n + 1) (turnA a m b z T L q n l)
theorem turnA_len (n : Nat) (l : List Bl) : (turnA a m b z T L q n l).length = l.length := foldS_len ..
theorem turnsGo_len : ∀ (d n : Nat) (l : List Bl), (turnsGo a m b z T L q d n l).length = l.length
  | 0, _, _ => rfl
  | d + 1, n, l => (turnsGo_len d (n + 1) _).trans (turnA_len ..)
theorem l40a (hN : N = 1301) (hT : 1 ≤ T ∧ T ≤ 3) (hL : 1 ≤ L ∧ L ≤ 4) (hq : 2 ≤ q ∧ q ≤ 20) {pass slice : Nat} (hp : pass < T) (hs : slice < 4) (ar) (κ0 κ1) : ∀ (n k i : Nat) (hi : i + k = L) (hn : k < n) (l : List Bl) (hl : l.length = L * (4 * q)),
    l_40_v1_7 (R := R) N n (((), (), (L : Int), (i : Int), ()), (((), (shq a T m b z L q, ())), ((), ((), (true, ()))), ar, l, ((pass : Int), ((slice : Int), ())), ())) κ0 κ1 =
      κ1 (((), (), ()), (((), (shq a T m b z L q, ())), ((), ((), (true, ()))), ar, foldS a (T : Int) m b z L q pass slice (List.range' i k) l, ((pass : Int), ((slice : Int), ())), ()))
  | 0, k, i, hi, hn, l, hl => by omega
  | n + 1, 0, i, hi, hn, l, hl => by
    conv => lhs; unfold l_40_v1_7 B_40_v1_7 C_40_v1_7
    refine (bif_f (dF (show ¬ (i : Int) < (L : Int) by omega))).trans ?_
    rfl
  | n + 1, k + 1, i, hi, hn, l, hl => by
    conv => lhs; unfold l_40_v1_7 B_40_v1_7 C_40_v1_7
    refine (bif_t (dT (show (i : Int) < (L : Int) by omega))).trans ?_
    refine (p31 N a T m b z L q hN ⟨by omega, by omega⟩ hL hq (by omega) hs (by omega) ar l hl _).trans ?_
    dsimp only [gh]
    rw [bif_f (show ((0 : Int) != 0) = false from rfl), add64 (by omega) (by omega)]
    refine (l40a hN hT hL hq hp hs ar κ0 κ1 n k (i + 1) (by omega) (by omega) _ (by rw [segGo_len]; exact hl)).trans ?_
    rfl
theorem l40b (hN : N = 1301) (hT : 1 ≤ T ∧ T ≤ 3) (hL : 1 ≤ L ∧ L ≤ 4) (hq : 2 ≤ q ∧ q ≤ 20) (ar) (κ0 κ1) : ∀ (f d j : Nat) (hd : j + d + 1 = 4 * T) (hf : d + 1 < f) (l : List Bl) (hl : l.length = L * (4 * q)),
    l_40_v1_4 (R := R) N f (((), (), true, ()), (((), (shq a T m b z L q, ())), ((), ((), (true, ()))), ar, l, (((j / 4 : Nat) : Int), (((j % 4 : Nat) : Int), ())), ())) κ0 κ1 =
      κ1 ((), gh (shq a T m b z L q) ar (turnsGo a m b z T L q (d + 1) j l))
  | 0, d, j, hd, hf, l, hl => by omega
  | f + 1, d, j, hd, hf, l, hl => by
    conv => lhs; unfold l_40_v1_4 B_40_v1_4 C_40_v1_4
    refine (bif_t rfl).trans ?_
    refine (l40a N a m b z T L q hN hT hL hq (pass := j / 4) (slice := j % 4) (by omega) (by omega) ar _ _ N L 0 (by omega) (by omega) l hl).trans ?_
    refine (p41n N (shq a T m b z L q) T hT rfl j (by omega) _).trans ?_
    by_cases h : j + 1 < 4 * T
    · rw [if_pos h]
      obtain ⟨e, rfl⟩ : ∃ e, d = e + 1 := ⟨d - 1, by omega⟩
      refine (l40b hN hT hL hq ar κ0 κ1 f e (j + 1) (by omega) (by omega) (turnA a m b z T L q j l) (by rw [turnA_len]; exact hl)).trans ?_
      rfl
    · rw [if_neg h]
      obtain rfl : d = 0 := by omega
      obtain ⟨g, rfl⟩ : ∃ g, f = g + 1 := ⟨f - 1, by omega⟩
      conv => lhs; unfold l_40_v1_4 B_40_v1_4 C_40_v1_4
      refine (bif_f rfl).trans ?_
      rfl
theorem p40 (hN : N = 1301) (hT : 1 ≤ T ∧ T ≤ 3) (hL : 1 ≤ L ∧ L ≤ 4) (hq : 2 ≤ q ∧ q ≤ 20) (ar) (l : List Bl) (hl : l.length = L * (4 * q)) (κ) :
    p_40_v1 (R := R) N (((), ()), gh (shq a T m b z L q) ar l) κ = κ (0, gh (shq a T m b z L q) ar (turnsGo a m b z T L q (4 * T) 0 l)) := by
  unfold p_40_v1 Q_40_v1
  refine (l40b N a m b z T L q hN hT hL hq ar _ _ N (4 * T - 1) 0 (by omega) (by omega) l hl).trans ?_
  rw [show 4 * T - 1 + 1 = 4 * T by omega]
  try rfl
end
theorem p28 {R : Type} (N : Nat) (hN : N = 1301) (κ) : p_28 (R := R) N ((), ()) κ = κ true := by subst hN; kernel_rfl
def ints (l : List Nat) : List Int := l.map fun (x : Nat) => (x : Int)
theorem ints_len (l : List Nat) : (ints l).length = l.length := List.length_map ..
theorem ints_get (l : List Nat) (i : Nat) (hi : i < l.length) (z : Int) : (ints l).getD i z = (l[i] : Int) := by simp [ints, List.getD_eq_getElem?_getD, hi]
theorem rem_in (x : Int) (n : Nat) (h : 1 ≤ n ∧ n ≤ 1300) : ∃ i : Nat, i < n ∧ remA .i64 (addA .i64 (remA .i64 x (n : Int)) (n : Int)) (n : Int) = (i : Int) := by
  have h1 : Int.tmod x n < n := Int.tmod_lt_of_pos x (by omega)
  have h2 : -(n : Int) < Int.tmod x n := by
    rcases Int.le_total 0 x with hx | hx
    · have := Int.tmod_nonneg (n : Int) hx; omega
    · have := Int.tmod_lt_of_pos (-x) (show (0 : Int) < n by omega)
      rw [Int.neg_tmod] at this; omega
  have e1 : remA .i64 x (n : Int) = Int.tmod x n := rfl
  rw [e1, add64 (by omega) (by omega), rem64 (show 0 ≤ Int.tmod x n + n by omega)]
  have h3 : 0 ≤ (Int.tmod x n + n) % (n : Int) := Int.emod_nonneg _ (by omega)
  have h4 : (Int.tmod x n + n) % (n : Int) < n := Int.emod_lt_of_pos _ (by omega)
  exact ⟨((Int.tmod x n + n) % (n : Int)).toNat, by omega, by omega⟩
section
variable {R : Type} (N : Nat) (a m b z : Int) (T L q : Nat)
abbrev G1 := (Unit × (Shp8 × Unit))
abbrev FO := G1 × (Unit × (Unit × (Bool × Unit))) × (Int × (Int × (Int × (Int × Unit)))) × (List Bl) × G1 × (Unit × (Unit × (Bool × Unit))) × (Int × (Int × (Int × (Int × Unit)))) × (List Bl) × (Int × (Int × Unit)) × (List Int) × Unit
def fo (s : Shp8) (ar : Int × (Int × (Int × (Int × Unit)))) (l1 l2 : List Bl) (pass slice : Int) (left : List Int) : FO := (((), (s, ())), ((), ((), (true, ()))), ar, l1, ((), (s, ())), ((), ((), (true, ()))), ar, l2, (pass, (slice, ())), left, ())
theorem l716 (s : Shp8) (ar) (l1 l2 : List Bl) (pass slice : Int) (ords : List Int) (p : Int) (hL : L ≤ 4) (κ) : ∀ (n k i : Nat) (hi : i + k = L) (hn : k < n) (left : List Int) (hl : left.length = L) (hleft : ∀ j, j < i → left.getD j 0 = (j : Int)),
    ∃ left', left' = ints (List.range' 0 L) ∧ l_7_16 (R := R) N n ((ords, (), (), p, (), (), (L : Int), (i : Int), ()), fo s ar l1 l2 pass slice left) κ = κ ((ords, (), (), p, (), (), ()), fo s ar l1 l2 pass slice left')
  | 0, k, i, hi, hn, left, hl, hleft => by omega
  | n + 1, 0, i, hi, hn, left, hl, hleft => by
    refine ⟨left, ?_, ?_⟩
    · apply List.ext_getElem
      · rw [ints_len, List.length_range', hl]
      · intro j h1 h2
        have := hleft j (by omega)
        simpa [ints, List.getD_eq_getElem?_getD, h1] using this
    · conv => lhs; unfold l_7_16 B_7_16 C_7_16
      refine (bif_f (dF (show ¬ (i : Int) < (L : Int) by omega))).trans ?_
      rfl
  | n + 1, k + 1, i, hi, hn, left, hl, hleft => by
    obtain ⟨left', e1, e2⟩ := l716 s ar l1 l2 pass slice ords p hL κ n k (i + 1) (by omega) (by omega) (left.set i (i : Int)) (by rw [List.length_set]; exact hl) (fun j hj => by
      rw [getD_set _ _ _ _ _ (by omega)]
      by_cases e : j = i
      · rw [if_pos e, e]
      · rw [if_neg e]; exact hleft j (by omega))
    refine ⟨left', e1, ?_⟩
    conv => lhs; unfold l_7_16 B_7_16 C_7_16
    refine (bif_t (dT (show (i : Int) < (L : Int) by omega))).trans ?_
    refine (bif_t (dT (show (0 : Int) ≤ (i : Int) by omega))).trans ?_
    refine (bif_t (dT (by show (i : Int) < ((left.length : Nat) : Int); omega))).trans ?_
    rw [← e2]
    dsimp only [fo]
    rw [add64 (by omega) (by omega), Int.toNat_natCast]
    rfl
theorem l720 (hN : N = 1301) (hT : 1 ≤ T ∧ T ≤ 3) (hL : 1 ≤ L ∧ L ≤ 4) (hq : 2 ≤ q ∧ q ≤ 20) {pass slice : Nat} (hp : pass < T) (hs : slice < 4) (ar) (l1 : List Bl) (ords : List Int) (κ0 κ1) : ∀ (n k : Nat) (p : Nat) (hpp : p + k ≤ 3000) (τ : List Nat) (hk : τ.length = k) (hτ : ∀ x ∈ τ, x < L) (hk4 : k ≤ 4) (hn : k < n) (l2 : List Bl) (hl : l2.length = L * (4 * q)),
    ∃ (σ : List Nat) (p' : Nat), σ.Perm τ ∧ p' ≤ p + k ∧ l_7_20 (R := R) N n ((ords, (), (), (p : Int), (), (), ()), fo (shq a T m b z L q) ar l1 l2 pass slice (ints τ)) κ0 κ1 =
      κ1 ((ords, (), (), (p' : Int), (), ()), (((), (shq a T m b z L q, ())), ((), ((), (true, ()))), ar, l1, ((), (shq a T m b z L q, ())), ((), ((), (true, ()))), ar, foldS a (T : Int) m b z L q pass slice σ l2, ((pass : Int), ((slice : Int), ())), ()))
  | 0, k, p, hpp, τ, hk, hτ, hk4, hn, l2, hl => by omega
  | n + 1, 0, p, hpp, τ, hk, hτ, hk4, hn, l2, hl => by
    have : τ = [] := List.length_eq_zero_iff.1 hk
    subst this
    refine ⟨[], p, List.Perm.refl _, by omega, ?_⟩
    conv => lhs; unfold l_7_20 B_7_20 C_7_20
    rfl
  | n + 1, k + 1, p, hpp, τ, hk, hτ, hk4, hn, l2, hl => by
    have main : ∀ (i : Nat) (hi : i < τ.length), ∃ (σ : List Nat) (p' : Nat), σ.Perm τ ∧ p' ≤ p + (k + 1) ∧
        (p_31 (R := R) N (((), ((pass : Int), ((slice : Int), ())), (ints τ).getD i (Sch.zero (.int .i64)), ()), gh (shq a T m b z L q) ar l2) fun y =>
          bif (y.1 != 0) then κ0 ((false, ()), ()) else
            l_7_20 N n ((ords, (), (), ((p + 1 : Nat) : Int), (), (), ()), (((), (shq a T m b z L q, ())), ((), ((), (true, ()))), ar, l1, y.2.1, y.2.2.1, y.2.2.2.1, y.2.2.2.2.1, ((pass : Int), ((slice : Int), ())), ints (τ.take i ++ τ.drop (i + 1)), ())) κ0 κ1) =
        κ1 ((ords, (), (), (p' : Int), (), ()), (((), (shq a T m b z L q, ())), ((), ((), (true, ()))), ar, l1, ((), (shq a T m b z L q, ())), ((), ((), (true, ()))), ar, foldS a (T : Int) m b z L q pass slice σ l2, ((pass : Int), ((slice : Int), ())), ())) := by
      intro i hi
      have hx : τ[i] < L := hτ _ (List.getElem_mem hi)
      have hperm : (τ[i] :: (τ.take i ++ τ.drop (i + 1))).Perm τ := by
        have := (List.perm_middle (a := τ[i]) (l₁ := τ.take i) (l₂ := τ.drop (i + 1))).symm
        rwa [← List.drop_eq_getElem_cons hi, List.take_append_drop] at this
      obtain ⟨σ, p', s1, s2, s3⟩ := l720 hN hT hL hq hp hs ar l1 ords κ0 κ1 n k (p + 1) (by omega) (τ.take i ++ τ.drop (i + 1)) (by simp; omega) (fun x hx => hτ x (hperm.mem_iff.1 (List.mem_cons_of_mem _ hx))) (by omega) (by omega) (segT a (T : Int) m b z L q pass slice l2 τ[i]) (by rw [segT_len]; exact hl)
      refine ⟨τ[i] :: σ, p', (List.Perm.cons _ s1).trans hperm, by omega, ?_⟩
      rw [ints_get τ i hi]
      refine (p31 N a T m b z L q hN ⟨by omega, by omega⟩ hL hq (by omega) hs hx ar l2 hl _).trans ?_
      refine (bif_f (show ((0 : Int) != 0) = false from rfl)).trans ?_
      exact s3
    have hlen : (ints τ).length = k + 1 := by rw [ints_len]; exact hk
    have hnil : ∀ i, i < τ.length → [] ++ List.take (i - 0) (List.drop 0 (ints τ)) ++ List.take ((ints τ).length - (i + 1)) (List.drop (i + 1) (ints τ)) = ints (τ.take i ++ τ.drop (i + 1)) := by
      intro i hi
      have e : List.take ((ints τ).length - (i + 1)) (List.drop (i + 1) (ints τ)) = List.drop (i + 1) (ints τ) := List.take_of_length_le (by rw [List.length_drop]; omega)
      rw [List.nil_append, Nat.sub_zero, List.drop_zero, e]
      simp [ints, List.map_take, List.map_drop]
    have rest : ∀ (i : Nat) (hi : i < τ.length) (y : Int × GH), (bif (y.1 != 0) then κ0 ((false, ()), ()) else
        bif decide (0 ≤ (i : Int)) then (bif decide ((i : Int) ≤ (((ints τ).length : Nat) : Int)) then (bif decide (0 ≤ (i : Int)) then (bif (decide ((List.length ([] : List Int) + (List.take (Int.toNat (i : Int) - 0) (List.drop 0 (ints τ))).length) * 8 ≤ 140737488355328) && true) then
          (bif decide (0 ≤ (((ints τ).length : Nat) : Int)) then (bif decide ((((ints τ).length : Nat) : Int) ≤ (((ints τ).length : Nat) : Int)) then (bif decide (0 ≤ addA .i64 (i : Int) 1) then (bif decide (addA .i64 (i : Int) 1 ≤ (((ints τ).length : Nat) : Int)) then
            (bif (decide (((([] : List Int) ++ List.take (Int.toNat (i : Int) - 0) (List.drop 0 (ints τ))).length + (List.take ((ints τ).length - Int.toNat (addA .i64 (i : Int) 1)) (List.drop (Int.toNat (addA .i64 (i : Int) 1)) (ints τ))).length) * 8 ≤ 140737488355328) && true) then
              l_7_20 N n ((ords, (), (), addA .i64 (p : Int) 1, (), (), ()), (((), (shq a T m b z L q, ())), ((), ((), (true, ()))), ar, l1, y.2.1, y.2.2.1, y.2.2.2.1, y.2.2.2.2.1, ((pass : Int), ((slice : Int), ())), ([] : List Int) ++ List.take (Int.toNat (i : Int) - 0) (List.drop 0 (ints τ)) ++ List.take ((ints τ).length - Int.toNat (addA .i64 (i : Int) 1)) (List.drop (Int.toNat (addA .i64 (i : Int) 1)) (ints τ)), ())) κ0 κ1
            else none) else none) else none) else none) else none) else none) else none) else none) else none) =
        bif (y.1 != 0) then κ0 ((false, ()), ()) else
          l_7_20 N n ((ords, (), (), ((p + 1 : Nat) : Int), (), (), ()), (((), (shq a T m b z L q, ())), ((), ((), (true, ()))), ar, l1, y.2.1, y.2.2.1, y.2.2.2.1, y.2.2.2.2.1, ((pass : Int), ((slice : Int), ())), ints (τ.take i ++ τ.drop (i + 1)), ())) κ0 κ1 := by
      intro i hi y
      cases (y.1 != 0) with
      | true => rfl
      | false =>
        have t1 : (List.take i (ints τ)).length ≤ 4 := by rw [List.length_take]; omega
        have t2 : (List.drop (i + 1) (ints τ)).length ≤ 4 := by rw [List.length_drop]; omega
        have t3 : (List.take ((ints τ).length - (i + 1)) (List.drop (i + 1) (ints τ))).length ≤ 4 := by rw [List.length_take]; omega
        rw [cond_false, cond_false, add64 (by omega) (by omega), add64 (by omega) (by omega), show (i : Int) + 1 = ((i + 1 : Nat) : Int) by omega, show (p : Int) + 1 = ((p + 1 : Nat) : Int) by omega, Int.toNat_natCast, Int.toNat_natCast, hnil i hi]
        rw [bif_t (dT (by omega)), bif_t (dT (by omega)), bif_t (dT (by omega)), bif_t (by rw [dT (by rw [Nat.sub_zero, List.drop_zero, List.length_nil]; omega)]; rfl), bif_t (dT (by omega)), bif_t (dT (by omega)), bif_t (dT (by omega)), bif_t (dT (by omega)), bif_t (by rw [dT (by rw [List.nil_append, Nat.sub_zero, List.drop_zero]; omega)]; rfl)]
    have both : ∀ (W : Int) (i : Nat) (hi : i < τ.length) (hW : W = (i : Int)), ∃ (σ : List Nat) (p' : Nat), σ.Perm τ ∧ p' ≤ p + (k + 1) ∧
        (p_31 (R := R) N (((), ((pass : Int), ((slice : Int), ())), (ints τ).getD (Int.toNat W) (Sch.zero (.int .i64)), ()), gh (shq a T m b z L q) ar l2) fun y =>
          (bif (y.1 != 0) then κ0 ((false, ()), ()) else bif decide (0 ≤ W) then (bif decide (W ≤ (((ints τ).length : Nat) : Int)) then (bif decide (0 ≤ W) then (bif (decide ((List.length ([] : List Int) + (List.take (Int.toNat W - 0) (List.drop 0 (ints τ))).length) * 8 ≤ 140737488355328) && true) then
          (bif decide (0 ≤ (((ints τ).length : Nat) : Int)) then (bif decide ((((ints τ).length : Nat) : Int) ≤ (((ints τ).length : Nat) : Int)) then (bif decide (0 ≤ addA .i64 W 1) then (bif decide (addA .i64 W 1 ≤ (((ints τ).length : Nat) : Int)) then
            (bif (decide (((([] : List Int) ++ List.take (Int.toNat W - 0) (List.drop 0 (ints τ))).length + (List.take ((ints τ).length - Int.toNat (addA .i64 W 1)) (List.drop (Int.toNat (addA .i64 W 1)) (ints τ))).length) * 8 ≤ 140737488355328) && true) then
              l_7_20 N n ((ords, (), (), addA .i64 (p : Int) 1, (), (), ()), (((), (shq a T m b z L q, ())), ((), ((), (true, ()))), ar, l1, y.2.1, y.2.2.1, y.2.2.2.1, y.2.2.2.2.1, ((pass : Int), ((slice : Int), ())), ([] : List Int) ++ List.take (Int.toNat W - 0) (List.drop 0 (ints τ)) ++ List.take ((ints τ).length - Int.toNat (addA .i64 W 1)) (List.drop (Int.toNat (addA .i64 W 1)) (ints τ)), ())) κ0 κ1
            else none) else none) else none) else none) else none) else none) else none) else none) else none)) =
        κ1 ((ords, (), (), (p' : Int), (), ()), (((), (shq a T m b z L q, ())), ((), ((), (true, ()))), ar, l1, ((), (shq a T m b z L q, ())), ((), ((), (true, ()))), ar, foldS a (T : Int) m b z L q pass slice σ l2, ((pass : Int), ((slice : Int), ())), ())) := by
      intro W i hi hW
      subst hW
      obtain ⟨σ, p', s1, s2, s3⟩ := main i hi
      exact ⟨σ, p', s1, s2, Eq.trans (congrArg (p_31 N _) (funext fun y => rest i hi y)) s3⟩
    have rest0 : ∀ (y : Int × GH), (bif (y.1 != 0) then κ0 ((false, ()), ()) else bif decide (0 ≤ (((ints τ).length : Nat) : Int)) then (bif (decide ((List.length ([] : List Int) + (List.take (0 - 0) (List.drop 0 (ints τ))).length) * 8 ≤ 140737488355328) && true) then
          (bif decide (0 ≤ (((ints τ).length : Nat) : Int)) then (bif decide ((((ints τ).length : Nat) : Int) ≤ (((ints τ).length : Nat) : Int)) then (bif decide (0 ≤ addA .i64 0 1) then (bif decide (addA .i64 0 1 ≤ (((ints τ).length : Nat) : Int)) then
            (bif (decide (((([] : List Int) ++ List.take (0 - 0) (List.drop 0 (ints τ))).length + (List.take ((ints τ).length - Int.toNat (addA .i64 0 1)) (List.drop (Int.toNat (addA .i64 0 1)) (ints τ))).length) * 8 ≤ 140737488355328) && true) then
              l_7_20 N n ((ords, (), (), addA .i64 (p : Int) 1, (), (), ()), (((), (shq a T m b z L q, ())), ((), ((), (true, ()))), ar, l1, y.2.1, y.2.2.1, y.2.2.2.1, y.2.2.2.2.1, ((pass : Int), ((slice : Int), ())), ([] : List Int) ++ List.take (0 - 0) (List.drop 0 (ints τ)) ++ List.take ((ints τ).length - Int.toNat (addA .i64 0 1)) (List.drop (Int.toNat (addA .i64 0 1)) (ints τ)), ())) κ0 κ1
            else none) else none) else none) else none) else none) else none) else none) =
        bif (y.1 != 0) then κ0 ((false, ()), ()) else
          l_7_20 N n ((ords, (), (), ((p + 1 : Nat) : Int), (), (), ()), (((), (shq a T m b z L q, ())), ((), ((), (true, ()))), ar, l1, y.2.1, y.2.2.1, y.2.2.2.1, y.2.2.2.2.1, ((pass : Int), ((slice : Int), ())), ints (τ.take 0 ++ τ.drop (0 + 1)), ())) κ0 κ1 := by
      intro y
      cases (y.1 != 0) with
      | true => rfl
      | false =>
        have t1 : (List.take 0 (ints τ)).length ≤ 4 := by rw [List.length_take]; omega
        have t3 : (List.take ((ints τ).length - (0 + 1)) (List.drop (0 + 1) (ints τ))).length ≤ 4 := by rw [List.length_take, List.length_drop]; omega
        rw [cond_false, cond_false, show addA .i64 0 1 = ((0 + 1 : Nat) : Int) from rfl, add64 (by omega) (by omega), show (p : Int) + 1 = ((p + 1 : Nat) : Int) by omega, Int.toNat_natCast, hnil 0 (by omega)]
        rw [bif_t (dT (by omega)), bif_t (by rw [dT (by rw [Nat.sub_zero, List.drop_zero, List.length_nil]; omega)]; rfl), bif_t (dT (by omega)), bif_t (dT (by omega)), bif_t (dT (by omega)), bif_t (dT (by omega)), bif_t (by rw [dT (by rw [List.nil_append, Nat.sub_zero, List.drop_zero]; omega)]; rfl)]
    by_cases hpo : p < ords.length
    · obtain ⟨i, i1, i2⟩ := rem_in (ords.getD p (Sch.zero (.int .i64))) τ.length (by omega)
      rw [← ints_len τ] at i2
      obtain ⟨σ, p', s1, s2, s3⟩ := both _ i i1 i2
      refine ⟨σ, p', s1, s2, Eq.trans ?_ s3⟩
      conv => lhs; unfold l_7_20 B_7_20 C_7_20
      refine (bif_t (dT (by show ((ints τ).length : Int) > 0; omega))).trans ?_
      refine (bif_t (dT (by show (p : Int) < ((ords.length : Nat) : Int); omega))).trans ?_
      refine (bif_t (dT (by show (0 : Int) ≤ (p : Int); omega))).trans ?_
      refine (bif_t (dT (by show (p : Int) < ((ords.length : Nat) : Int); omega))).trans ?_
      refine (bif_f (dF (by show ¬ ((ints τ).length : Int) = 0; omega))).trans ?_
      refine (bif_f (dF (by show ¬ ((ints τ).length : Int) = 0; omega))).trans ?_
      refine (bif_t (dT (by show (0 : Int) ≤ remA .i64 (addA .i64 (remA .i64 (ords.getD p (Sch.zero (.int .i64))) ((ints τ).length : Int)) ((ints τ).length : Int)) ((ints τ).length : Int); rw [i2]; omega))).trans ?_
      refine (bif_t (dT (by show remA .i64 (addA .i64 (remA .i64 (ords.getD p (Sch.zero (.int .i64))) ((ints τ).length : Int)) ((ints τ).length : Int)) ((ints τ).length : Int) < ((ints τ).length : Int); rw [i2, ints_len]; omega))).trans ?_
      rfl
    · obtain ⟨σ, p', s1, s2, s3⟩ := main 0 (by omega)
      refine ⟨σ, p', s1, s2, Eq.trans ?_ s3⟩
      conv => lhs; unfold l_7_20 B_7_20 C_7_20
      refine (bif_t (dT (by show ((ints τ).length : Int) > 0; omega))).trans ?_
      refine (bif_f (dF (by show ¬ (p : Int) < ((ords.length : Nat) : Int); omega))).trans ?_
      refine (bif_t (dT (by show (0 : Int) < ((ints τ).length : Int); omega))).trans ?_
      exact congrArg (p_31 N _) (funext fun y => rest0 y)
theorem l712 (hN : N = 1301) (hT : 1 ≤ T ∧ T ≤ 3) (hL : 1 ≤ L ∧ L ≤ 4) (hq : 2 ≤ q ∧ q ≤ 20) (ar) (l1 : List Bl) (ords : List Int) (κ0 κ1) : ∀ (f d j : Nat) (hd : j + d + 1 = 4 * T) (hf : d + 1 < f) (p : Nat) (hp : p + 4 * (d + 1) ≤ 3000) (l2 : List Bl) (hl : l2.length = L * (4 * q)),
    l_7_12 (R := R) N f ((ords, (), (), (p : Int), (), true, ()), (((), (shq a T m b z L q, ())), ((), ((), (true, ()))), ar, l1, ((), (shq a T m b z L q, ())), ((), ((), (true, ()))), ar, l2, (((j / 4 : Nat) : Int), (((j % 4 : Nat) : Int), ())), ())) κ0 κ1 =
      κ1 (((), (), ()), (((), (shq a T m b z L q, ())), ((), ((), (true, ()))), ar, l1, ((), (shq a T m b z L q, ())), ((), ((), (true, ()))), ar, turnsGo a m b z T L q (d + 1) j l2, ()))
  | 0, d, j, hd, hf, p, hp, l2, hl => by omega
  | f + 1, d, j, hd, hf, p, hp, l2, hl => by
    conv => lhs; unfold l_7_12 B_7_12 C_7_12
    refine (bif_t rfl).trans ?_
    refine (bif_t (dT (by show (0 : Int) ≤ (L : Int); omega))).trans ?_
    refine (bif_t (dT (by show (L : Int) ≤ (L : Int); omega))).trans ?_
    refine (bif_t (dT (by show ((8 : Nat) : Int) * (L : Int) ≤ 281474976710656; omega))).trans ?_
    refine (bif_t (dT (by show (L : Int) ≤ 9223372036854775807; omega))).trans ?_
    obtain ⟨left', e1, e2⟩ := l716 (R := R) N L (shq a T m b z L q) ar l1 l2 ((j / 4 : Nat) : Int) ((j % 4 : Nat) : Int) ords (p : Int) hL.2 (fun y => l_7_20 N N ((y.1.1, (), (), y.1.2.2.2.1, (), (), ()), y.2) κ0 (fun y => p_41 N ((y.2.2.2.2.2.1.2.1, y.2.2.2.2.2.2.2.2.2.1, ()), ()) fun w => l_7_12 N f ((y.1.1, (), (), y.1.2.2.2.1, (), w.2.1, ()), (y.2.1, y.2.2.1, y.2.2.2.1, y.2.2.2.2.1, y.2.2.2.2.2.1, y.2.2.2.2.2.2.1, y.2.2.2.2.2.2.2.1, y.2.2.2.2.2.2.2.2.1, w.1, ())) κ0 κ1)) N L 0 (by omega) (by omega) (List.replicate L 0) (by simp) (fun i hi => by omega)
    have start : ∀ X, X = l_7_16 (R := R) N N ((ords, (), (), (p : Int), (), (), (L : Int), ((0 : Nat) : Int), ()), fo (shq a T m b z L q) ar l1 l2 ((j / 4 : Nat) : Int) ((j % 4 : Nat) : Int) (List.replicate L 0)) _ → X = _ := fun X h => h.trans e2
    refine start _ ?_ |>.trans ?_
    · show l_7_16 N N ((ords, (), (), (p : Int), (), (), (((List.replicate (Int.toNat (L : Int)) (0 : Int)).length : Nat) : Int), 0, ()), fo (shq a T m b z L q) ar l1 l2 ((j / 4 : Nat) : Int) ((j % 4 : Nat) : Int) (List.replicate (Int.toNat (L : Int)) 0)) _ = _
      rw [Int.toNat_natCast, List.length_replicate]
      rfl
    · subst e1
      obtain ⟨σ, p', s1, s2, s3⟩ := l720 (R := R) N a m b z T L q hN hT hL hq (pass := j / 4) (slice := j % 4) (by omega) (by omega) ar l1 ords κ0 (fun y => p_41 N ((y.2.2.2.2.2.1.2.1, y.2.2.2.2.2.2.2.2.2.1, ()), ()) fun w => l_7_12 N f ((y.1.1, (), (), y.1.2.2.2.1, (), w.2.1, ()), (y.2.1, y.2.2.1, y.2.2.2.1, y.2.2.2.2.1, y.2.2.2.2.2.1, y.2.2.2.2.2.2.1, y.2.2.2.2.2.2.2.1, y.2.2.2.2.2.2.2.2.1, w.1, ())) κ0 κ1) N L p (by omega) (List.range' 0 L) (by simp) (fun x hx => by have := List.mem_range'_1.1 hx; omega) hL.2 (by omega) l2 hl
      refine s3.trans ?_
      have ep : foldS a (T : Int) m b z L q (j / 4) (j % 4) σ l2 = turnA a m b z T L q j l2 := by
        have hm : ∀ x ∈ List.range' 0 L, x < L := fun x hx => by have := List.mem_range'_1.1 hx; omega
        exact (fold_perm a (T : Int) m b z L q hq.1 hL.1 (by omega) (pass := j / 4) (slice := j % 4) (by omega) (by omega) hm List.nodup_range' s1.symm l2).symm
      rw [ep]
      refine (p41n N (shq a T m b z L q) T hT rfl j (by omega) _).trans ?_
      by_cases h : j + 1 < 4 * T
      · rw [if_pos h]
        obtain ⟨e, rfl⟩ : ∃ e, d = e + 1 := ⟨d - 1, by omega⟩
        refine (l712 hN hT hL hq ar l1 ords κ0 κ1 f e (j + 1) (by omega) (by omega) p' (by omega) (turnA a m b z T L q j l2) (by rw [turnA_len]; exact hl)).trans ?_
        rfl
      · rw [if_neg h]
        obtain rfl : d = 0 := by omega
        obtain ⟨g, rfl⟩ : ∃ g, f = g + 1 := ⟨f - 1, by omega⟩
        conv => lhs; unfold l_7_12 B_7_12 C_7_12
        refine (bif_f rfl).trans ?_
        rfl
end
theorem p7 {R : Type} (N : Nat) (hN : N = 1301) (a t m l z : Int) (s : ByteArray) (ords : List Int) (κ) : p_7 (R := R) N (((a, (t, (m, (l, (z, ()))))), s, ords, ()), ()) κ = κ (true, ()) := by
  unfold p_7 Q_7
  dsimp only
  rw [p28 N hN, bif_f nT, p14]
  by_cases h : Fit a t m l z ∧ FewP t l (m / (4 * l))
  · rw [dif_pos h, p14, dif_pos h]
    obtain ⟨h, hf1, hf2, hf3⟩ := h
    obtain ⟨⟨h1, h2⟩, ⟨h3, h4⟩, ⟨h5, h6⟩, ⟨h7, h8⟩, h9, h10, h11⟩ := h
    have q2 : 2 ≤ m / (4 * l) := (Int.le_ediv_iff_mul_le (by omega)).2 (by omega)
    generalize hq : m / (4 * l) = q at *
    obtain ⟨T, rfl⟩ := Int.eq_ofNat_of_zero_le (show 0 ≤ t by omega)
    obtain ⟨L, rfl⟩ := Int.eq_ofNat_of_zero_le (show 0 ≤ l by omega)
    obtain ⟨Q, rfl⟩ := Int.eq_ofNat_of_zero_le (show 0 ≤ q by omega)
    have e1 : (4 * (L : Int) * (Q : Int)) = ((L * (4 * Q) : Nat) : Int) := by
      rw [Int.natCast_mul, Int.natCast_mul, Int.mul_comm 4 (L : Int), Int.mul_assoc]; rfl
    rw [e1] at hf3 ⊢
    have e2 : ((4 * (Q : Int)).toNat) = 4 * Q := by omega
    rw [e2, Int.toNat_natCast, ← shq_shn]
    have hb : L * (4 * Q) ≤ 80 := by omega
    have hQ : Q ≤ 20 := by
      have : 1 * (4 * Q) ≤ L * (4 * Q) := Nat.mul_le_mul_right _ (by omega)
      omega
    have hL : 1 ≤ L ∧ L ≤ 4 := ⟨by omega, by omega⟩
    have hQ2 : 2 ≤ Q ∧ Q ≤ 20 := ⟨by omega, hQ⟩
    have hT : 1 ≤ T ∧ T ≤ 3 := ⟨by omega, by omega⟩
    generalize har : ((((L * (4 * Q) : Nat) : Int), (((L * (4 * Q) : Nat) : Int), (((L * (4 * Q) : Nat) : Int), ((1 : Int), ()))))) = ar
    generalize hbl : ((L * (4 * Q) : Nat) : Int) = bl
    show (bif decide (((s.size : Nat) : Int) > 200) then κ (true, ()) else _) = _
    by_cases c1 : ((s.size : Nat) : Int) > 200
    · rw [bif_t (dT c1)]
    rw [bif_f (dF c1)]
    have hz := Bk.strList_size s
    refine (p13q N (by omega) a T m bl z L Q hL.2 hQ2 s (by omega) ar (List.replicate (L * (4 * Q)) nulB) (by rw [List.length_replicate]) _).trans ?_
    refine (p13q N (by omega) a T m bl z L Q hL.2 hQ2 s (by omega) ar (List.replicate (L * (4 * Q)) nulB) (by rw [List.length_replicate]) _).trans ?_
    have ln1 : (begGo s (4 * Q) L 0 (List.replicate (L * (4 * Q)) nulB)).length = L * (4 * Q) := by rw [begGo_len, List.length_replicate]
    refine (p40 N a m bl z T L Q hN hT hL hQ2 ar (begGo s (4 * Q) L 0 (List.replicate (L * (4 * Q)) nulB)) ln1 _).trans ?_
    refine (bif_f (show ((0 : Int) != 0) = false from rfl)).trans ?_
    refine (l712 N a m bl z T L Q hN hT hL hQ2 ar (turnsGo a m bl z T L Q (4 * T) 0 (begGo s (4 * Q) L 0 (List.replicate (L * (4 * Q)) nulB))) ords _ _ N (4 * T - 1) 0 (by omega) (by omega) 0 (by omega) (begGo s (4 * Q) L 0 (List.replicate (L * (4 * Q)) nulB)) ln1).trans ?_
    rw [show 4 * T - 1 + 1 = 4 * T by omega]
    have ln2 : (turnsGo a m bl z T L Q (4 * T) 0 (begGo s (4 * Q) L 0 (List.replicate (L * (4 * Q)) nulB))).length = L * (4 * Q) := by rw [turnsGo_len]; exact ln1
    generalize turnsGo a m bl z T L Q (4 * T) 0 (begGo s (4 * Q) L 0 (List.replicate (L * (4 * Q)) nulB)) = l2 at ln2 ⊢
    refine (p17q N (by omega) a T m bl z L Q hL.2 hQ ar l2 ln2 _).trans ?_
    refine (p17q N (by omega) a T m bl z L Q hL.2 hQ ar l2 ln2 _).trans ?_
    show p_16 N (((), (), ()), (gridF l2 (4 * Q) L, gridF l2 (4 * Q) L, ())) _ = _
    refine (p16 N L (4 * Q) (by omega) (fun k => l2.getD k nulB) (fun k => l2.getD k nulB) (fun k _ => schEq128 (fun _ _ => rfl)) hL.2 (by omega) _).trans ?_
    rfl
  · rw [dif_neg h, p14, dif_neg h]
theorem law_all (y0 : Sch.den (.stru (.fcons (.int .i64) (.fcons (.int .i64) (.fcons (.int .i64) (.fcons (.int .i64) (.fcons (.int .i64) .fnil))))))) {P0 : Prop} (wf0 : P0) (y1 : ByteArray) {P1 : Prop} (wf1 : P1) (y2 : Sch.den (.sl (.int .i64))) {P2 : Prop} (wf2 : P2) :
    ∃ H', ACalls Try.prog 7 [toAV (.stru (.fcons (.int .i64) (.fcons (.int .i64) (.fcons (.int .i64) (.fcons (.int .i64) (.fcons (.int .i64) .fnil)))))) y0, toAV (.str) y1, toAV (.sl (.int .i64)) y2] [] (.bool true) H' :=
  gd_law (good_7 1301) (x := (y0, y1, y2, ())) (by
    obtain ⟨a, t, m, l, s, u⟩ := y0
    exact p7 1301 rfl a t m l s y1 y2 _)
end Go.Proofs.Ytfcloeflcpcheaa.Eng
