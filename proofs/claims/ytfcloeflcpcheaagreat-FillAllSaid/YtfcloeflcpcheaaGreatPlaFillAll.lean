/-
FillAll: what the mirrors come to, in plain numbers and lists: the law's mirror answers true.
Conditions: none.
-/
import Derived.Test.YtfcloeflcpcheaaGreatMirFillAll
set_option linter.unusedVariables false
set_option linter.unusedSimpArgs false
namespace Go.Proofs.YtfcloeflcpcheaaGreat.Eng
namespace Bk
def W (x : Int) : Prop := 0 ≤ x ∧ x < 18446744073709551616
theorem W_wrap (x : Int) : W (IntKind.wrap .u64 x) := by rw [wrapU64]; unfold W; omega
theorem W_xor (a b : Int) : W (xorA .u64 a b) := W_wrap _
theorem W_or (a b : Int) : W (orA .u64 a b) := W_wrap _
theorem W_add (a b : Int) : W (addA .u64 a b) := W_wrap _
theorem W_zero : W 0 := by unfold W; omega
theorem xor_comm (a b : Int) : xorA .u64 a b = xorA .u64 b a := by unfold xorA; rw [BitVec.xor_comm]
theorem xor_assoc (a b c : Int) (ha : W a) (hb : W b) (hc : W c) : xorA .u64 (xorA .u64 a b) c = xorA .u64 a (xorA .u64 b c) := by
 have key : ∀ x : BitVec 64, BitVec.ofInt 64 (IntKind.wrap .u64 (x.toNat : Int)) = x := by
  intro x
  rw [wrapU64]
  apply BitVec.eq_of_toNat_eq
  rw [BitVec.toNat_ofInt]
  have := x.isLt
  omega
 unfold xorA
 show IntKind.wrap .u64 (((BitVec.ofInt 64 (IntKind.wrap .u64 ((BitVec.ofInt 64 a ^^^ BitVec.ofInt 64 b).toNat : Int))) ^^^ BitVec.ofInt 64 c).toNat : Int) = IntKind.wrap .u64 ((BitVec.ofInt 64 a ^^^ BitVec.ofInt 64 (IntKind.wrap .u64 ((BitVec.ofInt 64 b ^^^ BitVec.ofInt 64 c).toNat : Int))).toNat : Int)
 rw [key, key, BitVec.xor_assoc]
theorem zero_xor {a : Int} (h : W a) : xorA .u64 0 a = a := by
 unfold xorA
 rw [wrapU64, BitVec.toNat_xor]
 have q1 : (BitVec.ofInt IntKind.u64.bits a).toNat = a.toNat := by
  show (BitVec.ofInt 64 a).toNat = a.toNat
  rw [BitVec.toNat_ofInt]; have := h.1; have := h.2; omega
 have q2 : (BitVec.ofInt IntKind.u64.bits 0).toNat = 0 := by decide
 rw [q1, q2, Nat.zero_xor]
 have := h.1
 have := h.2
 omega
theorem upd_same {α : Type} (f : Nat → α) (i : Nat) (x : α) : upd f i x i = x := by simp [upd]
theorem upd_other {α : Type} (f : Nat → α) {i j : Nat} (x : α) (h : j ≠ i) : upd f i x j = f j := by
 show (bif Nat.beq j i then x else f j) = f j
 cases hq : Nat.beq j i with
 | false => rfl
 | true => exact absurd (Nat.eq_of_beq_eq_true hq) h
theorem upd_if {α : Type} (f : Nat → α) (i j : Nat) (x : α) : upd f i x j = if j = i then x else f j := by
 by_cases h : j = i
 ·subst h; rw [upd_same, if_pos rfl]
 ·rw [upd_other f x h, if_neg h]
abbrev Bl := Nat → Int
def nulB : Bl := fun _ => 0
def rotF (x n : Int) : Int := orA .u64 (shrA .u64 x n) (shlA .u64 x (64 - n))
def roundR (x lo hi : Int) : Int := addA .u64 (quoA .u64 x lo) (mulA .u64 (remA .u64 x lo) hi)
theorem or_disj {a b : Nat} {n : Nat} (ha : a < 2 ^ n) : a ||| (b * 2 ^ n) = b * 2 ^ n + a := by
 rw [Nat.or_comm, Nat.mul_comm b, Nat.two_pow_add_eq_or_of_lt ha]
theorem nat_mod {B : Nat} (h : B < 2 ^ 64) : ((B : Nat) : Int) % 18446744073709551616 = B := by omega
theorem rot_eq {x : Int} (hx : W x) (n m : Nat) (hnm : n + m = 64) (hn : 0 < n) (hm : 0 < m) : roundR x (2 ^ n) (2 ^ m) = rotF x n := by
 obtain ⟨h1, h2⟩ := hx
 obtain ⟨y, rfl⟩ := Int.eq_ofNat_of_zero_le h1
 have hy : y < 2 ^ 64 := by omega
 unfold roundR rotF quoA remA
 have pn : ((2 : Int) ^ n) = ((2 ^ n : Nat) : Int) := by simp
 have pm : ((2 : Int) ^ m) = ((2 ^ m : Nat) : Int) := by simp
 have e64 : 2 ^ n * 2 ^ m = 2 ^ 64 := by rw [← Nat.pow_add, hnm]
 have d1 : y / 2 ^ n < 2 ^ m := by rw [Nat.div_lt_iff_lt_mul (Nat.two_pow_pos n), Nat.mul_comm, e64]; exact hy
 have m1 : y % 2 ^ n < 2 ^ n := Nat.mod_lt _ (Nat.two_pow_pos n)
 have p1 : y % 2 ^ n * 2 ^ m + y / 2 ^ n < 2 ^ 64 := by
  have : (y % 2 ^ n + 1) * 2 ^ m ≤ 2 ^ n * 2 ^ m := Nat.mul_le_mul_right _ m1
  rw [Nat.add_mul, e64] at this
  omega
 have p2 : y % 2 ^ n * 2 ^ m < 2 ^ 64 := Nat.lt_of_le_of_lt (Nat.le_add_right _ _) p1
 have p9003 : y / 2 ^ n < 2 ^ 64 := Nat.lt_of_le_of_lt (Nat.le_add_left _ _) p1
 rw [pn, pm, Int.tdiv_eq_ediv_of_nonneg (by omega), Int.tmod_eq_emod_of_nonneg (by omega)]
 have e1 : ((y : Int) / ((2 ^ n : Nat) : Int)) = ((y / 2 ^ n : Nat) : Int) := by simp
 have e2 : ((y : Int) % ((2 ^ n : Nat) : Int)) = ((y % 2 ^ n : Nat) : Int) := by simp
 rw [e1, e2]
 have w1 : IntKind.wrap .u64 ((y / 2 ^ n : Nat) : Int) = ((y / 2 ^ n : Nat) : Int) := by rw [wrapU64, nat_mod p9003]
 have q1 : mulA .u64 ((y % 2 ^ n : Nat) : Int) ((2 ^ m : Nat) : Int) = ((y % 2 ^ n * 2 ^ m : Nat) : Int) := by
  unfold mulA
  rw [wrapU64, ← Int.natCast_mul, nat_mod p2]
 rw [w1, q1]
 have l1 : addA .u64 ((y / 2 ^ n : Nat) : Int) ((y % 2 ^ n * 2 ^ m : Nat) : Int) = ((y % 2 ^ n * 2 ^ m + y / 2 ^ n : Nat) : Int) := by
  unfold addA
  rw [wrapU64, ← Int.natCast_add, Nat.add_comm, nat_mod p1]
 rw [l1]
 have s1 : shrA .u64 (y : Int) (n : Int) = ((y / 2 ^ n : Nat) : Int) := by
  rw [shrU64 (by omega) (by omega), pn, e1]
 have s2 : shlA .u64 (y : Int) (64 - (n : Int)) = ((y % 2 ^ n * 2 ^ m : Nat) : Int) := by
  unfold shlA
  have : (64 - (n : Int)).toNat = m := by omega
  rw [this, show min m IntKind.u64.bits = m from Nat.min_eq_left (by show m ≤ 64; omega), pm, wrapU64, ← Int.natCast_mul]
  have : y * 2 ^ m % 2 ^ 64 = y % 2 ^ n * 2 ^ m := by
   rw [← e64, Nat.mul_mod_mul_right]
  rw [← this]
  omega
 rw [s1, s2]
 unfold orA
 rw [wrapU64, BitVec.toNat_or]
 have b1 : (BitVec.ofInt IntKind.u64.bits ((y / 2 ^ n : Nat) : Int)).toNat = y / 2 ^ n := by
  show (BitVec.ofInt 64 _).toNat = _
  rw [BitVec.toNat_ofInt]; show (((y / 2 ^ n : Nat) : Int) % 18446744073709551616).toNat = _; rw [nat_mod p9003]; rfl
 have b2 : (BitVec.ofInt IntKind.u64.bits ((y % 2 ^ n * 2 ^ m : Nat) : Int)).toNat = y % 2 ^ n * 2 ^ m := by
  show (BitVec.ofInt 64 _).toNat = _
  rw [BitVec.toNat_ofInt]; show (((y % 2 ^ n * 2 ^ m : Nat) : Int) % 18446744073709551616).toNat = _; rw [nat_mod p2]; rfl
 rw [b1, b2, or_disj d1, nat_mod p1]
theorem W_rot (x n : Int) : W (rotF x n) := W_or _ _
theorem bloop (bs : ByteArray) : ∀ (n i : Nat) (r : List UInt8), bs.size - i ≤ n → ByteArray.toList.loop bs i r = r.reverse ++ bs.data.toList.drop i
 | 0, i, r, h => by
  rw [ByteArray.toList.loop]
  have h1 : bs.data.size = bs.size := rfl
  rw [if_neg (by omega), List.drop_eq_nil_of_le (by simp; omega)]
  simp
 | n + 1, i, r, h => by
  rw [ByteArray.toList.loop]
  have h1 : bs.data.size = bs.size := rfl
  by_cases hi : i < bs.size
  ·rw [if_pos hi, bloop bs n (i + 1) _ (by omega)]
   have : bs.get! i = bs.data.toList[i]'(by simp; omega) := by
    show bs.data[i]! = _
    rw [getElem!_pos bs.data i (by omega)]
    simp
   rw [this]
   rw [List.drop_eq_getElem_cons (i := i) (by simp; omega)]
   simp
  ·rw [if_neg hi, List.drop_eq_nil_of_le (by simp; omega)]
   simp
theorem btoList (bs : ByteArray) : bs.toList = bs.data.toList := by
 unfold ByteArray.toList
 rw [bloop bs bs.size 0 [] (by omega)]
 simp
theorem strList_inj {a b : ByteArray} (h : strList a = strList b) : a = b := by
 unfold strList at h
 have h1 : a.data.toList = b.data.toList := by
  refine List.map_inj_right (f := fun b : UInt8 => (b.toNat : Int)) (fun x y hxy => ?_) |>.1 h
  exact UInt8.toNat_inj.1 (Int.ofNat_inj.1 hxy)
 obtain ⟨⟨l⟩⟩ := a
 obtain ⟨⟨m⟩⟩ := b
 simp at h1
 rw [h1]
theorem eqS_dec (a b : ByteArray) : eqS a b = decide (strList a = strList b) := by
 unfold eqS
 rw [btoList, btoList]
 by_cases h : strList a = strList b
 ·rw [strList_inj h]; simp
 ·have : ¬ a.data.toList = b.data.toList := fun e => h (by unfold strList; rw [e])
  rw [decide_eq_false h]
  exact beq_eq_false_iff_ne.2 this
theorem strList_app (a b : ByteArray) : strList (a ++ b) = strList a ++ strList b := by
 unfold strList
 simp
theorem strList_ext (s : ByteArray) (i j : Nat) : strList (s.extract i j) = ((strList s).take j).drop i := by
 unfold strList
 simp [ByteArray.data_extract]
 rw [List.drop_take]
theorem strList_size (s : ByteArray) : s.size = (strList s).length := by simp [strList]
theorem strList_mk (l : List Int) (h : ∀ x ∈ l, 0 ≤ x ∧ x < 256) : strList (listStr l) = l := by
 unfold strList listStr
 simp only [List.map_map]
 refine (List.map_congr_left (g := id) fun x hx => ?_).trans (by simp)
 have := h x hx
 simp [UInt8.toNat_ofNat']
 omega
theorem strList_rng (s : ByteArray) : ∀ x ∈ strList s, 0 ≤ x ∧ x < 256 := by
 unfold strList
 intro x hx
 simp only [List.mem_map] at hx
 obtain ⟨b, _, rfl⟩ := hx
 have := b.toNat_lt
 omega
abbrev Q9004 := Int × (Int × (Int × (Int × Unit)))
def qF (a b c d x y : Int) : Q9004 :=
 let a1 := addA .u64 a (addA .u64 b x)
 let d1 := rotF (xorA .u64 d a1) 32
 let c1 := addA .u64 c d1
 let b1 := rotF (xorA .u64 b c1) 24
 let a2 := addA .u64 a1 (addA .u64 b1 y)
 let d2 := rotF (xorA .u64 d1 a2) 16
 let c2 := addA .u64 c1 d2
 let b2 := rotF (xorA .u64 b1 c2) 63
 (a2, (b2, (c2, (d2, ()))))
def ar4 (a b c d : Int) : Bl := upd (upd (upd (upd (Sch.zero (.arr 4 (.int .u64))) 0 a) 1 b) 2 c) 3 d
def qR (q : Bl) (x y : Int) : Bl :=
 let q := upd q 0 (addA .u64 (addA .u64 (q 0) (q 1)) x)
 let q := upd q 3 (roundR (xorA .u64 (q 3) (q 0)) 4294967296 4294967296)
 let q := upd q 2 (addA .u64 (q 2) (q 3))
 let q := upd q 1 (roundR (xorA .u64 (q 1) (q 2)) 16777216 1099511627776)
 let q := upd q 0 (addA .u64 (addA .u64 (q 0) (q 1)) y)
 let q := upd q 3 (roundR (xorA .u64 (q 3) (q 0)) 65536 281474976710656)
 let q := upd q 2 (addA .u64 (q 2) (q 3))
 upd q 1 (roundR (xorA .u64 (q 1) (q 2)) 9223372036854775808 2)
theorem addU_assoc (a b c : Int) : addA .u64 (addA .u64 a b) c = addA .u64 a (addA .u64 b c) := by
 unfold addA
 rw [wrapU64, wrapU64, wrapU64, wrapU64]
 omega
theorem roundR32 {x : Int} (h : W x) : roundR x 4294967296 4294967296 = rotF x 32 := rot_eq h 32 32 rfl (by decide) (by decide)
theorem roundR24 {x : Int} (h : W x) : roundR x 16777216 1099511627776 = rotF x 24 := rot_eq h 24 40 rfl (by decide) (by decide)
theorem roundR16 {x : Int} (h : W x) : roundR x 65536 281474976710656 = rotF x 16 := rot_eq h 16 48 rfl (by decide) (by decide)
theorem roundR63 {x : Int} (h : W x) : roundR x 9223372036854775808 2 = rotF x 63 := rot_eq h 63 1 rfl (by decide) (by decide)
theorem qR_eq (a b c d x y : Int) : qR (ar4 a b c d) x y 0 = (qF a b c d x y).1 ∧ qR (ar4 a b c d) x y 1 = (qF a b c d x y).2.1 ∧ qR (ar4 a b c d) x y 2 = (qF a b c d x y).2.2.1 ∧ qR (ar4 a b c d) x y 3 = (qF a b c d x y).2.2.2.1 := by
 have h : ∀ u v, qR (ar4 a b c d) u v =
   (let a1 := addA .u64 (addA .u64 a b) u
    let d1 := roundR (xorA .u64 d a1) 4294967296 4294967296
    let c1 := addA .u64 c d1
    let b1 := roundR (xorA .u64 b c1) 16777216 1099511627776
    let a2 := addA .u64 (addA .u64 a1 b1) v
    let d2 := roundR (xorA .u64 d1 a2) 65536 281474976710656
    let c2 := addA .u64 c1 d2
    let b2 := roundR (xorA .u64 b1 c2) 9223372036854775808 2
    upd (upd (upd (upd (upd (upd (upd (upd (ar4 a b c d) 0 a1) 3 d1) 2 c1) 1 b1) 0 a2) 3 d2) 2 c2) 1 b2) := fun u v => rfl
 rw [h x y]
 dsimp only
 rw [addU_assoc a b x, roundR32 (W_xor _ _), roundR24 (W_xor _ _), addU_assoc _ _ y, roundR16 (W_xor _ _), roundR63 (W_xor _ _)]
 exact ⟨rfl, rfl, rfl, rfl⟩
theorem qF_W (a b c d x y : Int) : W (qF a b c d x y).1 ∧ W (qF a b c d x y).2.1 ∧ W (qF a b c d x y).2.2.1 ∧ W (qF a b c d x y).2.2.2.1 := ⟨W_add _ _, W_rot _ _, W_add _ _, W_rot _ _⟩
def ordF (r : Int) : Bl := (p_106 (R := Bl) 1301 ((r, ()), ()) some).getD nulB
def ordR (r : Int) : Bl := (p_99 (R := Bl) 1301 ((r, ()), ()) some).getD nulB
def ten (P : Int → Prop) : Prop := P 0 ∧ P 1 ∧ P 2 ∧ P 3 ∧ P 4 ∧ P 5 ∧ P 6 ∧ P 7 ∧ P 8 ∧ P 9
theorem ten_mk {α : Type} {f g : Int → α} (h0 : f 0 = g 0) (h1 : f 1 = g 1) (h2 : f 2 = g 2) (h3 : f 3 = g 3) (h4 : f 4 = g 4) (h5 : f 5 = g 5) (h6 : f 6 = g 6) (h7 : f 7 = g 7) (h8 : f 8 = g 8) (h9 : f 9 = g 9) : ten fun r => f r = g r :=
 ⟨h0, h1, h2, h3, h4, h5, h6, h7, h8, h9⟩
theorem ten_all {P : Int → Prop} (h : ten P) {r : Int} (h1 : 0 ≤ r) (h2 : r < 10) : P r := by
 obtain ⟨q0, q1, q2, q3, q4, q5, q6, q7, q8, q9⟩ := h
 have : r = 0 ∨ r = 1 ∨ r = 2 ∨ r = 3 ∨ r = 4 ∨ r = 5 ∨ r = 6 ∨ r = 7 ∨ r = 8 ∨ r = 9 := by omega
 rcases this with h | h | h | h | h | h | h | h | h | h <;> subst h <;> assumption
theorem ord_eq : ten fun r => schEq (.arr 16 (.int .i64)) (ordF r) (ordR r) = true := by
 refine ten_mk ?_ ?_ ?_ ?_ ?_ ?_ ?_ ?_ ?_ ?_ <;> kernel_rfl
theorem p106 {R : Type} (κ : Bl → Option R) : ten fun r => p_106 (R := R) 1301 ((r, ()), ()) κ = κ (ordF r) := by
 refine ten_mk ?_ ?_ ?_ ?_ ?_ ?_ ?_ ?_ ?_ ?_ <;> kernel_rfl
theorem p99 {R : Type} (κ : Bl → Option R) : ten fun r => p_99 (R := R) 1301 ((r, ()), ()) κ = κ (ordR r) := by
 refine ten_mk ?_ ?_ ?_ ?_ ?_ ?_ ?_ ?_ ?_ ?_ <;> kernel_rfl
theorem schEq_arr {n : Nat} {k : IntKind} {x y : Bl} : schEq (.arr n (.int k)) x y = true ↔ ∀ j, j < n → x j = y j := by
 show (List.range n).all (fun i => x i == y i) = true ↔ _
 rw [List.all_eq_true]
 constructor
 ·intro h j hj
  exact eq_of_beq (α := Int) (h j (List.mem_range.2 hj))
 ·intro h j hj
  have := h j (List.mem_range.1 hj)
  rw [this]
  exact beq_self_eq_true (α := Int) _
def plF : Nat → Bl := (p_105 (R := Nat → Bl) 1301 ((), ()) some).getD (fun _ => nulB)
theorem p105 {R : Type} (κ : (Nat → Bl) → Option R) : p_105 1301 ((), ()) κ = κ plF := by kernel_rfl
def stQ (v : Bl) (i j k l : Nat) (x y : Int) : Bl :=
 let q := qF (v i) (v j) (v k) (v l) x y
 upd (upd (upd (upd v i q.1) j q.2.1) k q.2.2.1) l q.2.2.2.1
def rnd (v x : Bl) : Bl := stQ (stQ (stQ (stQ (stQ (stQ (stQ (stQ v 0 4 8 12 (x 0) (x 1)) 1 5 9 13 (x 2) (x 3)) 2 6 10 14 (x 4) (x 5)) 3 7 11 15 (x 6) (x 7)) 0 5 10 15 (x 8) (x 9)) 1 6 11 12 (x 10) (x 11)) 2 7 8 13 (x 12) (x 13)) 3 4 9 14 (x 14) (x 15)
def sel (s g : Bl) : Bl := fun j => g (Int.toNat (s j))
theorem l95i {R : Type} (g a z v : Bl) (u : Int) (κ) : ten fun r =>
  l_95_17 (R := R) 1301 1301 (((), (), (List.range 16).map g, (), (), (), u, plF, 0, ()), (a, z, v, plF, ordF r, ())) κ =
   κ (((), (), (List.range 16).map g, (), (), u, ()), (a, z, rnd v (sel (ordF r) g), plF, ())) := by
 refine ten_mk ?_ ?_ ?_ ?_ ?_ ?_ ?_ ?_ ?_ ?_ <;> kernel_rfl
def rndsF (g : Bl) : Nat → Nat → Bl → Bl
 | 0, _, v => v
 | n + 1, i, v => rndsF g n (i + 1) (rnd v (sel (ordF ((i : Int) % 10)) g))
theorem p106i {R : Type} {i : Int} (h1 : 0 ≤ i) (κ : Bl → Option R) : p_106 (R := R) 1301 ((i, ()), ()) κ = κ (ordF (i % 10)) := by
 have e : p_106 (R := R) 1301 ((i, ()), ()) κ = p_106 (R := R) 1301 ((i % 10, ()), ()) κ := by
  have m1 := Int.emod_nonneg i (show (10 : Int) ≠ 0 by decide)
  unfold p_106 Q_106
  dsimp only
  rw [bif_f (dF (show ¬ i < 0 by omega)), bif_f (dF (show ¬ i % 10 < 0 by omega)), rem64 h1, rem64 m1, Int.emod_emod]
 rw [e]
 exact ten_all (p106 κ) (Int.emod_nonneg i (by decide)) (Int.emod_lt_of_pos i (by decide))
theorem p99i {R : Type} {i : Int} (h1 : 0 ≤ i) (κ : Bl → Option R) : p_99 (R := R) 1301 ((i, ()), ()) κ = κ (ordR (i % 10)) := by
 have e : p_99 (R := R) 1301 ((i, ()), ()) κ = p_99 (R := R) 1301 ((i % 10, ()), ()) κ := by
  have m1 := Int.emod_nonneg i (show (10 : Int) ≠ 0 by decide)
  unfold p_99 Q_99
  dsimp only
  rw [bif_f (dF (show ¬ i < 0 by omega)), bif_f (dF (show ¬ i % 10 < 0 by omega)), rem64 h1, rem64 m1, Int.emod_emod]
 rw [e]
 exact ten_all (p99 κ) (Int.emod_nonneg i (by decide)) (Int.emod_lt_of_pos i (by decide))
theorem l95o {R : Type} (g a z : Bl) (κ) : ∀ (n m i : Nat) (v : Bl), i + m = 12 → m < n →
  l_95_13 (R := R) 1301 n (((), (), (List.range 16).map g, (), (), (i : Int), ()), (a, z, v, plF, ())) κ = κ (((), (), (), ()), (a, z, rndsF g m i v, ()))
 | 0, m, i, v, h1, h2 => by omega
 | n + 1, 0, i, v, h1, h2 => by
  unfold l_95_13 B_95_13 C_95_13
  try dsimp only
  rw [bif_f (dF (show ¬ (i : Int) < 12 by omega))]
  rfl
 | n + 1, m + 1, i, v, h1, h2 => by
  unfold l_95_13 B_95_13 C_95_13
  try dsimp only
  have e3 : addA .i64 (i : Int) 1 = ((i + 1 : Nat) : Int) := by rw [add64 (by omega) (by omega)]; simp
  rw [bif_t (dT (show (i : Int) < 12 by omega)), p106i (by omega)]
  try dsimp only
  rw [ten_all (l95i g a z v (i : Int) _) (Int.emod_nonneg _ (by decide)) (Int.emod_lt_of_pos _ (by decide))]
  try dsimp only
  rw [e3]
  exact l95o g a z κ n m (i + 1) _ (by omega) (by omega)
def outQ (a v : Bl) : Bl := upd (upd (upd (upd (upd (upd (upd (upd a 0 (xorA .u64 (a 0) (xorA .u64 (v 0) (v 8)))) 1 (xorA .u64 (a 1) (xorA .u64 (v 1) (v 9)))) 2 (xorA .u64 (a 2) (xorA .u64 (v 2) (v 10)))) 3 (xorA .u64 (a 3) (xorA .u64 (v 3) (v 11)))) 4 (xorA .u64 (a 4) (xorA .u64 (v 4) (v 12)))) 5 (xorA .u64 (a 5) (xorA .u64 (v 5) (v 13)))) 6 (xorA .u64 (a 6) (xorA .u64 (v 6) (v 14)))) 7 (xorA .u64 (a 7) (xorA .u64 (v 7) (v 15)))
theorem l95x {R : Type} (a z v : Bl) (κ) : l_95_24 (R := R) 1301 1301 (((), (), (), 0, ()), (a, z, v, ())) κ = κ (((), (), ()), (outQ a v, z, ())) := by kernel_rfl
def wF (f : Bl) (i : Nat) : Nat → Int
 | 0 => 0
 | k + 1 => orA .u64 (wF f i k) (shlA .u64 (IntKind.wrap .u64 (f (8 * i + k))) ((8 * k : Nat) : Int))
def wR (f : Bl) (i : Nat) : Nat → Int
 | 0 => 0
 | n + 1 => addA .u64 (mulA .u64 256 (wR f i n)) (IntKind.wrap .u64 (f (8 * i + (7 - n))))
theorem p54 {R : Type} (f : Bl) (κ) : p_54 (R := R) 1301 (((List.range 128).map f, ()), ()) κ = κ (((List.range 16).map (fun i => wF f i 8), (0, ())), ()) := by kernel_rfl
theorem p62 {R : Type} (f : Bl) (κ) : p_62 (R := R) 1301 (((), 8, ()), ((List.range 128).map f, ())) κ = κ (((List.range 16).map (fun i => wR f i 8), (true, ())), ((List.range 128).map f, ())) := by kernel_rfl
def By (f : Bl) : Prop := ∀ j, 0 ≤ f j ∧ f j < 256
theorem or_step {a b : Int} {n : Nat} (ha0 : 0 ≤ a) (ha : a < 2 ^ n) (hb0 : 0 ≤ b) (hb : b < 256) (hn : n ≤ 56) : orA .u64 a (shlA .u64 (IntKind.wrap .u64 b) (n : Int)) = b * 2 ^ n + a := by
 obtain ⟨x, rfl⟩ := Int.eq_ofNat_of_zero_le ha0
 obtain ⟨y, rfl⟩ := Int.eq_ofNat_of_zero_le hb0
 have pn : ((2 : Int) ^ n) = ((2 ^ n : Nat) : Int) := by simp
 have hx : x < 2 ^ n := by rw [pn] at ha; omega
 have hp : 2 ^ n ≤ 2 ^ 56 := Nat.pow_le_pow_right (by decide) hn
 have hy : y < 256 := by omega
 have h1 : y * 2 ^ n + x < 2 ^ 64 := by
  have : (y + 1) * 2 ^ n ≤ 256 * 2 ^ 56 := Nat.mul_le_mul (by omega) hp
  rw [Nat.add_mul] at this
  omega
 have h2 : y * 2 ^ n < 2 ^ 64 := by omega
 have h3 : x < 2 ^ 64 := by omega
 have w1 : IntKind.wrap .u64 (y : Int) = (y : Int) := by rw [wrapU64]; omega
 have s2 : shlA .u64 (y : Int) (n : Int) = ((y * 2 ^ n : Nat) : Int) := by
  unfold shlA
  rw [show ((n : Int)).toNat = n by omega, show min n IntKind.u64.bits = n from Nat.min_eq_left (by show n ≤ 64; omega), pn, wrapU64, ← Int.natCast_mul, nat_mod h2]
 rw [w1, s2]
 unfold orA
 rw [wrapU64, BitVec.toNat_or]
 have b1 : (BitVec.ofInt IntKind.u64.bits (x : Int)).toNat = x := by
  show (BitVec.ofInt 64 _).toNat = _
  rw [BitVec.toNat_ofInt]; show ((x : Int) % 18446744073709551616).toNat = _; rw [nat_mod h3]; rfl
 have b2 : (BitVec.ofInt IntKind.u64.bits ((y * 2 ^ n : Nat) : Int)).toNat = y * 2 ^ n := by
  show (BitVec.ofInt 64 _).toNat = _
  rw [BitVec.toNat_ofInt]; show (((y * 2 ^ n : Nat) : Int) % 18446744073709551616).toNat = _; rw [nat_mod h2]; rfl
 rw [b1, b2, or_disj hx, nat_mod h1, pn]
 simp
theorem add_step {w b : Int} (h0 : 0 ≤ w) (h1 : w < 72057594037927936) (hb0 : 0 ≤ b) (hb : b < 256) : addA .u64 (mulA .u64 256 w) (IntKind.wrap .u64 b) = 256 * w + b := by
 have w1 : IntKind.wrap .u64 b = b := by rw [wrapU64]; omega
 rw [w1, mulU64 (by omega) (by omega), addU64 (by omega) (by omega)]
theorem word_eq {f : Bl} (h : By f) (i : Nat) : wR f i 8 = wF f i 8 := by
 have b0 := h (8 * i); have b1 := h (8 * i + 1); have b2 := h (8 * i + 2); have b3 := h (8 * i + 3); have b4 := h (8 * i + 4); have b5 := h (8 * i + 5); have b6 := h (8 * i + 6); have b7 := h (8 * i + 7)
 have f1 : wF f i 1 = f (8 * i) := by
  show orA .u64 0 (shlA .u64 (IntKind.wrap .u64 (f (8 * i))) ((0 : Nat) : Int)) = _
  rw [or_step (by omega) (by decide) b0.1 b0.2 (by decide)]; omega
 have f2 : wF f i 2 = f (8 * i + 1) * 2 ^ 8 + wF f i 1 := or_step (a := wF f i 1) (b := f (8 * i + 1)) (n := 8) (by omega) (by omega) b1.1 b1.2 (by decide)
 have f3 : wF f i 3 = f (8 * i + 2) * 2 ^ 16 + wF f i 2 := or_step (a := wF f i 2) (b := f (8 * i + 2)) (n := 16) (by omega) (by omega) b2.1 b2.2 (by decide)
 have f4 : wF f i 4 = f (8 * i + 3) * 2 ^ 24 + wF f i 3 := or_step (a := wF f i 3) (b := f (8 * i + 3)) (n := 24) (by omega) (by omega) b3.1 b3.2 (by decide)
 have f5 : wF f i 5 = f (8 * i + 4) * 2 ^ 32 + wF f i 4 := or_step (a := wF f i 4) (b := f (8 * i + 4)) (n := 32) (by omega) (by omega) b4.1 b4.2 (by decide)
 have f6 : wF f i 6 = f (8 * i + 5) * 2 ^ 40 + wF f i 5 := or_step (a := wF f i 5) (b := f (8 * i + 5)) (n := 40) (by omega) (by omega) b5.1 b5.2 (by decide)
 have f7 : wF f i 7 = f (8 * i + 6) * 2 ^ 48 + wF f i 6 := or_step (a := wF f i 6) (b := f (8 * i + 6)) (n := 48) (by omega) (by omega) b6.1 b6.2 (by decide)
 have f8 : wF f i 8 = f (8 * i + 7) * 2 ^ 56 + wF f i 7 := or_step (a := wF f i 7) (b := f (8 * i + 7)) (n := 56) (by omega) (by omega) b7.1 b7.2 (by decide)
 have g1 : wR f i 1 = 256 * 0 + f (8 * i + 7) := add_step (w := 0) (b := f (8 * i + 7)) (by decide) (by decide) b7.1 b7.2
 have g2 : wR f i 2 = 256 * wR f i 1 + f (8 * i + 6) := add_step (w := wR f i 1) (b := f (8 * i + 6)) (by omega) (by omega) b6.1 b6.2
 have g3 : wR f i 3 = 256 * wR f i 2 + f (8 * i + 5) := add_step (w := wR f i 2) (b := f (8 * i + 5)) (by omega) (by omega) b5.1 b5.2
 have g4 : wR f i 4 = 256 * wR f i 3 + f (8 * i + 4) := add_step (w := wR f i 3) (b := f (8 * i + 4)) (by omega) (by omega) b4.1 b4.2
 have g5 : wR f i 5 = 256 * wR f i 4 + f (8 * i + 3) := add_step (w := wR f i 4) (b := f (8 * i + 3)) (by omega) (by omega) b3.1 b3.2
 have g6 : wR f i 6 = 256 * wR f i 5 + f (8 * i + 2) := add_step (w := wR f i 5) (b := f (8 * i + 2)) (by omega) (by omega) b2.1 b2.2
 have g7 : wR f i 7 = 256 * wR f i 6 + f (8 * i + 1) := add_step (w := wR f i 6) (b := f (8 * i + 1)) (by omega) (by omega) b1.1 b1.2
 have g8 : wR f i 8 = 256 * wR f i 7 + f (8 * i) := add_step (w := wR f i 7) (b := f (8 * i)) (by omega) (by omega) b0.1 b0.2
 omega
def stR (v : Bl) (i j k l : Nat) (x y : Int) : Bl :=
 let q := qR (ar4 (v i) (v j) (v k) (v l)) x y
 upd (upd (upd (upd v i (q 0)) j (q 1)) k (q 2)) l (q 3)
def rndR (v x : Bl) : Bl := stR (stR (stR (stR (stR (stR (stR (stR v 0 4 8 12 (x 0) (x 1)) 1 5 9 13 (x 2) (x 3)) 2 6 10 14 (x 4) (x 5)) 3 7 11 15 (x 6) (x 7)) 0 5 10 15 (x 8) (x 9)) 1 6 11 12 (x 10) (x 11)) 2 7 8 13 (x 12) (x 13)) 3 4 9 14 (x 14) (x 15)
theorem stR_eq (v : Bl) (i j k l : Nat) (x y : Int) : stR v i j k l x y = stQ v i j k l x y := by
 obtain ⟨h1, h2, h3, h4⟩ := qR_eq (v i) (v j) (v k) (v l) x y
 unfold stR stQ
 dsimp only
 rw [h1, h2, h3, h4]
theorem rndR_eq (v x : Bl) : rndR v x = rnd v x := by
 unfold rndR rnd
 simp only [stR_eq]
theorem l86i {R : Type} (g a z v : Bl) (u : Int) (κ) : ten fun r =>
  l_86_16 (R := R) 1301 1301 (((), (), (List.range 16).map g, (), u, (), 0, ()), (a, z, v, ordR r, ())) κ =
   κ (((), (), (List.range 16).map g, (), u, ()), (a, z, rndR v (sel (ordR r) g), ())) := by
 refine ten_mk ?_ ?_ ?_ ?_ ?_ ?_ ?_ ?_ ?_ ?_ <;> kernel_rfl
theorem rnd_ext (v : Bl) {x y : Bl} (h : ∀ j, j < 16 → x j = y j) : rnd v x = rnd v y := by
 unfold rnd
 rw [h 0 (by decide), h 1 (by decide), h 2 (by decide), h 3 (by decide), h 4 (by decide), h 5 (by decide), h 6 (by decide), h 7 (by decide), h 8 (by decide), h 9 (by decide), h 10 (by decide), h 11 (by decide), h 12 (by decide), h 13 (by decide), h 14 (by decide), h 15 (by decide)]
theorem sel_eq {r : Int} (h1 : 0 ≤ r) (h2 : r < 10) (g v : Bl) : rnd v (sel (ordR r) g) = rnd v (sel (ordF r) g) :=
 rnd_ext v fun j hj => by
  have := schEq_arr.1 (ten_all ord_eq h1 h2) j hj
  unfold sel
  rw [this]
theorem l86o {R : Type} (g a z : Bl) (κ) : ∀ (n m i : Nat) (v : Bl), i + m = 12 → m < n →
  l_86_12 (R := R) 1301 n (((), (), (List.range 16).map g, (), (i : Int), ()), (a, z, v, ())) κ = κ (((), (), (), ()), (a, z, rndsF g m i v, ()))
 | 0, m, i, v, h1, h2 => by omega
 | n + 1, 0, i, v, h1, h2 => by
  unfold l_86_12 B_86_12 C_86_12
  try dsimp only
  rw [bif_f (dF (show ¬ (i : Int) < 12 by omega))]
  rfl
 | n + 1, m + 1, i, v, h1, h2 => by
  unfold l_86_12 B_86_12 C_86_12
  try dsimp only
  have e3 : addA .i64 (i : Int) 1 = ((i + 1 : Nat) : Int) := by rw [add64 (by omega) (by omega)]; simp
  rw [bif_t (dT (show (i : Int) < 12 by omega)), p99i (by omega)]
  try dsimp only
  rw [ten_all (l86i g a z v (i : Int) _) (Int.emod_nonneg _ (by decide)) (Int.emod_lt_of_pos _ (by decide))]
  try dsimp only
  rw [e3, rndR_eq, sel_eq (Int.emod_nonneg _ (by decide)) (Int.emod_lt_of_pos _ (by decide))]
  exact l86o g a z κ n m (i + 1) _ (by omega) (by omega)
def outR (a v : Bl) : Bl := upd (upd (upd (upd (upd (upd (upd (upd a 0 (xorA .u64 (xorA .u64 (a 0) (v 0)) (v 8))) 1 (xorA .u64 (xorA .u64 (a 1) (v 1)) (v 9))) 2 (xorA .u64 (xorA .u64 (a 2) (v 2)) (v 10))) 3 (xorA .u64 (xorA .u64 (a 3) (v 3)) (v 11))) 4 (xorA .u64 (xorA .u64 (a 4) (v 4)) (v 12))) 5 (xorA .u64 (xorA .u64 (a 5) (v 5)) (v 13))) 6 (xorA .u64 (xorA .u64 (a 6) (v 6)) (v 14))) 7 (xorA .u64 (xorA .u64 (a 7) (v 7)) (v 15))
theorem l86x {R : Type} (a z v : Bl) (κ) : l_86_25 (R := R) 1301 1301 (((), (), (), 0, ()), (a, z, v, ())) κ = κ (((), (), ()), (outR a v, z, ())) := by kernel_rfl
theorem outR_eq {a v : Bl} (ha : ∀ j, j < 8 → W (a j)) (hv : ∀ j, W (v j)) : outR a v = outQ a v := by
 have h : ∀ j k m, j < 8 → xorA .u64 (xorA .u64 (a j) (v k)) (v m) = xorA .u64 (a j) (xorA .u64 (v k) (v m)) := fun j k m hj => xor_assoc _ _ _ (ha j hj) (hv k) (hv m)
 unfold outR outQ
 rw [h 0 0 8 (by decide), h 1 1 9 (by decide), h 2 2 10 (by decide), h 3 3 11 (by decide), h 4 4 12 (by decide), h 5 5 13 (by decide), h 6 6 14 (by decide), h 7 7 15 (by decide)]
theorem upd_W {v : Bl} (h : ∀ j, W (v j)) (i : Nat) {x : Int} (hx : W x) : ∀ j, W (upd v i x j) := fun j => by rw [upd_if]; split; exact hx; exact h j
theorem stQ_W {v : Bl} (h : ∀ j, W (v j)) (i j k l : Nat) (x y : Int) : ∀ m, W (stQ v i j k l x y m) := by
 obtain ⟨h1, h2, h3, h4⟩ := qF_W (v i) (v j) (v k) (v l) x y
 exact upd_W (upd_W (upd_W (upd_W h i h1) j h2) k h3) l h4
theorem rnd_W {v : Bl} (h : ∀ j, W (v j)) (x : Bl) : ∀ m, W (rnd v x m) :=
 stQ_W (stQ_W (stQ_W (stQ_W (stQ_W (stQ_W (stQ_W (stQ_W h _ _ _ _ _ _) _ _ _ _ _ _) _ _ _ _ _ _) _ _ _ _ _ _) _ _ _ _ _ _) _ _ _ _ _ _) _ _ _ _ _ _) _ _ _ _ _ _
theorem rndsF_W (g : Bl) : ∀ (n i : Nat) (v : Bl), (∀ j, W (v j)) → ∀ m, W (rndsF g n i v m)
 | 0, i, v, h => h
 | n + 1, i, v, h => rndsF_W g n (i + 1) _ (rnd_W h _)
def ivF : Bl := (p_93 (R := Bl) 1301 ((), ()) some).getD nulB
theorem p93 {R : Type} (κ : Bl → Option R) : p_93 1301 ((), ()) κ = κ ivF := by kernel_rfl
theorem ivF_W {j : Nat} (hj : j < 8) : W (ivF j) := by
 have h : (List.range 8).all (fun j => decide (0 ≤ ivF j) && decide (ivF j < 18446744073709551616)) = true := by kernel_rfl
 have := List.all_eq_true.1 h j (List.mem_range.2 hj)
 rw [Bool.and_eq_true] at this
 exact ⟨of_decide_eq_true this.1, of_decide_eq_true this.2⟩
def v0F (h : Bl) : Bl := copyF (copyF (Sch.zero (.arr 16 (.int .u64))) 0 (Nat.min 8 8) ((List.range 8).map fun j => h (0 + j)) (Sch.zero (.int .u64))) 8 (Nat.min 8 8) ((List.range 8).map fun j => ivF (0 + j)) (Sch.zero (.int .u64))
def initF (h : Bl) (n : Int) (last : Bool) : Bl :=
 let v := upd (v0F h) 12 (xorA .u64 (v0F h 12) n)
 bif last then upd v 14 (xorA .u64 18446744073709551615 (v 14)) else v
def compF (h f : Bl) (n : Int) (last : Bool) : Bl := outQ h (rndsF (fun i => wF f i 8) 12 0 (initF h n last))
theorem p95q {R : Type} (q45 : Tp_54 R) (q15 : Tp_93 R) (q46 : Tp_105 R) (q17 : Tp_107 R) (q19 : Tp_106 R) (m17 : Tl_95_17 R) (L : Tl_95_13 R) (L2 : Tl_95_24 R) (h f : Bl) (n : Int) (last : Bool) (κ : Bl × (Int × Unit) → Option R)
  (h45 : ∀ κ, q45 (((List.range 128).map f, ()), ()) κ = κ (((List.range 16).map (fun i => wF f i 8), (0, ())), ())) (h15 : q15 = fun _ κ => κ ivF) (h46 : q46 = fun _ κ => κ plF) :
  Q_95 q45 q15 q46 q17 q19 m17 L L2 ((h, (List.range 128).map f, n, last, ()), ()) κ =
   L (((), (), (List.range 16).map (fun i => wF f i 8), (), (), 0, ()), (h, Sch.zero (.arr 8 (.int .u64)), initF h n last, plF, ())) (fun y => L2 (((), (), (), 0, ()), (y.2.1, y.2.2.1, y.2.2.2.1, ())) (fun y => κ (y.2.1, (0, ())))) := by
 subst h15 h46
 unfold Q_95
 dsimp only
 rw [List.length_map, List.length_range, bif_f (show (((128 : Nat) : Int) != 128) = false from rfl), h45]
 cases last <;> kernel_rfl
theorem p95 {R : Type} (h f : Bl) (n : Int) (last : Bool) (κ) : p_95 (R := R) 1301 ((h, (List.range 128).map f, n, last, ()), ()) κ = κ (compF h f n last, (0, ())) := by
 have key := p95q (R := R) (p_54 1301) (p_93 1301) (p_105 1301) (p_107 1301) (p_106 1301) (l_95_17 1301 1301) (l_95_13 1301 1301) (l_95_24 1301 1301) h f n last κ (p54 f) (funext fun x => funext fun κ => p93 κ) (funext fun x => funext fun κ => p105 κ)
 refine Eq.trans ?_ (key.trans ?_)
 ·kernel_rfl
 refine (l95o (fun i => wF f i 8) h _ _ 1301 12 0 _ rfl (by decide)).trans ?_
 dsimp only
 rw [l95x]
 rfl
def v0R (f0 h : Bl) : Bl := upd (upd (upd (upd (upd (upd (upd (upd (upd (upd (upd (upd (upd (upd (upd (upd (Sch.zero (.arr 16 (.int .u64))) 0 (h 0)) 8 (f0 0)) 1 (h 1)) 9 (f0 1)) 2 (h 2)) 10 (f0 2)) 3 (h 3)) 11 (f0 3)) 4 (h 4)) 12 (f0 4)) 5 (h 5)) 13 (f0 5)) 6 (h 6)) 14 (f0 6)) 7 (h 7)) 15 (f0 7)
theorem l86j {R : Type} (f0 h z : Bl) (m : List Int) (n : Int) (last : Bool) (κ) : l_86_4 (R := R) 1301 1301 ((n, last, (), (), (), m, (), 0, ()), (f0, h, z, Sch.zero (.arr 16 (.int .u64)), ())) κ = κ ((n, last, (), (), m, (), ()), (h, z, v0R f0 h, ())) := by kernel_rfl
theorem v0R_eq {f0 h : Bl} (hf : ∀ j, j < 8 → f0 j = ivF j) : v0R f0 h = v0F h := by
 funext j
 by_cases hj : j < 16
 ·have : j = 0 ∨ j = 1 ∨ j = 2 ∨ j = 3 ∨ j = 4 ∨ j = 5 ∨ j = 6 ∨ j = 7 ∨ j = 8 ∨ j = 9 ∨ j = 10 ∨ j = 11 ∨ j = 12 ∨ j = 13 ∨ j = 14 ∨ j = 15 := by omega
  rcases this with e | e | e | e | e | e | e | e | e | e | e | e | e | e | e | e <;> subst e
  ·rfl
  ·rfl
  ·rfl
  ·rfl
  ·rfl
  ·rfl
  ·rfl
  ·rfl
  ·exact hf 0 (by decide)
  ·exact hf 1 (by decide)
  ·exact hf 2 (by decide)
  ·exact hf 3 (by decide)
  ·exact hf 4 (by decide)
  ·exact hf 5 (by decide)
  ·exact hf 6 (by decide)
  ·exact hf 7 (by decide)
 ·have e1 : v0R f0 h j = 0 := by
   unfold v0R
   rw [upd_other _ _ (by omega), upd_other _ _ (by omega), upd_other _ _ (by omega), upd_other _ _ (by omega), upd_other _ _ (by omega), upd_other _ _ (by omega), upd_other _ _ (by omega), upd_other _ _ (by omega), upd_other _ _ (by omega), upd_other _ _ (by omega), upd_other _ _ (by omega), upd_other _ _ (by omega), upd_other _ _ (by omega), upd_other _ _ (by omega), upd_other _ _ (by omega), upd_other _ _ (by omega)]
   rfl
  have b1 : Nat.blt j (8 + Nat.min 8 8) = false := by
   cases hq : Nat.blt j (8 + Nat.min 8 8) with
   | false => rfl
   | true => have : j < 16 := Nat.blt_eq.mp hq; omega
  have b2 : Nat.blt j (0 + Nat.min 8 8) = false := by
   cases hq : Nat.blt j (0 + Nat.min 8 8) with
   | false => rfl
   | true => have : j < 8 := Nat.blt_eq.mp hq; omega
  rw [e1]
  unfold v0F copyF
  rw [b1, b2, Bool.and_false, Bool.and_false]
  rfl
theorem v0F_W {h : Bl} (hW : ∀ j, j < 8 → W (h j)) (j : Nat) : W (v0F h j) := by
 by_cases hj : j < 16
 ·have : j = 0 ∨ j = 1 ∨ j = 2 ∨ j = 3 ∨ j = 4 ∨ j = 5 ∨ j = 6 ∨ j = 7 ∨ j = 8 ∨ j = 9 ∨ j = 10 ∨ j = 11 ∨ j = 12 ∨ j = 13 ∨ j = 14 ∨ j = 15 := by omega
  rcases this with e | e | e | e | e | e | e | e | e | e | e | e | e | e | e | e <;> subst e
  ·exact hW 0 (by decide)
  ·exact hW 1 (by decide)
  ·exact hW 2 (by decide)
  ·exact hW 3 (by decide)
  ·exact hW 4 (by decide)
  ·exact hW 5 (by decide)
  ·exact hW 6 (by decide)
  ·exact hW 7 (by decide)
  ·exact ivF_W (j := 0) (by decide)
  ·exact ivF_W (j := 1) (by decide)
  ·exact ivF_W (j := 2) (by decide)
  ·exact ivF_W (j := 3) (by decide)
  ·exact ivF_W (j := 4) (by decide)
  ·exact ivF_W (j := 5) (by decide)
  ·exact ivF_W (j := 6) (by decide)
  ·exact ivF_W (j := 7) (by decide)
 ·have b1 : Nat.blt j (8 + Nat.min 8 8) = false := by
   cases hq : Nat.blt j (8 + Nat.min 8 8) with
   | false => rfl
   | true => have : j < 16 := Nat.blt_eq.mp hq; omega
  have b2 : Nat.blt j (0 + Nat.min 8 8) = false := by
   cases hq : Nat.blt j (0 + Nat.min 8 8) with
   | false => rfl
   | true => have : j < 8 := Nat.blt_eq.mp hq; omega
  unfold v0F copyF
  rw [b1, b2, Bool.and_false, Bool.and_false]
  exact W_zero
theorem initF_W {h : Bl} (hW : ∀ j, j < 8 → W (h j)) (n : Int) (last : Bool) : ∀ j, W (initF h n last j) := by
 unfold initF
 cases last with
 | false => exact upd_W (v0F_W hW) 12 (W_xor _ _)
 | true => exact upd_W (upd_W (v0F_W hW) 12 (W_xor _ _)) 14 (W_xor _ _)
theorem ones (h : Bl) (x : Int) : subA .u64 18446744073709551615 (upd (v0F h) 12 x 14) = xorA .u64 18446744073709551615 (upd (v0F h) 12 x 14) := by
 have e : upd (v0F h) 12 x 14 = 2270897969802886507 := by kernel_rfl
 rw [e]
 exact (show subA .u64 18446744073709551615 2270897969802886507 = xorA .u64 18446744073709551615 2270897969802886507 by kernel_rfl)
theorem p86 {R : Type} (f0 h f : Bl) (s : ByteArray) (n : Int) (last : Bool) (hs : strList s = (List.range 128).map f) (hf : ∀ j, j < 8 → f0 j = ivF j) (hW : ∀ j, j < 8 → W (h j)) (hB : By f) (κ) :
  p_86 (R := R) 1301 ((f0, h, s, n, last, ()), ()) κ = κ (compF h f n last) := by
 have hsz : s.size = 128 := by rw [strList_size, hs, List.length_map, List.length_range]
 have hw : (fun i => wR f i 8) = (fun i => wF f i 8) := funext fun i => word_eq hB i
 unfold p_86 Q_86
 dsimp only
 rw [hsz, bif_t (dT (show 128 ≤ maxI64 by unfold maxI64; omega)), hs, p62, hw]
 dsimp only
 rw [l86j]
 dsimp only
 rw [v0R_eq hf]
 have fin : ∀ last, l_86_12 (R := R) 1301 1301 (((), (), (List.range 16).map (fun i => wF f i 8), (), 0, ()), (h, Sch.zero (.arr 8 (.int .u64)), initF h n last, ())) (fun y => l_86_25 1301 1301 (((), (), (), 0, ()), (y.2.1, y.2.2.1, y.2.2.2.1, ())) (fun y => κ y.2.1)) = κ (compF h f n last) := by
  intro last
  refine (l86o (fun i => wF f i 8) h _ _ 1301 12 0 _ rfl (by decide)).trans ?_
  dsimp only
  rw [l86x]
  dsimp only
  rw [outR_eq hW (rndsF_W _ _ _ _ (initF_W hW n last))]
  rfl
 have i0 : initF h n false = upd (v0F h) 12 (xorA .u64 (v0F h 12) n) := rfl
 have i1 : initF h n true = upd (upd (v0F h) 12 (xorA .u64 (v0F h 12) n)) 14 (xorA .u64 18446744073709551615 (upd (v0F h) 12 (xorA .u64 (v0F h 12) n) 14)) := rfl
 cases last with
 | false =>
  have := fin false
  rw [i0] at this
  rw [bif_f rfl]
  exact this
 | true =>
  have := fin true
  rw [i1] at this
  rw [bif_t rfl, ones]
  exact this
theorem comp_W (h f : Bl) (n : Int) (last : Bool) : ∀ j, j < 8 → W (compF h f n last j) := by
 intro j hj
 unfold compF outQ
 simp only [upd_if]
 have : j = 0 ∨ j = 1 ∨ j = 2 ∨ j = 3 ∨ j = 4 ∨ j = 5 ∨ j = 6 ∨ j = 7 := by omega
 rcases this with e | e | e | e | e | e | e | e <;> subst e <;> exact W_xor _ _
theorem bytes128 {l : List Int} (h : l.length = 128) : l = (List.range 128).map fun j => l.getD j 0 := by
 apply List.ext_getElem
 ·simp [h]
 ·intro i h1 h2
  simp [h1]
def blk (l : List Int) : Bl := fun j => l.getD j 0
def By1 (l : List Int) : Prop := ∀ x ∈ l, 0 ≤ x ∧ x < 256
theorem blk_By {l : List Int} (h : By1 l) : By (blk l) := by
 intro j
 unfold blk
 by_cases hj : j < l.length
 ·have := h l[j] (List.getElem_mem hj)
  simpa [List.getD_eq_getElem?_getD, hj] using this
 ·simp [List.getD_eq_getElem?_getD, Nat.le_of_not_lt hj]
theorem p95b {R : Type} (h : Bl) (l : List Int) (hl : l.length = 128) (n : Int) (last : Bool) (κ) : p_95 (R := R) 1301 ((h, l, n, last, ()), ()) κ = κ (compF h (blk l) n last, (0, ())) := by
 have := p95 (R := R) h (blk l) n last κ
 unfold blk at this
 rwa [← bytes128 hl] at this
theorem p86b {R : Type} (f0 h : Bl) (s : ByteArray) (hs : (strList s).length = 128) (n : Int) (last : Bool) (hf : ∀ j, j < 8 → f0 j = ivF j) (hW : ∀ j, j < 8 → W (h j)) (κ) : p_86 (R := R) 1301 ((f0, h, s, n, last, ()), ()) κ = κ (compF h (blk (strList s)) n last) :=
 p86 f0 h (blk (strList s)) s n last (bytes128 hs) hf hW (blk_By (strList_rng s)) κ
def cutN : Nat → List Int → List (List Int) × List Int
 | 0, l => ([], l)
 | n + 1, l => if 128 < l.length then (l.take 128 :: (cutN n (l.drop 128)).1, (cutN n (l.drop 128)).2) else ([], l)
theorem cutN_fuel : ∀ (n m : Nat) (l : List Int), l.length ≤ 128 * n + 128 → l.length ≤ 128 * m + 128 → cutN n l = cutN m l
 | 0, 0, l, _, _ => rfl
 | 0, m + 1, l, h1, _ => by unfold cutN; rw [if_neg (by omega)]
 | n + 1, 0, l, _, h2 => by
  show (if 128 < l.length then _ else _) = _
  rw [if_neg (by omega)]
  rfl
 | n + 1, m + 1, l, h1, h2 => by
  unfold cutN
  by_cases h : 128 < l.length
  ·rw [if_pos h, if_pos h, cutN_fuel n m (l.drop 128) (by simp; omega) (by simp; omega)]
  ·rw [if_neg h, if_neg h]
def cut' (l : List Int) : List (List Int) × List Int := cutN l.length l
theorem cut_le {l : List Int} (h : l.length ≤ 128) : cut' l = ([], l) := cutN_fuel l.length 0 l (by omega) (by omega)
theorem cut_gt {l : List Int} (h : 128 < l.length) : cut' l = (l.take 128 :: (cut' (l.drop 128)).1, (cut' (l.drop 128)).2) := by
 unfold cut'
 rw [cutN_fuel l.length ((l.drop 128).length + 1) l (by omega) (by simp; omega)]
 show (if 128 < l.length then _ else _) = _
 rw [if_pos h]
theorem cut_app (m : List Int) : ∀ (n : Nat) (l : List Int), l.length ≤ n → cut' (l ++ m) = ((cut' l).1 ++ (cut' ((cut' l).2 ++ m)).1, (cut' ((cut' l).2 ++ m)).2)
 | n, l, hn => by
  by_cases h : 128 < l.length
  ·match n, hn with
   | 0, hn => omega
   | n + 1, hn =>
    have ih := cut_app m n (l.drop 128) (by simp; omega)
    rw [cut_gt h, cut_gt (l := l ++ m) (by simp; omega), List.take_append_of_le_length (by omega), List.drop_append_of_le_length (by omega), ih]
    simp
  ·rw [cut_le (l := l) (by omega)]
   simp
theorem cut_len : ∀ (n : Nat) (l : List Int), l.length ≤ n → (cut' l).1.length + (cut' l).2.length ≤ l.length ∧ (cut' l).2.length ≤ 128 ∧ 128 * (cut' l).1.length + (cut' l).2.length = l.length ∧ (∀ b ∈ (cut' l).1, b.length = 128) ∧ (128 * (cut' l).1.length ≤ l.length ∧ (cut' l).2 = l.drop (128 * (cut' l).1.length))
 | n, l, hn => by
  by_cases h : 128 < l.length
  ·match n, hn with
   | 0, hn => omega
   | n + 1, hn =>
    obtain ⟨h1, h2, h3, h4, h5, h6⟩ := cut_len n (l.drop 128) (by simp; omega)
    rw [List.length_drop] at h1 h3 h5
    rw [cut_gt h]
    refine ⟨by simp; omega, h2, by simp; omega, fun b hb => ?_, by simp; omega, ?_⟩
    ·rcases List.mem_cons.1 hb with rfl | hb
     ·simp; omega
     ·exact h4 b hb
    ·show (cut' (l.drop 128)).2 = _
     rw [h6, List.drop_drop]
     congr 1
     simp; omega
  ·rw [cut_le (l := l) (by omega)]
   exact ⟨by simp, by simp; omega, by simp, by simp, by simp, by simp⟩
def comps (a : Bl) (d : Int) : List (List Int) → Bl × Int
 | [] => (a, d)
 | b :: bs => comps (compF a (blk b) (addA .u64 d 128) false) (addA .u64 d 128) bs
theorem comps_W : ∀ (x : List (List Int)) (a : Bl) (d : Int), (∀ j, j < 8 → W (a j)) → ∀ j, j < 8 → W ((comps a d x).1 j)
 | [], a, d, h => h
 | b :: x, a, d, h => comps_W x _ _ (comp_W _ _ _ _)
theorem comps_d : ∀ (x : List (List Int)) (a : Bl) (d : Nat), d + 128 * x.length ≤ 1000000 → (comps a (d : Int) x).2 = ((d + 128 * x.length : Nat) : Int)
 | [], a, d, h => by simp [comps]
 | b :: x, a, d, h => by
  simp only [List.length_cons] at h
  unfold comps
  rw [addU64 (by omega) (by omega), show ((d : Int) + 128) = ((d + 128 : Nat) : Int) by simp, comps_d x _ (d + 128) (by omega)]
  simp; omega
abbrev Fd := Int × (Bool × (Unit × (Int × Unit)))
def fd (t : Int) : Fd := (128, (true, ((), (t, ()))))
theorem p104 {R : Type} (t : Int) (l : List Int) (κ) : p_104 (R := R) 1301 (((), ()), ((128, (true, ((), (t, ())))), l, ())) κ = κ (decide (128 < (l.length : Int))) := rfl
def joinL (P : List ByteArray) : List Int := P.flatMap strList
theorem joinL_empty {P : List ByteArray} (h : ¬ 0 < P.length) : joinL P = [] := by
 have : P = [] := List.eq_nil_of_length_eq_zero (by omega)
 rw [this]; rfl
abbrev Hs := Unit × (Bl × (Int × (Int × Unit)))
def hs (a : Bl) (o d : Int) : Hs := ((), (a, (o, (d, ()))))
def addC (a : Bl) (d : Int) (l m : List Int) : Bl × Int := comps a d (cut' (l ++ m)).1
theorem put1 {R : Type} (s : ByteArray) (h : (strList s).length ≤ 128) (κ0 κ1) :
  ∃ t', p_94_v1 (R := R) 1301 (((), (), ()), (fd 0, [], [s], ())) κ0 κ1 = κ1 ([], (fd t', [s], strList s, ())) := by
 refine ⟨addA .i64 0 ((s.size : Nat) : Int), ?_⟩
 unfold p_94_v1 Q_94_v1 fd
 try dsimp only
 rw [bif_f (show ((128 : Int) == 0) = false from rfl)]
 have inner : ∀ (n : Nat) (u v t : Int) κ, l_94_v1_9 (R := R) 1301 (n + 1) (((), (), (), u, v, ()), ((128, (true, ((), (t, ())))), [s], strList s, [], ())) κ = κ (((), (), (), u, v, ()), ((128, (true, ((), (t, ())))), [s], strList s, [], ())) := by
  intro n u v t κ
  show B_94_v1_9 1301 (fun y => l_94_v1_9 1301 n y κ) _ κ = _
  unfold B_94_v1_9 C_94_v1_9
  try dsimp only
  rw [p104, bif_f (dF (show ¬ (128 : Int) < ((strList s).length : Int) by omega))]
 have step : ∀ (n : Nat) (t : Int) κ, l_94_v1_5 (R := R) 1301 (n + 2) (((), (), (), (([s].length : Nat) : Int), 0, ()), ((128, (true, ((), (t, ())))), [s], [], [], ())) κ = κ (((), (), ()), ((128, (true, ((), (addA .i64 t ((s.size : Nat) : Int), ())))), [s], strList s, [], ())) := by
  intro n t κ
  show B_94_v1_5 1301 (fun y => l_94_v1_5 1301 (n + 1) y κ) _ κ = _
  unfold B_94_v1_5 C_94_v1_5
  try dsimp only
  rw [bif_t (dT (show (0 : Int) < (([s].length : Nat) : Int) by simp)), bif_t (dT (show (0 : Int) ≤ 0 by decide)), bif_t (dT (show (0 : Int) < (([s].length : Nat) : Int) by simp)), show List.getD [s] (Int.toNat 0) (Sch.zero (.str)) = s from rfl, bif_t (show (decide ((List.length ([] : List Int) + (strList s).length) * 1 ≤ 140737488355328) && true) = true by simp; omega), List.nil_append]
  refine (inner 1300 _ _ _ _).trans ?_
  try dsimp only
  show B_94_v1_5 1301 (fun y => l_94_v1_5 1301 n y κ) _ κ = _
  unfold B_94_v1_5 C_94_v1_5
  try dsimp only
  rw [bif_f (dF (show ¬ addA .i64 0 1 < (([s].length : Nat) : Int) by rw [add64 (by decide) (by decide)]; simp))]
 refine (step 1299 0 _).trans ?_
 try dsimp only
 rw [bif_t (dT (show (strList s).length * 1 ≤ 140737488355328 by omega))]
theorem add1 {R : Type} (s : ByteArray) (h : (strList s).length ≤ 128) (a : Bl) (o d : Int) (κ) :
  ∃ t', p_77_v1 (R := R) 1301 (((), (), ()), (hs a o d, fd 0, [], [s], ())) κ = κ ((), (hs a o d, fd t', [s], strList s, ())) := by
 have le : ∀ (n : Nat) (x) κ, l_77_v1_4 (R := R) 1301 (n + 1) (((), [], (((List.length ([] : List (List Int)) : Nat) : Int)), 0, ()), x) κ = κ (((), ()), (((), (x.1.2.1, (x.1.2.2.1, (x.1.2.2.2.1, ())))), (x.2.1.1, (x.2.1.2.1, ((), (x.2.1.2.2.2.1, ())))), x.2.2.1, x.2.2.2.1, ())) := by
  intro n x κ
  show B_77_v1_4 1301 (fun y => l_77_v1_4 1301 n y κ) _ κ = _
  unfold B_77_v1_4 C_77_v1_4
  try dsimp only
  rw [bif_f (dF (show ¬ (0 : Int) < ((List.length ([] : List (List Int)) : Nat) : Int) by simp))]
 obtain ⟨t', ht⟩ := put1 (R := R) s h (fun _ => none) (fun y => l_77_v1_4 1301 1301 (((), y.1, ((y.1.length : Nat) : Int), 0, ()), (hs a o d, (y.2.1.1, (y.2.1.2.1, ((), (y.2.1.2.2.2.1, ())))), y.2.2.1, y.2.2.2.1, ())) (fun y => κ ((), (((), (y.2.1.2.1, (y.2.1.2.2.1, (y.2.1.2.2.2.1, ())))), (y.2.2.1.1, (y.2.2.1.2.1, ((), (y.2.2.1.2.2.2.1, ())))), y.2.2.2.1, y.2.2.2.2.1, ()))))
 refine ⟨t', Eq.trans ?_ (ht.trans ?_)⟩
 ·unfold p_77_v1 Q_77_v1
  rfl
 ·try dsimp only
  exact le 1300 _ _
def padL (r : List Int) : List Int := r ++ List.replicate (128 - r.length) 0
theorem padL_len {r : List Int} (h : r.length ≤ 128) : (padL r).length = 128 := by unfold padL; simp; omega
def leF (w : Bl) : List Int := (List.range 8).flatMap fun i => (List.range 8).map fun k => IntKind.wrap .u8 (shrA .u64 (w i) ((8 * k : Nat) : Int))
def dv (x : Int) : Nat → Int
 | 0 => x
 | k + 1 => quoA .u64 (dv x k) 256
def leR (w : Bl) : List Int := (List.range 8).flatMap fun i => (List.range 8).map fun k => IntKind.wrap .u8 (remA .u64 (dv (w i) k) 256)
theorem leF_len (w : Bl) : (leF w).length = 64 := rfl
theorem p97 {R : Type} (w : Bl) (κ) : p_97 (R := R) 1301 ((((List.range 8).map fun j => w (0 + j)), ()), ()) κ = κ ((), (leF w, ())) := by kernel_rfl
theorem l63x {R : Type} (w : Bl) (z : Int) (κ) : l_63_12 (R := R) 1301 1301 ((z, (), (), 0, ()), (w, [], ())) κ = κ ((z, (), ()), (leR w, ())) := by kernel_rfl
theorem quoU {a : Int} (h : W a) : quoA .u64 a 256 = a / 256 := by
 obtain ⟨h1, h2⟩ := h
 unfold quoA
 rw [Int.tdiv_eq_ediv_of_nonneg h1, wrapU64]
 omega
theorem quoU_W {a : Int} (h : W a) : W (a / 256) := by obtain ⟨h1, h2⟩ := h; exact ⟨by omega, by omega⟩
theorem le_byte {x : Int} (h : W x) {k : Nat} (hk : k < 8) : IntKind.wrap .u8 (remA .u64 (dv x k) 256) = IntKind.wrap .u8 (shrA .u64 x ((8 * k : Nat) : Int)) := by
 rw [shrU64 h.1 (by omega)]
 have d1 : dv x 1 = x / 256 := quoU h
 have w1 : W (x / 256) := quoU_W h
 have d2 : dv x 2 = x / 256 / 256 := by show quoA .u64 (dv x 1) 256 = _; rw [d1, quoU w1]
 have w2 := quoU_W w1
 have d3 : dv x 3 = x / 256 / 256 / 256 := by show quoA .u64 (dv x 2) 256 = _; rw [d2, quoU w2]
 have w3 := quoU_W w2
 have d4 : dv x 4 = x / 256 / 256 / 256 / 256 := by show quoA .u64 (dv x 3) 256 = _; rw [d3, quoU w3]
 have w4 := quoU_W w3
 have d5 : dv x 5 = x / 256 / 256 / 256 / 256 / 256 := by show quoA .u64 (dv x 4) 256 = _; rw [d4, quoU w4]
 have w5 := quoU_W w4
 have d6 : dv x 6 = x / 256 / 256 / 256 / 256 / 256 / 256 := by show quoA .u64 (dv x 5) 256 = _; rw [d5, quoU w5]
 have w6 := quoU_W w5
 have d7 : dv x 7 = x / 256 / 256 / 256 / 256 / 256 / 256 / 256 := by show quoA .u64 (dv x 6) 256 = _; rw [d6, quoU w6]
 have w7 := quoU_W w6
 have h0 := h.1
 have rm : ∀ y : Int, 0 ≤ y → IntKind.wrap .u8 (remA .u64 y 256) = y % 256 := fun y hy => by
  unfold remA
  rw [Int.tmod_eq_emod_of_nonneg hy, wrapU8]
  omega
 have : k = 0 ∨ k = 1 ∨ k = 2 ∨ k = 3 ∨ k = 4 ∨ k = 5 ∨ k = 6 ∨ k = 7 := by omega
 rcases this with e | e | e | e | e | e | e | e <;> subst e
 ·rw [show dv x 0 = x from rfl, rm x h0, wrapU8]; show x % 256 = x / 1 % 256; omega
 ·rw [d1, rm _ w1.1, wrapU8]; show x / 256 % 256 = x / 256 % 256; omega
 ·rw [d2, rm _ w2.1, wrapU8]; show _ = x / 65536 % 256; omega
 ·rw [d3, rm _ w3.1, wrapU8]; show _ = x / 16777216 % 256; omega
 ·rw [d4, rm _ w4.1, wrapU8]; show _ = x / 4294967296 % 256; omega
 ·rw [d5, rm _ w5.1, wrapU8]; show _ = x / 1099511627776 % 256; omega
 ·rw [d6, rm _ w6.1, wrapU8]; show _ = x / 281474976710656 % 256; omega
 ·rw [d7, rm _ w7.1, wrapU8]; show _ = x / 72057594037927936 % 256; omega
theorem leR_eq {w : Bl} (h : ∀ j, j < 8 → W (w j)) : leR w = leF w := by
 unfold leR leF
 rw [List.flatMap_def, List.flatMap_def]
 congr 1
 exact List.map_congr_left fun i hi => List.map_congr_left fun k hk => le_byte (h i (List.mem_range.1 hi)) (List.mem_range.1 hk)
def finF (a : Bl) (r : List Int) (n o : Int) : ByteArray := listStr ((leF (compF a (blk (padL r)) n true)).take o.toNat)
theorem p78 {R : Type} (a : Bl) (o d t : Int) (r : List Int) (hr : r.length ≤ 128) (h1 : 0 ≤ o) (h2 : o ≤ 64) (κ) :
  p_78_v2 (R := R) 1301 (((), ()), (hs a o d, fd t, r, ())) κ = κ (finF a r (addA .u64 d (r.length : Int)) o, (hs a o d, fd t, r, ())) := by
 have e1 : subA .i64 128 (r.length : Int) = ((128 - r.length : Nat) : Int) := by rw [sub64 (by omega) (by omega)]; omega
 have e2 : IntKind.wrap .u64 (r.length : Int) = (r.length : Int) := by rw [wrapU64]; omega
 have e3 : r ++ List.replicate (128 - r.length) (Sch.zero (.int .u8)) = padL r := rfl
 unfold p_78_v2 Q_78_v2 p_96_v1 Q_96_v1 hs fd
 try dsimp only
 rw [bif_t (dT (show r.length * 1 ≤ 140737488355328 by omega))]
 try dsimp only
 rw [e1, e2, Int.toNat_natCast, e3, bif_t (dT (show (0 : Int) ≤ ((128 - r.length : Nat) : Int) by omega)), bif_t (dT (show ((128 - r.length : Nat) : Int) ≤ 140737488355328 by omega)), bif_t (show (decide ((r.length + (List.replicate (128 - r.length) (Sch.zero (.int .u8))).length) * 1 ≤ 140737488355328) && true) = true by rw [List.length_replicate]; simp; omega), p95b _ _ (padL_len hr)]
 try dsimp only
 rw [p97]
 try dsimp only
 rw [leF_len, bif_t (dT h1), bif_t (dT (show o ≤ ((64 : Nat) : Int) by omega)), bif_t (dT h1)]
 rfl
theorem p85 : ∀ (n : Nat) (s : ByteArray), (strList s).length ≤ 128 → 128 - (strList s).length < n → ∃ s', strList s' = padL (strList s) ∧ ∀ {R : Type} (κ), l_85_1 (R := R) 1301 n ((s, 128, ()), ()) κ = κ ((s', ()), ())
 | 0, s, h1, h2 => by omega
 | n + 1, s, h1, h2 => by
  have hz := strList_size s
  by_cases h : (strList s).length < 128
  ·have e0 : strList (s ++ ⟨#[0]⟩) = strList s ++ [0] := by rw [strList_app]; rfl
   obtain ⟨s', q1, q2⟩ := p85 n (s ++ ⟨#[0]⟩) (by rw [e0]; simp; omega) (by rw [e0]; simp; omega)
   refine ⟨s', ?_, fun κ => ?_⟩
   ·rw [q1, e0]
    unfold padL
    rw [List.length_append, List.length_singleton, List.append_assoc]
    congr 1
    rw [show 128 - (strList s).length = (128 - ((strList s).length + 1)) + 1 by omega, List.replicate_succ]
    rfl
   ·refine Eq.trans ?_ (q2 κ)
    show B_85_1 1301 (fun y => l_85_1 1301 n y κ) _ κ = _
    unfold B_85_1 C_85_1
    try dsimp only
    rw [bif_t (dT (show ((s.size : Nat) : Int) < 128 by omega)), bif_t (dT (show s.size + ByteArray.size ⟨#[0]⟩ ≤ maxI64 by show s.size + 1 ≤ maxI64; unfold maxI64; omega))]
  ·refine ⟨s, ?_, fun κ => ?_⟩
   ·unfold padL
    rw [show 128 - (strList s).length = 0 by omega]
    simp
   ·show B_85_1 1301 (fun y => l_85_1 1301 n y κ) _ κ = _
    unfold B_85_1 C_85_1
    try dsimp only
    rw [bif_f (dF (show ¬ ((s.size : Nat) : Int) < 128 by omega))]
theorem l63 {R : Type} (T : ByteArray) (hL : (strList T).length ≤ 10000) (z : Int) (κ) : ∀ (n i : Nat) (a : Bl), (∀ j, j < 8 → W (a j)) → 128 * i ≤ (strList T).length → (strList T).length - 128 * i < 128 * n →
  l_63_6 (R := R) 1301 n ((z, T, (), (), ((128 * i : Nat) : Int), ()), (ivF, a, ())) κ =
   κ ((z, T, (), (), ((128 * (i + (cut' ((strList T).drop (128 * i))).1.length) : Nat) : Int), ()), (ivF, (comps a ((128 * i : Nat) : Int) (cut' ((strList T).drop (128 * i))).1).1, ()))
 | 0, i, a, h1, h2, h3 => by omega
 | n + 1, i, a, h1, h2, h3 => by
  have hz := strList_size T
  have e1 : subA .i64 ((T.size : Nat) : Int) ((128 * i : Nat) : Int) = (((strList T).length - 128 * i : Nat) : Int) := by rw [sub64 (by omega) (by omega)]; omega
  show B_63_6 1301 (fun y => l_63_6 1301 n y κ) _ κ = _
  unfold B_63_6 C_63_6
  try dsimp only
  rw [e1]
  by_cases h : 128 < (strList T).length - 128 * i
  ·have hlen : 128 < ((strList T).drop (128 * i)).length := by rw [List.length_drop]; exact h
   have e2 : addA .i64 ((128 * i : Nat) : Int) 128 = ((128 * (i + 1) : Nat) : Int) := by rw [add64 (by omega) (by omega)]; omega
   have e3 : IntKind.wrap .u64 ((128 * (i + 1) : Nat) : Int) = ((128 * (i + 1) : Nat) : Int) := by rw [wrapU64]; omega
   have e4 : addA .u64 ((128 * i : Nat) : Int) 128 = ((128 * (i + 1) : Nat) : Int) := by rw [addU64 (by omega) (by omega)]; omega
   have e5 : strList (T.extract (128 * i) (128 * (i + 1))) = ((strList T).drop (128 * i)).take 128 := by
    rw [strList_ext, List.drop_take]
    congr 1
    omega
   rw [e2, e3, bif_t (dT (show (((strList T).length - 128 * i : Nat) : Int) > 128 by omega)), bif_t (dT (show (0 : Int) ≤ ((128 * (i + 1) : Nat) : Int) by omega)), bif_t (dT (show ((128 * (i + 1) : Nat) : Int) ≤ ((T.size : Nat) : Int) by omega)), bif_t (dT (show (0 : Int) ≤ ((128 * i : Nat) : Int) by omega)), bif_t (dT (show ((128 * i : Nat) : Int) ≤ ((128 * (i + 1) : Nat) : Int) by omega)), Int.toNat_natCast, Int.toNat_natCast,
    p86b ivF a _ (by rw [e5, List.length_take]; omega) _ _ (fun _ _ => rfl) h1, e5]
   try dsimp only
   rw [l63 T hL z κ n (i + 1) _ (comp_W _ _ _ _) (by omega) (by omega), cut_gt hlen, List.drop_drop, show 128 * i + 128 = 128 * (i + 1) by omega]
   show _ = κ ((z, T, (), (), ((128 * (i + ((cut' ((strList T).drop (128 * (i + 1)))).1.length + 1)) : Nat) : Int), ()), (ivF, (comps (compF a (blk (((strList T).drop (128 * i)).take 128)) (addA .u64 ((128 * i : Nat) : Int) 128) false) (addA .u64 ((128 * i : Nat) : Int) 128) (cut' ((strList T).drop (128 * (i + 1)))).1).1, ()))
   rw [e4, show i + ((cut' ((strList T).drop (128 * (i + 1)))).1.length + 1) = i + 1 + (cut' ((strList T).drop (128 * (i + 1)))).1.length by omega]
  ·rw [bif_f (dF (show ¬ (((strList T).length - 128 * i : Nat) : Int) > 128 by omega)), cut_le (by rw [List.length_drop]; omega)]
   rfl
def keyL (k : List Int) : List Int := if k = [] then [] else padL k
def parF (n size : Int) : Int := xorA .u64 (xorA .u64 16842752 (shlA .u64 (IntKind.wrap .u64 n) 8)) (IntKind.wrap .u64 size)
def parR (n size : Int) : Int := addA .u64 (addA .u64 16842752 (mulA .u64 256 (IntKind.wrap .u64 n))) (IntKind.wrap .u64 size)
theorem par_all : (List.range 65).all (fun n => (List.range 65).all fun s => parF (n : Int) (s : Int) == parR (n : Int) (s : Int)) = true := by kernel_rfl
theorem par_eq {n : Nat} {size : Int} (hn : n ≤ 64) (h1 : 1 ≤ size) (h2 : size ≤ 64) : parF (n : Int) size = parR (n : Int) size := by
 obtain ⟨s, rfl⟩ := Int.eq_ofNat_of_zero_le (show 0 ≤ size by omega)
 have := List.all_eq_true.1 (List.all_eq_true.1 par_all n (List.mem_range.2 (by omega))) s (List.mem_range.2 (by omega))
 exact eq_of_beq (α := Int) this
def st0 (n size : Int) : Bl := upd ivF 0 (xorA .u64 (ivF 0) (parF n size))
theorem st0_W (n size : Int) : ∀ j, j < 8 → W (st0 n size j) := fun j hj => by
 unfold st0
 rw [upd_if]
 split
 ·exact W_xor _ _
 ·exact ivF_W hj
theorem p92 {R : Type} (κ0 κ1) : p_92 (R := R) 1301 ((128, true, ()), ()) κ0 κ1 = κ1 (((), (0, ())), (fd 0, [], ())) := by kernel_rfl
theorem eqS_nil (s : ByteArray) : eqS s ⟨#[]⟩ = decide (strList s = []) := by rw [eqS_dec]; rfl
theorem p76 {R : Type} (size : Int) (key : ByteArray) (h1 : 1 ≤ size) (h2 : size ≤ 64) (h3 : (strList key).length ≤ 64) (κ0 κ1 κ2) :
  ∃ t, p_76 (R := R) 1301 ((size, key, ()), ()) κ0 κ1 κ2 = κ2 (((), (0, ())), (hs (st0 ((key.size : Nat) : Int) size) size 0, fd t, keyL (strList key), ())) := by
 have hz := strList_size key
 by_cases hk : strList key = []
 ·refine ⟨0, ?_⟩
  unfold p_76 Q_76
  try dsimp only
  rw [bif_f (dF (show ¬ size < 1 by omega)), bif_f (dF (show ¬ size > 64 by omega)), bif_f (dF (show ¬ ((key.size : Nat) : Int) > 64 by omega)), p92]
  try dsimp only
  rw [p93]
  try dsimp only
  rw [eqS_nil, bif_f (show (!decide (strList key = [])) = false by simp [hk])]
  unfold keyL
  rw [if_pos hk]
  rfl
 ·have e1 : subA .i64 128 ((key.size : Nat) : Int) = ((128 - (strList key).length : Nat) : Int) := by rw [sub64 (by omega) (by omega)]; omega
  have e2 : strList (listStr (List.replicate (128 - (strList key).length) (Sch.zero (.int .u8)))) = List.replicate (128 - (strList key).length) 0 := by
   refine strList_mk _ fun x hx => ?_
   have : x = 0 := List.eq_of_mem_replicate hx
   omega
  have e3 : strList (key ++ listStr (List.replicate (128 - (strList key).length) (Sch.zero (.int .u8)))) = padL (strList key) := by rw [strList_app, e2]; rfl
  obtain ⟨t, ht⟩ := add1 (R := R) (key ++ listStr (List.replicate (128 - (strList key).length) (Sch.zero (.int .u8)))) (by rw [e3, padL_len (by omega)]; omega) (st0 ((key.size : Nat) : Int) size) size 0
   (fun y => κ2 (((), (0, ())), (((), (y.2.1.2.1, (y.2.1.2.2.1, (y.2.1.2.2.2.1, ())))), (y.2.2.1.1, (y.2.2.1.2.1, ((), (y.2.2.1.2.2.2.1, ())))), y.2.2.2.2.1, ())))
  refine ⟨t, Eq.trans ?_ (ht.trans ?_)⟩
  ·unfold p_76 Q_76
   try dsimp only
   rw [bif_f (dF (show ¬ size < 1 by omega)), bif_f (dF (show ¬ size > 64 by omega)), bif_f (dF (show ¬ ((key.size : Nat) : Int) > 64 by omega)), p92]
   try dsimp only
   rw [p93]
   try dsimp only
   have hsz : (listStr (List.replicate (128 - (strList key).length) (Sch.zero (.int .u8)))).size = 128 - (strList key).length := by rw [strList_size, e2, List.length_replicate]
   rw [eqS_nil, bif_t (show (!decide (strList key = [])) = true by simp [hk]), e1, Int.toNat_natCast, bif_t (dT (show (0 : Int) ≤ ((128 - (strList key).length : Nat) : Int) by omega)), bif_t (dT (show ((128 - (strList key).length : Nat) : Int) ≤ ((128 - (strList key).length : Nat) : Int) by omega)), bif_t (dT (show ((1 : Nat) : Int) * ((128 - (strList key).length : Nat) : Int) ≤ 281474976710656 by omega)), bif_t (dT (show ((128 - (strList key).length : Nat) : Int) ≤ 9223372036854775807 by omega)), hsz, bif_t (dT (show key.size + (128 - (strList key).length) ≤ maxI64 by unfold maxI64; omega))]
   rfl
  ·unfold keyL
   rw [if_neg hk, ← e3]
theorem cut_three (l : List Int) : (cut' l).2.length ≤ 128 ∧ 128 * (cut' l).1.length + (cut' l).2.length = l.length ∧ (cut' l).2 = l.drop (128 * (cut' l).1.length) := by
 obtain ⟨c1, c2, c3, c4, c5, c6⟩ := cut_len l.length l (Nat.le_refl _)
 exact ⟨c2, c3, c6⟩
def sumF (n size : Int) (l : List Int) : ByteArray := finF (comps (st0 n size) 0 (cut' l).1).1 (cut' l).2 (l.length : Int) size
theorem keyL_len {k : List Int} (h : k.length ≤ 64) : (keyL k).length ≤ 128 := by
 unfold keyL
 split
 ·simp
 ·rw [padL_len (by omega)]; omega
theorem p63 {R : Type} (size : Int) (key T : ByteArray) (h1 : 1 ≤ size) (h2 : size ≤ 64) (h3 : (strList key).length ≤ 64) (hb : (strList T).length ≤ 2000) (κ) :
  p_63 (R := R) 1301 ((ivF, size, key, T, ()), ()) κ = κ (sumF ((key.size : Nat) : Int) size (keyL (strList key) ++ strList T)) := by
 have hz := strList_size key
 have hzT := strList_size T
 have hst : upd ivF 0 (xorA .u64 (ivF 0) (addA .u64 (addA .u64 16842752 (mulA .u64 256 (IntKind.wrap .u64 ((key.size : Nat) : Int)))) (IntKind.wrap .u64 size))) = st0 ((key.size : Nat) : Int) size := by
  unfold st0
  rw [par_eq (by omega) h1 h2]
  rfl
 have fin : ∀ (V : ByteArray), (strList V).length ≤ 3000 → l_63_6 (R := R) 1301 1301 ((size, V, (), (), 0, ()), (ivF, st0 ((key.size : Nat) : Int) size, ())) (fun y =>
   bif decide (0 ≤ ((y.1.2.1.size : Nat) : Int)) then (bif decide (((y.1.2.1.size : Nat) : Int) ≤ ((y.1.2.1.size : Nat) : Int)) then (bif decide (0 ≤ y.1.2.2.2.2.1) then (bif decide (y.1.2.2.2.2.1 ≤ ((y.1.2.1.size : Nat) : Int)) then
    (p_85 1301 ((ByteArray.extract y.1.2.1 (Int.toNat y.1.2.2.2.2.1) y.1.2.1.size, 128, ()), ()) (fun s => p_86 1301 ((y.2.1, y.2.2.1, s, IntKind.wrap .u64 ((y.1.2.1.size : Nat) : Int), true, ()), ()) (fun w => l_63_12 1301 1301 ((y.1.1, (), (), 0, ()), (w, [], ())) (fun y =>
     bif decide (0 ≤ y.1.1) then (bif decide (y.1.1 ≤ (((List.length y.2.1) : Nat) : Int)) then (bif decide (0 ≤ y.1.1) then κ (listStr (List.take (Int.toNat y.1.1 - 0) (List.drop 0 y.2.1))) else none) else none) else none)))) else none) else none) else none) else none) = κ (sumF ((key.size : Nat) : Int) size (strList V)) := by
  intro V hV
  have hzV := strList_size V
  obtain ⟨c1, c2, c3⟩ := cut_three (strList V)
  have hWc := comps_W (cut' (strList V)).1 (st0 ((key.size : Nat) : Int) size) 0 (st0_W _ _)
  refine (l63 V (by omega) size _ 1301 0 (st0 ((key.size : Nat) : Int) size) (st0_W _ _) (by omega) (by omega)).trans ?_
  rw [Nat.mul_zero, List.drop_zero, Nat.zero_add, show ((0 : Nat) : Int) = 0 from rfl]
  try dsimp only
  have e1 : strList (V.extract (128 * (cut' (strList V)).1.length) V.size) = (cut' (strList V)).2 := by rw [strList_ext, hzV, List.take_length, ← c3]
  obtain ⟨s', q1, q2⟩ := p85 1301 (V.extract (128 * (cut' (strList V)).1.length) V.size) (by rw [e1]; exact c1) (by omega)
  rw [e1] at q1
  have e2 : p_85 (R := R) 1301 ((V.extract (128 * (cut' (strList V)).1.length) V.size, 128, ()), ()) = fun κ => κ s' := by
   funext κ
   unfold p_85 Q_85
   exact q2 _
  rw [bif_t (dT (show (0 : Int) ≤ ((V.size : Nat) : Int) by omega)), bif_t (dT (show ((V.size : Nat) : Int) ≤ ((V.size : Nat) : Int) by omega)), bif_t (dT (show (0 : Int) ≤ ((128 * (cut' (strList V)).1.length : Nat) : Int) by omega)), bif_t (dT (show ((128 * (cut' (strList V)).1.length : Nat) : Int) ≤ ((V.size : Nat) : Int) by omega)), Int.toNat_natCast, e2]
  try dsimp only
  rw [p86b ivF _ s' (by rw [q1, padL_len c1]) _ _ (fun _ _ => rfl) hWc, q1]
  try dsimp only
  rw [l63x]
  try dsimp only
  rw [leR_eq (comp_W _ _ _ _), leF_len, bif_t (dT (show 0 ≤ size by omega)), bif_t (dT (show size ≤ ((64 : Nat) : Int) by omega)), bif_t (dT (show 0 ≤ size by omega)), show IntKind.wrap .u64 ((V.size : Nat) : Int) = (((strList V).length : Nat) : Int) by rw [wrapU64]; omega]
  rfl
 unfold p_63 Q_63
 try dsimp only
 rw [hst, eqS_nil]
 by_cases hk : strList key = []
 ·rw [bif_f (show (!decide (strList key = [])) = false by simp [hk])]
  have := fin T (by omega)
  rw [show keyL (strList key) ++ strList T = strList T by unfold keyL; rw [if_pos hk]; rfl]
  exact this
 ·rw [bif_t (show (!decide (strList key = [])) = true by simp [hk])]
  obtain ⟨s', q1, q2⟩ := p85 1301 key (by omega) (by omega)
  have e2 : p_85 (R := R) 1301 ((key, 128, ()), ()) = fun κ => κ s' := by
   funext κ
   unfold p_85 Q_85
   exact q2 _
  have hs' := strList_size s'
  have hp := padL_len (r := strList key) (by omega)
  rw [q1] at hs'
  rw [e2]
  try dsimp only
  rw [bif_t (dT (show s'.size + T.size ≤ maxI64 by unfold maxI64; omega))]
  have := fin (s' ++ T) (by rw [strList_app, q1, List.length_append]; omega)
  rw [strList_app, q1] at this
  rw [show keyL (strList key) ++ strList T = padL (strList key) ++ strList T by unfold keyL; rw [if_neg hk]]
  exact this
theorem l94v {R : Type} (S : List ByteArray) (u v t : Int) (κ) : ∀ (n : Nat) (l : List Int) (o : List (List Int)), l.length < 128 * n → l.length ≤ 10000 → o.length + l.length ≤ 20000 →
  l_94_v1_9 (R := R) 1301 n (((), (), (), u, v, ()), (fd t, S, l, o, ())) κ = κ (((), (), (), u, v, ()), (fd t, S, (cut' l).2, o ++ (cut' l).1, ()))
 | 0, l, o, h1, h2, h3 => by omega
 | n + 1, l, o, h1, h2, h3 => by
  show B_94_v1_9 1301 (fun y => l_94_v1_9 1301 n y κ) _ κ = _
  unfold B_94_v1_9 C_94_v1_9
  unfold fd
  try dsimp only
  rw [p104]
  by_cases hl : 128 < l.length
  ·have t1 : List.take (Int.toNat 128 - 0) (List.drop 0 l) = l.take 128 := rfl
   have t2 : List.take (l.length - Int.toNat 128) (List.drop (Int.toNat 128) l) = l.drop 128 := by
    rw [List.take_of_length_le]; rfl
    simp
   rw [bif_t (dT (show (128 : Int) < (l.length : Int) by omega)), bif_t (dT (show (0 : Int) ≤ 128 by decide)), bif_t (dT (show (128 : Int) ≤ (l.length : Int) by omega)), bif_t (dT (show (0 : Int) ≤ 128 by decide)), t1, bif_t (dT (show (l.take 128).length * 1 ≤ 140737488355328 by simp; omega)),
    bif_t (show (decide ((o.length + [l.take 128].length) * 24 ≤ 140737488355328) && true) = true by simp; omega), bif_t (dT (show (0 : Int) ≤ (l.length : Int) by omega)), bif_t (dT (show (l.length : Int) ≤ (l.length : Int) by omega)), bif_t (dT (show (0 : Int) ≤ 128 by decide)), bif_t (dT (show (128 : Int) ≤ (l.length : Int) by omega)), t2]
   refine (l94v S u v t κ n (l.drop 128) (o ++ [l.take 128]) (by simp; omega) (by simp; omega) (by simp; omega)).trans ?_
   rw [cut_gt hl]
   unfold fd
   simp
  ·rw [bif_f (dF (show ¬ (128 : Int) < (l.length : Int) by omega)), cut_le (by omega)]
   simp
theorem put2 {R : Type} (s : ByteArray) (t : Int) (l : List Int) (h : l.length + (strList s).length ≤ 10000) (κ0 κ1) :
  ∃ t', p_94_v1 (R := R) 1301 (((), (), ()), (fd t, l, [s], ())) κ0 κ1 = κ1 ((cut' (l ++ strList s)).1, (fd t', [s], (cut' (l ++ strList s)).2, ())) := by
 obtain ⟨c1, c2, c3⟩ := cut_three (l ++ strList s)
 refine ⟨addA .i64 t ((s.size : Nat) : Int), ?_⟩
 unfold p_94_v1 Q_94_v1 fd
 try dsimp only
 rw [bif_f (show ((128 : Int) == 0) = false from rfl)]
 have step : ∀ (n : Nat) (t : Int) κ, l_94_v1_5 (R := R) 1301 (n + 2) (((), (), (), (([s].length : Nat) : Int), 0, ()), ((128, (true, ((), (t, ())))), [s], l, [], ())) κ = κ (((), (), ()), ((128, (true, ((), (addA .i64 t ((s.size : Nat) : Int), ())))), [s], (cut' (l ++ strList s)).2, [] ++ (cut' (l ++ strList s)).1, ())) := by
  intro n t κ
  show B_94_v1_5 1301 (fun y => l_94_v1_5 1301 (n + 1) y κ) _ κ = _
  unfold B_94_v1_5 C_94_v1_5
  try dsimp only
  rw [bif_t (dT (show (0 : Int) < (([s].length : Nat) : Int) by simp)), bif_t (dT (show (0 : Int) ≤ 0 by decide)), bif_t (dT (show (0 : Int) < (([s].length : Nat) : Int) by simp)), show List.getD [s] (Int.toNat 0) (Sch.zero (.str)) = s from rfl, bif_t (show (decide ((l.length + (strList s).length) * 1 ≤ 140737488355328) && true) = true by simp; omega)]
  refine (l94v [s] _ _ (addA .i64 t ((s.size : Nat) : Int)) _ 1301 (l ++ strList s) [] (by rw [List.length_append]; omega) (by rw [List.length_append]; omega) (by rw [List.length_append, List.length_nil]; omega)).trans ?_
  unfold fd
  try dsimp only
  show B_94_v1_5 1301 (fun y => l_94_v1_5 1301 n y κ) _ κ = _
  unfold B_94_v1_5 C_94_v1_5
  try dsimp only
  rw [bif_f (dF (show ¬ addA .i64 0 1 < (([s].length : Nat) : Int) by rw [add64 (by decide) (by decide)]; simp))]
 refine (step 1299 t _).trans ?_
 try dsimp only
 rw [bif_t (dT (show (cut' (l ++ strList s)).2.length * 1 ≤ 140737488355328 by omega)), List.nil_append]
theorem l77v {R : Type} (bs : List (List Int)) (hbs : ∀ b ∈ bs, b.length = 128) (hl : bs.length ≤ 1300) (o t : Int) (S : List ByteArray) (r : List Int) (κ) : ∀ (n i : Nat) (a : Bl) (d : Int), i ≤ bs.length → bs.length - i < n →
  l_77_v1_4 (R := R) 1301 n (((), bs, (bs.length : Int), (i : Int), ()), (hs a o d, fd t, S, r, ())) κ = κ (((), ()), (hs (comps a d (bs.drop i)).1 o (comps a d (bs.drop i)).2, fd t, S, r, ()))
 | 0, i, a, d, h1, h2 => by omega
 | n + 1, i, a, d, h1, h2 => by
  show B_77_v1_4 1301 (fun y => l_77_v1_4 1301 n y κ) _ κ = _
  unfold B_77_v1_4 C_77_v1_4
  by_cases hi : i < bs.length
  ·have hd : bs.drop i = bs[i] :: bs.drop (i + 1) := List.drop_eq_getElem_cons hi
   have hg : List.getD bs i (Sch.zero (.sl (.int .u8))) = bs[i] := by simp [hi]
   have e3 : addA .i64 (i : Int) 1 = ((i + 1 : Nat) : Int) := by rw [add64 (by omega) (by omega)]; simp
   unfold hs fd
   try dsimp only
   rw [bif_t (dT (show (i : Int) < (bs.length : Int) by omega)), bif_t (dT (show (0 : Int) ≤ (i : Int) by omega)), bif_t (dT (show (i : Int) < (bs.length : Int) by omega)), Int.toNat_natCast, hg, p95b _ _ (hbs _ (List.getElem_mem hi))]
   try dsimp only
   rw [e3, hd]
   exact l77v bs hbs hl o t S r κ n (i + 1) _ _ (by omega) (by omega)
  ·unfold hs fd
   try dsimp only
   rw [bif_f (dF (show ¬ (i : Int) < (bs.length : Int) by omega)), List.drop_eq_nil_of_le (by omega)]
   rfl
theorem add2 {R : Type} (s : ByteArray) (a : Bl) (o d t : Int) (l : List Int) (h : l.length + (strList s).length ≤ 10000) (κ) :
  ∃ t', p_77_v1 (R := R) 1301 (((), (), ()), (hs a o d, fd t, l, [s], ())) κ = κ ((), (hs (addC a d l (strList s)).1 o (addC a d l (strList s)).2, fd t', [s], (cut' (l ++ strList s)).2, ())) := by
 obtain ⟨c1, c2, c3, c4, c5, c6⟩ := cut_len (l ++ strList s).length (l ++ strList s) (Nat.le_refl _)
 rw [List.length_append] at c3
 obtain ⟨t', ht⟩ := put2 (R := R) s t l h (fun _ => none) (fun y => l_77_v1_4 1301 1301 (((), y.1, ((y.1.length : Nat) : Int), 0, ()), (hs a o d, (y.2.1.1, (y.2.1.2.1, ((), (y.2.1.2.2.2.1, ())))), y.2.2.1, y.2.2.2.1, ())) (fun y => κ ((), (((), (y.2.1.2.1, (y.2.1.2.2.1, (y.2.1.2.2.2.1, ())))), (y.2.2.1.1, (y.2.2.1.2.1, ((), (y.2.2.1.2.2.2.1, ())))), y.2.2.2.1, y.2.2.2.2.1, ()))))
 refine ⟨t', Eq.trans ?_ (ht.trans ?_)⟩
 ·unfold p_77_v1 Q_77_v1
  rfl
 ·try dsimp only
  refine (l77v (cut' (l ++ strList s)).1 c4 (by omega) o t' [s] _ _ 1301 0 a d (Nat.zero_le _) (by omega)).trans ?_
  rfl
theorem p79l {R : Type} (size : Int) (key : ByteArray) (h1 : 1 ≤ size) (h2 : size ≤ 64) (h3 : (strList key).length ≤ 64) (T : ByteArray) (hb : (strList T).length ≤ 2000) (κ) :
  p_79 (R := R) 1301 ((size, key, (), ()), ([T], ())) κ = κ ((sumF ((key.size : Nat) : Int) size (keyL (strList key) ++ strList T), (0, ())), ([T], ())) := by
 have hkl := keyL_len h3
 obtain ⟨c1, c2, c3⟩ := cut_three (keyL (strList key) ++ strList T)
 rw [List.length_append] at c2
 have hd := comps_d (cut' (keyL (strList key) ++ strList T)).1 (st0 ((key.size : Nat) : Int) size) 0 (by omega)
 have hd' : (comps (st0 ((key.size : Nat) : Int) size) 0 (cut' (keyL (strList key) ++ strList T)).1).2 = ((0 + 128 * (cut' (keyL (strList key) ++ strList T)).1.length : Nat) : Int) := hd
 unfold p_79 Q_79
 try dsimp only
 obtain ⟨t, ht⟩ := p76 (R := R) size key h1 h2 h3
  (fun y1003 => bif (y1003.1.2.1 != 0) then κ ((⟨#[]⟩, (y1003.1.2.1, ())), ([T], ())) else (p_77_v2 1301 (((), (), ()), ([T], ())) (fun y1006 => p_78 1301 (((), ()), ()) (fun y1008 => κ ((y1008.1, (0, ())), (y1006.2.1, ()))))))
  (fun y1010 => bif (y1010.1.2.1 != 0) then κ ((⟨#[]⟩, (y1010.1.2.1, ())), ([T], ())) else (p_77 1301 (((), (), ()), (((), (y1010.2.1.2.1, (y1010.2.1.2.2.1, (y1010.2.1.2.2.2.1, ())))), [T], ())) (fun y1015 => p_78_v1 1301 (((), ()), (((), (y1015.2.1.2.1, (y1015.2.1.2.2.1, (y1015.2.1.2.2.2.1, ())))), ())) (fun y1065 => κ ((y1065.1, (0, ())), (y1015.2.2.1, ()))))))
  (fun y => bif (y.1.2.1 != 0) then κ ((⟨#[]⟩, (y.1.2.1, ())), ([T], ())) else (p_77_v1 1301 (((), (), ()), (((), (y.2.1.2.1, (y.2.1.2.2.1, (y.2.1.2.2.2.1, ())))), (y.2.2.1.1, (y.2.2.1.2.1, ((), (y.2.2.1.2.2.2.1, ())))), y.2.2.2.1, [T], ())) (fun z => p_78_v2 1301 (((), ()), (((), (z.2.1.2.1, (z.2.1.2.2.1, (z.2.1.2.2.2.1, ())))), (z.2.2.1.1, (z.2.2.1.2.1, ((), (z.2.2.1.2.2.2.1, ())))), z.2.2.2.2.1, ())) (fun y => κ ((y.1, (0, ())), (z.2.2.2.1, ()))))))
 refine ht.trans ?_
 unfold hs fd
 try dsimp only
 rw [bif_f (show ((0 : Int) != 0) = false from rfl)]
 obtain ⟨t', ht'⟩ := add2 (R := R) T (st0 ((key.size : Nat) : Int) size) size 0 t (keyL (strList key)) (by omega) (fun z => p_78_v2 1301 (((), ()), (((), (z.2.1.2.1, (z.2.1.2.2.1, (z.2.1.2.2.2.1, ())))), (z.2.2.1.1, (z.2.2.1.2.1, ((), (z.2.2.1.2.2.2.1, ())))), z.2.2.2.2.1, ())) (fun y => κ ((y.1, (0, ())), (z.2.2.2.1, ()))))
 refine ht'.trans ?_
 try dsimp only
 refine (p78 _ size _ t' _ c1 (by omega) h2 _).trans ?_
 try dsimp only
 unfold addC hs
 try dsimp only
 rw [hd', addU64 (by omega) (by omega)]
 unfold sumF
 rw [List.length_append]
 congr 4
 omega
def totL (t : Int) (P : List ByteArray) : Int := P.foldl (fun t s => addA .i64 t ((s.size : Nat) : Int)) t
theorem put3 {R : Type} (s : ByteArray) (t : Int) (l : List Int) (h : l.length + (strList s).length ≤ 10000) (κ0 κ1) :
  p_94_v1 (R := R) 1301 (((), (), ()), (fd t, l, [s], ())) κ0 κ1 = κ1 ((cut' (l ++ strList s)).1, (fd (addA .i64 t ((s.size : Nat) : Int)), [s], (cut' (l ++ strList s)).2, ())) := by
 obtain ⟨c1, c2, c3⟩ := cut_three (l ++ strList s)
 unfold p_94_v1 Q_94_v1 fd
 try dsimp only
 rw [bif_f (show ((128 : Int) == 0) = false from rfl)]
 have step : ∀ (n : Nat) (t : Int) κ, l_94_v1_5 (R := R) 1301 (n + 2) (((), (), (), (([s].length : Nat) : Int), 0, ()), ((128, (true, ((), (t, ())))), [s], l, [], ())) κ = κ (((), (), ()), ((128, (true, ((), (addA .i64 t ((s.size : Nat) : Int), ())))), [s], (cut' (l ++ strList s)).2, [] ++ (cut' (l ++ strList s)).1, ())) := by
  intro n t κ
  show B_94_v1_5 1301 (fun y => l_94_v1_5 1301 (n + 1) y κ) _ κ = _
  unfold B_94_v1_5 C_94_v1_5
  try dsimp only
  rw [bif_t (dT (show (0 : Int) < (([s].length : Nat) : Int) by simp)), bif_t (dT (show (0 : Int) ≤ 0 by decide)), bif_t (dT (show (0 : Int) < (([s].length : Nat) : Int) by simp)), show List.getD [s] (Int.toNat 0) (Sch.zero (.str)) = s from rfl, bif_t (show (decide ((l.length + (strList s).length) * 1 ≤ 140737488355328) && true) = true by simp; omega)]
  refine (l94v [s] _ _ (addA .i64 t ((s.size : Nat) : Int)) _ 1301 (l ++ strList s) [] (by rw [List.length_append]; omega) (by rw [List.length_append]; omega) (by rw [List.length_append, List.length_nil]; omega)).trans ?_
  unfold fd
  try dsimp only
  show B_94_v1_5 1301 (fun y => l_94_v1_5 1301 n y κ) _ κ = _
  unfold B_94_v1_5 C_94_v1_5
  try dsimp only
  rw [bif_f (dF (show ¬ addA .i64 0 1 < (([s].length : Nat) : Int) by rw [add64 (by decide) (by decide)]; simp))]
 refine (step 1299 t _).trans ?_
 try dsimp only
 rw [bif_t (dT (show (cut' (l ++ strList s)).2.length * 1 ≤ 140737488355328 by omega)), List.nil_append]
theorem add3 {R : Type} (s : ByteArray) (a : Bl) (o d t : Int) (l : List Int) (h : l.length + (strList s).length ≤ 10000) (κ) :
  p_77_v1 (R := R) 1301 (((), (), ()), (hs a o d, fd t, l, [s], ())) κ = κ ((), (hs (addC a d l (strList s)).1 o (addC a d l (strList s)).2, fd (addA .i64 t ((s.size : Nat) : Int)), [s], (cut' (l ++ strList s)).2, ())) := by
 obtain ⟨c1, c2, c3, c4, c5, c6⟩ := cut_len (l ++ strList s).length (l ++ strList s) (Nat.le_refl _)
 rw [List.length_append] at c3
 have ht := put3 (R := R) s t l h (fun _ => none) (fun y => l_77_v1_4 1301 1301 (((), y.1, ((y.1.length : Nat) : Int), 0, ()), (hs a o d, (y.2.1.1, (y.2.1.2.1, ((), (y.2.1.2.2.2.1, ())))), y.2.2.1, y.2.2.2.1, ())) (fun y => κ ((), (((), (y.2.1.2.1, (y.2.1.2.2.1, (y.2.1.2.2.2.1, ())))), (y.2.2.1.1, (y.2.2.1.2.1, ((), (y.2.2.1.2.2.2.1, ())))), y.2.2.2.1, y.2.2.2.2.1, ()))))
 refine Eq.trans ?_ (ht.trans ?_)
 ·unfold p_77_v1 Q_77_v1
  rfl
 ·try dsimp only
  refine (l77v (cut' (l ++ strList s)).1 c4 (by omega) o (addA .i64 t ((s.size : Nat) : Int)) [s] _ _ 1301 0 a d (Nat.zero_le _) (by omega)).trans ?_
  rfl
def le4 (x : Int) : List Int := [IntKind.wrap .u8 x, IntKind.wrap .u8 (shrA .u32 x 8), IntKind.wrap .u8 (shrA .u32 x 16), IntKind.wrap .u8 (shrA .u32 x 24)]
theorem p32 {R : Type} (x : Int) (κ) : p_32 (R := R) 1301 (((), ()), ([x], ())) κ = κ (le4 x, ([x], ())) := by kernel_rfl
theorem le4_len (x : Int) : (le4 x).length = 4 := rfl
theorem le4_str (x : Int) : strList (listStr (le4 x)) = le4 x := by
 refine strList_mk _ fun y hy => ?_
 unfold le4 at hy
 simp only [List.mem_cons, List.not_mem_nil, or_false] at hy
 rcases hy with rfl | rfl | rfl | rfl <;> (rw [wrapU8]; omega)
theorem p76e {R : Type} (size : Int) (h1 : 1 ≤ size) (h2 : size ≤ 64) (κ0 κ1 κ2) : p_76 (R := R) 1301 ((size, ⟨#[]⟩, ()), ()) κ0 κ1 κ2 = κ2 (((), (0, ())), (hs (st0 0 size) size 0, fd 0, [], ())) := by
 unfold p_76 Q_76
 try dsimp only
 rw [bif_f (dF (show ¬ size < 1 by omega)), bif_f (dF (show ¬ size > 64 by omega)), bif_f (show decide (((ByteArray.size ⟨#[]⟩ : Nat) : Int) > 64) = false from rfl), p92]
 try dsimp only
 rw [p93]
 try dsimp only
 rw [eqS_nil, bif_f (show (!decide (strList ⟨#[]⟩ = [])) = false from rfl)]
 rfl
theorem p79e {R : Type} (size : Int) (h1 : 1 ≤ size) (h2 : size ≤ 64) (T : ByteArray) (hb : (strList T).length ≤ 2000) (κ) :
  p_79 (R := R) 1301 ((size, ⟨#[]⟩, (), ()), ([T], ())) κ = κ ((sumF 0 size (strList T), (0, ())), ([T], ())) :=
 p79l size ⟨#[]⟩ h1 h2 (by show 0 ≤ 64; omega) T hb κ
theorem sum_len (n size : Int) (l : List Int) (h1 : 1 ≤ size) (h2 : size ≤ 64) : (strList (sumF n size l)).length = size.toNat := by
 unfold sumF finF
 rw [strList_mk, List.length_take, leF_len]
 ·omega
 ·intro x hx
  have hx := List.mem_of_mem_take hx
  unfold leF at hx
  obtain ⟨i, _, hx⟩ := List.mem_flatMap.1 hx
  obtain ⟨k, _, rfl⟩ := List.mem_map.1 hx
  rw [wrapU8]
  omega
def longGo (size : Int) : Nat → ByteArray → List Int → ByteArray × List Int
 | 0, s, o => (s, o)
 | n + 1, s, o => if size - (o.length : Int) > 64 then longGo size n (sumF 0 64 (strList s)) (o ++ (strList (sumF 0 64 (strList s))).take 32) else (s, o)
theorem longGo_spec (size : Int) : ∀ (n : Nat) (s : ByteArray) (o : List Int), (strList s).length ≤ 64 → 33 ≤ size - (o.length : Int) → size - (o.length : Int) ≤ 64 + 32 * (n : Int) →
  (strList (longGo size n s o).1).length ≤ 64 ∧ 33 ≤ size - ((longGo size n s o).2.length : Int) ∧ size - ((longGo size n s o).2.length : Int) ≤ 64 ∧ o.length ≤ (longGo size n s o).2.length
 | 0, s, o, h1, h2, h3 => ⟨h1, h2, by show size - (o.length : Int) ≤ 64; omega, Nat.le_refl _⟩
 | n + 1, s, o, h1, h2, h3 => by
  have hl := sum_len 0 64 (strList s) (by decide) (by decide)
  have hl : (strList (sumF 0 64 (strList s))).length = 64 := hl
  unfold longGo
  by_cases h : size - (o.length : Int) > 64
  ·rw [if_pos h]
   have ho : (o ++ (strList (sumF 0 64 (strList s))).take 32).length = o.length + 32 := by rw [List.length_append, List.length_take]; omega
   obtain ⟨q1, q2, q3, q4⟩ := longGo_spec size n (sumF 0 64 (strList s)) (o ++ (strList (sumF 0 64 (strList s))).take 32) (by omega) (by rw [ho]; omega) (by rw [ho]; omega)
   exact ⟨q1, q2, q3, by rw [ho] at q4; omega⟩
  ·rw [if_neg h]
   exact ⟨h1, h2, by show size - (o.length : Int) ≤ 64; omega, Nat.le_refl _⟩
theorem l53h {R : Type} (size : Int) (S : List ByteArray) (κ) : ∀ (n : Nat) (s : ByteArray) (o : List Int), (strList s).length ≤ 64 → 33 ≤ size - (o.length : Int) → size - (o.length : Int) ≤ 32 + 32 * (n : Int) → size ≤ 70000 →
  l_53_8 (R := R) 1301 n ((size, s, (), ()), (S, o, ())) κ = κ ((size, (longGo size n s o).1, (), ()), (S, (longGo size n s o).2, ()))
 | 0, s, o, h1, h2, h3, h4 => by omega
 | n + 1, s, o, h1, h2, h3, h4 => by
  have hl : (strList (sumF 0 64 (strList s))).length = 64 := sum_len 0 64 (strList s) (by decide) (by decide)
  have hz := strList_size (sumF 0 64 (strList s))
  show B_53_8 1301 (fun y => l_53_8 1301 n y κ) _ κ = _
  unfold B_53_8 C_53_8 longGo
  try dsimp only
  rw [sub64 (by omega) (by omega)]
  by_cases h : size - (o.length : Int) > 64
  ·have ex : strList ((sumF 0 64 (strList s)).extract 0 32) = (strList (sumF 0 64 (strList s))).take 32 := by rw [strList_ext]; rfl
   have ho : (o ++ (strList (sumF 0 64 (strList s))).take 32).length = o.length + 32 := by rw [List.length_append, List.length_take]; omega
   rw [if_pos h, bif_t (dT h), p79e 64 (by decide) (by decide) s (by omega)]
   try dsimp only
   rw [bif_t (dT (show (32 : Int) ≤ (((sumF 0 64 (strList s)).size : Nat) : Int) by omega)), ex, bif_t (show (decide ((o.length + ((strList (sumF 0 64 (strList s))).take 32).length) * 1 ≤ 140737488355328) && true) = true by rw [List.length_take]; simp; omega)]
   exact l53h size S κ n _ _ (by omega) (by rw [ho]; omega) (by rw [ho]; omega) h4
  ·rw [if_neg h, bif_f (dF h)]
def longS (size : Int) (l : List Int) : ByteArray := sumF 0 (minA size 64) (le4 (IntKind.wrap .u32 size) ++ l)
def longR (size : Int) (l : List Int) : ByteArray × List Int := longGo size 1301 (longS size l) ((strList (longS size l)).take 32)
def longF (size : Int) (l : List Int) : List Int :=
 if size ≤ 64 then strList (longS size l) else (longR size l).2 ++ strList (sumF 0 (size - ((longR size l).2.length : Int)) (strList (longR size l).1))
def longB (size : Int) (l : List Int) : ByteArray := if size ≤ 64 then longS size l else listStr (longF size l)
theorem min64 {size : Int} (h1 : 1 ≤ size) : 1 ≤ minA size 64 ∧ minA size 64 ≤ 64 ∧ (size ≤ 64 → minA size 64 = size) ∧ (64 < size → minA size 64 = 64) := by
 unfold minA
 by_cases h : (64 : Int) < size
 ·rw [if_pos h]; exact ⟨by decide, by decide, fun _ => by omega, fun _ => rfl⟩
 ·rw [if_neg h]; exact ⟨h1, by omega, fun _ => rfl, fun _ => by omega⟩
theorem longR_spec {size : Int} (h1 : 64 < size) (h2 : size ≤ 32032) (l : List Int) : (strList (longS size l)).length = 64 ∧ (strList (longR size l).1).length ≤ 64 ∧ 33 ≤ size - ((longR size l).2.length : Int) ∧ size - ((longR size l).2.length : Int) ≤ 64 := by
 obtain ⟨m1, m2, m3, m4⟩ := min64 (size := size) (by omega)
 have hl : (strList (longS size l)).length = 64 := by unfold longS; rw [sum_len _ _ _ m1 m2, m4 h1]; rfl
 have ht : ((strList (longS size l)).take 32).length = 32 := by rw [List.length_take]; omega
 obtain ⟨q1, q2, q3, q4⟩ := longGo_spec size 1301 (longS size l) ((strList (longS size l)).take 32) (by omega) (by rw [ht]; omega) (by rw [ht]; omega)
 exact ⟨hl, q1, q2, q3⟩
theorem longF_len {size : Int} (h1 : 1 ≤ size) (h2 : size ≤ 32032) (l : List Int) : ((longF size l).length : Int) = size := by
 obtain ⟨m1, m2, m3, m4⟩ := min64 h1
 unfold longF
 by_cases h : size ≤ 64
 ·rw [if_pos h]
  unfold longS
  rw [sum_len _ _ _ m1 m2, m3 h]
  omega
 ·rw [if_neg h]
  obtain ⟨q0, q1, q2, q3⟩ := longR_spec (by omega) h2 l
  rw [List.length_append, sum_len _ _ _ (by omega) q3]
  omega
theorem longB_str {size : Int} (l : List Int) : strList (longB size l) = longF size l := by
 unfold longB
 by_cases h : size ≤ 64
 ·rw [if_pos h]; unfold longF; rw [if_pos h]
 ·rw [if_neg h]
  refine strList_mk _ fun x hx => ?_
  unfold longF at hx
  rw [if_neg h] at hx
  have key : ∀ (n : Nat) (s : ByteArray) (o : List Int), (∀ x ∈ o, 0 ≤ x ∧ x < 256) → ∀ x ∈ (longGo size n s o).2, 0 ≤ x ∧ x < 256 := by
   intro n
   induction n with
   | zero => intro s o ho; exact ho
   | succ n ih =>
    intro s o ho
    unfold longGo
    split
    ·refine ih _ _ fun x hx => ?_
     rcases List.mem_append.1 hx with hx | hx
     ·exact ho x hx
     ·exact strList_rng _ x (List.mem_of_mem_take hx)
    ·exact ho
  rcases List.mem_append.1 hx with hx | hx
  ·exact key _ _ _ (fun x hx => strList_rng _ x (List.mem_of_mem_take hx)) x hx
  ·exact strList_rng _ x hx
theorem fin_sum (n size : Int) (L : List Int) (h : L.length ≤ 5000) : finF (comps (st0 n size) 0 (cut' L).1).1 (cut' L).2 (addA .u64 (comps (st0 n size) 0 (cut' L).1).2 ((cut' L).2.length : Int)) size = sumF n size L := by
 obtain ⟨c1, c2, c3⟩ := cut_three L
 have hd := comps_d (cut' L).1 (st0 n size) 0 (by omega)
 have hd' : (comps (st0 n size) 0 (cut' L).1).2 = ((0 + 128 * (cut' L).1.length : Nat) : Int) := hd
 rw [hd', addU64 (by omega) (by omega)]
 unfold sumF
 congr 1
 omega
theorem add_two (a : Bl) (d : Int) (x y : List Int) (h : x.length ≤ 128) : cut' x = ([], x) ∧ addC a d [] x = (a, d) := by
 refine ⟨cut_le h, ?_⟩
 unfold addC
 rw [List.nil_append, cut_le h]
 rfl
theorem l98P {R : Type} (P : List ByteArray) (hP : P.length ≤ 1300) (κ) : ∀ (n i : Nat) (t : Int) (l : List Int) (o : List (List Int)), i ≤ P.length → P.length - i < n → o.length + l.length + (joinL (P.drop i)).length ≤ 10000 →
  l_94_v1_5 (R := R) 1301 n (((), (), (), (P.length : Int), (i : Int), ()), (fd t, P, l, o, ())) κ =
   κ (((), (), ()), (fd (totL t (P.drop i)), P, (if i < P.length then (cut' (l ++ joinL (P.drop i))).2 else l), (if i < P.length then o ++ (cut' (l ++ joinL (P.drop i))).1 else o), ()))
 | 0, i, t, l, o, h1, h2, h3 => by omega
 | n + 1, i, t, l, o, h1, h2, h3 => by
  by_cases hi : i < P.length
  ·have hd : P.drop i = P[i] :: P.drop (i + 1) := List.drop_eq_getElem_cons hi
   have hg : List.getD P i (Sch.zero (.str)) = P[i] := by simp [hi]
   have hj : joinL (P.drop i) = strList P[i] ++ joinL (P.drop (i + 1)) := by rw [hd]; rfl
   have e3 : addA .i64 (i : Int) 1 = ((i + 1 : Nat) : Int) := by rw [add64 (by omega) (by omega)]; simp
   rw [hj, List.length_append] at h3
   obtain ⟨c1, c2, c3, c4, c5, c6⟩ := cut_len (l ++ strList P[i]).length (l ++ strList P[i]) (Nat.le_refl _)
   rw [List.length_append] at c1
   have ht := l98P P hP κ n (i + 1) (addA .i64 t ((P[i].size : Nat) : Int)) (cut' (l ++ strList P[i])).2 (o ++ (cut' (l ++ strList P[i])).1) (by omega) (by omega) (by rw [List.length_append]; omega)
   refine Eq.trans ?_ (ht.trans ?_)
   ·show B_94_v1_5 1301 (fun y => l_94_v1_5 1301 n y κ) _ κ = _
    unfold B_94_v1_5 C_94_v1_5
    unfold fd
    try dsimp only
    rw [bif_t (dT (show (i : Int) < (P.length : Int) by omega)), bif_t (dT (show (0 : Int) ≤ (i : Int) by omega)), bif_t (dT (show (i : Int) < (P.length : Int) by omega)), Int.toNat_natCast, hg, bif_t (show (decide ((l.length + (strList P[i]).length) * 1 ≤ 140737488355328) && true) = true by simp; omega)]
    refine (l94v P (P.length : Int) (i : Int) (addA .i64 t ((P[i].size : Nat) : Int)) _ 1301 (l ++ strList P[i]) o (by rw [List.length_append]; omega) (by rw [List.length_append]; omega) (by rw [List.length_append]; omega)).trans ?_
    unfold fd
    try dsimp only
    rw [e3]
   ·have ca := cut_app (joinL (P.drop (i + 1))) (l ++ strList P[i]).length (l ++ strList P[i]) (Nat.le_refl _)
    rw [if_pos hi, if_pos hi, hj, ← List.append_assoc, ca, show totL t (P.drop i) = totL (addA .i64 t ((P[i].size : Nat) : Int)) (P.drop (i + 1)) by rw [hd]; rfl]
    by_cases h4 : i + 1 < P.length
    ·rw [if_pos h4, if_pos h4, List.append_assoc]
    ·rw [if_neg h4, if_neg h4, show P.drop (i + 1) = [] from List.drop_eq_nil_of_le (by omega)]
     show _ = κ (_, (_, (_, (cut' ((cut' (l ++ strList P[i])).2 ++ [])).2, o ++ ((cut' (l ++ strList P[i])).1 ++ (cut' ((cut' (l ++ strList P[i])).2 ++ [])).1), ())))
     rw [List.append_nil, cut_le c2, List.append_nil]
  ·rw [if_neg hi, if_neg hi, show P.drop i = [] from List.drop_eq_nil_of_le (by omega)]
   unfold l_94_v1_5 B_94_v1_5 C_94_v1_5
   unfold fd
   try dsimp only
   rw [bif_f (dF (show ¬ (i : Int) < (P.length : Int) by omega))]
   rfl
theorem p98P {R : Type} (P : List ByteArray) (hP : P.length ≤ 1300) (t : Int) (l : List Int) (hl : l.length ≤ 128) (hb : l.length + (joinL P).length ≤ 10000) (κ0 κ1) :
  p_94_v1 (R := R) 1301 (((), (), ()), (fd t, l, P, ())) κ0 κ1 = κ1 ((cut' (l ++ joinL P)).1, (fd (totL t P), P, (cut' (l ++ joinL P)).2, ())) := by
 obtain ⟨c1, c2, c3, c4, c5, c6⟩ := cut_len (l ++ joinL P).length (l ++ joinL P) (Nat.le_refl _)
 rw [List.length_append] at c1
 have ht := l98P (R := R) P hP (fun y => bif decide (y.2.2.2.1.length * 1 ≤ 140737488355328) then κ1 (y.2.2.2.2.1, ((y.2.1.1, (y.2.1.2.1, ((), (y.2.1.2.2.2.1, ())))), y.2.2.1, y.2.2.2.1, ())) else none) 1301 0 t l [] (Nat.zero_le _) (by omega) (by simp only [List.length_nil, List.drop_zero]; omega)
 rw [List.drop_zero] at ht
 refine Eq.trans ?_ (ht.trans ?_)
 ·unfold p_94_v1 Q_94_v1
  unfold fd
  try dsimp only
  rw [bif_f (show ((128 : Int) == 0) = false from rfl)]
  rfl
 ·by_cases h0 : 0 < P.length
  ·rw [if_pos h0, if_pos h0]
   try dsimp only
   rw [bif_t (dT (show (cut' (l ++ joinL P)).2.length * 1 ≤ 140737488355328 by omega))]
   rfl
  ·rw [if_neg h0, if_neg h0, joinL_empty h0, List.append_nil, cut_le hl]
   try dsimp only
   rw [bif_t (dT (show l.length * 1 ≤ 140737488355328 by omega))]
theorem addP {R : Type} (P : List ByteArray) (hP : P.length ≤ 1300) (a : Bl) (o d t : Int) (l : List Int) (hl : l.length ≤ 128) (h : l.length + (joinL P).length ≤ 10000) (κ) :
  p_77_v1 (R := R) 1301 (((), (), ()), (hs a o d, fd t, l, P, ())) κ = κ ((), (hs (addC a d l (joinL P)).1 o (addC a d l (joinL P)).2, fd (totL t P), P, (cut' (l ++ joinL P)).2, ())) := by
 obtain ⟨c1, c2, c3, c4, c5, c6⟩ := cut_len (l ++ joinL P).length (l ++ joinL P) (Nat.le_refl _)
 rw [List.length_append] at c3
 have ht := p98P (R := R) P hP t l hl h (fun _ => none) (fun y => l_77_v1_4 1301 1301 (((), y.1, ((y.1.length : Nat) : Int), 0, ()), (hs a o d, (y.2.1.1, (y.2.1.2.1, ((), (y.2.1.2.2.2.1, ())))), y.2.2.1, y.2.2.2.1, ())) (fun y => κ ((), (((), (y.2.1.2.1, (y.2.1.2.2.1, (y.2.1.2.2.2.1, ())))), (y.2.2.1.1, (y.2.2.1.2.1, ((), (y.2.2.1.2.2.2.1, ())))), y.2.2.2.1, y.2.2.2.2.1, ()))))
 refine Eq.trans ?_ (ht.trans ?_)
 ·unfold p_77_v1 Q_77_v1
  rfl
 ·try dsimp only
  refine (l77v (cut' (l ++ joinL P)).1 c4 (by omega) o (totL t P) P _ _ 1301 0 a d (Nat.zero_le _) (by omega)).trans ?_
  rfl
theorem p49P {R : Type} (size : Int) (P : List ByteArray) (hP : P.length ≤ 1300) (h1 : 1 ≤ size) (h2 : size ≤ 32032) (hb : (joinL P).length ≤ 1500) (κ) :
  p_53 (R := R) 1301 ((size, (), ()), (P, ())) κ = κ ((longB size (joinL P), (0, ())), (P, ())) := by
 obtain ⟨m1, m2, m3, m4⟩ := min64 h1
 have e4 := le4_len (IntKind.wrap .u32 size)
 unfold p_53 Q_53
 try dsimp only
 rw [bif_f (dF (show ¬ size < 1 by omega)), bif_f (dF (show ¬ size > 65536 by omega)), p76e _ m1 m2]
 try dsimp only
 rw [p32]
 unfold hs fd
 try dsimp only
 refine (add3 (listStr (le4 (IntKind.wrap .u32 size))) (st0 0 (minA size 64)) (minA size 64) 0 0 [] (by rw [le4_str, List.length_nil]; omega) _).trans ?_
 rw [le4_str, (add_two _ 0 _ [] (by omega)).2, List.nil_append, (add_two (st0 0 (minA size 64)) 0 _ [] (by omega)).1]
 unfold hs fd
 try dsimp only
 refine (addP P hP (st0 0 (minA size 64)) (minA size 64) 0 _ (le4 (IntKind.wrap .u32 size)) (by omega) (by omega) _).trans ?_
 unfold hs fd
 try dsimp only
 obtain ⟨c1, c2, c3⟩ := cut_three (le4 (IntKind.wrap .u32 size) ++ joinL P)
 refine (p78 _ (minA size 64) _ _ _ c1 (by omega) m2 _).trans ?_
 try dsimp only
 unfold addC
 rw [fin_sum _ _ _ (by rw [List.length_append]; omega)]
 show (bif decide (size ≤ 64) then κ ((longS size (joinL P), (0, ())), (P, ())) else _) = _
 by_cases h : size ≤ 64
 ·rw [bif_t (dT h)]
  unfold longB
  rw [if_pos h]
 ·rw [bif_f (dF h)]
  obtain ⟨q0, q1, q2, q3⟩ := longR_spec (by omega) h2 (joinL P)
  have hz := strList_size (longS size (joinL P))
  have ex : strList ((longS size (joinL P)).extract 0 32) = (strList (longS size (joinL P))).take 32 := by rw [strList_ext]; rfl
  have hzx := strList_size ((longS size (joinL P)).extract 0 32)
  have ht : ((strList (longS size (joinL P))).take 32).length = 32 := by rw [List.length_take]; omega
  rw [ex, ht] at hzx
  show (bif decide ((32 : Int) ≤ (((longS size (joinL P)).size : Nat) : Int)) then (bif decide (((longS size (joinL P)).extract 0 32).size ≤ maxI64) then l_53_8 1301 1301 ((size, longS size (joinL P), (), ()), (P, strList ((longS size (joinL P)).extract 0 32), ())) _ else none) else none) = _
  rw [bif_t (dT (show (32 : Int) ≤ (((longS size (joinL P)).size : Nat) : Int) by omega)), hzx, bif_t (dT (show 32 ≤ maxI64 by unfold maxI64; omega)), ex]
  refine (l53h size P _ 1301 _ _ (by omega) (by rw [ht]; omega) (by rw [ht]; omega) (by omega)).trans ?_
  try dsimp only
  rw [show longGo size 1301 (longS size (joinL P)) (List.take 32 (strList (longS size (joinL P)))) = longR size (joinL P) from rfl]
  rw [sub64 (by omega) (by omega)]
  refine (p79e _ (by omega) q3 _ (by omega) _).trans ?_
  try dsimp only
  rw [bif_t (show (decide (((longR size (joinL P)).2.length + (strList (sumF 0 (size - ((longR size (joinL P)).2.length : Int)) (strList (longR size (joinL P)).1))).length) * 1 ≤ 140737488355328) && true) = true by rw [sum_len _ _ _ (by omega) q3]; simp; omega)]
  unfold longB longF
  rw [if_neg h, if_neg h]
theorem p31 {R : Type} (P : List ByteArray) (hP : P.length ≤ 1300) (hb : (joinL P).length ≤ 1500) (κ) : p_31 (R := R) 1301 (((), ()), (P, ())) κ = κ (longB 1024 (joinL P), (P, ())) := by
 unfold p_31 Q_31
 try dsimp only
 rw [p49P 1024 P hP (by omega) (by omega) hb]
def dw (x : Int) : Nat → Int
 | 0 => x
 | k + 1 => quoA .u32 (dw x k) 256
def le4R (x : Int) : List Int := [IntKind.wrap .u8 (remA .u32 (dw x 0) 256), IntKind.wrap .u8 (remA .u32 (dw x 1) 256), IntKind.wrap .u8 (remA .u32 (dw x 2) 256), IntKind.wrap .u8 (remA .u32 (dw x 3) 256)]
theorem p38 {R : Type} (x : Int) (κ) : p_38 (R := R) 1301 ((x, ()), ()) κ = κ (le4R x) := by kernel_rfl
theorem quo32 {a : Int} (h1 : 0 ≤ a) (h2 : a < 4294967296) : quoA .u32 a 256 = a / 256 := by
 unfold quoA
 rw [Int.tdiv_eq_ediv_of_nonneg h1, wrapU32]
 omega
theorem shr32k {x : Int} (h : 0 ≤ x) : shrA .u32 x 8 = x / 256 ∧ shrA .u32 x 16 = x / 65536 ∧ shrA .u32 x 24 = x / 16777216 := by
 refine ⟨?_, ?_, ?_⟩ <;> (unfold shrA; rw [Int.fdiv_eq_ediv_of_nonneg _ (Int.pow_nonneg (by decide))]; rfl)
theorem le4_eq (y : Int) : le4R (IntKind.wrap .u32 y) = le4 (IntKind.wrap .u32 y) := by
 rw [wrapU32]
 generalize hx : y % 4294967296 = x
 have h1 : 0 ≤ x := by omega
 have h2 : x < 4294967296 := by omega
 have d1 : dw x 1 = x / 256 := quo32 h1 h2
 have d2 : dw x 2 = x / 256 / 256 := by show quoA .u32 (dw x 1) 256 = _; rw [d1, quo32 (by omega) (by omega)]
 have d3 : dw x 3 = x / 256 / 256 / 256 := by show quoA .u32 (dw x 2) 256 = _; rw [d2, quo32 (by omega) (by omega)]
 have rm : ∀ y : Int, 0 ≤ y → IntKind.wrap .u8 (remA .u32 y 256) = y % 256 := fun y hy => by
  unfold remA
  rw [Int.tmod_eq_emod_of_nonneg hy, wrapU8]
  omega
 obtain ⟨s1, s2, s3⟩ := shr32k h1
 unfold le4R le4
 rw [d1, d2, d3, show dw x 0 = x from rfl, rm x h1, rm _ (by omega), rm _ (by omega), rm _ (by omega), s1, s2, s3, wrapU8, wrapU8, wrapU8, wrapU8]
 congr 1
 congr 1
 congr 1
 ·omega
 ·congr 1
  omega
theorem p63e {R : Type} (size : Int) (T : ByteArray) (h1 : 1 ≤ size) (h2 : size ≤ 64) (hb : (strList T).length ≤ 2000) (κ) :
  p_63 (R := R) 1301 ((ivF, size, ⟨#[]⟩, T, ()), ()) κ = κ (sumF 0 size (strList T)) := p63 size ⟨#[]⟩ T h1 h2 (by show 0 ≤ 64; omega) hb κ
theorem l40 (size : Int) : ∀ (n : Nat) (s : ByteArray) (o : ByteArray), (strList s).length ≤ 64 → 33 ≤ size - ((strList o).length : Int) → size - ((strList o).length : Int) ≤ 32 + 32 * (n : Int) → size ≤ 70000 →
  ∃ o', strList o' = (longGo size n s (strList o)).2 ∧ ∀ {R : Type} (κ), l_40_6 (R := R) 1301 n ((size, (), s, o, ()), (ivF, ())) κ = κ ((size, (), (longGo size n s (strList o)).1, o', ()), (ivF, ()))
 | 0, s, o, h1, h2, h3, h4 => by omega
 | n + 1, s, o, h1, h2, h3, h4 => by
  have hl : (strList (sumF 0 64 (strList s))).length = 64 := sum_len 0 64 (strList s) (by decide) (by decide)
  have hz := strList_size (sumF 0 64 (strList s))
  have hzo := strList_size o
  by_cases h : size - ((strList o).length : Int) > 64
  ·have ex : strList ((sumF 0 64 (strList s)).extract 0 32) = (strList (sumF 0 64 (strList s))).take 32 := by rw [strList_ext]; rfl
   have hzx := strList_size ((sumF 0 64 (strList s)).extract 0 32)
   have eo : strList (o ++ (sumF 0 64 (strList s)).extract 0 32) = strList o ++ (strList (sumF 0 64 (strList s))).take 32 := by rw [strList_app, ex]
   have ho : (strList (o ++ (sumF 0 64 (strList s)).extract 0 32)).length = (strList o).length + 32 := by rw [eo, List.length_append, List.length_take]; omega
   rw [ex, List.length_take] at hzx
   obtain ⟨o', q1, q2⟩ := l40 size n (sumF 0 64 (strList s)) (o ++ (sumF 0 64 (strList s)).extract 0 32) (by omega) (by rw [ho]; omega) (by rw [ho]; omega) h4
   rw [eo] at q1 q2
   refine ⟨o', ?_, fun κ => ?_⟩
   ·rw [q1, longGo, if_pos h]
   ·rw [longGo, if_pos h]
    refine Eq.trans ?_ (q2 κ)
    show B_40_6 1301 (fun y => l_40_6 1301 n y κ) _ κ = _
    unfold B_40_6 C_40_6
    try dsimp only
    rw [hzo, sub64 (by omega) (by omega), bif_t (dT h), p63e 64 s (by decide) (by decide) (by omega)]
    try dsimp only
    rw [bif_t (dT (show (32 : Int) ≤ (((sumF 0 64 (strList s)).size : Nat) : Int) by omega)), bif_t (dT (show (strList o).length + ((sumF 0 64 (strList s)).extract 0 32).size ≤ maxI64 by unfold maxI64; omega))]
  ·refine ⟨o, ?_, fun κ => ?_⟩
   ·rw [longGo, if_neg h]
   ·rw [longGo, if_neg h]
    show B_40_6 1301 (fun y => l_40_6 1301 n y κ) _ κ = _
    unfold B_40_6 C_40_6
    try dsimp only
    rw [hzo, sub64 (by omega) (by omega), bif_f (dF h)]
theorem p40 (size : Int) (T : ByteArray) (h1 : 1 ≤ size) (h2 : size ≤ 32032) (hb : (strList T).length ≤ 1500) :
  ∃ B, strList B = longF size (strList T) ∧ ∀ {R : Type} (κ), p_40 (R := R) 1301 ((ivF, size, T, ()), ()) κ = κ B := by
 obtain ⟨m1, m2, m3, m4⟩ := min64 h1
 have e4 := le4_len (IntKind.wrap .u32 size)
 have es : strList (listStr (le4 (IntKind.wrap .u32 size)) ++ T) = le4 (IntKind.wrap .u32 size) ++ strList T := by rw [strList_app, le4_str]
 have hz4 := strList_size (listStr (le4 (IntKind.wrap .u32 size)))
 have hzT := strList_size T
 rw [le4_str] at hz4
 by_cases h : size ≤ 64
 ·refine ⟨longS size (strList T), by unfold longF; rw [if_pos h], fun κ => ?_⟩
  unfold p_40 Q_40
  try dsimp only
  rw [p38, le4_eq]
  try dsimp only
  rw [bif_t (dT (show (listStr (le4 (IntKind.wrap .u32 size))).size + T.size ≤ maxI64 by unfold maxI64; omega)), bif_t (dT h), p63e size _ h1 h (by rw [es, List.length_append]; omega), es]
  unfold longS
  rw [m3 h]
 ·obtain ⟨q0, q1, q2, q3⟩ := longR_spec (size := size) (by omega) h2 (strList T)
  have eS : sumF 0 64 (le4 (IntKind.wrap .u32 size) ++ strList T) = longS size (strList T) := by unfold longS; rw [m4 (by omega)]
  have ex : strList ((longS size (strList T)).extract 0 32) = (strList (longS size (strList T))).take 32 := by rw [strList_ext]; rfl
  have ht : ((strList (longS size (strList T))).take 32).length = 32 := by rw [List.length_take]; omega
  have hz := strList_size (longS size (strList T))
  obtain ⟨o', g1, g2⟩ := l40 size 1301 (longS size (strList T)) ((longS size (strList T)).extract 0 32) (by omega) (by rw [ex, ht]; omega) (by rw [ex, ht]; omega) (by omega)
  have g1 : strList o' = (longR size (strList T)).2 := by rw [g1, ex]; rfl
  have hzo := strList_size o'
  have hsl := sum_len 0 (size - ((longR size (strList T)).2.length : Int)) (strList (longR size (strList T)).1) (by omega) q3
  have hzs := strList_size (sumF 0 (size - ((longR size (strList T)).2.length : Int)) (strList (longR size (strList T)).1))
  rw [g1] at hzo
  refine ⟨o' ++ sumF 0 (size - ((longR size (strList T)).2.length : Int)) (strList (longR size (strList T)).1), ?_, fun κ => ?_⟩
  ·rw [strList_app, g1]
   unfold longF
   rw [if_neg h]
  ·unfold p_40 Q_40
   try dsimp only
   rw [p38, le4_eq]
   try dsimp only
   rw [bif_t (dT (show (listStr (le4 (IntKind.wrap .u32 size))).size + T.size ≤ maxI64 by unfold maxI64; omega)), bif_f (dF h), p63e 64 _ (by decide) (by decide) (by rw [es, List.length_append]; omega), es, eS]
   try dsimp only
   rw [bif_t (dT (show (32 : Int) ≤ (((longS size (strList T)).size : Nat) : Int) by omega)), g2]
   try dsimp only
   rw [ex, show longGo size 1301 (longS size (strList T)) (List.take 32 (strList (longS size (strList T)))) = longR size (strList T) from rfl, hzo, sub64 (by omega) (by omega), p63e _ _ (by omega) q3 (by omega)]
   try dsimp only
   rw [bif_t (dT (show (longR size (strList T)).2.length + (sumF 0 (size - ((longR size (strList T)).2.length : Int)) (strList (longR size (strList T)).1)).size ≤ maxI64 by unfold maxI64; omega))]
theorem p10 {R : Type} (κ : Bl → Option R) : p_10 1301 ((), ()) κ = κ ivF := by kernel_rfl
end Bk
def Fit (a t m l s : Int) : Prop := (1 ≤ a ∧ a ≤ 3) ∧ (1 ≤ t ∧ t ≤ 4294967295) ∧ (1 ≤ l ∧ l ≤ 16777215) ∧ (1 ≤ m ∧ m ≤ 4294967295) ∧ l ≤ m / 8 ∧ 4 ≤ s ∧ s ≤ 1024
instance (a t m l s : Int) : Decidable (Fit a t m l s) := by unfold Fit; exact inferInstance
theorem p50 {R : Type} (N : Nat) (a b c : Int) (κ) : p_50 (R := R) N ((a, b, c, ()), ()) κ = κ (decide (b ≤ a ∧ a ≤ c)) := by
 unfold p_50 Q_50
 dsimp only
 by_cases h1 : b ≤ a
 ·by_cases h2 : a ≤ c <;> simp [h1, h2]
 ·simp [h1]
theorem p51 {R : Type} (N : Nat) (a b : Int) (h1 : 0 ≤ a) (h2 : a ≤ 4611686018427387904) (h3 : 1 ≤ b) (κ) : p_51 (R := R) N ((a, b, ()), ()) κ = κ (a - a % b, (0, ())) := by
 unfold p_51 Q_51 p_75 Q_75
 dsimp only
 have e1 : 0 ≤ a % b := Int.emod_nonneg a (by omega)
 have e2 : a % b ≤ a := mod_le h1 (by omega)
 rw [rem64 h1, sub64 (by omega) (by omega)]
 simp [h1, h2, show ¬ b < 1 by omega, show ¬ b = 0 by omega]
theorem p26 {R : Type} (N : Nat) (a t m l s : Int) (κ) : p_26 (R := R) N (((a, (t, (m, (l, (s, ()))))), ()), ()) κ =
  (bif decide (Fit a t m l s) then κ ((a, (t, (l, (m, (4 * l * (m / (4 * l)), (4 * (m / (4 * l)), (m / (4 * l), (s, ())))))))), (0, ())) else κ ((0, (0, (0, (0, (0, (0, (0, (0, ())))))))), (2, ()))) := by
 by_cases h : Fit a t m l s
 ·obtain ⟨⟨h1, h2⟩, ⟨h3, h4⟩, ⟨h5, h6⟩, ⟨h7, h8⟩, h9, h10, h11⟩ := id h
  unfold p_26 Q_26
  dsimp only
  have e1 : quoA .i64 m 8 = m / 8 := quo64 (by omega) (by omega) (by omega)
  have e2 : mulA .i64 4 l = 4 * l := mul64 (by omega) (by omega)
  have e3 : m - m % (4 * l) = 4 * l * (m / (4 * l)) := by have := Int.mul_ediv_add_emod m (4 * l); omega
  have q0 : 0 ≤ m / (4 * l) := Int.ediv_nonneg (by omega) (by omega)
  have q1 : 0 ≤ m % (4 * l) := Int.emod_nonneg _ (by omega)
  have e4 : quoA .i64 (4 * l * (m / (4 * l))) l = 4 * (m / (4 * l)) := by
   rw [quo64 (by rw [← e3]; have := mod_le (b := 4 * l) (show 0 ≤ m by omega) (by omega); omega) (by omega) (by omega)]
   rw [show 4 * l * (m / (4 * l)) = l * (4 * (m / (4 * l))) by rw [Int.mul_comm 4 l, Int.mul_assoc]]
   exact Int.mul_ediv_cancel_left _ (by omega)
  have q2 : m / (4 * l) ≤ m := Int.ediv_le_self _ (by omega)
  have e5 : quoA .i64 (4 * (m / (4 * l))) 4 = m / (4 * l) := by
   rw [quo64 (by omega) (by omega) (by omega)]
   exact Int.mul_ediv_cancel_left _ (by omega)
  simp only [p50, e1, e2]
  rw [p51 N m (4 * l) (by omega) (by omega) (by omega)]
  simp only [e3, e4, e5]
  simp [h, h1, h2, h3, h4, h5, h6, h7, h8, h9, h10, h11, show ¬ l = 0 by omega]
 ·rw [dF h]
  unfold p_26 Q_26
  dsimp only
  simp only [p50, cond_false]
  by_cases g1 : 1 ≤ a ∧ a ≤ 3
  ·rw [dT g1]
   by_cases g2 : 1 ≤ t ∧ t ≤ 4294967295
   ·rw [dT g2]
    by_cases g3 : 1 ≤ l ∧ l ≤ 16777215
    ·rw [dT g3]
     by_cases g4 : 1 ≤ m ∧ m ≤ 4294967295
     ·rw [dT g4, quo64 (by omega) (by omega) (by omega)]
      by_cases g5 : m / 8 ≥ l
      ·rw [dT g5]
       by_cases g6 : 4 ≤ s ∧ s ≤ 1024
       ·exact absurd ⟨g1, g2, g3, g4, g5, g6⟩ h
       ·rw [dF g6]; rfl
      ·rw [dF g5]; rfl
     ·rw [dF g4]; rfl
    ·rw [dF g3]; rfl
   ·rw [dF g2]; rfl
  ·rw [dF g1]; rfl
def W (x : Int) : Prop := 0 ≤ x ∧ x < 18446744073709551616
theorem W_wrap (x : Int) : W (IntKind.wrap .u64 x) := by rw [wrapU64]; unfold W; omega
theorem W_xor (a b : Int) : W (xorA .u64 a b) := W_wrap _
theorem W_or (a b : Int) : W (orA .u64 a b) := W_wrap _
theorem W_add (a b : Int) : W (addA .u64 a b) := W_wrap _
theorem W_zero : W 0 := by unfold W; omega
theorem xor_comm (a b : Int) : xorA .u64 a b = xorA .u64 b a := by unfold xorA; rw [BitVec.xor_comm]
theorem xor_assoc (a b c : Int) (ha : W a) (hb : W b) (hc : W c) : xorA .u64 (xorA .u64 a b) c = xorA .u64 a (xorA .u64 b c) := by
 have key : ∀ x : BitVec 64, BitVec.ofInt 64 (IntKind.wrap .u64 (x.toNat : Int)) = x := by
  intro x
  rw [wrapU64]
  apply BitVec.eq_of_toNat_eq
  rw [BitVec.toNat_ofInt]
  have := x.isLt
  omega
 unfold xorA
 show IntKind.wrap .u64 (((BitVec.ofInt 64 (IntKind.wrap .u64 ((BitVec.ofInt 64 a ^^^ BitVec.ofInt 64 b).toNat : Int))) ^^^ BitVec.ofInt 64 c).toNat : Int) = IntKind.wrap .u64 ((BitVec.ofInt 64 a ^^^ BitVec.ofInt 64 (IntKind.wrap .u64 ((BitVec.ofInt 64 b ^^^ BitVec.ofInt 64 c).toNat : Int))).toNat : Int)
 rw [key, key, BitVec.xor_assoc]
theorem zero_xor {a : Int} (h : W a) : xorA .u64 0 a = a := by
 unfold xorA
 rw [wrapU64, BitVec.toNat_xor]
 have q1 : (BitVec.ofInt IntKind.u64.bits a).toNat = a.toNat := by
  show (BitVec.ofInt 64 a).toNat = a.toNat
  rw [BitVec.toNat_ofInt]; have := h.1; have := h.2; omega
 have q2 : (BitVec.ofInt IntKind.u64.bits 0).toNat = 0 := by decide
 rw [q1, q2, Nat.zero_xor]
 have := h.1
 have := h.2
 omega
theorem upd_same {α : Type} (f : Nat → α) (i : Nat) (x : α) : upd f i x i = x := by simp [upd]
theorem upd_other {α : Type} (f : Nat → α) {i j : Nat} (x : α) (h : j ≠ i) : upd f i x j = f j := by
 show (bif Nat.beq j i then x else f j) = f j
 cases hq : Nat.beq j i with
 | false => rfl
 | true => exact absurd (Nat.eq_of_beq_eq_true hq) h
theorem upd_if {α : Type} (f : Nat → α) (i j : Nat) (x : α) : upd f i x j = if j = i then x else f j := by
 by_cases h : j = i
 ·subst h; rw [upd_same, if_pos rfl]
 ·rw [upd_other f x h, if_neg h]
abbrev Bl := Nat → Int
def nulB : Bl := fun _ => 0
def xorFrom (k : Nat) (o b : Bl) : Bl := fun j => if k ≤ j ∧ j < 128 then xorA .u64 (o j) (b j) else o j
def xorL (l : List Bl) : Bl := l.foldl (xorFrom 0) nulB
theorem l88i {R : Type} (N : Nat) (l : List Bl) (u v : Int) (b z : Bl) (κ) : ∀ (n m k : Nat) (o : Bl), k + m = 128 → m < n →
  l_88_6 (R := R) N n (((), (), l, u, v, b, (k : Int), ()), (z, o, ())) κ = κ (((), (), l, u, v, ()), (z, xorFrom k o b, ()))
 | 0, m, k, o, h1, h2 => by omega
 | n + 1, m, k, o, h1, h2 => by
  unfold l_88_6 B_88_6 C_88_6
  try dsimp only
  by_cases hk : k < 128
  ·have e3 : addA .i64 (k : Int) 1 = ((k + 1 : Nat) : Int) := by rw [add64 (by omega) (by omega)]; simp
   rw [bif_t (dT (show (k : Int) < 128 by omega)), bif_t (dT (show (0 : Int) ≤ (k : Int) by omega)), bif_t (dT (show (k : Int) < 128 by omega)), bif_t (dT (show (0 : Int) ≤ (k : Int) by omega)), bif_t (dT (show (k : Int) < 128 by omega)), bif_t (dT (show (0 : Int) ≤ (k : Int) by omega)), bif_t (dT (show (k : Int) < 128 by omega)), e3, Int.toNat_natCast]
   rw [l88i N l u v b z κ n (m - 1) (k + 1) _ (by omega) (by omega)]
   congr 4
   funext j
   unfold xorFrom
   by_cases hj : j = k
   ·subst hj; rw [if_neg (by omega), if_pos ⟨by omega, hk⟩, upd_same]
   ·rw [upd_other _ _ hj]
    by_cases h3 : k + 1 ≤ j ∧ j < 128
    ·rw [if_pos h3, if_pos ⟨by omega, h3.2⟩]
    ·rw [if_neg h3, if_neg (by omega)]
  ·rw [bif_f (dF (show ¬ (k : Int) < 128 by omega))]
   have e : xorFrom k o b = o := by funext j; unfold xorFrom; rw [if_neg (by omega)]
   rw [e]
theorem l88o {R : Type} (N : Nat) (hN : 1300 < N) (l : List Bl) (hl : l.length ≤ 1300) (z : Bl) (κ) : ∀ (n i : Nat) (o : Bl), i ≤ l.length → l.length - i < n →
  l_88_3 (R := R) N n (((), (), l, (l.length : Int), (i : Int), ()), (z, o, ())) κ = κ (((), (), ()), (z, (l.drop i).foldl (xorFrom 0) o, ()))
 | 0, i, o, h1, h2 => by omega
 | n + 1, i, o, h1, h2 => by
  unfold l_88_3 B_88_3 C_88_3
  try dsimp only
  by_cases hi : i < l.length
  ·have hd : l.drop i = l[i] :: l.drop (i + 1) := List.drop_eq_getElem_cons hi
   have hg : List.getD l i (Sch.zero (.arr 128 (.int .u64))) = l[i] := by simp [hi]
   have e3 : addA .i64 (i : Int) 1 = ((i + 1 : Nat) : Int) := by rw [add64 (by omega) (by omega)]; simp
   rw [bif_t (dT (show (i : Int) < (l.length : Int) by omega)), bif_t (dT (show (0 : Int) ≤ (i : Int) by omega)), bif_t (dT (show (i : Int) < (l.length : Int) by omega)), Int.toNat_natCast, hg, hd]
   refine (l88i N l (l.length : Int) (i : Int) l[i] z _ N 128 0 o (by omega) (by omega)).trans ?_
   try dsimp only
   rw [e3]
   exact l88o N hN l hl z κ n (i + 1) _ (by omega) (by omega)
  ·rw [bif_f (dF (by omega)), List.drop_eq_nil_of_le (by omega)]
   rfl
theorem p88 {R : Type} (N : Nat) (hN : 1300 < N) (l : List Bl) (hl : l.length ≤ 1300) (κ) : p_88 (R := R) N ((l, ()), ()) κ = κ (xorL l) := by
 unfold p_88 Q_88
 try dsimp only
 refine (l88o N hN l hl _ _ N 0 _ (by omega) (by omega)).trans ?_
 rfl
def WB (b : Bl) : Prop := ∀ j, j < 128 → W (b j)
def OutB (b : Bl) : Prop := ∀ j, 128 ≤ j → b j = 0
theorem foldl_out : ∀ (l : List Bl) (o : Bl), OutB o → OutB (l.foldl (xorFrom 0) o)
 | [], o, h => h
 | b :: l, o, h => foldl_out l _ fun j hj => by unfold xorFrom; rw [if_neg (by omega)]; exact h j hj
theorem foldl_W : ∀ (l : List Bl) (o : Bl), (∀ j, W (o j)) → ∀ j, W (l.foldl (xorFrom 0) o j)
 | [], o, h => h
 | b :: l, o, h => foldl_W l _ fun j => by unfold xorFrom; split; exact W_xor _ _; exact h j
theorem xorL_W (l : List Bl) (j : Nat) : W (xorL l j) := foldl_W l nulB (fun _ => W_zero) j
theorem xorL_out (l : List Bl) : OutB (xorL l) := foldl_out l nulB (fun _ _ => rfl)
theorem xorL_two (x y : Bl) (j : Nat) : xorL [x, y] j = if j < 128 then xorA .u64 (xorA .u64 0 (x j)) (y j) else 0 := by
 simp only [xorL, List.foldl_cons, List.foldl_nil, xorFrom, nulB]
 by_cases h : j < 128 <;> simp [h]
theorem schEq128 {x y : Bl} (h : ∀ j, j < 128 → x j = y j) : schEq (.arr 128 (.int .u64)) x y = true := by
 show (List.range 128).all (fun i => x i == y i) = true
 rw [List.all_eq_true]
 intro j hj
 rw [List.mem_range] at hj
 rw [h j hj]
 exact beq_self_eq_true _
def prodF (a b : Int) : Int := addA .u64 (addA .u64 a b) (mulA .u64 (mulA .u64 2 (IntKind.wrap .u64 (IntKind.wrap .u32 a))) (IntKind.wrap .u64 (IntKind.wrap .u32 b)))
def rotF (x n : Int) : Int := orA .u64 (shrA .u64 x n) (shlA .u64 x (64 - n))
abbrev Q4 := Int × (Int × (Int × (Int × Unit)))
def qF (a b c d : Int) : Q4 :=
 let a1 := prodF a b
 let d1 := rotF (xorA .u64 d a1) 32
 let c1 := prodF c d1
 let b1 := rotF (xorA .u64 b c1) 24
 let a2 := prodF a1 b1
 let d2 := rotF (xorA .u64 d1 a2) 16
 let c2 := prodF c1 d2
 let b2 := rotF (xorA .u64 b1 c2) 63
 (a2, (b2, (c2, (d2, ()))))
def stF (v : Bl) (i j k l : Nat) : Bl :=
 let q := qF (v i) (v j) (v k) (v l)
 upd (upd (upd (upd v i q.1) j q.2.1) k q.2.2.1) l q.2.2.2.1
def permF (v : Bl) : Bl := stF (stF (stF (stF (stF (stF (stF (stF v 0 4 8 12) 1 5 9 13) 2 6 10 14) 3 7 11 15) 0 5 10 15) 1 6 11 12) 2 7 8 13) 3 4 9 14
theorem p111 {R : Type} (N : Nat) (hN : N = 1301) (v : Bl) (κ) : p_111 (R := R) N ((v, ()), ()) κ = κ (permF v) := by subst hN; kernel_rfl
theorem qF_W (a b c d : Int) : W (qF a b c d).1 ∧ W (qF a b c d).2.1 ∧ W (qF a b c d).2.2.1 ∧ W (qF a b c d).2.2.2.1 := ⟨W_add _ _, W_or _ _, W_add _ _, W_or _ _⟩
theorem upd_W {v : Bl} (h : ∀ j, W (v j)) (i : Nat) {x : Int} (hx : W x) : ∀ j, W (upd v i x j) := fun j => by rw [upd_if]; split; exact hx; exact h j
theorem stF_W {v : Bl} (h : ∀ j, W (v j)) (i j k l : Nat) : ∀ m, W (stF v i j k l m) := by
 obtain ⟨q1, q2, q3, q4⟩ := qF_W (v i) (v j) (v k) (v l)
 exact upd_W (upd_W (upd_W (upd_W h i q1) j q2) k q3) l q4
theorem permF_W {v : Bl} (h : ∀ j, W (v j)) : ∀ m, W (permF v m) :=
 stF_W (stF_W (stF_W (stF_W (stF_W (stF_W (stF_W (stF_W h _ _ _ _) _ _ _ _) _ _ _ _) _ _ _ _) _ _ _ _) _ _ _ _) _ _ _ _) _ _ _ _
def gath (at_ b : Bl) : Nat → Nat → Bl → Bl
 | 0, _, v => v
 | n + 1, k, v => gath at_ b n (k + 1) (upd v k (b (at_ k).toNat))
def scat (at_ w : Bl) : Nat → Nat → Bl → Bl
 | 0, _, b => b
 | n + 1, k, b => scat at_ w n (k + 1) (upd b (at_ k).toNat (w k))
def chainA (f : Nat → Int) : Nat → Bl
 | 0 => nulB
 | n + 1 => upd (chainA f n) n (f n)
theorem chainA_get (f : Nat → Int) : ∀ (n k : Nat), k < n → chainA f n k = f k
 | n + 1, k, h => by
  show upd (chainA f n) n (f n) k = f k
  rw [upd_if]
  split
  ·subst k; rfl
  ·exact chainA_get f n k (by omega)
def atRow (i : Int) : Bl := chainA (fun k => addA .i64 (mulA .i64 16 i) (k : Int)) 16
def atCol (i : Int) : Bl := chainA (fun k => addA .i64 (addA .i64 (mulA .i64 2 i) (remA .i64 (k : Int) 2)) (mulA .i64 16 (quoA .i64 (k : Int) 2))) 16
def at_ (c : Bool) (i : Int) : Bl := bif c then atCol i else atRow i
theorem atRow_get {i : Int} (hi : 0 ≤ i ∧ i < 8) {k : Nat} (hk : k < 16) : atRow i k = 16 * i + k := by
 unfold atRow
 rw [chainA_get _ _ _ hk, mul64 (by omega) (by omega), add64 (by omega) (by omega)]
theorem atCol_get {i : Int} (hi : 0 ≤ i ∧ i < 8) {k : Nat} (hk : k < 16) : atCol i k = 2 * i + ((k % 2 : Nat) : Int) + 16 * ((k / 2 : Nat) : Int) := by
 unfold atCol
 rw [chainA_get _ _ _ hk, mul64 (a := 2) (by omega) (by omega), rem64 (by omega), quo64 (by omega) (by omega) (by omega), add64 (a := 2 * i) (by omega) (by omega), mul64 (a := 16) (by omega) (by omega), add64 (by omega) (by omega)]
 omega
theorem at_in (c : Bool) {i : Int} (hi : 0 ≤ i ∧ i < 8) {k : Nat} (hk : k < 16) : 0 ≤ at_ c i k ∧ at_ c i k < 128 := by
 cases c with
 | false => show 0 ≤ atRow i k ∧ atRow i k < 128; rw [atRow_get hi hk]; omega
 | true => show 0 ≤ atCol i k ∧ atCol i k < 128; rw [atCol_get hi hk]; omega
theorem p110 {R : Type} (N : Nat) (hN : N = 1301) (i : Int) (c : Bool) (κ) : p_110 (R := R) N ((i, c, ()), ()) κ = κ (at_ c i) := by
 subst hN
 cases c with
 | false => kernel_rfl
 | true => kernel_rfl
section
variable {R : Type} (N : Nat)
theorem l102g (b : Bool) (u v w : Int) (at_ : Bl) (hat : ∀ k, k < 16 → 0 ≤ at_ k ∧ at_ k < 128) (a a2 a3 : Bl) (l : List Bool) (κ) : ∀ (n m k : Nat) (o : Bl), k + m = 16 → m < n →
  l_102_10 (R := R) N n (((), (), b, (), (), (), u, v, w, at_, (k : Int), ()), (a, a2, a3, o, l, ())) κ = κ (((), (), b, (), (), (), u, v, w, ()), (a, a2, a3, gath at_ a m k o, l, ()))
 | 0, m, k, o, h1, h2 => by omega
 | n + 1, m, k, o, h1, h2 => by
  unfold l_102_10 B_102_10 C_102_10
  try dsimp only
  cases m with
  | zero => rw [bif_f (dF (show ¬ (k : Int) < 16 by omega))]; rfl
  | succ m =>
   have hk : k < 16 := by omega
   obtain ⟨g1, g2⟩ := hat k hk
   have e3 : addA .i64 (k : Int) 1 = ((k + 1 : Nat) : Int) := by rw [add64 (by omega) (by omega)]; simp
   rw [bif_t (dT (show (k : Int) < 16 by omega)), bif_t (dT (show (0 : Int) ≤ (k : Int) by omega)), bif_t (dT (show (k : Int) < 16 by omega)), Int.toNat_natCast, bif_t (dT g1), bif_t (dT g2), bif_t (dT (show (0 : Int) ≤ (k : Int) by omega)), bif_t (dT (show (k : Int) < 16 by omega)), e3]
   exact l102g b u v w at_ hat a a2 a3 l κ n m (k + 1) _ (by omega) (by omega)
theorem l102s (b : Bool) (u v w : Int) (at_ : Bl) (hat : ∀ k, k < 16 → 0 ≤ at_ k ∧ at_ k < 128) (a2 x : Bl) (l : List Bool) (κ) : ∀ (n m k : Nat) (a : Bl), k + m = 16 → m < n →
  l_102_16 (R := R) N n (((), (), b, (), (), u, v, w, at_, (k : Int), ()), (a, a2, x, l, ())) κ = κ (((), (), b, (), u, v, w, ()), (scat at_ x m k a, a2, l, ()))
 | 0, m, k, a, h1, h2 => by omega
 | n + 1, m, k, a, h1, h2 => by
  unfold l_102_16 B_102_16 C_102_16
  try dsimp only
  cases m with
  | zero => rw [bif_f (dF (show ¬ (k : Int) < 16 by omega))]; rfl
  | succ m =>
   have hk : k < 16 := by omega
   obtain ⟨g1, g2⟩ := hat k hk
   have e3 : addA .i64 (k : Int) 1 = ((k + 1 : Nat) : Int) := by rw [add64 (by omega) (by omega)]; simp
   rw [bif_t (dT (show (k : Int) < 16 by omega)), bif_t (dT (show (0 : Int) ≤ (k : Int) by omega)), bif_t (dT (show (k : Int) < 16 by omega)), Int.toNat_natCast, bif_t (dT (show (0 : Int) ≤ (k : Int) by omega)), bif_t (dT (show (k : Int) < 16 by omega)), bif_t (dT g1), bif_t (dT g2), e3]
   exact l102s b u v w at_ hat a2 x l κ n m (k + 1) _ (by omega) (by omega)
end
def wStep (c : Bool) (i : Int) (a : Bl) : Bl := scat (at_ c i) (permF (gath (at_ c i) a 16 0 nulB)) 16 0 a
def wRun (c : Bool) : Nat → Nat → Bl → Bl
 | 0, _, a => a
 | n + 1, i, a => wRun c n (i + 1) (wStep c (i : Int) a)
def wholeF (a : Bl) : Bl := wRun true 8 0 (wRun false 8 0 a)
theorem l102i {R : Type} (N : Nat) (hN : N = 1301) (c : Bool) (u v : Int) (a2 : Bl) (l : List Bool) (κ) : ∀ (n m i : Nat) (a : Bl), i + m = 8 → m < n →
  l_102_5 (R := R) N n (((), (), c, (), u, v, (i : Int), ()), (a, a2, l, ())) κ = κ (((), (), (), u, v, ()), (wRun c m i a, a2, l, ()))
 | 0, m, i, a, h1, h2 => by omega
 | n + 1, m, i, a, h1, h2 => by
  unfold l_102_5 B_102_5 C_102_5
  try dsimp only
  cases m with
  | zero => rw [bif_f (dF (show ¬ (i : Int) < 8 by omega))]; rfl
  | succ m =>
   have hi : (0 : Int) ≤ (i : Int) ∧ (i : Int) < 8 := by omega
   have e3 : addA .i64 (i : Int) 1 = ((i + 1 : Nat) : Int) := by rw [add64 (by omega) (by omega)]; simp
   rw [bif_t (dT (show (i : Int) < 8 by omega)), p110 N hN]
   refine (l102g N c u v (i : Int) (at_ c i) (fun k hk => at_in c hi hk) a a2 _ l _ N 16 0 _ (by omega) (by omega)).trans ?_
   try dsimp only
   rw [p111 N hN]
   refine (l102s N c u v (i : Int) (at_ c i) (fun k hk => at_in c hi hk) a2 _ l _ N 16 0 a (by omega) (by omega)).trans ?_
   try dsimp only
   rw [e3]
   exact l102i N hN c u v a2 l κ n m (i + 1) _ (by omega) (by omega)
theorem p102 {R : Type} (N : Nat) (hN : N = 1301) (a : Bl) (κ) : p_102 (R := R) N ((a, ()), ()) κ = κ (wholeF a) := by
 unfold p_102 Q_102
 try dsimp only
 have step : ∀ (n : Nat) (c : Bool) (i : Nat) (a a2 : Bl) (κ), i < 2 → [false, true].getD i false = c →
   l_102_2 (R := R) N (n + 1) (((), (), (), 2, (i : Int), ()), (a, a2, [false, true], ())) κ = l_102_2 N n (((), (), (), 2, ((i + 1 : Nat) : Int), ()), (wRun c 8 0 a, a2, [false, true], ())) κ := by
  intro n c i a a2 κ hi hc
  conv => lhs; unfold l_102_2 B_102_2 C_102_2
  try dsimp only [List.length_cons, List.length_nil]
  rw [bif_t (dT (by omega)), bif_t (dT (by omega)), bif_t (dT (by show (i : Int) < ((0 + 1 + 1 : Nat) : Int); omega)), Int.toNat_natCast]
  show l_102_5 N N (((), (), [false, true].getD i false, (), 2, (i : Int), ((0 : Nat) : Int), ()), (a, a2, [false, true], ())) _ = _
  rw [hc]
  refine (l102i N hN c 2 (i : Int) a2 [false, true] _ N 8 0 a (by omega) (by omega)).trans ?_
  try dsimp only
  rw [show addA .i64 (i : Int) 1 = ((i + 1 : Nat) : Int) by rw [add64 (by omega) (by omega)]; simp]
 obtain ⟨n, rfl⟩ : ∃ n, N = n + 3 := ⟨N - 3, by omega⟩
 refine (step (n + 2) false 0 a _ _ (by omega) rfl).trans ?_
 refine (step (n + 1) true 1 _ _ _ (by omega) rfl).trans ?_
 rfl
def mixF (x y : Bl) : Bl := xorL [xorL [x, y], wholeF (xorL [x, y])]
theorem p89 {R : Type} (N : Nat) (hN : N = 1301) (x y : Bl) (κ) : p_89 (R := R) N ((x, y, ()), ()) κ = κ (mixF x y) := by
 unfold p_89 Q_89
 try dsimp only
 rw [p88 N (by omega) [x, y] (by simp)]
 try dsimp only
 rw [p102 N hN]
 try dsimp only
 rw [p88 N (by omega) _ (by simp)]
 rfl
theorem mixF_W (x y : Bl) (j : Nat) : W (mixF x y j) := xorL_W _ j
def prodR (a b : Int) : Int := addA .u64 (addA .u64 a b) (mulA .u64 (mulA .u64 2 (remA .u64 a 4294967296)) (remA .u64 b 4294967296))
def roundR (x lo hi : Int) : Int := addA .u64 (quoA .u64 x lo) (mulA .u64 (remA .u64 x lo) hi)
theorem prod_eq {a b : Int} (ha : W a) (hb : W b) : prodR a b = prodF a b := by
 unfold prodR prodF remA W at *
 rw [Int.tmod_eq_emod_of_nonneg ha.1, Int.tmod_eq_emod_of_nonneg hb.1, wrapU32, wrapU32, wrapU64 (a % 4294967296), wrapU64 (b % 4294967296), Int.emod_eq_of_lt (by omega) (by omega : a % 4294967296 < 18446744073709551616), Int.emod_eq_of_lt (by omega) (by omega : b % 4294967296 < 18446744073709551616)]
theorem or_disj {a b : Nat} {n : Nat} (ha : a < 2 ^ n) : a ||| (b * 2 ^ n) = b * 2 ^ n + a := by
 rw [Nat.or_comm, Nat.mul_comm b, Nat.two_pow_add_eq_or_of_lt ha]
theorem nat_mod {B : Nat} (h : B < 2 ^ 64) : ((B : Nat) : Int) % 18446744073709551616 = B := by omega
theorem rot_eq {x : Int} (hx : W x) (n m : Nat) (hnm : n + m = 64) (hn : 0 < n) (hm : 0 < m) : roundR x (2 ^ n) (2 ^ m) = rotF x n := by
 obtain ⟨h1, h2⟩ := hx
 obtain ⟨y, rfl⟩ := Int.eq_ofNat_of_zero_le h1
 have hy : y < 2 ^ 64 := by omega
 unfold roundR rotF quoA remA
 have pn : ((2 : Int) ^ n) = ((2 ^ n : Nat) : Int) := by simp
 have pm : ((2 : Int) ^ m) = ((2 ^ m : Nat) : Int) := by simp
 have e64 : 2 ^ n * 2 ^ m = 2 ^ 64 := by rw [← Nat.pow_add, hnm]
 have d1 : y / 2 ^ n < 2 ^ m := by rw [Nat.div_lt_iff_lt_mul (Nat.two_pow_pos n), Nat.mul_comm, e64]; exact hy
 have m1 : y % 2 ^ n < 2 ^ n := Nat.mod_lt _ (Nat.two_pow_pos n)
 have p1 : y % 2 ^ n * 2 ^ m + y / 2 ^ n < 2 ^ 64 := by
  have : (y % 2 ^ n + 1) * 2 ^ m ≤ 2 ^ n * 2 ^ m := Nat.mul_le_mul_right _ m1
  rw [Nat.add_mul, e64] at this
  omega
 have p2 : y % 2 ^ n * 2 ^ m < 2 ^ 64 := Nat.lt_of_le_of_lt (Nat.le_add_right _ _) p1
 have p3 : y / 2 ^ n < 2 ^ 64 := Nat.lt_of_le_of_lt (Nat.le_add_left _ _) p1
 rw [pn, pm, Int.tdiv_eq_ediv_of_nonneg (by omega), Int.tmod_eq_emod_of_nonneg (by omega)]
 have e1 : ((y : Int) / ((2 ^ n : Nat) : Int)) = ((y / 2 ^ n : Nat) : Int) := by simp
 have e2 : ((y : Int) % ((2 ^ n : Nat) : Int)) = ((y % 2 ^ n : Nat) : Int) := by simp
 rw [e1, e2]
 have w1 : IntKind.wrap .u64 ((y / 2 ^ n : Nat) : Int) = ((y / 2 ^ n : Nat) : Int) := by rw [wrapU64, nat_mod p3]
 have q1 : mulA .u64 ((y % 2 ^ n : Nat) : Int) ((2 ^ m : Nat) : Int) = ((y % 2 ^ n * 2 ^ m : Nat) : Int) := by
  unfold mulA
  rw [wrapU64, ← Int.natCast_mul, nat_mod p2]
 rw [w1, q1]
 have l1 : addA .u64 ((y / 2 ^ n : Nat) : Int) ((y % 2 ^ n * 2 ^ m : Nat) : Int) = ((y % 2 ^ n * 2 ^ m + y / 2 ^ n : Nat) : Int) := by
  unfold addA
  rw [wrapU64, ← Int.natCast_add, Nat.add_comm, nat_mod p1]
 rw [l1]
 have s1 : shrA .u64 (y : Int) (n : Int) = ((y / 2 ^ n : Nat) : Int) := by
  rw [shrU64 (by omega) (by omega), pn, e1]
 have s2 : shlA .u64 (y : Int) (64 - (n : Int)) = ((y % 2 ^ n * 2 ^ m : Nat) : Int) := by
  unfold shlA
  have : (64 - (n : Int)).toNat = m := by omega
  rw [this, show min m IntKind.u64.bits = m from Nat.min_eq_left (by show m ≤ 64; omega), pm, wrapU64, ← Int.natCast_mul]
  have : y * 2 ^ m % 2 ^ 64 = y % 2 ^ n * 2 ^ m := by
   rw [← e64, Nat.mul_mod_mul_right]
  rw [← this]
  omega
 rw [s1, s2]
 unfold orA
 rw [wrapU64, BitVec.toNat_or]
 have b1 : (BitVec.ofInt IntKind.u64.bits ((y / 2 ^ n : Nat) : Int)).toNat = y / 2 ^ n := by
  show (BitVec.ofInt 64 _).toNat = _
  rw [BitVec.toNat_ofInt]; show (((y / 2 ^ n : Nat) : Int) % 18446744073709551616).toNat = _; rw [nat_mod p3]; rfl
 have b2 : (BitVec.ofInt IntKind.u64.bits ((y % 2 ^ n * 2 ^ m : Nat) : Int)).toNat = y % 2 ^ n * 2 ^ m := by
  show (BitVec.ofInt 64 _).toNat = _
  rw [BitVec.toNat_ofInt]; show (((y % 2 ^ n * 2 ^ m : Nat) : Int) % 18446744073709551616).toNat = _; rw [nat_mod p2]; rfl
 rw [b1, b2, or_disj d1, nat_mod p1]
theorem W_rot (x n : Int) : W (rotF x n) := W_or _ _
theorem W_prod (a b : Int) : W (prodF a b) := W_add _ _
def qR (q : Bl) : Bl :=
 let q1 := upd q 0 (prodR (q 0) (q 1))
 let q2 := upd q1 3 (roundR (xorA .u64 (q1 3) (q1 0)) 4294967296 4294967296)
 let q3 := upd q2 2 (prodR (q2 2) (q2 3))
 let q4 := upd q3 1 (roundR (xorA .u64 (q3 1) (q3 2)) 16777216 1099511627776)
 let q5 := upd q4 0 (prodR (q4 0) (q4 1))
 let q6 := upd q5 3 (roundR (xorA .u64 (q5 3) (q5 0)) 65536 281474976710656)
 let q7 := upd q6 2 (prodR (q6 2) (q6 3))
 upd q7 1 (roundR (xorA .u64 (q7 1) (q7 2)) 9223372036854775808 2)
theorem qR_eq (q : Bl) (h0 : W (q 0)) (h1 : W (q 1)) (h2 : W (q 2)) (h3 : W (q 3)) :
  qR q 0 = (qF (q 0) (q 1) (q 2) (q 3)).1 ∧ qR q 1 = (qF (q 0) (q 1) (q 2) (q 3)).2.1 ∧ qR q 2 = (qF (q 0) (q 1) (q 2) (q 3)).2.2.1 ∧ qR q 3 = (qF (q 0) (q 1) (q 2) (q 3)).2.2.2.1 := by
 have r1 : ∀ {x}, W x → roundR x 4294967296 4294967296 = rotF x 32 := fun h => rot_eq h 32 32 rfl (by omega) (by omega)
 have r2 : ∀ {x}, W x → roundR x 16777216 1099511627776 = rotF x 24 := fun h => rot_eq h 24 40 rfl (by omega) (by omega)
 have r3 : ∀ {x}, W x → roundR x 65536 281474976710656 = rotF x 16 := fun h => rot_eq h 16 48 rfl (by omega) (by omega)
 have r4 : ∀ {x}, W x → roundR x 9223372036854775808 2 = rotF x 63 := fun h => rot_eq h 63 1 rfl (by omega) (by omega)
 unfold qR qF
 simp only [upd_if]
 simp only [reduceIte, show ¬ (1 : Nat) = 0 by omega, show ¬ (2 : Nat) = 0 by omega, show ¬ (3 : Nat) = 0 by omega, show ¬ (0 : Nat) = 1 by omega, show ¬ (2 : Nat) = 1 by omega, show ¬ (3 : Nat) = 1 by omega, show ¬ (0 : Nat) = 2 by omega, show ¬ (1 : Nat) = 2 by omega, show ¬ (3 : Nat) = 2 by omega, show ¬ (0 : Nat) = 3 by omega, show ¬ (1 : Nat) = 3 by omega, show ¬ (2 : Nat) = 3 by omega, if_false]
 simp only [r1 (W_xor _ _), r2 (W_xor _ _), r3 (W_xor _ _), r4 (W_xor _ _), prod_eq h0 h1, prod_eq h2 (W_rot _ _), prod_eq (W_prod _ _) (W_rot _ _), and_self]
def stR (v : Bl) (i j k l : Nat) : Bl :=
 let q := qR (upd (upd (upd (upd nulB 0 (v i)) 1 (v j)) 2 (v k)) 3 (v l))
 upd (upd (upd (upd v i (q 0)) j (q 1)) k (q 2)) l (q 3)
def permR (v : Bl) : Bl := stR (stR (stR (stR (stR (stR (stR (stR v 0 4 8 12) 1 5 9 13) 2 6 10 14) 3 7 11 15) 0 5 10 15) 1 6 11 12) 2 7 8 13) 3 4 9 14
theorem p98 {R : Type} (N : Nat) (hN : N = 1301) (v : Bl) (κ) : p_98 (R := R) N ((v, ()), ()) κ = κ (permR v) := by subst hN; kernel_rfl
theorem stR_eq {v : Bl} (h : ∀ j, W (v j)) (i j k l : Nat) : stR v i j k l = stF v i j k l := by
 unfold stR stF
 generalize hq : upd (upd (upd (upd nulB 0 (v i)) 1 (v j)) 2 (v k)) 3 (v l) = q
 have e0 : q 0 = v i := by subst hq; simp [upd_if]
 have e1 : q 1 = v j := by subst hq; simp [upd_if]
 have e2 : q 2 = v k := by subst hq; simp [upd_if]
 have e3 : q 3 = v l := by subst hq; simp [upd_if]
 obtain ⟨g0, g1, g2, g3⟩ := qR_eq q (e0 ▸ h i) (e1 ▸ h j) (e2 ▸ h k) (e3 ▸ h l)
 rw [e0, e1, e2, e3] at g0 g1 g2 g3
 simp only [g0, g1, g2, g3]
theorem permR_eq {v : Bl} (h : ∀ j, W (v j)) : permR v = permF v := by
 unfold permR permF
 have h1 := stF_W h 0 4 8 12
 have h2 := stF_W h1 1 5 9 13
 have h3 := stF_W h2 2 6 10 14
 have h4 := stF_W h3 3 7 11 15
 have h5 := stF_W h4 0 5 10 15
 have h6 := stF_W h5 1 6 11 12
 have h7 := stF_W h6 2 7 8 13
 rw [stR_eq h, stR_eq h1, stR_eq h2, stR_eq h3, stR_eq h4, stR_eq h5, stR_eq h6, stR_eq h7]
theorem foldl_at (j : Nat) (hj : j < 128) : ∀ (l : List Bl) (o : Bl), l.foldl (xorFrom 0) o j = l.foldl (fun a b => xorA .u64 a (b j)) (o j)
 | [], o => rfl
 | b :: l, o => by
  show l.foldl (xorFrom 0) (xorFrom 0 o b) j = l.foldl _ (xorA .u64 (o j) (b j))
  rw [foldl_at j hj l]
  congr 1
  unfold xorFrom
  rw [if_pos ⟨Nat.zero_le _, hj⟩]
theorem l61i {R : Type} (N : Nat) (l : List Bl) (hl : l.length ≤ 1300) (w : Nat) (hw : w < 128) (z : Bl) (κ) : ∀ (n i : Nat) (o : Bl), i ≤ l.length → l.length - i < n →
  l_61_6 (R := R) N n ((l, (), (), (w : Int), (i : Int), ()), (z, o, ())) κ = κ ((l, (), (), (w : Int), ()), (z, upd o w ((l.drop i).foldl (fun a b => xorA .u64 a (b w)) (o w)), ()))
 | 0, i, o, h1, h2 => by omega
 | n + 1, i, o, h1, h2 => by
  unfold l_61_6 B_61_6 C_61_6
  try dsimp only
  by_cases hi : i < l.length
  ·have hd : l.drop i = l[i] :: l.drop (i + 1) := List.drop_eq_getElem_cons hi
   have hg : List.getD l i (Sch.zero (.arr 128 (.int .u64))) = l[i] := by simp [hi]
   have e3 : addA .i64 (i : Int) 1 = ((i + 1 : Nat) : Int) := by rw [add64 (by omega) (by omega)]; simp
   have w1 : decide ((0 : Int) ≤ (w : Int)) = true := dT (by omega)
   have w2 : decide ((w : Int) < 128) = true := dT (by omega)
   rw [bif_t (dT (show (i : Int) < (l.length : Int) by omega)), bif_t w1, bif_t w2, bif_t (dT (show (0 : Int) ≤ (i : Int) by omega)), bif_t (dT (show (i : Int) < (l.length : Int) by omega)), bif_t w1, bif_t w2, bif_t w1, bif_t w2, Int.toNat_natCast, Int.toNat_natCast, hg, hd, e3]
   refine (l61i N l hl w hw z κ n (i + 1) _ (by omega) (by omega)).trans ?_
   have uu : ∀ (p q : Int), upd (upd o w p) w q = upd o w q := by
    intro p q
    funext j
    by_cases hj : j = w
    ·subst hj; rw [upd_same, upd_same]
    ·rw [upd_other _ _ hj, upd_other _ _ hj, upd_other _ _ hj]
   rw [upd_same, uu]
   rfl
  ·rw [bif_f (dF (by omega)), List.drop_eq_nil_of_le (by omega)]
   have e : upd o w ((([] : List Bl)).foldl (fun a b => xorA .u64 a (b w)) (o w)) = o := by
    funext j; rw [upd_if]; split
    ·subst j; rfl
    ·rfl
   rw [e]
theorem l61o {R : Type} (N : Nat) (hN : 1301 ≤ N) (l : List Bl) (hl : l.length ≤ 1300) (z : Bl) (κ) : ∀ (n m w : Nat) (o : Bl), w + m = 128 → m < n →
  l_61_3 (R := R) N n ((l, (), (), (w : Int), ()), (z, o, ())) κ = κ (((), (), ()), (z, (fun j => if w ≤ j ∧ j < 128 then l.foldl (fun a b => xorA .u64 a (b j)) (o j) else o j), ()))
 | 0, m, w, o, h1, h2 => by omega
 | n + 1, m, w, o, h1, h2 => by
  unfold l_61_3 B_61_3 C_61_3
  try dsimp only
  by_cases hw : w < 128
  ·have e3 : addA .i64 (w : Int) 1 = ((w + 1 : Nat) : Int) := by rw [add64 (by omega) (by omega)]; simp
   rw [bif_t (dT (show (w : Int) < 128 by omega))]
   refine (l61i N l hl w hw z _ N 0 o (by omega) (by omega)).trans ?_
   try dsimp only
   rw [e3, l61o N hN l hl z κ n (m - 1) (w + 1) _ (by omega) (by omega), List.drop_zero]
   congr 4
   funext j
   rw [upd_if]
   by_cases hj : j = w
   ·subst hj; rw [if_neg (by omega), if_pos rfl, if_pos ⟨by omega, hw⟩]
   ·rw [if_neg hj]
    by_cases h3 : w + 1 ≤ j ∧ j < 128
    ·rw [if_pos h3, if_pos ⟨by omega, h3.2⟩]
    ·rw [if_neg h3, if_neg (by omega)]
  ·rw [bif_f (dF (show ¬ (w : Int) < 128 by omega))]
   congr 4
   funext j
   rw [if_neg (by omega)]
theorem p61 {R : Type} (N : Nat) (hN : 1301 ≤ N) (l : List Bl) (hl : l.length ≤ 1300) (κ) : p_61 (R := R) N ((l, ()), ()) κ = κ (xorL l) := by
 unfold p_61 Q_61
 try dsimp only
 refine (l61o N hN l hl _ _ N 128 0 _ (by omega) (by omega)).trans ?_
 try dsimp only
 congr 1
 funext j
 by_cases hj : j < 128
 ·rw [if_pos ⟨by omega, hj⟩]
  unfold xorL
  rw [foldl_at j hj]
  rfl
 ·rw [if_neg (by omega), xorL_out l j (by omega)]
  rfl
def tI (c : Bool) : Int := bif c then 1 else 0
section
variable {R : Type} (N : Nat)
theorem idx_row (c : Bool) {i : Int} (hi : 0 ≤ i ∧ i < 8) {k : Nat} (hk : k < 16) :
  (c = true → addA .i64 (addA .i64 (mulA .i64 16 (quoA .i64 (k : Int) 2)) (mulA .i64 2 i)) (remA .i64 (k : Int) 2) = at_ c i k) ∧
  (c = false → addA .i64 (addA .i64 (mulA .i64 16 i) (mulA .i64 2 (quoA .i64 (k : Int) 2))) (remA .i64 (k : Int) 2) = at_ c i k) := by
 rw [quo64 (by omega) (by omega) (by omega), rem64 (by omega), mul64 (a := 16) (by omega) (by omega), mul64 (a := 2) (by omega) (by omega), mul64 (a := 16) (b := i) (by omega) (by omega), mul64 (a := 2) (by omega) (by omega), add64 (a := 16 * ((k : Int) / 2)) (by omega) (by omega), add64 (a := 16 * i) (by omega) (by omega), add64 (by omega) (by omega), add64 (by omega) (by omega)]
 constructor
 ·rintro rfl
  show _ = atCol i k
  rw [atCol_get hi hk]
  omega
 ·rintro rfl
  show _ = atRow i k
  rw [atRow_get hi hk]
  omega
theorem l84g (c : Bool) (i : Int) (hi : 0 ≤ i ∧ i < 8) (a a2 : Bl) (κ) : ∀ (n m k : Nat) (o : Bl), k + m = 16 → m < n →
  l_84_9 (R := R) N n (((), (), tI c, i, (), (k : Int), ()), (a, a2, o, ())) κ = κ (((), (), tI c, i, (), ()), (a, a2, gath (at_ c i) a m k o, ()))
 | 0, m, k, o, h1, h2 => by omega
 | n + 1, m, k, o, h1, h2 => by
  unfold l_84_9 B_84_9 C_84_9
  try dsimp only
  cases m with
  | zero => rw [bif_f (dF (show ¬ (k : Int) < 16 by omega))]; rfl
  | succ m =>
   have hk : k < 16 := by omega
   obtain ⟨x1, x2⟩ := idx_row c hi hk
   obtain ⟨g1, g2⟩ := at_in c hi hk
   have e3 : addA .i64 (k : Int) 1 = ((k + 1 : Nat) : Int) := by rw [add64 (by omega) (by omega)]; simp
   rw [bif_t (dT (show (k : Int) < 16 by omega)), e3, Int.toNat_natCast]
   cases c with
   | true =>
    rw [bif_t (show (tI true == 1) = true from rfl), x1 rfl, bif_t (dT g1), bif_t (dT g2), bif_t (dT (show (0 : Int) ≤ (k : Int) by omega)), bif_t (dT (show (k : Int) < 16 by omega))]
    exact l84g true i hi a a2 κ n m (k + 1) _ (by omega) (by omega)
   | false =>
    rw [bif_f (show (tI false == 1) = false from rfl), x2 rfl, bif_t (dT g1), bif_t (dT g2), bif_t (dT (show (0 : Int) ≤ (k : Int) by omega)), bif_t (dT (show (k : Int) < 16 by omega))]
    exact l84g false i hi a a2 κ n m (k + 1) _ (by omega) (by omega)
theorem l84s (c : Bool) (i : Int) (hi : 0 ≤ i ∧ i < 8) (a2 x : Bl) (κ) : ∀ (n m k : Nat) (a : Bl), k + m = 16 → m < n →
  l_84_19 (R := R) N n (((), (), tI c, i, (), (k : Int), ()), (a, a2, x, ())) κ = κ (((), (), tI c, i, ()), (scat (at_ c i) x m k a, a2, ()))
 | 0, m, k, a, h1, h2 => by omega
 | n + 1, m, k, a, h1, h2 => by
  unfold l_84_19 B_84_19 C_84_19
  try dsimp only
  cases m with
  | zero => rw [bif_f (dF (show ¬ (k : Int) < 16 by omega))]; rfl
  | succ m =>
   have hk : k < 16 := by omega
   obtain ⟨x1, x2⟩ := idx_row c hi hk
   obtain ⟨g1, g2⟩ := at_in c hi hk
   have e3 : addA .i64 (k : Int) 1 = ((k + 1 : Nat) : Int) := by rw [add64 (by omega) (by omega)]; simp
   rw [bif_t (dT (show (k : Int) < 16 by omega)), e3, Int.toNat_natCast]
   cases c with
   | true =>
    rw [bif_t (show (tI true == 1) = true from rfl), x1 rfl, bif_t (dT (show (0 : Int) ≤ (k : Int) by omega)), bif_t (dT (show (k : Int) < 16 by omega)), bif_t (dT g1), bif_t (dT g2)]
    exact l84s true i hi a2 x κ n m (k + 1) _ (by omega) (by omega)
   | false =>
    rw [bif_f (show (tI false == 1) = false from rfl), x2 rfl, bif_t (dT (show (0 : Int) ≤ (k : Int) by omega)), bif_t (dT (show (k : Int) < 16 by omega)), bif_t (dT g1), bif_t (dT g2)]
    exact l84s false i hi a2 x κ n m (k + 1) _ (by omega) (by omega)
end
theorem gath_W {c : Bool} {i : Int} (hi : 0 ≤ i ∧ i < 8) {a : Bl} (ha : WB a) : ∀ (n k : Nat) (v : Bl), k + n = 16 → (∀ j, W (v j)) → ∀ j, W (gath (at_ c i) a n k v j)
 | 0, k, v, h, hv => hv
 | n + 1, k, v, h, hv => by
  obtain ⟨g1, g2⟩ := at_in c hi (show k < 16 by omega)
  exact gath_W hi ha n (k + 1) _ (by omega) (upd_W hv k (ha _ (by omega)))
theorem scat_W {at_ w : Bl} (hw : ∀ j, W (w j)) : ∀ (n k : Nat) (a : Bl), WB a → WB (scat at_ w n k a)
 | 0, k, a, h => h
 | n + 1, k, a, h => scat_W hw n (k + 1) _ fun j hj => by
  rw [upd_if]; split
  ·exact hw k
  ·exact h j hj
theorem wStep_W {c : Bool} {i : Int} (hi : 0 ≤ i ∧ i < 8) {a : Bl} (ha : WB a) : WB (wStep c i a) := scat_W (permF_W (gath_W hi ha 16 0 nulB rfl (fun _ => W_zero))) 16 0 a ha
theorem wRun_W (c : Bool) : ∀ (n i : Nat) (a : Bl), i + n = 8 → WB a → WB (wRun c n i a)
 | 0, i, a, h, ha => ha
 | n + 1, i, a, h, ha => wRun_W c n (i + 1) _ (by omega) (wStep_W (by omega) ha)
theorem l84i {R : Type} (N : Nat) (hN : N = 1301) (c : Bool) (a2 : Bl) (κ) : ∀ (n m i : Nat) (a : Bl), i + m = 8 → m < n → WB a →
  l_84_5 (R := R) N n (((), (), tI c, (i : Int), ()), (a, a2, ())) κ = κ (((), (), tI c, ()), (wRun c m i a, a2, ()))
 | 0, m, i, a, h1, h2, ha => by omega
 | n + 1, m, i, a, h1, h2, ha => by
  unfold l_84_5 B_84_5 C_84_5
  try dsimp only
  cases m with
  | zero => rw [bif_f (dF (show ¬ (i : Int) < 8 by omega))]; rfl
  | succ m =>
   have hi : (0 : Int) ≤ (i : Int) ∧ (i : Int) < 8 := by omega
   have e3 : addA .i64 (i : Int) 1 = ((i + 1 : Nat) : Int) := by rw [add64 (by omega) (by omega)]; simp
   rw [bif_t (dT (show (i : Int) < 8 by omega))]
   refine (l84g N c (i : Int) hi a a2 _ N 16 0 _ (by omega) (by omega)).trans ?_
   try dsimp only
   rw [p98 N hN]
   refine (l84s N c (i : Int) hi a2 _ _ N 16 0 a (by omega) (by omega)).trans ?_
   try dsimp only
   rw [e3]
   have hp : permR (gath (at_ c (i : Int)) a 16 0 (Sch.zero (.arr 16 (.int .u64)))) = permF (gath (at_ c (i : Int)) a 16 0 nulB) := permR_eq (gath_W hi ha 16 0 nulB rfl (fun _ => W_zero))
   rw [hp]
   exact l84i N hN c a2 κ n m (i + 1) _ (by omega) (by omega) (wStep_W hi ha)
theorem p84 {R : Type} (N : Nat) (hN : N = 1301) (a : Bl) (ha : WB a) (κ) : p_84 (R := R) N ((a, ()), ()) κ = κ (wholeF a) := by
 unfold p_84 Q_84
 try dsimp only
 have step : ∀ (n : Nat) (c : Bool) (a a2 : Bl) (κ), WB a → l_84_2 (R := R) N (n + 1) (((), (), tI c, ()), (a, a2, ())) κ = l_84_2 N n (((), (), addA .i64 (tI c) 1, ()), (wRun c 8 0 a, a2, ())) κ := by
  intro n c a a2 κ ha
  conv => lhs; unfold l_84_2 B_84_2 C_84_2
  try dsimp only
  rw [bif_t (show decide (tI c < 2) = true by cases c <;> rfl)]
  exact (l84i N hN c a2 _ N 8 0 a (by omega) (by omega) ha).trans rfl
 obtain ⟨n, rfl⟩ : ∃ n, N = n + 3 := ⟨N - 3, by omega⟩
 refine (step (n + 2) false a _ _ ha).trans ?_
 refine (step (n + 1) true _ _ _ (wRun_W false 8 0 a rfl ha)).trans ?_
 rfl
theorem p60 {R : Type} (N : Nat) (hN : N = 1301) (x y : Bl) (κ) : p_60 (R := R) N ((x, y, ()), ()) κ = κ (mixF x y) := by
 unfold p_60 Q_60
 try dsimp only
 rw [p61 N (by omega) [x, y] (by simp)]
 try dsimp only
 rw [p84 N hN _ (fun j _ => xorL_W _ j)]
 try dsimp only
 rw [p61 N (by omega) _ (by simp)]
 rfl
theorem p91 {R : Type} (N : Nat) {x y : Int} (x1 : 0 ≤ x) (x2 : x < 18446744073709551616) (y1 : 0 ≤ y) (y2 : y < 18446744073709551616) (κ) : p_91 (R := R) N ((x, y, ()), ()) κ = κ (x * y / 18446744073709551616, (x * y % 18446744073709551616, ())) := by
 unfold p_91 Q_91
 dsimp only
 rw [high64 x1 x2 y1 y2]
 unfold mulA
 rw [wrapU64 (x * y)]
theorem or_zero64 {z : Int} (h1 : 0 ≤ z) (h2 : z < 18446744073709551616) : orA .u64 0 z = z := by
 unfold orA
 rw [wrapU64, BitVec.toNat_or]
 have q1 : (BitVec.ofInt IntKind.u64.bits z).toNat = z.toNat := by
  show (BitVec.ofInt 64 z).toNat = z.toNat
  rw [BitVec.toNat_ofInt]; omega
 have q2 : (BitVec.ofInt IntKind.u64.bits 0).toNat = 0 := by decide
 rw [q1, q2, Nat.zero_or]
 omega
def pickOf (area j : Int) : Int := area - 1 - area * (j * j / 4294967296) / 4294967296
theorem pick_in {area j : Int} (h1 : 1 ≤ area) (j1 : 0 ≤ j) (j2 : j < 4294967296) : 0 ≤ pickOf area j ∧ pickOf area j ≤ area - 1 := by
 unfold pickOf
 have b1 : j * j ≤ 4294967295 * 4294967295 := Int.mul_le_mul (by omega) (by omega) j1 (by omega)
 have b0 : 0 ≤ j * j := Int.mul_nonneg j1 j1
 generalize hx : j * j / 4294967296 = x
 have x0 : 0 ≤ x ∧ x ≤ 4294967295 := by omega
 have c0 : 0 ≤ area * x := Int.mul_nonneg (by omega) x0.1
 have c1 : area * x ≤ area * 4294967295 := Int.mul_le_mul_of_nonneg_left x0.2 (by omega)
 omega
theorem p74 {R : Type} (N : Nat) (area j : Int) (h2 : area ≤ 4294967296) (j1 : 0 ≤ j) (j2 : j < 4294967296) (κ) : p_74 (R := R) N ((area, j, ()), ()) κ = if area < 1 then κ 0 else κ (pickOf area j) := by
 unfold p_74 Q_74
 try dsimp only
 by_cases h1 : area < 1
 ·rw [bif_t (dT h1), if_pos h1]
 rw [bif_f (dF h1), if_neg h1, wrapU64, wrapU64, Int.emod_eq_of_lt j1 (by omega), Int.emod_eq_of_lt (by omega) (by omega)]
 have b1 : j * j ≤ 4294967295 * 4294967295 := Int.mul_le_mul (by omega) (by omega) j1 (by omega)
 have b0 : 0 ≤ j * j := Int.mul_nonneg j1 j1
 have pin := pick_in (area := area) (by omega) j1 j2
 unfold pickOf at *
 rw [mulU64 b0 (by omega), shr32 b0]
 generalize hx : j * j / 4294967296 = x at *
 have x0 : 0 ≤ x ∧ x ≤ 4294967295 := by omega
 rw [p91 N (by omega) (by omega) x0.1 (by omega)]
 have c0 : 0 ≤ area * x := Int.mul_nonneg (by omega) x0.1
 have c1 : area * x ≤ 4294967296 * 4294967295 := Int.mul_le_mul h2 x0.2 x0.1 (by omega)
 generalize area * x = z at *
 have e1 : z / 18446744073709551616 = 0 := by omega
 have e2 : z % 18446744073709551616 = z := by omega
 rw [e1, e2]
 try dsimp only
 rw [shr32 c0, show shlA .u64 0 32 = 0 from rfl, or_zero64 (by omega) (by omega), sub64 (a := area) (by omega) (by omega), wrap64 (by omega) (by omega), sub64 (by omega) (by omega)]
abbrev Shp8 := Int × (Int × (Int × (Int × (Int × (Int × (Int × (Int × Unit)))))))
def laneOf (pass slice lane j L : Int) : Int := if pass = 0 ∧ slice = 0 then lane else j % L
def doneOf (pass slice q : Int) : Int := if pass > 0 then 3 * q else slice * q
def areaOf (pass slice q index : Int) (own : Bool) : Int := if own = true then doneOf pass slice q + index - 1 else if index = 0 then doneOf pass slice q - 1 else doneOf pass slice q
def fromOf (pass slice q : Int) : Int := if pass = 0 ∨ slice = 3 then 0 else (slice + 1) * q
theorem p64 {R : Type} (N : Nat) (s : Shp8) (a b : Int) (κ) : p_64 (R := R) N ((s, a, b, ()), ()) κ = κ (if a = 0 ∧ b = 0 then 2 else 0) := by
 unfold p_64 Q_64
 try dsimp only
 by_cases h1 : a = 0
 ·by_cases h2 : b = 0
  ·simp [h1, h2]
  ·simp [h1, h2, show (b == 0) = false from beq_eq_false_iff_ne.2 h2]
 ·simp [h1, show (a == 0) = false from beq_eq_false_iff_ne.2 h1]
theorem p70 {R : Type} (N : Nat) (s0 t s2 s3 s4 s5 s6 s7 a b : Int) (ht : 1 ≤ t ∧ t ≤ 4294967295) (κ) : p_70 (R := R) N (((s0, (t, (s2, (s3, (s4, (s5, (s6, (s7, ())))))))), (a, (b, ())), ()), ()) κ = κ (decide ((0 ≤ a ∧ a ≤ t - 1) ∧ 0 ≤ b ∧ b ≤ 3)) := by
 unfold p_70 Q_70
 try dsimp only
 rw [sub64 (by omega) (by omega), p50]
 by_cases h1 : 0 ≤ a ∧ a ≤ t - 1
 ·rw [dT h1, bif_t rfl, p50]
  by_cases h2 : 0 ≤ b ∧ b ≤ 3
  ·rw [dT h2, dT ⟨h1, h2⟩]
  ·rw [dF h2, dF (fun h => h2 h.2)]
 ·rw [dF h1, bif_f rfl, dF (fun h => h1 h.1)]
section
variable {R : Type} (N : Nat) (s0 t L s3 s4 q s7 : Int)
theorem p71 (hL : 1 ≤ L ∧ L ≤ 16777215) (pass slice lane j : Int) (j1 : 0 ≤ j) (j2 : j < 4294967296) (s5 : Int) (κ : Int → Option R) :
  p_71 (R := R) N (((s0, (t, (L, (s3, (s4, (s5, (q, (s7, ())))))))), (pass, (slice, ())), lane, j, ()), ()) κ = κ (laneOf pass slice lane j L) := by
 unfold p_71 Q_71 laneOf
 try dsimp only
 have e1 : IntKind.wrap .i64 (remA .u64 (IntKind.wrap .u64 j) (IntKind.wrap .u64 L)) = j % L := by
  rw [wrapU64, wrapU64, Int.emod_eq_of_lt j1 (by omega), Int.emod_eq_of_lt (by omega) (by omega)]
  unfold remA
  rw [Int.tmod_eq_emod_of_nonneg j1]
  have := Int.emod_nonneg j (show L ≠ 0 by omega)
  have := Int.emod_lt_of_pos j (show 0 < L by omega)
  exact wrap64 (by omega) (by omega)
 have e2 : ¬ IntKind.wrap .u64 L = 0 := by rw [wrapU64]; omega
 rw [e1, dF e2]
 by_cases h1 : pass = 0
 ·by_cases h2 : slice = 0
  ·simp [h1, h2]
  ·simp [h1, h2, show (slice == 0) = false from beq_eq_false_iff_ne.2 h2]
 ·simp [h1, show (pass == 0) = false from beq_eq_false_iff_ne.2 h1]
theorem p72 (hq : 2 ≤ q ∧ 4 * q ≤ 4294967295) (pass slice index : Int) (own : Bool) (h1 : 0 ≤ pass) (h2 : 0 ≤ slice ∧ slice ≤ 3) (h3 : 0 ≤ index ∧ index < q) (κ : Int → Option R) :
  p_72 (R := R) N (((s0, (t, (L, (s3, (s4, (4 * q, (q, (s7, ())))))))), (pass, (slice, ())), index, own, ()), ()) κ = κ (areaOf pass slice q index own) := by
 unfold p_72 Q_72 areaOf doneOf
 try dsimp only
 have b1 : slice * q ≤ 3 * q := Int.mul_le_mul_of_nonneg_right h2.2 (by omega)
 have b0 : 0 ≤ slice * q := Int.mul_nonneg h2.1 (by omega)
 rw [mul64 (by omega) (by omega), sub64 (a := 4 * q) (by omega) (by omega), show 4 * q - q = 3 * q by omega]
 by_cases g1 : pass > 0
 ·rw [bif_t (dT g1)]
  simp only [if_pos g1]
  cases own with
  | true => rw [bif_t rfl, if_pos rfl, add64 (a := 3 * q) (by omega) (by omega), sub64 (by omega) (by omega)]
  | false =>
   rw [bif_f rfl, if_neg (by simp)]
   by_cases g2 : index = 0
   ·rw [bif_t (beq_iff_eq.2 g2), if_pos g2, sub64 (by omega) (by omega)]
   ·rw [bif_f (beq_eq_false_iff_ne.2 g2), if_neg g2]
 ·rw [bif_f (dF g1)]
  simp only [if_neg g1]
  cases own with
  | true => rw [bif_t rfl, if_pos rfl, add64 (a := slice * q) (by omega) (by omega), sub64 (by omega) (by omega)]
  | false =>
   rw [bif_f rfl, if_neg (by simp)]
   by_cases g2 : index = 0
   ·rw [bif_t (beq_iff_eq.2 g2), if_pos g2, sub64 (by omega) (by omega)]
   ·rw [bif_f (beq_eq_false_iff_ne.2 g2), if_neg g2]
theorem p73 (hq : 2 ≤ q ∧ 4 * q ≤ 4294967295) (pass slice : Int) (h2 : 0 ≤ slice ∧ slice ≤ 3) (s5 : Int) (κ : Int → Option R) :
  p_73 (R := R) N (((s0, (t, (L, (s3, (s4, (s5, (q, (s7, ())))))))), (pass, (slice, ())), ()), ()) κ = κ (fromOf pass slice q) := by
 unfold p_73 Q_73 fromOf
 try dsimp only
 by_cases g1 : pass = 0
 ·rw [bif_t (beq_iff_eq.2 g1), if_pos (.inl g1)]
 rw [bif_f (beq_eq_false_iff_ne.2 g1)]
 by_cases g2 : slice = 3
 ·rw [bif_t (beq_iff_eq.2 g2), if_pos (.inr g2)]
 rw [bif_f (beq_eq_false_iff_ne.2 g2), if_neg (fun h => h.elim g1 g2), add64 (by omega) (by omega)]
 have b1 : (slice + 1) * q ≤ 4 * q := Int.mul_le_mul_of_nonneg_right (by omega) (by omega)
 have b0 : 0 ≤ (slice + 1) * q := Int.mul_nonneg (by omega) (by omega)
 rw [mul64 (by omega) (by omega)]
def There (t L q pass slice lane index : Int) : Prop := ((0 ≤ pass ∧ pass ≤ t - 1) ∧ 0 ≤ slice ∧ slice ≤ 3) ∧ (0 ≤ lane ∧ lane ≤ L - 1) ∧ (if pass = 0 ∧ slice = 0 then 2 else 0) ≤ index ∧ index ≤ q - 1
theorem area_in (hq : 2 ≤ q) (pass slice lane index : Int) (own : Bool) (h : There t L q pass slice lane index) (ho : pass = 0 → slice = 0 → own = true) : 1 ≤ areaOf pass slice q index own ∧ areaOf pass slice q index own ≤ 4 * q := by
 obtain ⟨⟨⟨h1, h2⟩, h3, h4⟩, ⟨h5, h6⟩, h7, h8⟩ := h
 unfold areaOf doneOf
 have b1 : slice * q ≤ 3 * q := Int.mul_le_mul_of_nonneg_right h4 (by omega)
 have b0 : 0 ≤ slice * q := Int.mul_nonneg h3 (by omega)
 by_cases g1 : pass > 0
 ·simp only [if_pos g1]
  rw [if_neg (by omega)] at h7
  split
  ·omega
  ·split <;> omega
 ·simp only [if_neg g1]
  by_cases g2 : slice = 0
  ·subst g2
   rw [if_pos ⟨by omega, rfl⟩] at h7
   rw [if_pos (ho (by omega) rfl)]
   omega
  ·have b2 : 1 * q ≤ slice * q := Int.mul_le_mul_of_nonneg_right (by omega) (by omega)
   rw [if_neg (fun hh => g2 hh.2)] at h7
   split
   ·omega
   ·split <;> omega
def colOf (pass slice index j q : Int) (own : Bool) : Int := (fromOf pass slice q + pickOf (areaOf pass slice q index own) j) % (4 * q)
open Classical in
theorem p47 (ht : 1 ≤ t ∧ t ≤ 4294967295) (hL : 1 ≤ L ∧ L ≤ 16777215) (hq : 2 ≤ q ∧ 4 * q ≤ 4294967295) (pass slice lane index ja jb : Int) (ja1 : 0 ≤ ja) (ja2 : ja < 4294967296) (jb1 : 0 ≤ jb) (jb2 : jb < 4294967296) (κ : ((Int × (Int × Unit)) × (Int × Unit)) → Option R) :
  p_47 (R := R) N (((s0, (t, (L, (s3, (s4, (4 * q, (q, (s7, ())))))))), (pass, (slice, ())), lane, index, ja, jb, ()), ()) κ =
   if There t L q pass slice lane index then κ ((laneOf pass slice lane jb L, (colOf pass slice index ja q (laneOf pass slice lane jb L == lane), ())), (0, ())) else κ ((0, (0, ())), (11, ())) := by
 unfold p_47 Q_47
 try dsimp only
 rw [bif_t (dT (show L > 0 by omega)), p70 N _ _ _ _ _ _ _ _ _ _ ht]
 by_cases h1 : (0 ≤ pass ∧ pass ≤ t - 1) ∧ 0 ≤ slice ∧ slice ≤ 3
 ·rw [dT h1]
  try dsimp only
  rw [bif_t rfl, sub64 (a := L) (by omega) (by omega), p50]
  by_cases h2 : 0 ≤ lane ∧ lane ≤ L - 1
  ·rw [dT h2]
   simp only [Bool.not_true, cond_false]
   rw [p64, sub64 (a := q) (by omega) (by omega), p50]
   by_cases h3 : (if pass = 0 ∧ slice = 0 then (2 : Int) else 0) ≤ index ∧ index ≤ q - 1
   ·have hth : There t L q pass slice lane index := ⟨h1, h2, h3⟩
    rw [dT h3, if_pos hth]
    simp only [Bool.not_true, cond_false]
    have hi : 0 ≤ index ∧ index < q := by
     have := h3.1
     split at this <;> omega
    rw [p71 N s0 t L s3 s4 q s7 hL pass slice lane jb jb1 jb2]
    try dsimp only
    rw [p72 N s0 t L s3 s4 q s7 hq pass slice index _ h1.1.1 h1.2 hi]
    try dsimp only
    rw [p73 N s0 t L s3 s4 q s7 hq pass slice h1.2]
    obtain ⟨a1, a2⟩ := area_in t L q hq.1 pass slice lane index (laneOf pass slice lane jb L == lane) hth (fun e1 e2 => by unfold laneOf; rw [if_pos ⟨e1, e2⟩]; simp)
    rw [p74 N _ ja (by omega) ja1 ja2, if_neg (by omega), bif_f (dF (by omega))]
    have pin := pick_in a1 ja1 ja2
    have f0 : 0 ≤ fromOf pass slice q ∧ fromOf pass slice q ≤ 4 * q := by
     unfold fromOf
     have b1 : (slice + 1) * q ≤ 4 * q := Int.mul_le_mul_of_nonneg_right (by omega) (by omega)
     have b0 : 0 ≤ (slice + 1) * q := Int.mul_nonneg (by omega) (by omega)
     split <;> omega
    rw [add64 (by omega) (by omega), rem64 (by omega)]
    rfl
   ·rw [dF h3, if_neg (fun hh => h3 hh.2.2)]
    rfl
  ·rw [dF h2, if_neg (fun hh => h2 hh.2.1)]
   rfl
 ·rw [dF h1, if_neg (fun hh => h1 hh.1)]
  rfl
end
def seedF (alg passes blocks pass slice lane counter : Int) : Bl :=
 upd (upd (upd (upd (upd (upd (upd nulB 0 (IntKind.wrap .u64 pass)) 1 (IntKind.wrap .u64 lane)) 2 (IntKind.wrap .u64 slice)) 3 (IntKind.wrap .u64 blocks)) 4 (IntKind.wrap .u64 passes)) 5 (IntKind.wrap .u64 (subA .i64 alg 1))) 6 (IntKind.wrap .u64 counter)
theorem p103 {R : Type} (N : Nat) (hN : N = 1301) (alg t L m b c q z pass slice lane counter : Int) (κ) :
  p_103 (R := R) N (((alg, (t, (L, (m, (b, (c, (q, (z, ())))))))), (pass, (slice, ())), lane, counter, ()), ()) κ = κ (seedF alg t b pass slice lane counter) := by subst hN; kernel_rfl
def addrF (alg passes blocks pass slice lane counter : Int) : Bl := mixF nulB (mixF nulB (seedF alg passes blocks pass slice lane counter))
theorem p90 {R : Type} (N : Nat) (hN : N = 1301) (alg t L m b c q z pass slice lane counter : Int) (κ) :
  p_90 (R := R) N (((alg, (t, (L, (m, (b, (c, (q, (z, ())))))))), (pass, (slice, ())), lane, counter, ()), ()) κ = κ (addrF alg t b pass slice lane counter) := by
 unfold p_90 Q_90
 try dsimp only
 rw [p103 N hN]
 try dsimp only
 rw [p89 N hN]
 try dsimp only
 rw [p89 N hN]
 rfl
theorem p81 {R : Type} (N : Nat) (hN : N = 1301) (alg t L m b c q z pass slice lane counter : Int) (κ) :
  p_81 (R := R) N (((alg, (t, (L, (m, (b, (c, (q, (z, ())))))))), pass, slice, lane, counter, ()), ()) κ = κ (addrF alg t b pass slice lane counter) := by
 unfold p_81 Q_81
 try dsimp only
 rw [p60 N hN]
 try dsimp only
 rw [p60 N hN]
 rfl
theorem addrF_W (alg passes blocks pass slice lane counter : Int) (j : Nat) : W (addrF alg passes blocks pass slice lane counter j) := mixF_W _ _ j
theorem nT : (!true) = false := rfl
theorem nF : (!false) = true := rfl
theorem getD_set {α : Type} (l : List α) (i j : Nat) (x z : α) (hi : i < l.length) : (l.set i x).getD j z = if j = i then x else l.getD j z := by
 by_cases h : j = i
 ·subst h; simp [List.getD_eq_getElem?_getD, hi]
 ·simp [List.getD_eq_getElem?_getD, List.getElem?_set, Ne.symm h, h]
def rowsF (f : Nat → Bl) (C L : Nat) : List (List Bl) := (List.range L).map fun la => (List.range C).map fun co => f (la * C + co)
theorem rowsF_len (f : Nat → Bl) (C L : Nat) : (rowsF f C L).length = L := by simp [rowsF]
theorem rowsF_row (f : Nat → Bl) (C L : Nat) {la : Nat} (h : la < L) : (rowsF f C L).getD la [] = (List.range C).map fun co => f (la * C + co) := by simp [rowsF, h]
theorem rowsF_rlen (f : Nat → Bl) (C L : Nat) {la : Nat} (h : la < L) : ((rowsF f C L).getD la []).length = C := by rw [rowsF_row f C L h]; simp
theorem rowsF_get (f : Nat → Bl) (C L : Nat) {la co : Nat} (h : la < L) (hc : co < C) (z : Bl) : ((rowsF f C L).getD la []).getD co z = f (la * C + co) := by rw [rowsF_row f C L h]; simp [hc]
theorem at_inj {C a b c d : Nat} (hb : b < C) (hd : d < C) (h : a * C + b = c * C + d) : a = c ∧ b = d := by
 have h1 : (a * C + b) / C = a := by rw [Nat.mul_comm, Nat.mul_add_div (by omega), Nat.div_eq_of_lt hb, Nat.add_zero]
 have h2 : (c * C + d) / C = c := by rw [Nat.mul_comm, Nat.mul_add_div (by omega), Nat.div_eq_of_lt hd, Nat.add_zero]
 have h3 : a = c := by rw [← h1, h, h2]
 subst h3; exact ⟨rfl, by omega⟩
theorem rowsF_set (f : Nat → Bl) (C L : Nat) {la co : Nat} (h : la < L) (hc : co < C) (b : Bl) : (rowsF f C L).set la (((rowsF f C L).getD la []).set co b) = rowsF (upd f (la * C + co) b) C L := by
 apply List.ext_getElem?
 intro i
 rw [List.getElem?_set, rowsF_len]
 by_cases hi : la = i
 ·subst hi
  rw [if_pos rfl, if_pos h, rowsF_row f C L h]
  simp only [rowsF, List.getElem?_map, List.getElem?_range h, Option.map_some, Option.some.injEq]
  apply List.ext_getElem?
  intro j
  rw [List.getElem?_set]
  simp only [List.length_map, List.length_range, List.getElem?_map]
  by_cases hj : co = j
  ·subst hj
   rw [if_pos rfl, if_pos hc, List.getElem?_range hc]
   simp [upd_same]
  ·rw [if_neg hj]
   by_cases hjc : j < C
   ·rw [List.getElem?_range hjc]
    simp only [Option.map_some, Option.some.injEq]
    rw [upd_other]; omega
   ·rw [List.getElem?_eq_none (by simpa using hjc)]; rfl
 ·rw [if_neg hi]
  simp only [rowsF, List.getElem?_map]
  by_cases hiL : i < L
  ·rw [List.getElem?_range hiL]
   simp only [Option.map_some, Option.some.injEq]
   apply List.map_congr_left
   intro j hj
   rw [List.mem_range] at hj
   rw [upd_other]
   intro e
   exact hi (at_inj hj hc e).1.symm
  ·rw [List.getElem?_eq_none (by simpa using hiL)]; rfl
theorem rowsF_congr {f g : Nat → Bl} {C L : Nat} (h : ∀ k, k < L * C → f k = g k) : rowsF f C L = rowsF g C L := by
 unfold rowsF
 apply List.map_congr_left
 intro la hla
 apply List.map_congr_left
 intro co hco
 rw [List.mem_range] at hla hco
 apply h
 have := Nat.mul_le_mul_right C (show la + 1 ≤ L by omega)
 rw [Nat.succ_mul] at this
 omega
abbrev GH := (Unit × (Shp8 × Unit)) × (Unit × (Unit × (Bool × Unit))) × (Int × (Int × (Int × (Int × Unit)))) × (List Bl) × Unit
def gh (s : Shp8) (ar : Int × (Int × (Int × (Int × Unit)))) (l : List Bl) : GH := (((), (s, ())), ((), ((), (true, ()))), ar, l, ())
def shn (s0 t m b q z : Int) (L C : Nat) : Shp8 := (s0, (t, ((L : Int), (m, (b, ((C : Int), (q, (z, ()))))))))
section
variable {R : Type} (N : Nat) (s0 t m b q z : Int) (L C : Nat)
theorem p55 (hL : L ≤ 4) (hC : C ≤ 80) (la co : Int) (ar) (l : List Bl) (κ : Int → Option R) :
  p_55 N (((), (la, (co, ())), ()), gh (shn s0 t m b q z L C) ar l) κ = κ (if 0 ≤ la ∧ la < L ∧ 0 ≤ co ∧ co < C then la * C + co else -1) := by
 unfold p_55 Q_55 gh shn
 dsimp only
 by_cases h1 : la < 0
 ·rw [bif_t (dT h1), if_neg (by omega)]
 rw [bif_f (dF h1)]
 by_cases h2 : la ≥ L
 ·rw [bif_t (dT h2), if_neg (by omega)]
 rw [bif_f (dF h2)]
 by_cases h3 : co < 0
 ·rw [bif_t (dT h3), if_neg (by omega)]
 rw [bif_f (dF h3)]
 by_cases h4 : co ≥ C
 ·rw [bif_t (dT h4), if_neg (by omega)]
 rw [bif_f (dF h4), if_pos ⟨by omega, by omega, by omega, by omega⟩]
 unfold p_80 Q_80
 dsimp only
 have e0 : 0 ≤ la * C := Int.mul_nonneg (by omega) (by omega)
 have e1 : la * C ≤ 4 * 80 := Int.mul_le_mul (by omega) (by omega) (by omega) (by omega)
 rw [mul64 (a := la) (by omega) (by omega), add64 (by omega) (by omega)]
theorem at_lt {la co L C : Nat} (h : la < L) (hc : co < C) : la * C + co < L * C := by
 have := Nat.mul_le_mul_right C (show la + 1 ≤ L by omega)
 rw [Nat.succ_mul] at this
 omega
theorem p65 (n : Int) (ar) (l : List Bl) (h0 : 0 ≤ n) (h1 : n < l.length) (κ) :
  p_65 (R := R) N (((), n, ()), (((), ((), (true, ()))), ar, l, ())) κ = κ (l.getD n.toNat nulB, (0, ())) := by
 unfold p_65 Q_65
 dsimp only
 rw [bif_f (dF (by omega)), bif_f (dF (by omega)), bif_f (show (!true) = false from rfl), bif_t (dT h0), bif_t (dT h1)]; rfl
theorem p43 (hL : L ≤ 4) (hC : C ≤ 80) (la co : Int) (ar) (l : List Bl) (hl : l.length = L * C) (κ) :
  p_43 (R := R) N (((), (la, (co, ())), ()), gh (shn s0 t m b q z L C) ar l) κ = if 0 ≤ la ∧ la < L ∧ 0 ≤ co ∧ co < C then κ (l.getD (la * C + co).toNat nulB, (0, ())) else κ (nulB, (11, ())) := by
 unfold p_43 Q_43
 dsimp only
 refine (p55 N s0 t m b q z L C hL hC la co ar l _).trans ?_
 by_cases h : 0 ≤ la ∧ la < L ∧ 0 ≤ co ∧ co < C
 ·rw [if_pos h, if_pos h]
  obtain ⟨h1, h2, h3, h4⟩ := h
  have e0 : 0 ≤ la * C := Int.mul_nonneg h1 (by omega)
  obtain ⟨a, rfl⟩ := Int.eq_ofNat_of_zero_le h1
  obtain ⟨c, rfl⟩ := Int.eq_ofNat_of_zero_le h3
  have hlt := at_lt (la := a) (co := c) (L := L) (C := C) (by omega) (by omega)
  rw [bif_f (dF (by omega))]
  exact p65 N _ ar l (by omega) (by rw [hl]; exact_mod_cast hlt) _
 ·rw [if_neg h, if_neg h]; rfl
theorem p34 (hL : L ≤ 4) (hC : C ≤ 80) (la co : Int) (ar) (l : List Bl) (hl : l.length = L * C) (x : Bl) (κ) :
  p_34 (R := R) N (((), (la, (co, ())), x, ()), gh (shn s0 t m b q z L C) ar l) κ = if 0 ≤ la ∧ la < L ∧ 0 ≤ co ∧ co < C then κ (0, gh (shn s0 t m b q z L C) ar (l.set (la * C + co).toNat x)) else κ (11, gh (shn s0 t m b q z L C) ar l) := by
 unfold p_34 Q_34
 dsimp only
 refine (p55 N s0 t m b q z L C hL hC la co ar l _).trans ?_
 by_cases h : 0 ≤ la ∧ la < L ∧ 0 ≤ co ∧ co < C
 ·rw [if_pos h, if_pos h]
  obtain ⟨h1, h2, h3, h4⟩ := h
  have e0 : 0 ≤ la * C := Int.mul_nonneg h1 (by omega)
  obtain ⟨a, rfl⟩ := Int.eq_ofNat_of_zero_le h1
  obtain ⟨c, rfl⟩ := Int.eq_ofNat_of_zero_le h3
  have hlt := at_lt (la := a) (co := c) (L := L) (C := C) (by omega) (by omega)
  have hb : ((a : Int) * C + c) < (l.length : Int) := by rw [hl]; exact_mod_cast hlt
  rw [bif_f (dF (by omega))]
  unfold p_56 Q_56 gh shn
  dsimp only
  refine (p65 N _ ar l (by omega) hb _).trans ?_
  dsimp only
  rw [bif_f (show ((0 : Int) != 0) = false from rfl), bif_t (dT (by omega)), bif_t (dT hb)]
 ·rw [if_neg h, if_neg h]; rfl
theorem rep_succ {α : Type} (n : Nat) (x : α) : List.replicate n x ++ [x] = List.replicate (n + 1) x := by rw [List.replicate_succ']
theorem l37 (hL : L ≤ 4) (hC : C ≤ 80) (κ) : ∀ (n i : Nat), i ≤ L → L - i < n →
  l_37_3 (R := R) N n (((), (), (i : Int), ()), (shn s0 t m b q z L C, List.replicate i (List.replicate C nulB), ())) κ = κ (((), ()), (List.replicate L (List.replicate C nulB), ()))
 | 0, i, h1, h2 => by omega
 | n + 1, i, h1, h2 => by
  unfold l_37_3 B_37_3 C_37_3 shn
  dsimp only
  by_cases hi : i < L
  ·rw [bif_t (dT (show (i : Int) < (L : Int) by omega)), bif_t (dT (by omega)), bif_t (dT (by omega)), bif_t (dT (by omega)), bif_t (dT (by omega))]
   simp only [List.length_replicate, List.length_cons, List.length_nil]
   rw [dT (by omega)]
   simp only [Bool.and_true, cond_true]
   have := l37 hL hC κ n (i + 1) (by omega) (by omega)
   unfold shn at this
   rw [← rep_succ] at this
   rw [show addA .i64 (i : Int) 1 = ((i + 1 : Nat) : Int) by rw [add64 (by omega) (by omega)]; simp]
   exact this
  ·rw [bif_f (dF (show ¬ (i : Int) < (L : Int) by omega)), show i = L by omega]
theorem rowsF_zero : rowsF (fun _ => nulB) C L = List.replicate L (List.replicate C nulB) := by
 unfold rowsF
 rw [List.map_const', List.map_const']; simp
theorem p37 (hN : 10 < N) (hL : L ≤ 4) (hC : C ≤ 80) (κ) : p_37 (R := R) N ((shn s0 t m b q z L C, ()), ()) κ = κ ((), (rowsF (fun _ => nulB) C L, ())) := by
 unfold p_37 Q_37
 refine (l37 N s0 t m b q z L C hL hC _ N 0 (by omega) (by omega)).trans ?_
 rw [rowsF_zero]
def upTo (l : List Bl) (n : Nat) : Nat → Bl := fun k => if k < n then l.getD k nulB else nulB
theorem upTo_succ (l : List Bl) (n : Nat) : upd (upTo l n) n (l.getD n nulB) = upTo l (n + 1) := by
 funext k
 rw [upd_if]
 unfold upTo
 by_cases h : k = n
 ·subst h; rw [if_pos rfl, if_pos (by omega)]
 ·rw [if_neg h]
  by_cases h2 : k < n
  ·rw [if_pos h2, if_pos (by omega)]
  ·rw [if_neg h2, if_neg (by omega)]
theorem l13i (hL : L ≤ 4) (hC : C ≤ 80) (ar) (l : List Bl) (hl : l.length = L * C) (la : Nat) (hla : la < L) (u : Int) (κ) : ∀ (n c : Nat), c ≤ C → C - c < n →
  l_13_6 (R := R) N n (((), (), (la : Int), u, (la : Int), (C : Int), (c : Int), ()), (((), (shn s0 t m b q z L C, ())), ((), ((), (true, ()))), ar, l, rowsF (upTo l (la * C + c)) C L, ())) κ =
   κ (((), (), u, (la : Int), ()), (((), (shn s0 t m b q z L C, ())), ((), ((), (true, ()))), ar, l, rowsF (upTo l (la * C + C)) C L, ()))
 | 0, i, h1, h2 => by omega
 | n + 1, c, h1, h2 => by
  unfold l_13_6 B_13_6 C_13_6
  dsimp only
  by_cases hc : c < C
  ·rw [bif_t (dT (show (c : Int) < (C : Int) by omega)), bif_t (dT (by omega)), rowsF_len, bif_t (dT (by omega))]
   refine (p43 N s0 t m b q z L C hL hC la c ar l hl _).trans ?_
   rw [if_pos ⟨by omega, by omega, by omega, by omega⟩]
   dsimp only
   rw [Int.toNat_natCast la, Int.toNat_natCast c, rowsF_rlen _ C L hla, bif_t (dT (by omega)), bif_t (dT (by omega)), show ((la : Int) * C + c).toNat = la * C + c by rw [← Int.natCast_mul, ← Int.natCast_add, Int.toNat_natCast]]
   rw [rowsF_set _ C L hla hc, upTo_succ, show addA .i64 (c : Int) 1 = ((c + 1 : Nat) : Int) by rw [add64 (by omega) (by omega)]; simp]
   exact l13i hL hC ar l hl la hla u κ n (c + 1) (by omega) (by omega)
  ·rw [bif_f (dF (show ¬ (c : Int) < (C : Int) by omega)), show c = C by omega]
theorem l13o (hN : 100 < N) (hL : L ≤ 4) (hC : C ≤ 80) (ar) (l : List Bl) (hl : l.length = L * C) (κ) : ∀ (n i : Nat), i ≤ L → L - i < n →
  l_13_3 (R := R) N n (((), (), (L : Int), (i : Int), ()), (((), (shn s0 t m b q z L C, ())), ((), ((), (true, ()))), ar, l, rowsF (upTo l (i * C)) C L, ())) κ =
   κ (((), ()), (((), (shn s0 t m b q z L C, ())), ((), ((), (true, ()))), ar, l, rowsF (upTo l (L * C)) C L, ()))
 | 0, i, h1, h2 => by omega
 | n + 1, i, h1, h2 => by
  unfold l_13_3 B_13_3 C_13_3
  dsimp only
  by_cases hi : i < L
  ·rw [bif_t (dT (show (i : Int) < (L : Int) by omega)), bif_t (dT (by omega)), rowsF_len, bif_t (dT (by omega))]
   rw [Int.toNat_natCast i, rowsF_rlen _ C L hi]
   refine (l13i N s0 t m b q z L C hL hC ar l hl i hi (L : Int) _ N 0 (by omega) (by omega)).trans ?_
   dsimp only
   rw [show addA .i64 (i : Int) 1 = ((i + 1 : Nat) : Int) by rw [add64 (by omega) (by omega)]; simp, show i * C + C = (i + 1) * C by rw [Nat.succ_mul]]
   exact l13o hN hL hC ar l hl κ n (i + 1) (by omega) (by omega)
  ·rw [bif_f (dF (show ¬ (i : Int) < (L : Int) by omega)), show i = L by omega]
def gridF (l : List Bl) (C L : Nat) : List (List Bl) := rowsF (fun k => l.getD k nulB) C L
theorem p13 (hN : 100 < N) (hL : L ≤ 4) (hC : C ≤ 80) (ar) (l : List Bl) (hl : l.length = L * C) (κ) :
  p_13 (R := R) N (((), ()), gh (shn s0 t m b q z L C) ar l) κ = κ ((), (((), (shn s0 t m b q z L C, ())), ((), ((), (true, ()))), ar, l, gridF l C L, ())) := by
 unfold p_13 Q_13 gh
 dsimp only
 refine (p37 N s0 t m b q z L C (by omega) hL hC _).trans ?_
 dsimp only
 rw [rowsF_len]
 have e : rowsF (fun _ => nulB) C L = rowsF (upTo l (0 * C)) C L := by
  apply rowsF_congr; intro k _; unfold upTo; rw [if_neg (by omega)]
 rw [e]
 refine (l13o N s0 t m b q z L C hN hL hC ar l hl _ N 0 (by omega) (by omega)).trans ?_
 have e2 : rowsF (upTo l (L * C)) C L = gridF l C L := by
  apply rowsF_congr; intro k hk; unfold upTo; rw [if_pos hk]
 rw [e2]
theorem l12i (f g : Nat → Bl) (hfg : ∀ k, k < L * C → schEq (.arr 128 (.int .u64)) (f k) (g k) = true) (la : Nat) (hla : la < L) (hC : C ≤ 80) (κ0 κ1) : ∀ (n c : Nat), c ≤ C → C - c < n →
  l_12_9 (R := R) N n (((), (), (la : Int), (c : Int), ()), (rowsF f C L, rowsF g C L, ())) κ0 κ1 = κ1 (((), (), (la : Int), ()), (rowsF f C L, rowsF g C L, ()))
 | 0, c, h1, h2 => by omega
 | n + 1, c, h1, h2 => by
  unfold l_12_9 B_12_9 C_12_9
  dsimp only
  rw [rowsF_len, rowsF_len, bif_t (dT (by omega)), bif_t (dT (by omega))]
  rw [Int.toNat_natCast la, Int.toNat_natCast c, rowsF_rlen _ C L hla, rowsF_rlen _ C L hla]
  by_cases hc : c < C
  ·rw [bif_t (dT (show (c : Int) < (C : Int) by omega)), bif_t (dT (by omega)), bif_t (dT (by omega)), bif_t (dT (by omega)), bif_t (dT (by omega)), bif_t (dT (by omega)), bif_t (dT (by omega)), bif_t (dT (by omega)), bif_t (dT (by omega))]
   rw [rowsF_get f C L hla hc, rowsF_get g C L hla hc, hfg _ (at_lt hla hc), bif_f nT, show addA .i64 (c : Int) 1 = ((c + 1 : Nat) : Int) by rw [add64 (by omega) (by omega)]; simp]
   exact l12i f g hfg la hla hC κ0 κ1 n (c + 1) (by omega) (by omega)
  ·rw [bif_f (dF (show ¬ (c : Int) < (C : Int) by omega))]
theorem l12o (hN : 100 < N) (f g : Nat → Bl) (hfg : ∀ k, k < L * C → schEq (.arr 128 (.int .u64)) (f k) (g k) = true) (hL : L ≤ 4) (hC : C ≤ 80) (κ0 κ1) : ∀ (n i : Nat), i ≤ L → L - i < n →
  l_12_4 (R := R) N n (((), (), (i : Int), ()), (rowsF f C L, rowsF g C L, ())) κ0 κ1 = κ1 ((), (rowsF f C L, rowsF g C L, ()))
 | 0, i, h1, h2 => by omega
 | n + 1, i, h1, h2 => by
  unfold l_12_4 B_12_4 C_12_4
  dsimp only
  rw [rowsF_len, rowsF_len]
  by_cases hi : i < L
  ·rw [bif_t (dT (show (i : Int) < (L : Int) by omega)), bif_t (dT (by omega)), bif_t (dT (by omega)), bif_t (dT (by omega)), bif_t (dT (by omega))]
   rw [Int.toNat_natCast i, rowsF_rlen _ C L hi, rowsF_rlen _ C L hi, bif_f (by simp)]
   refine (l12i N L C f g hfg i hi hC _ _ N 0 (by omega) (by omega)).trans ?_
   dsimp only
   rw [show addA .i64 (i : Int) 1 = ((i + 1 : Nat) : Int) by rw [add64 (by omega) (by omega)]; simp]
   exact l12o hN f g hfg hL hC κ0 κ1 n (i + 1) (by omega) (by omega)
  ·rw [bif_f (dF (show ¬ (i : Int) < (L : Int) by omega))]
theorem p12 (hN : 100 < N) (f g : Nat → Bl) (hfg : ∀ k, k < L * C → schEq (.arr 128 (.int .u64)) (f k) (g k) = true) (hL : L ≤ 4) (hC : C ≤ 80) (κ) :
  p_12 (R := R) N (((), (), ()), (rowsF f C L, rowsF g C L, ())) κ = κ (true, (rowsF f C L, rowsF g C L, ())) := by
 unfold p_12 Q_12
 dsimp only
 rw [rowsF_len, rowsF_len, bif_f (by simp)]
 exact l12o N L C hN f g hfg hL hC _ _ N 0 (by omega) (by omega)
end
def FewP (t L q : Int) : Prop := t ≤ 3 ∧ L ≤ 4 ∧ 4 * L * q ≤ 80
instance (t L q : Int) : Decidable (FewP t L q) := by unfold FewP; exact inferInstance
theorem p27 {R : Type} (N : Nat) (s0 t l m b c q z : Int) (κ) : p_27 (R := R) N (((s0, (t, (l, (m, (b, (c, (q, (z, ())))))))), ()), ()) κ = κ (decide (t ≤ 3 ∧ l ≤ 4 ∧ b ≤ 80)) := by
 unfold p_27 Q_27
 dsimp only
 by_cases h1 : t ≤ 3
 ·by_cases h2 : l ≤ 4
  ·simp [h1, h2]
  ·simp [h2]
 ·simp [h1]
theorem p28 {R : Type} (N : Nat) (n : Int) (h : 0 ≤ n ∧ n ≤ 80) (κ0 κ1) : p_28 (R := R) N ((n, ()), ()) κ0 κ1 = κ1 (((), (0, ())), ((n, (0, (0, (0, ())))), ())) := by
 unfold p_28 Q_28
 dsimp only
 rw [bif_f (dF (by omega)), bif_f (dF (by omega))]
theorem p29_v1 {R : Type} (N : Nat) (n : Int) (h : 0 ≤ n ∧ n ≤ 80) (κ0 κ1) : p_29_v1 (R := R) N (((), n, ()), ((n, (0, (0, (0, ())))), ())) κ0 κ1 = κ1 (((), (0, ())), ((n, (n, (n, (1, ())))), ((), ((), (true, ()))), List.replicate n.toNat nulB, ())) := by
 unfold p_29_v1 Q_29_v1
 dsimp only
 have e : maxA 0 n = n := by unfold maxA; split <;> omega
 rw [bif_f (dF (by omega)), sub64 (by omega) (by omega), Int.sub_zero, bif_f (dF (by omega)), add64 (by omega) (by omega), Int.zero_add, e, bif_t (dT (by omega)), bif_t (dT (by omega)), bif_t (dT (by omega)), bif_t (dT (by omega))]
 rfl
theorem p30_v1 {R : Type} (N : Nat) (s0 t l m b c q z : Int) (hl : 1 ≤ l) (ar) (bl : List Bl) (hb : (bl.length : Int) = b) (κ0 κ1) :
  p_30_v1 (R := R) N (((), (s0, (t, (l, (m, (b, (c, (q, (z, ())))))))), ()), (((), ((), (true, ()))), ar, bl, ())) κ0 κ1 = κ1 (((), (0, ())), (((), ((), (true, ()))), ar, bl, ((), ((s0, (t, (l, (m, (b, (c, (q, (z, ())))))))), ())), ())) := by
 unfold p_30_v1 Q_30_v1
 dsimp only
 rw [bif_f (dF (by omega))]
 unfold p_52 Q_52
 dsimp only
 rw [hb, bif_f (dF (by omega))]
theorem p6 {R : Type} (N : Nat) (a t m l z : Int) (κ0 κ1) : p_6 (R := R) N (((a, (t, (m, (l, (z, ()))))), ()), ()) κ0 κ1 =
  if h : Fit a t m l z ∧ FewP t l (m / (4 * l)) then κ1 ((), gh (shn a t m (4 * l * (m / (4 * l))) (m / (4 * l)) z l.toNat (4 * (m / (4 * l))).toNat) (4 * l * (m / (4 * l)), (4 * l * (m / (4 * l)), (4 * l * (m / (4 * l)), (1, ())))) (List.replicate (l.toNat * (4 * (m / (4 * l))).toNat) nulB)) else κ0 ((), ()) := by
 unfold p_6 Q_6
 dsimp only
 rw [p26]
 by_cases h : Fit a t m l z
 ·rw [dT h]
  obtain ⟨⟨h1, h2⟩, ⟨h3, h4⟩, ⟨h5, h6⟩, ⟨h7, h8⟩, h9, h10, h11⟩ := id h
  simp only [cond_true, bne_self_eq_false, cond_false]
  rw [p27]
  have q0 : 0 ≤ m / (4 * l) := Int.ediv_nonneg (by omega) (by omega)
  generalize hq : m / (4 * l) = q at *
  have e2 : 4 * l * q = l * (4 * q) := by rw [Int.mul_comm 4 l, Int.mul_assoc]
  have e3 : 0 ≤ 4 * l * q := by rw [e2]; exact Int.mul_nonneg (by omega) (by omega)
  by_cases g : t ≤ 3 ∧ l ≤ 4 ∧ 4 * l * q ≤ 80
  ·rw [dT g, bif_f nT]
   rw [p28 N _ ⟨e3, g.2.2⟩]
   dsimp only
   rw [p29_v1 N _ ⟨e3, g.2.2⟩]
   dsimp only
   rw [p30_v1 N _ _ _ _ _ _ _ _ h5 _ _ (by rw [List.length_replicate]; omega)]
   rw [dif_pos ⟨h, g⟩]
   unfold gh shn
   rw [show ((l.toNat : Nat) : Int) = l by omega, show (((4 * q).toNat : Nat) : Int) = 4 * q by omega, show (4 * l * q).toNat = l.toNat * (4 * q).toNat by
    rw [e2]
    obtain ⟨x, rfl⟩ := Int.eq_ofNat_of_zero_le (show 0 ≤ l by omega)
    obtain ⟨y, rfl⟩ := Int.eq_ofNat_of_zero_le q0
    rw [show (4 : Int) * (y : Int) = ((4 * y : Nat) : Int) by simp, ← Int.natCast_mul, Int.toNat_natCast, Int.toNat_natCast, Int.toNat_natCast]]
  ·rw [dF g, bif_t nF, dif_neg (fun hh => g hh.2)]
 ·rw [dF h, bif_f rfl, dif_neg (fun hh => h hh.1)]
  rfl
def freeF (s : Shp8) (pass slice : Int) : Bool := if s.1 = 3 then (if pass = 0 then decide (slice < 2) else false) else s.1 == 2
theorem p67 {R : Type} (N : Nat) (s : Shp8) (pass slice : Int) (κ : Bool → Option R) : p_67 N ((s, (pass, (slice, ())), ()), ()) κ = κ (freeF s pass slice) := by
 unfold p_67 Q_67 freeF
 dsimp only
 by_cases h2 : s.1 = 2
 ·have h3 : ¬ s.1 = 3 := by omega
  rw [bif_t (beq_iff_eq.2 h2), if_neg h3, beq_iff_eq.2 h2]
 ·rw [bif_f (beq_eq_false_iff_ne.2 h2)]
  by_cases h3 : s.1 = 3
  ·rw [bif_t (beq_iff_eq.2 h3), if_pos h3]
   by_cases h4 : pass = 0
   ·rw [bif_t (beq_iff_eq.2 h4), if_pos h4]
   ·rw [bif_f (beq_eq_false_iff_ne.2 h4), if_neg h4]
  ·rw [bif_f (beq_eq_false_iff_ne.2 h3), if_neg h3, beq_eq_false_iff_ne.2 h2]
def wordsF (w : Int) : Int × Int := (IntKind.wrap .u32 w, IntKind.wrap .u32 (shrA .u64 w 32))
theorem wordsF_in (w : Int) : (0 ≤ (wordsF w).1 ∧ (wordsF w).1 < 4294967296) ∧ 0 ≤ (wordsF w).2 ∧ (wordsF w).2 < 4294967296 := by
 unfold wordsF
 dsimp only
 rw [wrapU32, wrapU32]
 omega
theorem p69 {R : Type} (N : Nat) (w : Int) (κ) : p_69 (R := R) N ((w, ()), ()) κ = κ ((wordsF w).1, ((wordsF w).2, ())) := rfl
def shq (a t m b z : Int) (L q : Nat) : Shp8 := (a, (t, ((L : Int), (m, (b, (4 * (q : Int), ((q : Int), (z, ()))))))))
theorem shq_shn (a t m b z : Int) (L q : Nat) : shq a t m b z L q = shn a t m b q z L (4 * q) := by unfold shq shn; simp
abbrev SrB := Shp8 × ((Int × (Int × Unit)) × (Int × (Int × ((Nat → Int) × Unit))))
def src (s : Shp8) (pass slice lane c : Int) (h : Bl) : SrB := (s, ((pass, (slice, ())), (lane, (c, (h, ())))))
abbrev GS := (Unit × (Shp8 × Unit)) × (Unit × (Unit × (Bool × Unit))) × (Int × (Int × (Int × (Int × Unit)))) × (List Bl) × SrB × Unit
def ghs (s : Shp8) (ar : Int × (Int × (Int × (Int × Unit)))) (l : List Bl) (r : SrB) : GS := (((), (s, ())), ((), ((), (true, ()))), ar, l, r, ())
section
variable {R : Type} (N : Nat) (a t m b z : Int) (L q : Nat)
theorem p48 (hq : 2 ≤ q ∧ q ≤ 20) {slice index : Nat} (hs : slice < 4) (hi : index < q) (κ : Int → Option R) :
  p_48 N ((shq a t m b z L q, (slice : Int), (index : Int), ()), ()) κ = κ ((slice * q + index : Nat) : Int) := by
 unfold p_48 Q_48 shq
 dsimp only
 have h1 : slice * q ≤ 3 * q := Nat.mul_le_mul_right _ (by omega)
 have h2 : ((slice * q : Nat) : Int) = (slice : Int) * (q : Int) := Int.natCast_mul ..
 rw [mul64 (by omega) (by omega), add64 (by omega) (by omega)]
 rw [Int.natCast_add, h2]
def befQ (q col : Nat) : Nat := if col = 0 then 4 * q - 1 else col - 1
theorem befQ_lt (hq : 2 ≤ q) {col : Nat} (h : col < 4 * q) : befQ q col < 4 * q := by unfold befQ; split <;> omega
theorem p49 (hq : 2 ≤ q ∧ q ≤ 20) {col : Nat} (h : col < 4 * q) (κ : Int → Option R) :
  p_49 N ((shq a t m b z L q, (col : Int), ()), ()) κ = κ ((befQ q col : Nat) : Int) := by
 unfold p_49 Q_49 shq befQ
 dsimp only
 by_cases h0 : col = 0
 ·subst h0
  rw [bif_t (by rfl), if_pos rfl, sub64 (by omega) (by omega)]
  congr 1 <;> omega
 ·rw [bif_f (beq_eq_false_iff_ne.2 (by omega)), if_neg h0, sub64 (by omega) (by omega)]
  congr 1 <;> omega
def wordQ (l : List Bl) (pass slice lane index : Nat) : Int :=
 if freeF (shq a t m b z L q) pass slice = true then addrF a t b pass slice lane ((index / 128 + 1 : Nat) : Int) (index % 128) else (l.getD (lane * (4 * q) + befQ q (slice * q + index)) nulB) 0
theorem p68 (hN : N = 1301) (pass slice lane : Int) (index : Nat) (hi : index ≤ 1300) (c : Int) (h : Bl) (hok : c ≠ 0 → h = addrF a t b pass slice lane c) (κ) :
  p_68 (R := R) N (((), (index : Int), ()), (src (shq a t m b z L q) pass slice lane c h, ())) κ =
   κ (((wordsF (addrF a t b pass slice lane ((index / 128 + 1 : Nat) : Int) (index % 128))).1, ((wordsF (addrF a t b pass slice lane ((index / 128 + 1 : Nat) : Int) (index % 128))).2, ())), (src (shq a t m b z L q) pass slice lane ((index / 128 + 1 : Nat) : Int) (addrF a t b pass slice lane ((index / 128 + 1 : Nat) : Int)), ())) := by
 unfold p_68 Q_68 src shq
 dsimp only
 have e1 : quoA .i64 (index : Int) 128 = ((index / 128 : Nat) : Int) := by rw [quo64 (by omega) (by omega) (by omega)]; omega
 have e2 : addA .i64 ((index / 128 : Nat) : Int) 1 = ((index / 128 + 1 : Nat) : Int) := by rw [add64 (by omega) (by omega)]; simp
 have e3 : remA .i64 (index : Int) 128 = ((index % 128 : Nat) : Int) := by rw [rem64 (by omega)]; omega
 rw [bif_f (dF (by omega)), e1, e2, e3]
 by_cases hc : ((index / 128 + 1 : Nat) : Int) = c
 ·rw [bif_f (by rw [hc]; simp), bif_t (dT (by omega)), bif_t (dT (by omega)), Int.toNat_natCast, p69]
  have hh := hok (by omega)
  subst hh
  rw [hc]
 ·rw [bif_t (by simpa using hc)]
  rw [p90 N hN, bif_t (dT (by omega)), bif_t (dT (by omega)), Int.toNat_natCast, p69]
theorem p46 (hN : N = 1301) (hL : L ≤ 4) (hq : 2 ≤ q ∧ q ≤ 20) {pass slice lane index : Nat} (hs : slice < 4) (hla : lane < L) (hi : index < q) (ar) (l : List Bl) (hl : l.length = L * (4 * q)) (c : Int) (h : Bl) (hok : c ≠ 0 → h = addrF a t b pass slice lane c) :
  ∃ c' h', (c' ≠ 0 → h' = addrF a t b pass slice lane c') ∧ ∀ κ, p_46 (R := R) N (((), ((pass : Int), ((slice : Int), ())), (lane : Int), (index : Int), (), ()), ghs (shq a t m b z L q) ar l (src (shq a t m b z L q) pass slice lane c h)) κ =
   κ (((wordsF (wordQ a t m b z L q l pass slice lane index)).1, ((wordsF (wordQ a t m b z L q l pass slice lane index)).2, (0, ()))), ghs (shq a t m b z L q) ar l (src (shq a t m b z L q) pass slice lane c' h')) := by
 by_cases hf : freeF (shq a t m b z L q) pass slice = true
 ·refine ⟨((index / 128 + 1 : Nat) : Int), addrF a t b pass slice lane ((index / 128 + 1 : Nat) : Int), fun _ => rfl, fun κ => ?_⟩
  unfold p_46 Q_46 ghs
  dsimp only
  refine (p67 N (shq a t m b z L q) pass slice _).trans ?_
  rw [hf, bif_t rfl]
  refine (p68 N a t m b z L q hN pass slice lane index (by omega) c h hok _).trans ?_
  unfold wordQ
  rw [if_pos hf]
 ·refine ⟨c, h, hok, fun κ => ?_⟩
  unfold p_46 Q_46 ghs
  dsimp only
  refine (p67 N (shq a t m b z L q) pass slice _).trans ?_
  have hcol : slice * q + index < 4 * q := by
   have := Nat.mul_le_mul_right q (show slice + 1 ≤ 4 by omega)
   rw [Nat.succ_mul] at this; omega
  rw [bif_f (by simpa using hf)]
  refine (p48 N a t m b z L q hq hs hi _).trans ?_
  refine (p49 N a t m b z L q hq hcol _).trans ?_
  have hb := befQ_lt q hq.1 hcol
  have := p43 (R := R) N a t m b q z L (4 * q) hL (by omega) (lane : Int) ((befQ q (slice * q + index) : Nat) : Int) ar l hl
  rw [← shq_shn] at this
  refine (this _).trans ?_
  rw [if_pos ⟨by omega, by omega, by omega, by omega⟩]
  dsimp only
  rw [bif_f (show ((0 : Int) != 0) = false from rfl), p69, show ((lane : Int) * ((4 * q : Nat) : Int) + ((befQ q (slice * q + index) : Nat) : Int)).toNat = lane * (4 * q) + befQ q (slice * q + index) by rw [← Int.natCast_mul, ← Int.natCast_add, Int.toNat_natCast]]
  unfold wordQ
  rw [if_neg hf]
def refL (l : List Bl) (pass slice lane index : Nat) : Int := laneOf pass slice lane (wordsF (wordQ a t m b z L q l pass slice lane index)).2 L
def refC (l : List Bl) (pass slice lane index : Nat) : Int := colOf pass slice index (wordsF (wordQ a t m b z L q l pass slice lane index)).1 q (refL a t m b z L q l pass slice lane index == lane)
theorem refL_in (hL : 1 ≤ L) (l : List Bl) (pass slice lane index : Nat) (hla : lane < L) : 0 ≤ refL a t m b z L q l pass slice lane index ∧ refL a t m b z L q l pass slice lane index < L := by
 unfold refL laneOf
 split
 ·omega
 ·exact ⟨Int.emod_nonneg _ (by omega), Int.emod_lt_of_pos _ (by omega)⟩
theorem refC_in (hq : 2 ≤ q) (l : List Bl) (pass slice lane index : Nat) : 0 ≤ refC a t m b z L q l pass slice lane index ∧ refC a t m b z L q l pass slice lane index < 4 * q := by
 unfold refC colOf
 exact ⟨Int.emod_nonneg _ (by omega), Int.emod_lt_of_pos _ (by omega)⟩
def ThereN (t : Int) (L q pass slice lane index : Nat) : Prop := (pass : Int) < t ∧ slice < 4 ∧ lane < L ∧ index < q ∧ (pass = 0 → slice = 0 → 2 ≤ index)
theorem there_of {pass slice lane index : Nat} (ht : ThereN t L q pass slice lane index) : There t L q pass slice lane index := by
 obtain ⟨h1, h2, h3, h4, h5⟩ := ht
 refine ⟨⟨⟨by omega, by omega⟩, by omega, by omega⟩, ⟨by omega, by omega⟩, ?_, by omega⟩
 split
 ·rename_i h
  have := h5 (by omega) (by omega)
  omega
 ·omega
theorem p24 (hN : N = 1301) (ht : 1 ≤ t ∧ t ≤ 3) (hL : 1 ≤ L ∧ L ≤ 4) (hq : 2 ≤ q ∧ q ≤ 20) {pass slice lane index : Nat} (hth : ThereN t L q pass slice lane index) (ar) (l : List Bl) (hl : l.length = L * (4 * q)) (c : Int) (h : Bl) (hok : c ≠ 0 → h = addrF a t b pass slice lane c) :
  ∃ c' h', (c' ≠ 0 → h' = addrF a t b pass slice lane c') ∧ ∀ κ, p_24 (R := R) N (((), ((pass : Int), ((slice : Int), ())), (lane : Int), (index : Int), (), ()), ghs (shq a t m b z L q) ar l (src (shq a t m b z L q) pass slice lane c h)) κ =
   κ (((((lane : Int), (((slice * q + index : Nat) : Int), ())), (((lane : Int), (((befQ q (slice * q + index) : Nat) : Int), ())), ((refL a t m b z L q l pass slice lane index, (refC a t m b z L q l pass slice lane index, ())), ()))), (0, ())), ghs (shq a t m b z L q) ar l (src (shq a t m b z L q) pass slice lane c' h')) := by
 obtain ⟨g1, g2, g3, g4, g5⟩ := id hth
 obtain ⟨c', h', k1, k2⟩ := p46 (R := R) N a t m b z L q hN hL.2 hq g2 g3 g4 ar l hl c h hok
 refine ⟨c', h', k1, fun κ => ?_⟩
 unfold p_24 Q_24
 dsimp only
 refine (k2 _).trans ?_
 unfold ghs src
 dsimp only
 rw [bif_f (show ((0 : Int) != 0) = false from rfl)]
 obtain ⟨⟨w1, w2⟩, w3, w4⟩ := wordsF_in (wordQ a t m b z L q l pass slice lane index)
 refine (p47 N a t (L : Int) m b (q : Int) z ⟨ht.1, by omega⟩ ⟨by omega, by omega⟩ ⟨by omega, by omega⟩ pass slice lane index _ _ w1 w2 w3 w4 _).trans ?_
 rw [if_pos (there_of t L q hth)]
 dsimp only
 rw [bif_f (show ((0 : Int) != 0) = false from rfl)]
 have hcol : slice * q + index < 4 * q := by
  have := Nat.mul_le_mul_right q (show slice + 1 ≤ 4 by omega)
  rw [Nat.succ_mul] at this; omega
 refine (p48 N a t m b z L q hq g2 g4 _).trans ?_
 refine (p49 N a t m b z L q hq hcol _).trans ?_
 rfl
def fillQ (pass : Int) (x y was : Bl) : Bl := xorL [mixF x y, if pass = 0 then nulB else was]
theorem p66 (hN : N = 1301) (x y w : Bl) (κ : Bl → Option R) : p_66 N ((x, y, (), ()), ([w], ())) κ = κ (xorL [mixF x y, w]) := by
 unfold p_66 Q_66
 try dsimp only
 rw [p89 N hN]
 try dsimp only
 rw [bif_t (by simp)]
 refine (p88 N (by omega) _ (by simp) _).trans ?_
 rfl
theorem p44 (hN : N = 1301) (hL : L ≤ 4) (hq : 2 ≤ q ∧ q ≤ 20) (pass slice : Int) (la co lb cb lr cr : Nat) (h1 : la < L) (h2 : co < 4 * q) (h3 : lb < L) (h4 : cb < 4 * q) (h5 : lr < L) (h6 : cr < 4 * q) (ar) (l : List Bl) (hl : l.length = L * (4 * q)) (κ) :
  p_44 (R := R) N (((), (pass, (slice, ())), (((la : Int), ((co : Int), ())), (((lb : Int), ((cb : Int), ())), (((lr : Int), ((cr : Int), ())), ()))), ()), gh (shq a t m b z L q) ar l) κ =
   κ (0, gh (shq a t m b z L q) ar (l.set (la * (4 * q) + co) (fillQ pass (l.getD (lb * (4 * q) + cb) nulB) (l.getD (lr * (4 * q) + cr) nulB) (l.getD (la * (4 * q) + co) nulB)))) := by
 unfold p_44 Q_44 gh
 try dsimp only
 have get : ∀ (x y : Nat), x < L → y < 4 * q → ∀ κ, p_43 (R := R) N (((), ((x : Int), ((y : Int), ())), ()), gh (shq a t m b z L q) ar l) κ = κ (l.getD (x * (4 * q) + y) nulB, (0, ())) := by
  intro x y hx hy κ
  rw [shq_shn]
  refine (p43 (R := R) N a t m b q z L (4 * q) hL (by omega) x y ar l hl _).trans ?_
  rw [if_pos ⟨by omega, by omega, by omega, by omega⟩, show ((x : Int) * ((4 * q : Nat) : Int) + (y : Int)).toNat = x * (4 * q) + y by rw [← Int.natCast_mul, ← Int.natCast_add, Int.toNat_natCast]]
 have put : ∀ (w : Bl) κ, p_34 (R := R) N (((), ((la : Int), ((co : Int), ())), w, ()), gh (shq a t m b z L q) ar l) κ = κ (0, gh (shq a t m b z L q) ar (l.set (la * (4 * q) + co) w)) := by
  intro w κ
  rw [shq_shn]
  refine (p34 (R := R) N a t m b q z L (4 * q) hL (by omega) la co ar l hl w _).trans ?_
  rw [if_pos ⟨by omega, by omega, by omega, by omega⟩, show ((la : Int) * ((4 * q : Nat) : Int) + (co : Int)).toNat = la * (4 * q) + co by rw [← Int.natCast_mul, ← Int.natCast_add, Int.toNat_natCast]]
 refine (get lb cb h3 h4 _).trans ?_
 dsimp only
 rw [bif_f (show ((0 : Int) != 0) = false from rfl)]
 refine (get lr cr h5 h6 _).trans ?_
 dsimp only
 rw [bif_f (show ((0 : Int) != 0) = false from rfl)]
 refine (get la co h1 h2 _).trans ?_
 dsimp only
 rw [bif_f (show ((0 : Int) != 0) = false from rfl)]
 unfold fillQ
 by_cases hp : pass = 0
 ·rw [bif_t (by simpa using hp), if_pos hp]
  refine (p66 N hN _ _ _ _).trans ?_
  refine (put _ _).trans ?_
  rfl
 ·rw [bif_f (by simpa using hp), if_neg hp]
  refine (p66 N hN _ _ _ _).trans ?_
  refine (put _ _).trans ?_
  rfl
end
theorem p83 {R : Type} (N : Nat) (area j : Int) (h1 : 1 ≤ area) (h2 : area ≤ 4294967296) (j1 : 0 ≤ j) (j2 : j < 4294967296) (κ) : p_83 (R := R) N ((area, j, ()), ()) κ = κ (pickOf area j) := by
 unfold p_83 Q_83
 try dsimp only
 rw [wrapU64, wrapU64, Int.emod_eq_of_lt j1 (by omega), Int.emod_eq_of_lt (by omega) (by omega)]
 have b1 : j * j ≤ 4294967295 * 4294967295 := Int.mul_le_mul (by omega) (by omega) j1 (by omega)
 have b0 : 0 ≤ j * j := Int.mul_nonneg j1 j1
 have pin := pick_in h1 j1 j2
 have q0 : ∀ {z : Int}, 0 ≤ z → z < 18446744073709551616 → quoA .u64 z 4294967296 = z / 4294967296 := by
  intro z z0 z1
  unfold quoA
  rw [Int.tdiv_eq_ediv_of_nonneg z0, wrapU64]
  omega
 unfold pickOf at *
 rw [mulU64 b0 (by omega), q0 b0 (by omega)]
 generalize hx : j * j / 4294967296 = x at *
 have x0 : 0 ≤ x ∧ x ≤ 4294967295 := by omega
 have c0 : 0 ≤ area * x := Int.mul_nonneg (by omega) x0.1
 have c1 : area * x ≤ 4294967296 * 4294967295 := Int.mul_le_mul h2 x0.2 x0.1 (by omega)
 rw [mulU64 c0 (by omega), q0 c0 (by omega)]
 generalize area * x = z at *
 rw [sub64 (a := area) (by omega) (by omega), wrap64 (by omega) (by omega), sub64 (by omega) (by omega)]
section
variable {R : Type} (N : Nat) (s0 t L s3 s4 q s7 : Int)
def colK (F q : Int) (k : Nat) : Int := (F + k) % (4 * q)
def colsTo (F q : Int) (n : Nat) : List Int := (List.range n).map (colK F q)
theorem colsTo_len (F q : Int) (n : Nat) : (colsTo F q n).length = n := by simp [colsTo]
theorem colsTo_succ (F q : Int) (n : Nat) {v : Int} (hv : v = colK F q n) : colsTo F q n ++ [v] = colsTo F q (n + 1) := by
 subst hv
 simp [colsTo, List.range_succ]
theorem colsTo_take (F q : Int) (n m : Nat) (h : m ≤ n) : List.take m (colsTo F q n) = colsTo F q m := by
 simp [colsTo, ← List.map_take, List.take_range, Nat.min_eq_left h]
theorem colsTo_get (F q : Int) (n k : Nat) (h : k < n) (z : Int) : List.getD (colsTo F q n) k z = colK F q k := by
 simp [colsTo, h]
theorem l82a (F : Int) (hq : 2 ≤ q ∧ 4 * q ≤ 400) (index w : Int) (own : Bool) (hw : 0 ≤ w ∧ w ≤ 3 * q) (hF : ∀ i : Nat, (w + q + i) % (4 * q) = (F + i) % (4 * q)) (D : Nat) (hD : (D : Int) = 3 * q) (κ) : ∀ (n i : Nat), i ≤ D → D - i < n →
  l_82_5 (R := R) N n ((index, own, (), w, (), (i : Int), ()), ((s0, (t, (L, (s3, (s4, (4 * q, (q, (s7, ())))))))), colsTo F q i, ())) κ = κ ((index, own, w, (), ()), (colsTo F q D, ()))
 | 0, i, h1, h2 => by omega
 | n + 1, i, h1, h2 => by
  unfold l_82_5 B_82_5 C_82_5
  try dsimp only
  rw [sub64 (a := 4 * q) (by omega) (by omega), show 4 * q - q = 3 * q by omega]
  by_cases hi : i < D
  ·rw [bif_t (dT (show (i : Int) < 3 * q by omega)), bif_f (dF (by omega)), add64 (a := w) (by omega) (by omega), add64 (a := w + q) (by omega) (by omega), rem64 (by omega), colsTo_len, dT (by simp; omega)]
   simp only [Bool.and_true, cond_true]
   rw [colsTo_succ F q i (hF i), show addA .i64 (i : Int) 1 = ((i + 1 : Nat) : Int) by rw [add64 (by omega) (by omega)]; simp]
   exact l82a F hq index w own hw hF D hD κ n (i + 1) (by omega) (by omega)
  ·rw [bif_f (dF (show ¬ (i : Int) < 3 * q by omega)), show i = D by omega]
theorem l82b (hq : 2 ≤ q ∧ 4 * q ≤ 400) (index : Int) (own : Bool) (D : Nat) (hD : (D : Int) ≤ 3 * q) (κ) : ∀ (n i : Nat), i ≤ D → D - i < n →
  l_82_9 (R := R) N n ((index, own, (D : Int), (), (i : Int), ()), (colsTo 0 q i, ())) κ = κ ((index, own, (D : Int), (), ()), (colsTo 0 q D, ()))
 | 0, i, h1, h2 => by omega
 | n + 1, i, h1, h2 => by
  unfold l_82_9 B_82_9 C_82_9
  try dsimp only
  by_cases hi : i < D
  ·rw [bif_t (dT (show (i : Int) < (D : Int) by omega)), colsTo_len, dT (by simp; omega)]
   simp only [Bool.and_true, cond_true]
   rw [colsTo_succ 0 q i (v := (i : Int)) (by unfold colK; rw [Int.zero_add, Int.emod_eq_of_lt (by omega) (by omega)]), show addA .i64 (i : Int) 1 = ((i + 1 : Nat) : Int) by rw [add64 (by omega) (by omega)]; simp]
   exact l82b hq index own D hD κ n (i + 1) (by omega) (by omega)
  ·rw [bif_f (dF (show ¬ (i : Int) < (D : Int) by omega)), show i = D by omega]
theorem l82c (F : Int) (hq : 2 ≤ q ∧ 4 * q ≤ 400) (w : Int) (own : Bool) (D I : Nat) (hD : (D : Int) ≤ 3 * q) (hI : (I : Int) < q) (hw : 0 ≤ w ∧ w ≤ 3 * q) (hF : ∀ i : Nat, i < I → (F + (D + i : Nat)) % (4 * q) = w + i) (κ) : ∀ (n i : Nat), i ≤ I → I - i < n →
  l_82_14 (R := R) N n (((I : Int), own, w, (), (i : Int), ()), (colsTo F q (D + i), ())) κ = κ (((I : Int), own, (), ()), (colsTo F q (D + I), ()))
 | 0, i, h1, h2 => by omega
 | n + 1, i, h1, h2 => by
  unfold l_82_14 B_82_14 C_82_14
  try dsimp only
  by_cases hi : i < I
  ·rw [bif_t (dT (show (i : Int) < (I : Int) by omega)), add64 (a := w) (by omega) (by omega), colsTo_len, dT (by simp; omega)]
   simp only [Bool.and_true, cond_true]
   rw [colsTo_succ F q (D + i) (hF i hi).symm, show addA .i64 (i : Int) 1 = ((i + 1 : Nat) : Int) by rw [add64 (by omega) (by omega)]; simp]
   exact l82c F hq w own D I hD hI hw hF κ n (i + 1) (by omega) (by omega)
  ·rw [bif_f (dF (show ¬ (i : Int) < (I : Int) by omega)), show i = I by omega]
theorem cut_last (F : Int) (n : Nat) (hn : 1 ≤ n) (hn2 : n ≤ 1300) (κ : List Int → Option R) :
  (bif decide (0 ≤ subA .i64 (((colsTo F q n).length : Nat) : Int) 1) then (bif decide (subA .i64 (((colsTo F q n).length : Nat) : Int) 1 ≤ (((colsTo F q n).length : Nat) : Int)) then (bif decide (0 ≤ subA .i64 (((colsTo F q n).length : Nat) : Int) 1) then κ (List.take ((Int.toNat (subA .i64 (((colsTo F q n).length : Nat) : Int) 1)) - 0) (List.drop 0 (colsTo F q n))) else none) else none) else none) = κ (colsTo F q (n - 1)) := by
 rw [colsTo_len, sub64 (by omega) (by omega), bif_t (dT (by omega)), bif_t (dT (by omega)), bif_t (dT (by omega)), List.drop_zero, colsTo_take F q n _ (by omega), show (((n : Nat) : Int) - 1).toNat - 0 = n - 1 by omega]
theorem p82 (hN : 1300 < N) (hq : 2 ≤ q ∧ 4 * q ≤ 400) (pass slice lane index : Int) (own : Bool) (h : There t L q pass slice lane index) (κ : List Int → Option R) :
  p_82 (R := R) N (((s0, (t, (L, (s3, (s4, (4 * q, (q, (s7, ())))))))), pass, slice, index, own, ()), ()) κ = κ (colsTo (fromOf pass slice q) q (areaOf pass slice q index own).toNat) := by
 obtain ⟨⟨⟨h1, h2⟩, h3, h4⟩, ⟨h5, h6⟩, h7, h8⟩ := h
 have idx : 0 ≤ index := by split at h7 <;> omega
 have b1 : slice * q ≤ 3 * q := Int.mul_le_mul_of_nonneg_right h4 (by omega)
 have b0 : 0 ≤ slice * q := Int.mul_nonneg h3 (by omega)
 obtain ⟨I, rfl⟩ := Int.eq_ofNat_of_zero_le idx
 obtain ⟨W, hW⟩ := Int.eq_ofNat_of_zero_le b0
 have big : ∀ i : Int, (i + 4 * q) % (4 * q) = i % (4 * q) := fun i => Int.add_emod_right ..
 unfold p_82 Q_82
 try dsimp only
 rw [mul64 (a := slice) (by omega) (by omega)]
 by_cases g1 : pass > 0
 ·rw [bif_t (dT g1)]
  have hF : ∀ i : Nat, (slice * q + q + i) % (4 * q) = (fromOf pass slice q + i) % (4 * q) := by
   intro i
   unfold fromOf
   by_cases e : slice = 3
   ·rw [if_pos (.inr e), e, show 3 * q + q + (i : Int) = (0 + i) + 4 * q by omega, big]
   ·rw [if_neg (fun hh => hh.elim (by omega) e), Int.add_mul, Int.one_mul]
  have hF2 : ∀ i : Nat, i < I → (fromOf pass slice q + ((3 * q).toNat + i : Nat)) % (4 * q) = slice * q + i := by
   intro i hi
   have := hF (3 * q).toNat
   rw [show (((3 * q).toNat + i : Nat) : Int) = ((3 * q).toNat : Int) + i by omega, show ((3 * q).toNat : Int) = 3 * q by omega]
   have e1 : fromOf pass slice q + (3 * q + (i : Int)) = fromOf pass slice q + (((3 * q).toNat + i : Nat) : Int) := by omega
   rw [e1, ← hF, show slice * q + q + (((3 * q).toNat + i : Nat) : Int) = (slice * q + i) + 4 * q by omega, big, Int.emod_eq_of_lt (by omega) (by omega)]
  have h30 : ((3 * q).toNat : Int) = 3 * q := by omega
  refine (l82a N s0 t L s3 s4 q s7 (fromOf pass slice q) hq I (slice * q) own ⟨b0, b1⟩ hF (3 * q).toNat h30 _ N 0 (by omega) (by omega)).trans ?_
  try dsimp only
  unfold areaOf doneOf
  rw [if_pos g1]
  cases own with
  | true =>
   rw [bif_t rfl, if_pos rfl]
   refine (l82c N q (fromOf pass slice q) hq (slice * q) true (3 * q).toNat I (by omega) (by omega) ⟨b0, b1⟩ hF2 _ N 0 (by omega) (by omega)).trans ?_
   try dsimp only
   rw [bif_t rfl]
   refine (cut_last q (fromOf pass slice q) _ (by omega) (by omega) κ).trans ?_
   congr 2; omega
  | false =>
   rw [bif_f rfl, bif_f rfl, if_neg (by simp)]
   by_cases e : (I : Int) = 0
   ·rw [bif_t (beq_iff_eq.2 e), if_pos e]
    refine (cut_last q (fromOf pass slice q) _ (by omega) (by omega) κ).trans ?_
    congr 2; omega
   ·rw [bif_f (beq_eq_false_iff_ne.2 e), if_neg e]
 ·rw [bif_f (dF g1)]
  have hF0 : fromOf pass slice q = 0 := by unfold fromOf; rw [if_pos (.inl (by omega))]
  rw [hF0]
  have hF2 : ∀ i : Nat, i < I → ((0 : Int) + (W + i : Nat)) % (4 * q) = (W : Int) + i := by
   intro i hi
   rw [Int.zero_add, Int.emod_eq_of_lt (by omega) (by omega)]; omega
  rw [hW]
  refine (l82b N q hq I own W (by omega) _ N 0 (by omega) (by omega)).trans ?_
  try dsimp only
  unfold areaOf doneOf
  rw [if_neg g1, hW]
  have nz : slice ≠ 0 → 2 ≤ W := by
   intro e
   have : 1 * q ≤ slice * q := Int.mul_le_mul_of_nonneg_right (by omega) (by omega)
   omega
  have first : slice = 0 → 2 ≤ I := by
   intro e
   rw [if_pos ⟨by omega, e⟩] at h7
   omega
  cases own with
  | true =>
   rw [bif_t rfl, if_pos rfl]
   refine (l82c N q 0 hq W true W I (by omega) (by omega) (by omega) hF2 _ N 0 (by omega) (by omega)).trans ?_
   try dsimp only
   rw [bif_t rfl]
   have : 1 ≤ W + I := by
    by_cases e : slice = 0
    ·have := first e; omega
    ·have := nz e; omega
   refine (cut_last q 0 _ this (by omega) κ).trans ?_
   congr 2; omega
  | false =>
   rw [bif_f rfl, bif_f rfl, if_neg (by simp)]
   by_cases e : (I : Int) = 0
   ·rw [bif_t (beq_iff_eq.2 e), if_pos e]
    have : 1 ≤ W := by
     by_cases e2 : slice = 0
     ·have := first e2; omega
     ·have := nz e2; omega
    refine (cut_last q 0 _ this (by omega) κ).trans ?_
    congr 2; omega
   ·rw [bif_f (beq_eq_false_iff_ne.2 e), if_neg e]
    simp
theorem p59 (hN : 1300 < N) (hL : 1 ≤ L ∧ L ≤ 16777215) (hq : 2 ≤ q ∧ 4 * q ≤ 400) (pass slice lane index ja jb : Int) (ja1 : 0 ≤ ja) (ja2 : ja < 4294967296) (jb1 : 0 ≤ jb) (jb2 : jb < 4294967296) (h : There t L q pass slice lane index) (κ : (Int × (Int × Unit)) → Option R) :
  p_59 (R := R) N (((s0, (t, (L, (s3, (s4, (4 * q, (q, (s7, ())))))))), pass, slice, lane, index, ja, jb, ()), ()) κ = κ ((laneOf pass slice lane jb L, (colOf pass slice index ja q (laneOf pass slice lane jb L == lane), ()))) := by
 have col : ∀ (own : Bool), (pass = 0 → slice = 0 → own = true) → ∀ κ' : Int → Option R,
   (p_83 N (((((colsTo (fromOf pass slice q) q (areaOf pass slice q index own).toNat).length : Nat) : Int), ja, ()), ()) fun y => bif decide (0 ≤ y) then (bif decide (y < ((colsTo (fromOf pass slice q) q (areaOf pass slice q index own).toNat).length : Int)) then κ' (List.getD (colsTo (fromOf pass slice q) q (areaOf pass slice q index own).toNat) (Int.toNat y) (Sch.zero (.int .i64))) else none) else none) = κ' (colOf pass slice index ja q own) := by
  intro own ho κ'
  obtain ⟨a1, a2⟩ := area_in t L q hq.1 pass slice lane index own h ho
  obtain ⟨p1, p2⟩ := pick_in a1 ja1 ja2
  have e0 : (((areaOf pass slice q index own).toNat : Nat) : Int) = areaOf pass slice q index own := by omega
  rw [colsTo_len, e0, p83 N _ ja a1 (by omega) ja1 ja2, bif_t (dT p1), bif_t (dT (by omega)), colsTo_get _ _ _ _ (by omega)]
  unfold colK colOf
  congr 3; omega
 unfold p_59 Q_59
 try dsimp only
 rw [wrap64 (by omega) (by omega), bif_f (dF (by omega)), rem64 jb1]
 by_cases h1 : pass = 0
 ·rw [bif_t (beq_iff_eq.2 h1)]
  by_cases h2 : slice = 0
  ·rw [bif_t (beq_iff_eq.2 h2), p82 N s0 t L s3 s4 q s7 hN hq pass slice lane index _ h]
   have e : laneOf pass slice lane jb L = lane := by unfold laneOf; rw [if_pos ⟨h1, h2⟩]
   rw [e]
   exact col _ (fun _ _ => by simp) (fun c => κ (lane, (c, ())))
  ·rw [bif_f (beq_eq_false_iff_ne.2 h2), p82 N s0 t L s3 s4 q s7 hN hq pass slice lane index _ h]
   have e : laneOf pass slice lane jb L = jb % L := by unfold laneOf; rw [if_neg (fun hh => h2 hh.2)]
   rw [e]
   exact col _ (fun _ e2 => absurd e2 h2) (fun c => κ (jb % L, (c, ())))
 ·rw [bif_f (beq_eq_false_iff_ne.2 h1), p82 N s0 t L s3 s4 q s7 hN hq pass slice lane index _ h]
  have e : laneOf pass slice lane jb L = jb % L := by unfold laneOf; rw [if_neg (fun hh => h1 hh.1)]
  rw [e]
  exact col _ (fun e1 _ => absurd e1 h1) (fun c => κ (jb % L, (c, ())))
end
theorem p57 {R : Type} (N : Nat) (s : Shp8) (pass slice : Int) (κ : Bool → Option R) : p_57 N ((s, pass, slice, ()), ()) κ = κ (freeF s pass slice) := by
 unfold p_57 Q_57 freeF
 try dsimp only
 by_cases h3 : s.1 = 3
 ·rw [bif_t (beq_iff_eq.2 h3), if_pos h3]
  by_cases h4 : pass = 0
  ·rw [bif_t (beq_iff_eq.2 h4), if_pos h4]
  ·rw [bif_f (beq_eq_false_iff_ne.2 h4), if_neg h4]
 ·rw [bif_f (beq_eq_false_iff_ne.2 h3), if_neg h3]
theorem lo_eq {w : Int} (h : W w) : IntKind.wrap .u32 (remA .u64 w 4294967296) = (wordsF w).1 := by
 unfold wordsF remA
 rw [Int.tmod_eq_emod_of_nonneg h.1, wrapU32, wrapU32]
 omega
theorem hi_eq {w : Int} (h : W w) : IntKind.wrap .u32 (quoA .u64 w 4294967296) = (wordsF w).2 := by
 unfold wordsF quoA
 dsimp only
 rw [Int.tdiv_eq_ediv_of_nonneg h.1, shr32 h.1, wrapU64]
 have := h.1
 have := h.2
 rw [Int.emod_eq_of_lt (by omega) (by omega)]
theorem xorL_null (x : Bl) (h1 : ∀ j, W (x j)) (h2 : OutB x) : xorL [x, nulB] = x := by
 funext j
 rw [xorL_two]
 by_cases h : j < 128
 ·rw [if_pos h, zero_xor (h1 j)]
  show xorA .u64 (x j) 0 = x j
  rw [xor_comm, zero_xor (h1 j)]
 ·rw [if_neg h, h2 j (by omega)]
theorem mixF_null (x y : Bl) : xorL [mixF x y, nulB] = mixF x y := xorL_null _ (mixF_W x y) (by unfold mixF; exact xorL_out _)
def GW (l : List Bl) : Prop := ∀ k j, W (l.getD k nulB j)
theorem GW_rep (n : Nat) : GW (List.replicate n nulB) := fun k j => by
 by_cases h : k < n
 ·rw [List.getD_eq_getElem?_getD, List.getElem?_replicate, if_pos h]; exact W_zero
 ·rw [List.getD_eq_getElem?_getD, List.getElem?_replicate, if_neg h]; exact W_zero
theorem GW_set {l : List Bl} (h : GW l) (i : Nat) {x : Bl} (hx : ∀ j, W (x j)) : GW (l.set i x) := fun k j => by
 by_cases hi : i < l.length
 ·rw [getD_set _ _ _ _ _ hi]
  by_cases e : k = i
  ·rw [if_pos e]; exact hx j
  ·rw [if_neg e]; exact h k j
 ·rw [List.set_eq_of_length_le (by omega)]; exact h k j
theorem fillQ_W (pass : Int) (x y was : Bl) (j : Nat) : W (fillQ pass x y was j) := by unfold fillQ; exact xorL_W _ _
theorem gridF_get (l : List Bl) {C L la co : Nat} (h : la < L) (hc : co < C) (z : Bl) : ((gridF l C L).getD la []).getD co z = l.getD (la * C + co) nulB := by
 unfold gridF; exact rowsF_get _ C L h hc z
section
variable {R : Type} (N : Nat) (a t m b z : Int) (L q : Nat)
theorem p58 (hN : N = 1301) (pass slice lane : Int) (index : Nat) (hi : index ≤ 1300) (κ : Int → Option R) :
  p_58 N ((shq a t m b z L q, pass, slice, lane, (index : Int), ()), ()) κ = κ (addrF a t b pass slice lane ((index / 128 + 1 : Nat) : Int) (index % 128)) := by
 unfold p_58 Q_58 shq
 try dsimp only
 have e1 : quoA .i64 (index : Int) 128 = ((index / 128 : Nat) : Int) := by rw [quo64 (by omega) (by omega) (by omega)]; omega
 have e2 : addA .i64 ((index / 128 : Nat) : Int) 1 = ((index / 128 + 1 : Nat) : Int) := by rw [add64 (by omega) (by omega)]; simp
 have e3 : remA .i64 (index : Int) 128 = ((index % 128 : Nat) : Int) := by rw [rem64 (by omega)]; omega
 rw [e1, e2, e3, p81 N hN]
 try dsimp only
 rw [bif_t (dT (by omega)), bif_t (dT (by omega)), Int.toNat_natCast]
def oneQ (l : List Bl) (pass slice lane index : Nat) : Bl :=
 fillQ pass (l.getD (lane * (4 * q) + befQ q (slice * q + index)) nulB) (l.getD ((refL a t m b z L q l pass slice lane index).toNat * (4 * q) + (refC a t m b z L q l pass slice lane index).toNat) nulB) (l.getD (lane * (4 * q) + (slice * q + index)) nulB)
theorem p36 (hN : N = 1301) (ht : 1 ≤ t ∧ t ≤ 3) (hL : 1 ≤ L ∧ L ≤ 4) (hq : 2 ≤ q ∧ q ≤ 20) {pass slice lane index : Nat} (hth : ThereN t L q pass slice lane index) (l : List Bl) (hg : GW l) (κ : Bl → Option R) :
  p_36 N ((shq a t m b z L q, (), (pass : Int), (slice : Int), (lane : Int), (index : Int), ()), (gridF l (4 * q) L, ())) κ = κ (oneQ a t m b z L q l pass slice lane index) := by
 obtain ⟨g1, g2, g3, g4, g5⟩ := id hth
 have hcol : slice * q + index < 4 * q := by
  have := Nat.mul_le_mul_right q (show slice + 1 ≤ 4 by omega)
  rw [Nat.succ_mul] at this; omega
 have hb := befQ_lt q hq.1 hcol
 obtain ⟨r1, r2⟩ := refL_in a t m b z L q hL.1 l pass slice lane index g3
 obtain ⟨r3, r4⟩ := refC_in a t m b z L q hq.1 l pass slice lane index
 have h1 : slice * q ≤ 3 * q := Nat.mul_le_mul_right _ (by omega)
 have e0 : ((slice * q : Nat) : Int) = (slice : Int) * (q : Int) := Int.natCast_mul ..
 have e1 : mulA .i64 (slice : Int) (q : Int) = ((slice * q : Nat) : Int) := by rw [mul64 (by omega) (by omega), e0]
 have e2 : addA .i64 ((slice * q : Nat) : Int) (index : Int) = ((slice * q + index : Nat) : Int) := by rw [add64 (by omega) (by omega)]; omega
 have e3 : addA .i64 ((slice * q + index : Nat) : Int) (4 * (q : Int)) = ((slice * q + index + 4 * q : Nat) : Int) := by rw [add64 (by omega) (by omega)]; omega
 have e4 : subA .i64 ((slice * q + index + 4 * q : Nat) : Int) 1 = ((slice * q + index + 4 * q - 1 : Nat) : Int) := by rw [sub64 (by omega) (by omega)]; omega
 have e5 : remA .i64 ((slice * q + index + 4 * q - 1 : Nat) : Int) (4 * (q : Int)) = ((befQ q (slice * q + index) : Nat) : Int) := by
  rw [rem64 (by omega), show (4 * (q : Int)) = ((4 * q : Nat) : Int) by omega, ← Int.natCast_emod]
  unfold befQ
  by_cases h0 : slice * q + index = 0
  ·rw [if_pos h0, h0, Nat.mod_eq_of_lt (by omega)]; omega
  ·rw [if_neg h0, show slice * q + index + 4 * q - 1 = slice * q + index - 1 + 4 * q by omega, Nat.add_mod_right, Nat.mod_eq_of_lt (by omega)]
 have gl : (gridF l (4 * q) L).length = L := by unfold gridF; exact rowsF_len _ _ _
 have gr : ∀ {x : Nat}, x < L → ((gridF l (4 * q) L).getD x []).length = 4 * q := fun h => by unfold gridF; exact rowsF_rlen _ _ _ h
 have gB : ((gridF l (4 * q) L).getD lane []).getD (befQ q (slice * q + index)) (Sch.zero (.arr 128 (.int .u64))) = l.getD (lane * (4 * q) + befQ q (slice * q + index)) nulB := gridF_get l g3 hb _
 have gO : ((gridF l (4 * q) L).getD lane []).getD (slice * q + index) (Sch.zero (.arr 128 (.int .u64))) = l.getD (lane * (4 * q) + (slice * q + index)) nulB := gridF_get l g3 hcol _
 have gR : ((gridF l (4 * q) L).getD (refL a t m b z L q l pass slice lane index).toNat []).getD (refC a t m b z L q l pass slice lane index).toNat (Sch.zero (.arr 128 (.int .u64))) = l.getD ((refL a t m b z L q l pass slice lane index).toNat * (4 * q) + (refC a t m b z L q l pass slice lane index).toNat) nulB := gridF_get l (by omega) (by omega) _
 have tail : ∀ x : Bl, (bif decide ((pass : Int) > 0) then (bif decide (0 ≤ (lane : Int)) then (bif decide ((lane : Int) < ((gridF l (4 * q) L).length : Int)) then (bif decide (0 ≤ ((slice * q + index : Nat) : Int)) then (bif decide (((slice * q + index : Nat) : Int) < (((gridF l (4 * q) L).getD (Int.toNat (lane : Int)) []).length : Int)) then p_61 N (([x, ((gridF l (4 * q) L).getD (Int.toNat (lane : Int)) []).getD (Int.toNat ((slice * q + index : Nat) : Int)) (Sch.zero (.arr 128 (.int .u64)))], ()), ()) (fun y => κ y) else none) else none) else none) else none) else κ x) =
   κ (if (pass : Int) = 0 then x else xorL [x, l.getD (lane * (4 * q) + (slice * q + index)) nulB]) := by
  intro x
  by_cases hp : (pass : Int) = 0
  ·rw [bif_f (dF (by omega)), if_pos hp]
  ·rw [bif_t (dT (by omega)), bif_t (dT (by omega)), gl, bif_t (dT (by omega)), bif_t (dT (by omega)), Int.toNat_natCast, gr g3, bif_t (dT (by omega)), Int.toNat_natCast, gO, p61 N (by omega) _ (by simp), if_neg hp]
 have fin : (if (pass : Int) = 0 then mixF (l.getD (lane * (4 * q) + befQ q (slice * q + index)) nulB) (l.getD ((refL a t m b z L q l pass slice lane index).toNat * (4 * q) + (refC a t m b z L q l pass slice lane index).toNat) nulB) else xorL [mixF (l.getD (lane * (4 * q) + befQ q (slice * q + index)) nulB) (l.getD ((refL a t m b z L q l pass slice lane index).toNat * (4 * q) + (refC a t m b z L q l pass slice lane index).toNat) nulB), l.getD (lane * (4 * q) + (slice * q + index)) nulB]) = oneQ a t m b z L q l pass slice lane index := by
  unfold oneQ fillQ
  by_cases hp : (pass : Int) = 0
  ·rw [if_pos hp, if_pos hp, mixF_null]
  ·rw [if_neg hp, if_neg hp]
 have of : ∀ (w : Int) (hw : w = wordQ a t m b z L q l pass slice lane index) (κ' : (Int × (Int × Unit)) → Option R),
   p_59 N (((a, (t, ((L : Int), (m, (b, (4 * (q : Int), ((q : Int), (z, ())))))))), (pass : Int), (slice : Int), (lane : Int), (index : Int), (wordsF w).1, (wordsF w).2, ()), ()) κ' = κ' (refL a t m b z L q l pass slice lane index, (refC a t m b z L q l pass slice lane index, ())) := by
  intro w hw κ'
  obtain ⟨⟨w1, w2⟩, w3, w4⟩ := wordsF_in w
  subst hw
  exact p59 N a t (L : Int) m b (q : Int) z (by omega) ⟨by omega, by omega⟩ ⟨by omega, by omega⟩ pass slice lane index _ _ w1 w2 w3 w4 (there_of t L q hth) κ'
 have last : ∀ (w : Int) (hw : w = wordQ a t m b z L q l pass slice lane index) (hW : W w), (p_59 N (((a, (t, ((L : Int), (m, (b, (4 * (q : Int), ((q : Int), (z, ())))))))), (pass : Int), (slice : Int), (lane : Int), (index : Int), IntKind.wrap .u32 (remA .u64 w 4294967296), IntKind.wrap .u32 (quoA .u64 w 4294967296), ()), ()) fun y =>
   bif decide (0 ≤ (lane : Int)) then (bif decide ((lane : Int) < ((gridF l (4 * q) L).length : Int)) then (bif decide (0 ≤ ((befQ q (slice * q + index) : Nat) : Int)) then (bif decide (((befQ q (slice * q + index) : Nat) : Int) < (((gridF l (4 * q) L).getD (Int.toNat (lane : Int)) []).length : Int)) then (bif decide (0 ≤ y.1) then (bif decide (y.1 < ((gridF l (4 * q) L).length : Int)) then (bif decide (0 ≤ y.2.1) then (bif decide (y.2.1 < (((gridF l (4 * q) L).getD (Int.toNat y.1) []).length : Int)) then
    p_60 N ((((gridF l (4 * q) L).getD (Int.toNat (lane : Int)) []).getD (Int.toNat ((befQ q (slice * q + index) : Nat) : Int)) (Sch.zero (.arr 128 (.int .u64))), ((gridF l (4 * q) L).getD (Int.toNat y.1) []).getD (Int.toNat y.2.1) (Sch.zero (.arr 128 (.int .u64))), ()), ()) fun x =>
     (bif decide ((pass : Int) > 0) then (bif decide (0 ≤ (lane : Int)) then (bif decide ((lane : Int) < ((gridF l (4 * q) L).length : Int)) then (bif decide (0 ≤ ((slice * q + index : Nat) : Int)) then (bif decide (((slice * q + index : Nat) : Int) < (((gridF l (4 * q) L).getD (Int.toNat (lane : Int)) []).length : Int)) then p_61 N (([x, ((gridF l (4 * q) L).getD (Int.toNat (lane : Int)) []).getD (Int.toNat ((slice * q + index : Nat) : Int)) (Sch.zero (.arr 128 (.int .u64)))], ()), ()) (fun y => κ y) else none) else none) else none) else none) else κ x)
    else none) else none) else none) else none) else none) else none) else none) else none) = κ (oneQ a t m b z L q l pass slice lane index) := by
  intro w hw hW
  rw [lo_eq hW, hi_eq hW, of w hw]
  dsimp only
  rw [bif_t (dT (by omega)), gl, bif_t (dT (by omega)), bif_t (dT (by omega)), Int.toNat_natCast, gr g3, bif_t (dT (by omega)), bif_t (dT (by omega)), bif_t (dT (by omega)), bif_t (dT (by omega)), gr (by omega), bif_t (dT (by omega)), Int.toNat_natCast, gB, gR, p60 N hN]
  have := tail (mixF (l.getD (lane * (4 * q) + befQ q (slice * q + index)) nulB) (l.getD ((refL a t m b z L q l pass slice lane index).toNat * (4 * q) + (refC a t m b z L q l pass slice lane index).toNat) nulB))
  rw [fin, gl, Int.toNat_natCast lane, gr g3] at this
  exact this
 unfold p_36 Q_36 shq
 dsimp only
 rw [bif_f (dF (show ¬ (4 * (q : Int)) = 0 by omega)), e1, e2, e3, e4, e5]
 refine (bif_t (dT (by omega))).trans ?_
 refine (bif_t (dT (by rw [gl]; omega))).trans ?_
 refine (bif_t (dT (by omega))).trans ?_
 refine (bif_t (dT (by rw [Int.toNat_natCast, gr g3]; omega))).trans ?_
 refine (p57 N (shq a t m b z L q) pass slice _).trans ?_
 by_cases hf : freeF (shq a t m b z L q) pass slice = true
 ·rw [hf]
  refine (bif_t rfl).trans ?_
  refine (p58 N a t m b z L q hN pass slice lane index (by omega) _).trans ?_
  refine last _ ?_ (addrF_W _ _ _ _ _ _ _ _)
  unfold wordQ
  rw [if_pos hf]
 ·refine (bif_f (by simpa using hf)).trans ?_
  rw [Int.toNat_natCast lane, Int.toNat_natCast (befQ q (slice * q + index)), gB]
  have hw : (l.getD (lane * (4 * q) + befQ q (slice * q + index)) nulB) 0 = wordQ a t m b z L q l pass slice lane index := by unfold wordQ; rw [if_neg hf]
  have := last _ hw (hg _ _)
  rw [Int.toNat_natCast lane, Int.toNat_natCast (befQ q (slice * q + index)), gB] at this
  exact this
end
def tkF (l : List Int) : Nat → Nat → List Int → List Int
 | 0, _, o => o
 | n + 1, i, o => tkF l n (i + 1) (o.set (i / 8) (orA .u64 (o.getD (i / 8) 0) (shlA .u64 (IntKind.wrap .u64 (l.getD i 0)) ((8 * (i % 8) : Nat) : Int))))
theorem tkF_len (l : List Int) : ∀ (n i : Nat) (o : List Int), (tkF l n i o).length = o.length
 | 0, _, _ => rfl
 | n + 1, i, o => by unfold tkF; rw [tkF_len l n]; exact List.length_set ..
theorem tkF_W (l : List Int) : ∀ (n i : Nat) (o : List Int), (∀ j, W (o.getD j 0)) → ∀ j, W ((tkF l n i o).getD j 0)
 | 0, _, _, h => h
 | n + 1, i, o, h => by
  unfold tkF
  refine tkF_W l n _ _ fun j => ?_
  by_cases hi : i / 8 < o.length
  ·rw [getD_set _ _ _ _ _ hi]
   by_cases e : j = i / 8
   ·rw [if_pos e]; exact W_or _ _
   ·rw [if_neg e]; exact h j
  ·rw [List.set_eq_of_length_le (by omega)]; exact h j
def fromF (l : List Int) : List Int := tkF l 1024 0 (List.replicate 128 0)
theorem fromF_len (l : List Int) : (fromF l).length = 128 := by unfold fromF; rw [tkF_len, List.length_replicate]
theorem fromF_W (l : List Int) (j : Nat) : W ((fromF l).getD j 0) := tkF_W _ 1024 0 _ (fun j => by
 by_cases h : j < 128
 ·rw [List.getD_eq_getElem?_getD, List.getElem?_replicate, if_pos h]; exact W_zero
 ·rw [List.getD_eq_getElem?_getD, List.getElem?_replicate, if_neg h]; exact W_zero) j
theorem fromF_def (l : List Int) : fromF l = tkF l 1024 0 (List.replicate 128 0) := rfl
attribute [irreducible] fromF
def fromB (s : ByteArray) : Bl := fun i => (fromF (strList s)).getD i 0
theorem fromB_W (s : ByteArray) (j : Nat) : W (fromB s j) := fromF_W _ j
section
variable {R : Type} (N : Nat)
theorem l54_v1 (l : List Int) (hl : l.length = 1024) (κ) : ∀ (n k i : Nat) (o : List Int), i + k = 1024 → k < n → o.length = 128 →
  l_54_v1_5 (R := R) N n (((), (), 1024, (i : Int), ()), (l, o, ())) κ = κ (((), ()), (l, tkF l k i o, ()))
 | 0, k, i, o, h1, h2, h3 => by omega
 | n + 1, 0, i, o, h1, h2, h3 => by
  unfold l_54_v1_5 B_54_v1_5 C_54_v1_5
  dsimp only
  rw [bif_f (dF (by omega))]
  rfl
 | n + 1, k + 1, i, o, h1, h2, h3 => by
  conv => lhs; unfold l_54_v1_5 B_54_v1_5 C_54_v1_5
  dsimp only
  have e1 : quoA .i64 (i : Int) 8 = ((i / 8 : Nat) : Int) := by rw [quo64 (by omega) (by omega) (by omega)]; omega
  have e2 : remA .i64 (i : Int) 8 = ((i % 8 : Nat) : Int) := by rw [rem64 (by omega)]; omega
  have e3 : mulA .i64 8 ((i % 8 : Nat) : Int) = ((8 * (i % 8) : Nat) : Int) := by rw [mul64 (by omega) (by omega)]; omega
  have e4 : addA .i64 (i : Int) 1 = ((i + 1 : Nat) : Int) := by rw [add64 (by omega) (by omega)]; omega
  rw [e1, e2, e3, e4, bif_t (dT (by omega)), bif_t (dT (by omega)), bif_t (dT (by omega)), bif_t (dT (by omega)), bif_t (dT (by omega)), bif_f (dF (by omega)), bif_t (dT (by omega)), bif_t (dT (by omega)), Int.toNat_natCast, Int.toNat_natCast]
  refine (l54_v1 l hl κ n k (i + 1) _ (by omega) (by omega) (by rw [List.length_set]; exact h3)).trans ?_
  rfl
attribute [irreducible] tkF
theorem p54_v1 (hN : 1100 ≤ N) (l : List Int) (hl : l.length = 1024) (κ) : p_54_v1 (R := R) N (((), ()), (l, ())) κ = κ ((fromF l, (0, ())), (l, ())) := by
 unfold p_54_v1 Q_54_v1
 dsimp only
 rw [hl, bif_f (show (remA .i64 ((1024 : Nat) : Int) 8 != 0) = false from rfl), show quoA .i64 ((1024 : Nat) : Int) 8 = 128 from rfl, bif_t (dT (by omega)), bif_t (dT (by omega)), bif_t (dT (by omega)), bif_t (dT (by omega))]
 refine (l54_v1 N l hl _ N 1024 0 _ (by omega) (by omega) List.length_replicate).trans ?_
 rw [fromF_def]
 rfl
theorem p33 (hN : 1100 ≤ N) (s : ByteArray) (hs : (strList s).length = 1024) (κ) : p_33 (R := R) N ((s, ()), ()) κ = κ (fromB s, (0, ())) := by
 unfold p_33 Q_33
 dsimp only
 have hz := Bk.strList_size s
 rw [bif_f (by rw [hz, hs]; rfl), bif_t (dT (by unfold maxI64; omega)), p54_v1 N hN _ hs]
 dsimp only
 exact (bif_t (dT (Nat.le_of_eq (fromF_len _).symm)))
theorem p32two (hN : N = 1301) (x y : Int) (κ) : p_32 (R := R) N (((), ()), ([x, y], ())) κ = κ (Bk.le4 x ++ Bk.le4 y, ([x, y], ())) := by subst hN; kernel_rfl
end
def bgBlk (s : ByteArray) (i j : Nat) : Bl := fromB (Bk.longB 1024 (strList s ++ (Bk.le4 (IntKind.wrap .u32 (j : Int)) ++ Bk.le4 (IntKind.wrap .u32 (i : Int)))))
def begGo (s : ByteArray) (C : Nat) : Nat → Nat → List Bl → List Bl
 | 0, _, l => l
 | n + 1, i, l => begGo s C n (i + 1) ((l.set (i * C + 0) (bgBlk s i 0)).set (i * C + 1) (bgBlk s i 1))
theorem begGo_len (s : ByteArray) (C : Nat) : ∀ (n i : Nat) (l : List Bl), (begGo s C n i l).length = l.length
 | 0, _, _ => rfl
 | n + 1, i, l => by unfold begGo; rw [begGo_len]; simp
theorem begGo_W (s : ByteArray) (C : Nat) : ∀ (n i : Nat) (l : List Bl), GW l → GW (begGo s C n i l)
 | 0, _, _, h => h
 | n + 1, i, l, h => by
  unfold begGo
  exact begGo_W s C n _ _ (GW_set (GW_set h _ (fromB_W _)) _ (fromB_W _))
theorem listStr_le4 (x y : Int) : strList (listStr (Bk.le4 x ++ Bk.le4 y)) = Bk.le4 x ++ Bk.le4 y := by
 refine Bk.strList_mk _ fun y hy => ?_
 rw [List.mem_append] at hy
 unfold Bk.le4 at hy
 simp only [List.mem_cons, List.not_mem_nil, or_false] at hy
 rcases hy with (rfl | rfl | rfl | rfl) | (rfl | rfl | rfl | rfl) <;> (rw [wrapU8]; omega)
section
variable {R : Type} (N : Nat) (s0 t m b q z : Int) (L C : Nat)
theorem l7i (hN : N = 1301) (hL : L ≤ 4) (hC : 2 ≤ C ∧ C ≤ 80) (s : ByteArray) (hs : (strList s).length ≤ 1300) (i : Nat) (hi : i < L) (u v : Int) (ar) (κ0) (κ1) : ∀ (n j : Nat) (l : List Bl), l.length = L * C → j ≤ 2 → 2 - j < n →
  l_7_7 (R := R) N n (((), s, (i : Int), u, v, (j : Int), ()), gh (shn s0 t m b q z L C) ar l) κ0 κ1 =
   κ1 (((), s, u, v, ()), gh (shn s0 t m b q z L C) ar (if j = 0 then (l.set (i * C + 0) (bgBlk s i 0)).set (i * C + 1) (bgBlk s i 1) else if j = 1 then l.set (i * C + 1) (bgBlk s i 1) else l))
 | 0, j, l, hl, h1, h2 => by omega
 | n + 1, j, l, hl, h1, h2 => by
  conv => lhs; unfold l_7_7 B_7_7 C_7_7
  by_cases hj : j < 2
  ·have hlen : (Bk.joinL [s, listStr (Bk.le4 (IntKind.wrap .u32 (j : Int)) ++ Bk.le4 (IntKind.wrap .u32 (i : Int)))]) = strList s ++ (Bk.le4 (IntKind.wrap .u32 (j : Int)) ++ Bk.le4 (IntKind.wrap .u32 (i : Int))) := by
    show strList s ++ (strList (listStr (Bk.le4 (IntKind.wrap .u32 (j : Int)) ++ Bk.le4 (IntKind.wrap .u32 (i : Int)))) ++ []) = _
    rw [List.append_nil, listStr_le4]
   have h8 : (Bk.le4 (IntKind.wrap .u32 (j : Int)) ++ Bk.le4 (IntKind.wrap .u32 (i : Int))).length = 8 := rfl
   have e4 : addA .i64 (j : Int) 1 = ((j + 1 : Nat) : Int) := by rw [add64 (by omega) (by omega)]; omega
   refine (bif_t (dT (show (j : Int) < 2 by omega))).trans ?_
   refine (p32two N hN _ _ _).trans ?_
   dsimp only
   have key := Bk.p31 (R := R) [s, listStr (Bk.le4 (IntKind.wrap .u32 (j : Int)) ++ Bk.le4 (IntKind.wrap .u32 (i : Int)))] (by simp) (by rw [hlen, List.length_append, h8]; omega)
   rw [← hN] at key
   refine (key _).trans ?_
   rw [hlen]
   try dsimp only
   have hsz : (strList (Bk.longB 1024 (strList s ++ (Bk.le4 (IntKind.wrap .u32 (j : Int)) ++ Bk.le4 (IntKind.wrap .u32 (i : Int)))))).length = 1024 := by
    have := Bk.longF_len (size := 1024) (by omega) (by omega) (strList s ++ (Bk.le4 (IntKind.wrap .u32 (j : Int)) ++ Bk.le4 (IntKind.wrap .u32 (i : Int))))
    rw [Bk.longB_str]; omega
   have key2 : ∀ κ, p_33 (R := R) N ((Bk.longB 1024 (strList s ++ (Bk.le4 (IntKind.wrap .u32 (j : Int)) ++ Bk.le4 (IntKind.wrap .u32 (i : Int)))), ()), ()) κ = κ (bgBlk s i j, (0, ())) := p33 N (by omega) _ hsz
   refine (key2 _).trans ?_
   dsimp only
   refine (p34 N s0 t m b q z L C hL hC.2 i j ar l hl _ _).trans ?_
   rw [if_pos ⟨by omega, by omega, by omega, by omega⟩, show ((i : Int) * (C : Int) + (j : Int)).toNat = i * C + j by rw [← Int.natCast_mul, ← Int.natCast_add, Int.toNat_natCast]]
   dsimp only [gh]
   rw [bif_f (show ((0 : Int) != 0) = false from rfl), e4]
   refine (l7i hN hL hC s hs i hi u v ar κ0 κ1 n (j + 1) _ (by rw [List.length_set]; exact hl) (by omega) (by omega)).trans ?_
   rcases (show j = 0 ∨ j = 1 by omega) with e | e
   ·subst e
    rw [if_neg (show ¬ 0 + 1 = 0 by omega), if_pos (show 0 + 1 = 1 by omega), if_pos (show 0 = 0 by omega)]
    rfl
   ·subst e
    rw [if_neg (show ¬ 1 + 1 = 0 by omega), if_neg (show ¬ 1 + 1 = 1 by omega), if_neg (show ¬ 1 = 0 by omega), if_pos (show 1 = 1 by omega)]
    rfl
  ·refine (bif_f (dF (show ¬ (j : Int) < 2 by omega))).trans ?_
   rw [if_neg (by omega), if_neg (by omega)]
   try rfl
theorem l7o (hN : N = 1301) (hL : L ≤ 4) (hC : 2 ≤ C ∧ C ≤ 80) (s : ByteArray) (hs : (strList s).length ≤ 1300) (ar) (κ0) (κ1) : ∀ (n k i : Nat) (l : List Bl), l.length = L * C → i + k = L → k < n →
  l_7_4 (R := R) N n (((), s, (L : Int), (i : Int), ()), gh (shn s0 t m b q z L C) ar l) κ0 κ1 = κ1 ((), gh (shn s0 t m b q z L C) ar (begGo s C k i l))
 | 0, k, i, l, hl, h1, h2 => by omega
 | n + 1, 0, i, l, hl, h1, h2 => by
  conv => lhs; unfold l_7_4 B_7_4 C_7_4
  refine (bif_f (dF (show ¬ (i : Int) < (L : Int) by omega))).trans ?_
  rfl
 | n + 1, k + 1, i, l, hl, h1, h2 => by
  conv => lhs; unfold l_7_4 B_7_4 C_7_4
  refine (bif_t (dT (show (i : Int) < (L : Int) by omega))).trans ?_
  refine (l7i N s0 t m b q z L C hN hL hC s hs i (by omega) _ _ ar _ _ N 0 l hl (by omega) (by omega)).trans ?_
  rw [if_pos rfl]
  dsimp only [gh]
  rw [add64 (by omega) (by omega)]
  refine (l7o hN hL hC s hs ar κ0 κ1 n k (i + 1) _ (by simp; exact hl) (by omega) (by omega)).trans ?_
  rfl
theorem p7 (hN : N = 1301) (hL : L ≤ 4) (hC : 2 ≤ C ∧ C ≤ 80) (s : ByteArray) (hs : (strList s).length ≤ 1300) (ar) (l : List Bl) (hl : l.length = L * C) (κ) :
  p_7 (R := R) N (((), s, ()), gh (shn s0 t m b q z L C) ar l) κ = κ (0, gh (shn s0 t m b q z L C) ar (begGo s C L 0 l)) := by
 unfold p_7 Q_7
 refine (l7o N s0 t m b q z L C hN hL hC s hs ar _ _ N L 0 l hl (by omega) (by omega)).trans ?_
 rfl
end
section
variable {R : Type} (N : Nat) (a t m b z : Int) (L q : Nat)
def stepQ (l : List Bl) (pass slice lane index : Nat) : List Bl := l.set (lane * (4 * q) + (slice * q + index)) (oneQ a t m b z L q l pass slice lane index)
def segGo (pass slice lane : Nat) : Nat → Nat → List Bl → List Bl
 | 0, _, l => l
 | n + 1, i, l => segGo pass slice lane n (i + 1) (stepQ a t m b z L q l pass slice lane i)
theorem segGo_len (pass slice lane : Nat) : ∀ (n i : Nat) (l : List Bl), (segGo a t m b z L q pass slice lane n i l).length = l.length
 | 0, _, _ => rfl
 | n + 1, i, l => by unfold segGo; rw [segGo_len]; exact List.length_set ..
theorem segGo_W (pass slice lane : Nat) : ∀ (n i : Nat) (l : List Bl), GW l → GW (segGo a t m b z L q pass slice lane n i l)
 | 0, _, _, h => h
 | n + 1, i, l, h => by unfold segGo; exact segGo_W pass slice lane n _ _ (GW_set h _ (fillQ_W _ _ _ _))
theorem p44q (hN : N = 1301) (hL : 1 ≤ L ∧ L ≤ 4) (hq : 2 ≤ q ∧ q ≤ 20) {pass slice lane index : Nat} (hth : ThereN t L q pass slice lane index) (ar) (l : List Bl) (hl : l.length = L * (4 * q)) (κ) :
  p_44 (R := R) N (((), ((pass : Int), ((slice : Int), ())), (((lane : Int), (((slice * q + index : Nat) : Int), ())), (((lane : Int), (((befQ q (slice * q + index) : Nat) : Int), ())), ((refL a t m b z L q l pass slice lane index, (refC a t m b z L q l pass slice lane index, ())), ()))), ()), gh (shq a t m b z L q) ar l) κ =
   κ (0, gh (shq a t m b z L q) ar (stepQ a t m b z L q l pass slice lane index)) := by
 obtain ⟨g1, g2, g3, g4, g5⟩ := id hth
 have hcol : slice * q + index < 4 * q := by
  have := Nat.mul_le_mul_right q (show slice + 1 ≤ 4 by omega)
  rw [Nat.succ_mul] at this; omega
 obtain ⟨r1, r2⟩ := refL_in a t m b z L q hL.1 l pass slice lane index g3
 obtain ⟨r3, r4⟩ := refC_in a t m b z L q hq.1 l pass slice lane index
 unfold stepQ oneQ
 generalize refL a t m b z L q l pass slice lane index = x at *
 generalize refC a t m b z L q l pass slice lane index = y at *
 obtain ⟨lr, rfl⟩ := Int.eq_ofNat_of_zero_le r1
 obtain ⟨cr, rfl⟩ := Int.eq_ofNat_of_zero_le r3
 rw [Int.toNat_natCast, Int.toNat_natCast]
 exact p44 N a t m b z L q hN hL.2 hq pass slice lane (slice * q + index) lane (befQ q (slice * q + index)) lr cr g3 hcol g3 (befQ_lt q hq.1 hcol) (by omega) (by omega) ar l hl κ
theorem l42 (hN : N = 1301) (ht : 1 ≤ t ∧ t ≤ 3) (hL : 1 ≤ L ∧ L ≤ 4) (hq : 2 ≤ q ∧ q ≤ 20) {pass slice lane : Nat} (hp : (pass : Int) < t) (hs : slice < 4) (hla : lane < L) (ar) (κ0 κ1) : ∀ (n k i : Nat) (hi : i + k = q) (hi2 : pass = 0 → slice = 0 → 2 ≤ i) (hn : k < n) (l : List Bl) (hl : l.length = L * (4 * q)) (c : Int) (h : Bl) (hok : c ≠ 0 → h = addrF a t b pass slice lane c),
  l_42_5 (R := R) N n (((), (lane : Int), (), (), (i : Int), ()), (((), (shq a t m b z L q, ())), ((), ((), (true, ()))), ar, l, ((pass : Int), ((slice : Int), ())), src (shq a t m b z L q) pass slice lane c h, ())) κ0 κ1 =
   κ1 ((), gh (shq a t m b z L q) ar (segGo a t m b z L q pass slice lane k i l))
 | 0, k, i, hi, hi2, hn, l, hl, c, h, hok => by omega
 | n + 1, 0, i, hi, hi2, hn, l, hl, c, h, hok => by
  conv => lhs; unfold l_42_5 B_42_5 C_42_5
  refine (bif_f (dF (show ¬ (i : Int) < (q : Int) by omega))).trans ?_
  rfl
 | n + 1, k + 1, i, hi, hi2, hn, l, hl, c, h, hok => by
  conv => lhs; unfold l_42_5 B_42_5 C_42_5
  refine (bif_t (dT (show (i : Int) < (q : Int) by omega))).trans ?_
  have hth : ThereN t L q pass slice lane i := ⟨hp, hs, hla, by omega, hi2⟩
  obtain ⟨c', h', k1, k2⟩ := p24 (R := R) N a t m b z L q hN ht hL hq hth ar l hl c h hok
  refine (k2 _).trans ?_
  dsimp only [ghs]
  rw [bif_f (show ((0 : Int) != 0) = false from rfl)]
  refine (p44q N a t m b z L q hN hL hq hth ar l hl _).trans ?_
  dsimp only [gh]
  rw [bif_f (show ((0 : Int) != 0) = false from rfl), add64 (by omega) (by omega)]
  refine (l42 hN ht hL hq hp hs hla ar κ0 κ1 n k (i + 1) (by omega) (fun e1 e2 => by have := hi2 e1 e2; omega) (by omega) _ (by unfold stepQ; rw [List.length_set]; exact hl) c' h' k1).trans ?_
  rfl
theorem p42 (hN : N = 1301) (ht : 1 ≤ t ∧ t ≤ 3) (hL : 1 ≤ L ∧ L ≤ 4) (hq : 2 ≤ q ∧ q ≤ 20) {pass slice lane : Nat} (hp : (pass : Int) < t) (hs : slice < 4) (hla : lane < L) (ar) (l : List Bl) (hl : l.length = L * (4 * q)) (κ) :
  p_42 (R := R) N (((), ((pass : Int), ((slice : Int), ())), (lane : Int), ()), gh (shq a t m b z L q) ar l) κ =
   κ (0, gh (shq a t m b z L q) ar (segGo a t m b z L q pass slice lane (q - if pass = 0 ∧ slice = 0 then 2 else 0) (if pass = 0 ∧ slice = 0 then 2 else 0) l)) := by
 unfold p_42 Q_42
 show p_25 N ((shq a t m b z L q, ((pass : Int), ((slice : Int), ())), (lane : Int), ()), ()) _ = _
 unfold p_25 Q_25
 dsimp only
 refine (p64 N (shq a t m b z L q) pass slice _).trans ?_
 have e : (if (pass : Int) = 0 ∧ (slice : Int) = 0 then (2 : Int) else 0) = ((if pass = 0 ∧ slice = 0 then 2 else 0 : Nat) : Int) := by
  by_cases h : pass = 0 ∧ slice = 0
  ·rw [if_pos h, if_pos ⟨by omega, by omega⟩]; rfl
  ·rw [if_neg h, if_neg (by omega)]; rfl
 rw [e]
 have h2 : (if pass = 0 ∧ slice = 0 then 2 else 0) ≤ 2 := by split <;> omega
 refine (l42 N a t m b z L q hN ht hL hq hp hs hla ar _ _ N (q - if pass = 0 ∧ slice = 0 then 2 else 0) _ (by omega) (fun e1 e2 => by rw [if_pos ⟨e1, e2⟩]; omega) (by omega) l hl 0 nulB (fun h => absurd rfl h)).trans ?_
 rfl
end
theorem gridF_set (l : List Bl) {C L la co : Nat} (h : la < L) (hc : co < C) (hl : l.length = L * C) (x : Bl) :
  (gridF l C L).set la (((gridF l C L).getD la []).set co x) = gridF (l.set (la * C + co) x) C L := by
 unfold gridF
 rw [rowsF_set _ C L h hc]
 apply rowsF_congr
 intro k hk
 rw [upd_if, getD_set _ _ _ _ _ (by rw [hl]; exact at_lt h hc)]
theorem gridF_len (l : List Bl) (C L : Nat) : (gridF l C L).length = L := rowsF_len _ C L
theorem gridF_rlen (l : List Bl) (C L : Nat) {la : Nat} (h : la < L) : ((gridF l C L).getD la []).length = C := rowsF_rlen _ C L h
theorem p13q {R : Type} (N : Nat) (hN : 100 < N) (a t m b z : Int) (L q : Nat) (hL : L ≤ 4) (hq : q ≤ 20) (ar) (l : List Bl) (hl : l.length = L * (4 * q)) (κ) :
  p_13 (R := R) N (((), ()), gh (shq a t m b z L q) ar l) κ = κ ((), (((), (shq a t m b z L q, ())), ((), ((), (true, ()))), ar, l, gridF l (4 * q) L, ())) := by
 rw [shq_shn]; exact p13 N a t m b q z L (4 * q) hN hL (by omega) ar l hl κ
theorem p7q {R : Type} (N : Nat) (hN : N = 1301) (a t m b z : Int) (L q : Nat) (hL : L ≤ 4) (hq : 2 ≤ q ∧ q ≤ 20) (s : ByteArray) (hs : (strList s).length ≤ 1300) (ar) (l : List Bl) (hl : l.length = L * (4 * q)) (κ) :
  p_7 (R := R) N (((), s, ()), gh (shq a t m b z L q) ar l) κ = κ (0, gh (shq a t m b z L q) ar (begGo s (4 * q) L 0 l)) := by
 rw [shq_shn]; exact p7 N a t m b q z L (4 * q) hN hL ⟨by omega, by omega⟩ s hs ar l hl κ
abbrev gl (l : List Int) : Bl := fun j => l.getD j 0
theorem gl_By (s : ByteArray) : Bk.By (gl (strList s)) := Bk.blk_By (Bk.strList_rng s)
attribute [local semireducible] tkF fromF
theorem tkF_word (l : List Int) : ∀ (n p : Nat) (o : List Int) (hp : p + n = 1024) (ho : o.length = 128) (h : ∀ j, j < 128 → o.getD j 0 = Bk.wF (gl l) j (min 8 (p - 8 * j))), ∀ j, j < 128 → (tkF l n p o).getD j 0 = Bk.wF (gl l) j 8
 | 0, p, o, hp, ho, h => fun j hj => by
  have e : tkF l 0 p o = o := rfl
  rw [e, h j hj, show min 8 (p - 8 * j) = 8 by omega]
 | n + 1, p, o, hp, ho, h => by
  have e : tkF l (n + 1) p o = tkF l n (p + 1) (o.set (p / 8) (orA .u64 (o.getD (p / 8) 0) (shlA .u64 (IntKind.wrap .u64 (l.getD p 0)) ((8 * (p % 8) : Nat) : Int)))) := rfl
  rw [e]
  refine tkF_word l n (p + 1) _ (by omega) (by rw [List.length_set]; exact ho) fun j hj => ?_
  rw [getD_set _ _ _ _ _ (by omega)]
  by_cases hjp : j = p / 8
  ·rw [if_pos hjp, ← hjp, h j hj, show min 8 (p - 8 * j) = p % 8 by omega, show min 8 (p + 1 - 8 * j) = p % 8 + 1 by omega]
   show orA .u64 (Bk.wF (gl l) j (p % 8)) (shlA .u64 (IntKind.wrap .u64 (l.getD p 0)) _) = orA .u64 (Bk.wF (gl l) j (p % 8)) (shlA .u64 (IntKind.wrap .u64 (l.getD (8 * j + p % 8) 0)) _)
   rw [show 8 * j + p % 8 = p by omega]
  ·rw [if_neg hjp, h j hj, show min 8 (p - 8 * j) = min 8 (p + 1 - 8 * j) by omega]
theorem from_word (l : List Int) (j : Nat) (hj : j < 128) : (fromF l).getD j 0 = Bk.wF (gl l) j 8 := by
 rw [fromF_def]
 exact tkF_word l 1024 0 _ (by omega) List.length_replicate (fun j hj => by
  rw [show min 8 (0 - 8 * j) = 0 by omega, List.getD_eq_getElem?_getD, List.getElem?_replicate, if_pos hj]; rfl) j hj
section
variable {R : Type} (N : Nat)
theorem l62i (l o : List Int) (hl : l.length = 1024) (w : Nat) (hw : w < 128) (κ) : ∀ (n k : Nat) (hk : k ≤ 8) (hn : k < n),
  l_62_9 (R := R) N n (((), 8, (), ((8 * w : Nat) : Int), Bk.wR (gl l) w (8 - k), ((k : Nat) : Int) - 1, ()), (l, o, ())) κ = κ (((), 8, (), ((8 * w : Nat) : Int), Bk.wR (gl l) w 8, ()), (l, o, ()))
 | 0, k, hk, hn => by omega
 | n + 1, 0, hk, hn => by
  conv => lhs; unfold l_62_9 B_62_9 C_62_9
  refine (bif_f (dF (show ¬ ((0 : Nat) : Int) - 1 ≥ 0 by omega))).trans ?_
  rfl
 | n + 1, k + 1, hk, hn => by
  conv => lhs; unfold l_62_9 B_62_9 C_62_9
  refine (bif_t (dT (show ((k + 1 : Nat) : Int) - 1 ≥ 0 by omega))).trans ?_
  have e : addA .i64 ((8 * w : Nat) : Int) (((k + 1 : Nat) : Int) - 1) = ((8 * w + k : Nat) : Int) := by rw [add64 (by omega) (by omega)]; omega
  have e2 : subA .i64 (((k + 1 : Nat) : Int) - 1) 1 = ((k : Nat) : Int) - 1 := by rw [sub64 (by omega) (by omega)]; omega
  dsimp only
  rw [e, e2, hl, bif_t (dT (by omega)), bif_t (dT (by omega)), Int.toNat_natCast]
  refine Eq.trans ?_ (l62i l o hl w hw κ n k (by omega) (by omega))
  rw [show 8 - k = 8 - (k + 1) + 1 by omega]
  show l_62_9 N n (((), 8, (), ((8 * w : Nat) : Int), addA .u64 (mulA .u64 256 (Bk.wR (gl l) w (8 - (k + 1)))) (IntKind.wrap .u64 (l.getD (8 * w + k) 0)), _, ()), _) κ = l_62_9 N n (((), 8, (), ((8 * w : Nat) : Int), addA .u64 (mulA .u64 256 (Bk.wR (gl l) w (8 - (k + 1)))) (IntKind.wrap .u64 (l.getD (8 * w + (7 - (8 - (k + 1)))) 0)), _, ()), _) κ
  rw [show 7 - (8 - (k + 1)) = k by omega]
theorem l62o (hN : 10 ≤ N) (l : List Int) (hl : l.length = 1024) (κ) : ∀ (n k w : Nat) (hk : w + k = 128) (hn : k < n),
  l_62_5 (R := R) N n (((), 8, (), ((8 * w : Nat) : Int), ()), (l, (List.range w).map (fun i => Bk.wR (gl l) i 8), ())) κ = κ (((), ()), (l, (List.range 128).map (fun i => Bk.wR (gl l) i 8), ()))
 | 0, k, w, hk, hn => by omega
 | n + 1, 0, w, hk, hn => by
  conv => lhs; unfold l_62_5 B_62_5 C_62_5
  refine (bif_f (dF (by show ¬ ((8 * w : Nat) : Int) < ((l.length : Nat) : Int); omega))).trans ?_
  rw [show w = 128 by omega]
  try rfl
 | n + 1, k + 1, w, hk, hn => by
  conv => lhs; unfold l_62_5 B_62_5 C_62_5
  refine (bif_t (dT (by show ((8 * w : Nat) : Int) < ((l.length : Nat) : Int); omega))).trans ?_
  refine (l62i N l _ hl w (by omega) _ N 8 (by omega) (by omega)).trans ?_
  dsimp only
  rw [bif_t (show (decide ((((List.range w).map (fun i => Bk.wR (gl l) i 8)).length + [Bk.wR (gl l) w 8].length) * 8 ≤ 140737488355328) && true) = true by simp; omega), add64 (by omega) (by omega)]
  refine Eq.trans ?_ (l62o hN l hl κ n k (w + 1) (by omega) (by omega))
  rw [List.range_succ, List.map_append, show ((8 * (w + 1) : Nat) : Int) = ((8 * w : Nat) : Int) + 8 by omega]
  rfl
theorem p62 (hN : 200 ≤ N) (l : List Int) (hl : l.length = 1024) (κ) : p_62 (R := R) N (((), 8, ()), (l, ())) κ = κ (((List.range 128).map (fun i => Bk.wR (gl l) i 8), (true, ())), (l, ())) := by
 unfold p_62 Q_62
 dsimp only
 rw [hl, bif_f (show decide ((8 : Int) = 0) = false from rfl), bif_f (show (remA .i64 ((1024 : Nat) : Int) 8 != 0) = false from rfl)]
 refine (l62o N (by omega) l hl _ N 128 0 (by omega) (by omega)).trans ?_
 rfl
theorem l39 (lw : List Int) (hl : lw.length = 128) (zz : Bl) (κ) : ∀ (n k i : Nat) (hk : i + k = 128) (hn : k < n) (a : Bl),
  l_39_4 (R := R) N n (((), (), lw, (i : Int), ()), (zz, a, ())) κ = κ (((), (), ()), (zz, (fun j => if i ≤ j ∧ j < 128 then lw.getD j 0 else a j), ()))
 | 0, k, i, hk, hn, a => by omega
 | n + 1, 0, i, hk, hn, a => by
  conv => lhs; unfold l_39_4 B_39_4 C_39_4
  refine (bif_f (dF (show ¬ (i : Int) < 128 by omega))).trans ?_
  have e : (fun j => if i ≤ j ∧ j < 128 then lw.getD j 0 else a j) = a := funext fun j => if_neg (by omega)
  rw [e]
 | n + 1, k + 1, i, hk, hn, a => by
  conv => lhs; unfold l_39_4 B_39_4 C_39_4
  refine (bif_t (dT (show (i : Int) < 128 by omega))).trans ?_
  refine (bif_t (dT (show (0 : Int) ≤ (i : Int) by omega))).trans ?_
  refine (bif_t (dT (by show (i : Int) < ((lw.length : Nat) : Int); omega))).trans ?_
  refine (bif_t (dT (show (0 : Int) ≤ (i : Int) by omega))).trans ?_
  refine (bif_t (dT (show (i : Int) < 128 by omega))).trans ?_
  dsimp only
  rw [add64 (by omega) (by omega), Int.toNat_natCast, show (i : Int) + 1 = ((i + 1 : Nat) : Int) by omega]
  refine (l39 lw hl zz κ n k (i + 1) (by omega) (by omega) _).trans ?_
  have e : (fun j => if i + 1 ≤ j ∧ j < 128 then lw.getD j 0 else upd a i (lw.getD i (Sch.zero (.int .u64))) j) = (fun j => if i ≤ j ∧ j < 128 then lw.getD j 0 else a j) := funext fun j => by
   by_cases h1 : j = i
   ·rw [if_neg (by omega), if_pos (by omega), upd_if, if_pos h1, h1]; rfl
   ·by_cases h2 : i ≤ j ∧ j < 128
    ·rw [if_pos (by omega), if_pos h2]
    ·rw [if_neg (by omega), if_neg h2, upd_if, if_neg h1]
  rw [e]
theorem p39 (hN : 200 ≤ N) (s : ByteArray) (hs : (strList s).length = 1024) (κ : Bl → Option R) : p_39 N ((s, ()), ()) κ = κ (fromB s) := by
 unfold p_39 Q_39
 dsimp only
 have hz := Bk.strList_size s
 rw [bif_t (dT (by unfold maxI64; omega)), p62 N hN _ hs]
 refine (l39 N _ (by simp) _ _ N 128 0 (by omega) (by omega) _).trans ?_
 have e : (fun j => if 0 ≤ j ∧ j < 128 then ((List.range 128).map (fun i => Bk.wR (gl (strList s)) i 8)).getD j 0 else (Sch.zero (.arr 128 (.int .u64)) : Bl) j) = fromB s := funext fun j => by
  unfold fromB
  by_cases h : j < 128
  ·rw [if_pos ⟨by omega, h⟩, from_word _ _ h, ← Bk.word_eq (gl_By s)]
   simp [List.getD_eq_getElem?_getD, h]
  ·rw [if_neg (by omega), List.getD_eq_getElem?_getD, List.getElem?_eq_none (by rw [fromF_len]; omega)]
   rfl
 exact congrArg κ e
end
theorem fromB_congr {s t : ByteArray} (h : strList s = strList t) : fromB s = fromB t := by unfold fromB; rw [h]
theorem str_le4 (x : Int) : strList (listStr (Bk.le4R (IntKind.wrap .u32 x))) = Bk.le4 (IntKind.wrap .u32 x) := by rw [Bk.le4_eq, Bk.le4_str]
theorem size_le4 (x : Int) : (listStr (Bk.le4R (IntKind.wrap .u32 x))).size = 4 := by rw [Bk.strList_size, str_le4 x]; rfl
section
variable {R : Type} (N : Nat) (s0 t m b q z : Int) (L C : Nat)
theorem l9i (hN : N = 1301) (hL : L ≤ 4) (hC : 2 ≤ C ∧ C ≤ 80) (s : ByteArray) (hs : (strList s).length ≤ 1300) (i : Nat) (hi : i < L) (κ) : ∀ (n j : Nat) (l : List Bl), l.length = L * C → j ≤ 2 → 2 - j < n →
  l_9_6 (R := R) N n ((s, (), (), (), (i : Int), (j : Int), ()), (Bk.ivF, shn s0 t m b q z L C, gridF l C L, ())) κ =
   κ ((s, (), (), (), (i : Int), ()), (Bk.ivF, shn s0 t m b q z L C, gridF (if j = 0 then (l.set (i * C + 0) (bgBlk s i 0)).set (i * C + 1) (bgBlk s i 1) else if j = 1 then l.set (i * C + 1) (bgBlk s i 1) else l) C L, ()))
 | 0, j, l, hl, h1, h2 => by omega
 | n + 1, j, l, hl, h1, h2 => by
  conv => lhs; unfold l_9_6 B_9_6 C_9_6
  by_cases hj : j < 2
  ·have wj : IntKind.wrap .u32 (j : Int) = (j : Int) := by rw [wrapU32]; omega
   have wi : IntKind.wrap .u32 (i : Int) = (i : Int) := by rw [wrapU32]; omega
   have rj : (0 : Int) ≤ IntKind.wrap .u32 (j : Int) ∧ IntKind.wrap .u32 (j : Int) < 4294967296 := by rw [wj]; omega
   have ri : (0 : Int) ≤ IntKind.wrap .u32 (i : Int) ∧ IntKind.wrap .u32 (i : Int) < 4294967296 := by rw [wi]; omega
   have hT : strList (s ++ (listStr (Bk.le4R (IntKind.wrap .u32 (j : Int))) ++ listStr (Bk.le4R (IntKind.wrap .u32 (i : Int))))) = strList s ++ (Bk.le4 (IntKind.wrap .u32 (j : Int)) ++ Bk.le4 (IntKind.wrap .u32 (i : Int))) := by
    rw [Bk.strList_app, Bk.strList_app, str_le4, str_le4]
   have h8 : (Bk.le4 (IntKind.wrap .u32 (j : Int)) ++ Bk.le4 (IntKind.wrap .u32 (i : Int))).length = 8 := rfl
   have hz := Bk.strList_size s
   have e4 : addA .i64 (j : Int) 1 = ((j + 1 : Nat) : Int) := by rw [add64 (by omega) (by omega)]; omega
   have z1 := size_le4 (j : Int)
   have z2 := size_le4 (i : Int)
   have z3 : (listStr (Bk.le4R (IntKind.wrap .u32 (j : Int))) ++ listStr (Bk.le4R (IntKind.wrap .u32 (i : Int)))).size = 8 := by rw [ByteArray.size_append, z1, z2]
   obtain ⟨B, b1, b2⟩ := Bk.p40 1024 (s ++ (listStr (Bk.le4R (IntKind.wrap .u32 (j : Int))) ++ listStr (Bk.le4R (IntKind.wrap .u32 (i : Int))))) (by omega) (by omega) (by rw [hT, List.length_append, h8]; omega)
   rw [hT] at b1
   have hB : (strList B).length = 1024 := by
    have := Bk.longF_len (size := 1024) (by omega) (by omega) (strList s ++ (Bk.le4 (IntKind.wrap .u32 (j : Int)) ++ Bk.le4 (IntKind.wrap .u32 (i : Int))))
    rw [b1]; omega
   have hb : fromB B = bgBlk s i j := fromB_congr (by rw [b1, Bk.longB_str])
   have p56' : ∀ (x : Int) (κ : List Int → Option R), p_38 N ((x, ()), ()) κ = κ (Bk.le4R x) := by subst hN; exact fun x κ => Bk.p38 x κ
   have b2' : ∀ (κ : ByteArray → Option R), p_40 N ((Bk.ivF, 1024, s ++ (listStr (Bk.le4R (IntKind.wrap .u32 (j : Int))) ++ listStr (Bk.le4R (IntKind.wrap .u32 (i : Int)))), ()), ()) κ = κ B := by subst hN; exact fun κ => b2 κ
   have gl2 : (gridF l C L).length = L := gridF_len l C L
   refine (bif_t (dT (show (j : Int) < 2 by omega))).trans ?_
   refine (p56' _ _).trans ?_
   refine (p56' _ _).trans ?_
   refine (bif_t (dT (by show (listStr (Bk.le4R (IntKind.wrap .u32 (j : Int)))).size + (listStr (Bk.le4R (IntKind.wrap .u32 (i : Int)))).size ≤ maxI64; unfold maxI64; omega))).trans ?_
   refine (bif_t (dT (show (0 : Int) ≤ (i : Int) by omega))).trans ?_
   refine (bif_t (dT (by show (i : Int) < ((gridF l C L).length : Int); omega))).trans ?_
   refine (bif_t (dT (by show s.size + (listStr (Bk.le4R (IntKind.wrap .u32 (j : Int))) ++ listStr (Bk.le4R (IntKind.wrap .u32 (i : Int)))).size ≤ maxI64; unfold maxI64; omega))).trans ?_
   refine (b2' _).trans ?_
   refine (p39 N (by omega) B hB _).trans ?_
   rw [hb]
   refine (bif_t (dT (show (0 : Int) ≤ (j : Int) by omega))).trans ?_
   refine (bif_t (dT (by show (j : Int) < (((gridF l C L).getD (Int.toNat (i : Int)) []).length : Int); rw [Int.toNat_natCast, gridF_rlen l C L hi]; omega))).trans ?_
   dsimp only
   rw [Int.toNat_natCast i, Int.toNat_natCast j, gridF_set l hi (by omega) hl, e4]
   refine (l9i hN hL hC s hs i hi κ n (j + 1) _ (by rw [List.length_set]; exact hl) (by omega) (by omega)).trans ?_
   rcases (show j = 0 ∨ j = 1 by omega) with e | e
   ·subst e
    rw [if_neg (show ¬ 0 + 1 = 0 by omega), if_pos (show 0 + 1 = 1 by omega), if_pos (show 0 = 0 by omega)]
   ·subst e
    rw [if_neg (show ¬ 1 + 1 = 0 by omega), if_neg (show ¬ 1 + 1 = 1 by omega), if_neg (show ¬ 1 = 0 by omega), if_pos (show 1 = 1 by omega)]
  ·refine (bif_f (dF (show ¬ (j : Int) < 2 by omega))).trans ?_
   rw [if_neg (by omega), if_neg (by omega)]
theorem l9o (hN : N = 1301) (hL : L ≤ 4) (hC : 2 ≤ C ∧ C ≤ 80) (s : ByteArray) (hs : (strList s).length ≤ 1300) (κ) : ∀ (n k i : Nat) (l : List Bl), l.length = L * C → i + k = L → k < n →
  l_9_3 (R := R) N n ((s, (), (), (), (i : Int), ()), (Bk.ivF, shn s0 t m b q z L C, gridF l C L, ())) κ = κ (((), ()), (gridF (begGo s C k i l) C L, ()))
 | 0, k, i, l, hl, h1, h2 => by omega
 | n + 1, 0, i, l, hl, h1, h2 => by
  conv => lhs; unfold l_9_3 B_9_3 C_9_3
  refine (bif_f (dF (show ¬ (i : Int) < (L : Int) by omega))).trans ?_
  rfl
 | n + 1, k + 1, i, l, hl, h1, h2 => by
  conv => lhs; unfold l_9_3 B_9_3 C_9_3
  refine (bif_t (dT (show (i : Int) < (L : Int) by omega))).trans ?_
  refine (l9i N s0 t m b q z L C hN hL hC s hs i (by omega) _ N 0 l hl (by omega) (by omega)).trans ?_
  rw [if_pos rfl]
  dsimp only
  rw [add64 (by omega) (by omega)]
  refine (l9o hN hL hC s hs κ n k (i + 1) _ (by simp; exact hl) (by omega) (by omega)).trans ?_
  rfl
theorem p9 (hN : N = 1301) (hL : L ≤ 4) (hC : 2 ≤ C ∧ C ≤ 80) (s : ByteArray) (hs : (strList s).length ≤ 1300) (κ) :
  p_9 (R := R) N ((Bk.ivF, shn s0 t m b q z L C, s, ()), ()) κ = κ ((), (gridF (begGo s C L 0 (List.replicate (L * C) nulB)) C L, ())) := by
 unfold p_9 Q_9
 refine (p37 N s0 t m b q z L C (by omega) hL hC.2 _).trans ?_
 have e : rowsF (fun _ => nulB) C L = gridF (List.replicate (L * C) nulB) C L := by
  apply rowsF_congr; intro k hk; simp [List.getD_eq_getElem?_getD, hk]
 rw [e]
 refine (l9o N s0 t m b q z L C hN hL hC s hs _ N L 0 (List.replicate (L * C) nulB) (by simp) (by omega) (by omega)).trans ?_
 rfl
end
section
variable (a t m b z : Int) (L q : Nat) (pass slice : Nat)
def segT (pass slice : Nat) (l : List Bl) (lane : Nat) : List Bl := segGo a t m b z L q pass slice lane (q - if pass = 0 ∧ slice = 0 then 2 else 0) (if pass = 0 ∧ slice = 0 then 2 else 0) l
theorem first_le (pass slice : Nat) : (if pass = 0 ∧ slice = 0 then 2 else 0) ≤ 2 := by split <;> omega
def foldS (pass slice : Nat) (σ : List Nat) (l : List Bl) : List Bl := σ.foldl (segT a t m b z L q pass slice) l
theorem segT_len (pass slice : Nat) (l : List Bl) (lane : Nat) : (segT a t m b z L q pass slice l lane).length = l.length := segGo_len ..
theorem foldS_len (pass slice : Nat) : ∀ (σ : List Nat) (l : List Bl), (foldS a t m b z L q pass slice σ l).length = l.length
 | [], _ => rfl
 | x :: σ, l => (foldS_len pass slice σ (segT a t m b z L q pass slice l x)).trans (segT_len ..)
end
theorem p41n {R : Type} (N : Nat) (s : Shp8) (T : Nat) (hT : 1 ≤ T ∧ T ≤ 3) (hs : s.2.1 = (T : Int)) (n : Nat) (hn : n < 4 * T) (κ) :
  p_41 (R := R) N ((s, (((n / 4 : Nat) : Int), (((n % 4 : Nat) : Int), ())), ()), ()) κ =
   if n + 1 < 4 * T then κ (((((n + 1) / 4 : Nat) : Int), ((((n + 1) % 4 : Nat) : Int), ())), (true, ())) else κ ((0, (0, ())), (false, ())) := by
 unfold p_41 Q_41
 dsimp only
 rw [hs, add64 (by omega) (by omega), sub64 (by omega) (by omega)]
 by_cases h1 : n % 4 + 1 < 4
 ·rw [bif_t (dT (by omega)), if_pos (by omega), show (n + 1) / 4 = n / 4 by omega, show (n + 1) % 4 = n % 4 + 1 by omega]
  rfl
 ·rw [bif_f (dF (by omega))]
  by_cases h2 : n + 1 < 4 * T
  ·rw [bif_t (dT (by omega)), if_pos h2, add64 (by omega) (by omega), show (n + 1) / 4 = n / 4 + 1 by omega, show (n + 1) % 4 = 0 by omega]
   rfl
  ·rw [bif_f (dF (by omega)), if_neg h2]
section
variable {R : Type} (N : Nat) (a m b z : Int) (T L q : Nat)
def turnA (n : Nat) (l : List Bl) : List Bl := foldS a (T : Int) m b z L q (n / 4) (n % 4) (List.range' 0 L) l
def turnsGo : Nat → Nat → List Bl → List Bl
 | 0, _, l => l
 | d + 1, n, l => turnsGo d (n + 1) (turnA a m b z T L q n l)
theorem turnA_len (n : Nat) (l : List Bl) : (turnA a m b z T L q n l).length = l.length := foldS_len ..
theorem turnsGo_len : ∀ (d n : Nat) (l : List Bl), (turnsGo a m b z T L q d n l).length = l.length
 | 0, _, _ => rfl
 | d + 1, n, l => (turnsGo_len d (n + 1) _).trans (turnA_len ..)
theorem l11a (hN : N = 1301) (hT : 1 ≤ T ∧ T ≤ 3) (hL : 1 ≤ L ∧ L ≤ 4) (hq : 2 ≤ q ∧ q ≤ 20) {pass slice : Nat} (hp : pass < T) (hs : slice < 4) (ar) (κ0 κ1) : ∀ (n k i : Nat) (hi : i + k = L) (hn : k < n) (l : List Bl) (hl : l.length = L * (4 * q)),
  l_11_v1_7 (R := R) N n (((), (), (L : Int), (i : Int), ()), (((), (shq a T m b z L q, ())), ((), ((), (true, ()))), ar, l, ((pass : Int), ((slice : Int), ())), ())) κ0 κ1 =
   κ1 (((), (), ()), (((), (shq a T m b z L q, ())), ((), ((), (true, ()))), ar, foldS a (T : Int) m b z L q pass slice (List.range' i k) l, ((pass : Int), ((slice : Int), ())), ()))
 | 0, k, i, hi, hn, l, hl => by omega
 | n + 1, 0, i, hi, hn, l, hl => by
  conv => lhs; unfold l_11_v1_7 B_11_v1_7 C_11_v1_7
  refine (bif_f (dF (show ¬ (i : Int) < (L : Int) by omega))).trans ?_
  rfl
 | n + 1, k + 1, i, hi, hn, l, hl => by
  conv => lhs; unfold l_11_v1_7 B_11_v1_7 C_11_v1_7
  refine (bif_t (dT (show (i : Int) < (L : Int) by omega))).trans ?_
  refine (p42 N a T m b z L q hN ⟨by omega, by omega⟩ hL hq (by omega) hs (by omega) ar l hl _).trans ?_
  dsimp only [gh]
  rw [bif_f (show ((0 : Int) != 0) = false from rfl), add64 (by omega) (by omega)]
  refine (l11a hN hT hL hq hp hs ar κ0 κ1 n k (i + 1) (by omega) (by omega) _ (by rw [segGo_len]; exact hl)).trans ?_
  rfl
theorem l11b (hN : N = 1301) (hT : 1 ≤ T ∧ T ≤ 3) (hL : 1 ≤ L ∧ L ≤ 4) (hq : 2 ≤ q ∧ q ≤ 20) (ar) (κ0 κ1) : ∀ (f d j : Nat) (hd : j + d + 1 = 4 * T) (hf : d + 1 < f) (l : List Bl) (hl : l.length = L * (4 * q)),
  l_11_v1_4 (R := R) N f (((), (), true, ()), (((), (shq a T m b z L q, ())), ((), ((), (true, ()))), ar, l, (((j / 4 : Nat) : Int), (((j % 4 : Nat) : Int), ())), ())) κ0 κ1 =
   κ1 ((), gh (shq a T m b z L q) ar (turnsGo a m b z T L q (d + 1) j l))
 | 0, d, j, hd, hf, l, hl => by omega
 | f + 1, d, j, hd, hf, l, hl => by
  conv => lhs; unfold l_11_v1_4 B_11_v1_4 C_11_v1_4
  refine (bif_t rfl).trans ?_
  refine (l11a N a m b z T L q hN hT hL hq (pass := j / 4) (slice := j % 4) (by omega) (by omega) ar _ _ N L 0 (by omega) (by omega) l hl).trans ?_
  refine (p41n N (shq a T m b z L q) T hT rfl j (by omega) _).trans ?_
  by_cases h : j + 1 < 4 * T
  ·rw [if_pos h]
   obtain ⟨e, rfl⟩ : ∃ e, d = e + 1 := ⟨d - 1, by omega⟩
   refine (l11b hN hT hL hq ar κ0 κ1 f e (j + 1) (by omega) (by omega) (turnA a m b z T L q j l) (by rw [turnA_len]; exact hl)).trans ?_
   rfl
  ·rw [if_neg h]
   obtain rfl : d = 0 := by omega
   obtain ⟨g, rfl⟩ : ∃ g, f = g + 1 := ⟨f - 1, by omega⟩
   conv => lhs; unfold l_11_v1_4 B_11_v1_4 C_11_v1_4
   refine (bif_f rfl).trans ?_
   rfl
theorem p11 (hN : N = 1301) (hT : 1 ≤ T ∧ T ≤ 3) (hL : 1 ≤ L ∧ L ≤ 4) (hq : 2 ≤ q ∧ q ≤ 20) (ar) (l : List Bl) (hl : l.length = L * (4 * q)) (κ) :
  p_11_v1 (R := R) N (((), ()), gh (shq a T m b z L q) ar l) κ = κ (0, gh (shq a T m b z L q) ar (turnsGo a m b z T L q (4 * T) 0 l)) := by
 unfold p_11_v1 Q_11_v1
 refine (l11b N a m b z T L q hN hT hL hq ar _ _ N (4 * T - 1) 0 (by omega) (by omega) l hl).trans ?_
 rw [show 4 * T - 1 + 1 = 4 * T by omega]
 try rfl
end
theorem p5 {R : Type} (N : Nat) (hN : N = 1301) (κ) : p_5 (R := R) N ((), ()) κ = κ true := by subst hN; kernel_rfl
section
variable {R : Type} (N : Nat) (a m b z : Int) (T L q : Nat)
theorem l811 (hN : N = 1301) (hT : 1 ≤ T ∧ T ≤ 3) (hL : 1 ≤ L ∧ L ≤ 4) (hq : 2 ≤ q ∧ q ≤ 20) {pass slice lane : Nat} (hp : pass < T) (hs : slice < 4) (hla : lane < L) (κ) : ∀ (n k i : Nat) (hi : i + k = q) (hi2 : pass = 0 → slice = 0 → 2 ≤ i) (hn : k < n) (l : List Bl) (hl : l.length = L * (4 * q)) (hg : GW l),
  l_8_11 (R := R) N n (((), (), (pass : Int), (slice : Int), (lane : Int), (i : Int), ()), (gridF l (4 * q) L, shq a T m b z L q, ())) κ =
   κ (((), (), (pass : Int), (slice : Int), (lane : Int), ()), (gridF (segGo a T m b z L q pass slice lane k i l) (4 * q) L, shq a T m b z L q, ()))
 | 0, k, i, hi, hi2, hn, l, hl, hg => by omega
 | n + 1, 0, i, hi, hi2, hn, l, hl, hg => by
  conv => lhs; unfold l_8_11 B_8_11 C_8_11
  refine (bif_f (dF (show ¬ (i : Int) < (q : Int) by omega))).trans ?_
  rfl
 | n + 1, k + 1, i, hi, hi2, hn, l, hl, hg => by
  conv => lhs; unfold l_8_11 B_8_11 C_8_11
  have hth : ThereN T L q pass slice lane i := ⟨by omega, hs, hla, by omega, hi2⟩
  have hcol : slice * q + i < 4 * q := by
   have := Nat.mul_le_mul_right q (show slice + 1 ≤ 4 by omega)
   rw [Nat.succ_mul] at this; omega
  have h1 : slice * q ≤ 3 * q := Nat.mul_le_mul_right _ (by omega)
  have e0 : ((slice * q : Nat) : Int) = (slice : Int) * (q : Int) := Int.natCast_mul ..
  have e1 : addA .i64 (mulA .i64 (slice : Int) (q : Int)) (i : Int) = ((slice * q + i : Nat) : Int) := by rw [mul64 (by omega) (by omega), add64 (by omega) (by omega), Int.natCast_add, e0]
  refine (bif_t (dT (show (i : Int) < (q : Int) by omega))).trans ?_
  refine (bif_t (dT (show (0 : Int) ≤ (lane : Int) by omega))).trans ?_
  refine (bif_t (dT (by show (lane : Int) < ((gridF l (4 * q) L).length : Int); rw [gridF_len]; omega))).trans ?_
  refine (p36 N a T m b z L q hN ⟨by omega, by omega⟩ hL hq hth l hg _).trans ?_
  refine (bif_t (dT (by show (0 : Int) ≤ addA .i64 (mulA .i64 (slice : Int) (q : Int)) (i : Int); rw [e1]; omega))).trans ?_
  refine (bif_t (dT (by show addA .i64 (mulA .i64 (slice : Int) (q : Int)) (i : Int) < (((gridF l (4 * q) L).getD (Int.toNat (lane : Int)) []).length : Int); rw [e1, Int.toNat_natCast, gridF_rlen l _ _ hla]; omega))).trans ?_
  show l_8_11 N n (((), (), (pass : Int), (slice : Int), (lane : Int), addA .i64 (i : Int) 1, ()), ((gridF l (4 * q) L).set (Int.toNat (lane : Int)) (((gridF l (4 * q) L).getD (Int.toNat (lane : Int)) []).set (Int.toNat (addA .i64 (mulA .i64 (slice : Int) (q : Int)) (i : Int))) (oneQ a T m b z L q l pass slice lane i)), shq a T m b z L q, ())) κ = _
  rw [e1, Int.toNat_natCast, Int.toNat_natCast, gridF_set l hla hcol hl, add64 (by omega) (by omega), show (i : Int) + 1 = ((i + 1 : Nat) : Int) by omega]
  exact l811 hN hT hL hq hp hs hla κ n k (i + 1) (by omega) (fun e1 e2 => by have := hi2 e1 e2; omega) (by omega) (stepQ a T m b z L q l pass slice lane i) (by unfold stepQ; rw [List.length_set]; exact hl) (GW_set hg _ (fillQ_W _ _ _ _))
theorem segT_W (t : Int) (pass slice : Nat) (l : List Bl) (lane : Nat) (h : GW l) : GW (segT a t m b z L q pass slice l lane) := segGo_W a t m b z L q pass slice lane _ _ l h
theorem foldS_W (t : Int) (pass slice : Nat) : ∀ (σ : List Nat) (l : List Bl), GW l → GW (foldS a t m b z L q pass slice σ l)
 | [], _, h => h
 | x :: σ, l, h => foldS_W t pass slice σ _ (segT_W a m b z L q t pass slice l x h)
theorem p35n (pass slice : Nat) (κ : Int → Option R) : p_35 N (((pass : Int), (slice : Int), ()), ()) κ = κ ((if pass = 0 ∧ slice = 0 then 2 else 0 : Nat) : Int) := by
 unfold p_35 Q_35
 dsimp only
 by_cases h1 : pass = 0
 ·subst h1
  by_cases h2 : slice = 0
  ·subst h2; rfl
  ·rw [bif_t (by rfl), bif_f (beq_eq_false_iff_ne.2 (by omega)), if_neg (by omega)]; rfl
 ·rw [bif_f (beq_eq_false_iff_ne.2 (by omega)), if_neg (by omega)]; rfl
theorem l88 (hN : N = 1301) (hT : 1 ≤ T ∧ T ≤ 3) (hL : 1 ≤ L ∧ L ≤ 4) (hq : 2 ≤ q ∧ q ≤ 20) {pass slice : Nat} (hp : pass < T) (hs : slice < 4) (κ) : ∀ (n k i : Nat) (hi : i + k = L) (hn : k < n) (l : List Bl) (hl : l.length = L * (4 * q)) (hg : GW l),
  l_8_8 (R := R) N n (((), (), (pass : Int), (slice : Int), (i : Int), ()), (gridF l (4 * q) L, shq a T m b z L q, ())) κ =
   κ (((), (), (pass : Int), (slice : Int), ()), (gridF (foldS a T m b z L q pass slice (List.range' i k) l) (4 * q) L, shq a T m b z L q, ()))
 | 0, k, i, hi, hn, l, hl, hg => by omega
 | n + 1, 0, i, hi, hn, l, hl, hg => by
  conv => lhs; unfold l_8_8 B_8_8 C_8_8
  refine (bif_f (dF (show ¬ (i : Int) < (L : Int) by omega))).trans ?_
  rfl
 | n + 1, k + 1, i, hi, hn, l, hl, hg => by
  conv => lhs; unfold l_8_8 B_8_8 C_8_8
  have hf := first_le pass slice
  refine (bif_t (dT (show (i : Int) < (L : Int) by omega))).trans ?_
  refine (p35n N pass slice _).trans ?_
  refine (l811 N a m b z T L q hN hT hL hq hp hs (lane := i) (by omega) _ N (q - if pass = 0 ∧ slice = 0 then 2 else 0) _ (by omega) (fun e1 e2 => by rw [if_pos ⟨e1, e2⟩]; omega) (by omega) l hl hg).trans ?_
  show l_8_8 N n (((), (), (pass : Int), (slice : Int), addA .i64 (i : Int) 1, ()), (gridF (segT a T m b z L q pass slice l i) (4 * q) L, shq a T m b z L q, ())) κ = _
  rw [add64 (by omega) (by omega), show (i : Int) + 1 = ((i + 1 : Nat) : Int) by omega]
  exact l88 hN hT hL hq hp hs κ n k (i + 1) (by omega) (by omega) (segT a T m b z L q pass slice l i) (by rw [segT_len]; exact hl) (segT_W a m b z L q T pass slice l i hg)
def slicesGo (pass : Nat) : Nat → Nat → List Bl → List Bl
 | 0, _, l => l
 | k + 1, s, l => slicesGo pass k (s + 1) (foldS a T m b z L q pass s (List.range' 0 L) l)
theorem slicesGo_len (pass : Nat) : ∀ (k s : Nat) (l : List Bl), (slicesGo a m b z T L q pass k s l).length = l.length
 | 0, _, _ => rfl
 | k + 1, s, l => (slicesGo_len pass k (s + 1) _).trans (foldS_len ..)
theorem slicesGo_W (pass : Nat) : ∀ (k s : Nat) (l : List Bl), GW l → GW (slicesGo a m b z T L q pass k s l)
 | 0, _, _, h => h
 | k + 1, s, l, h => slicesGo_W pass k (s + 1) _ (foldS_W a m b z L q T pass s _ l h)
theorem slices_turns (pass : Nat) : ∀ (k s : Nat) (hs : s + k = 4) (d : Nat) (l : List Bl), turnsGo a m b z T L q (d + k) (4 * pass + s) l = turnsGo a m b z T L q d (4 * pass + 4) (slicesGo a m b z T L q pass k s l)
 | 0, s, hs, d, l => by rw [show s = 4 by omega]; rfl
 | k + 1, s, hs, d, l => by
  show turnsGo a m b z T L q (d + k + 1) (4 * pass + s) l = turnsGo a m b z T L q d (4 * pass + 4) (slicesGo a m b z T L q pass k (s + 1) (foldS a T m b z L q pass s (List.range' 0 L) l))
  rw [← slices_turns pass k (s + 1) (by omega) d]
  show turnsGo a m b z T L q (d + k) (4 * pass + s + 1) (foldS a T m b z L q ((4 * pass + s) / 4) ((4 * pass + s) % 4) (List.range' 0 L) l) = _
  rw [show (4 * pass + s) / 4 = pass by omega, show (4 * pass + s) % 4 = s by omega]
  rfl
theorem l85s (hN : N = 1301) (hT : 1 ≤ T ∧ T ≤ 3) (hL : 1 ≤ L ∧ L ≤ 4) (hq : 2 ≤ q ∧ q ≤ 20) {pass : Nat} (hp : pass < T) (κ) : ∀ (n k s : Nat) (hs : s + k = 4) (hn : k < n) (l : List Bl) (hl : l.length = L * (4 * q)) (hg : GW l),
  l_8_5 (R := R) N n (((), (), (pass : Int), (s : Int), ()), (gridF l (4 * q) L, shq a T m b z L q, ())) κ = κ (((), (), (pass : Int), ()), (gridF (slicesGo a m b z T L q pass k s l) (4 * q) L, shq a T m b z L q, ()))
 | 0, k, s, hs, hn, l, hl, hg => by omega
 | n + 1, 0, s, hs, hn, l, hl, hg => by
  conv => lhs; unfold l_8_5 B_8_5 C_8_5
  refine (bif_f (dF (show ¬ (s : Int) < 4 by omega))).trans ?_
  rfl
 | n + 1, k + 1, s, hs, hn, l, hl, hg => by
  conv => lhs; unfold l_8_5 B_8_5 C_8_5
  refine (bif_t (dT (show (s : Int) < 4 by omega))).trans ?_
  refine (l88 N a m b z T L q hN hT hL hq hp (show s < 4 by omega) _ N L 0 (by omega) (by omega) l hl hg).trans ?_
  show l_8_5 N n (((), (), (pass : Int), addA .i64 (s : Int) 1, ()), (gridF (foldS a T m b z L q pass s (List.range' 0 L) l) (4 * q) L, shq a T m b z L q, ())) κ = _
  rw [add64 (by omega) (by omega), show (s : Int) + 1 = ((s + 1 : Nat) : Int) by omega]
  exact l85s hN hT hL hq hp κ n k (s + 1) (by omega) (by omega) _ (by rw [foldS_len]; exact hl) (foldS_W a m b z L q T pass s _ l hg)
theorem l82s (hN : N = 1301) (hT : 1 ≤ T ∧ T ≤ 3) (hL : 1 ≤ L ∧ L ≤ 4) (hq : 2 ≤ q ∧ q ≤ 20) (κ) : ∀ (n k p : Nat) (hp : p + k = T) (hn : k < n) (l : List Bl) (hl : l.length = L * (4 * q)) (hg : GW l),
  l_8_2 (R := R) N n (((), (), (p : Int), ()), (gridF l (4 * q) L, shq a T m b z L q, ())) κ = κ (((), ()), (gridF (turnsGo a m b z T L q (4 * k) (4 * p) l) (4 * q) L, ()))
 | 0, k, p, hp, hn, l, hl, hg => by omega
 | n + 1, 0, p, hp, hn, l, hl, hg => by
  conv => lhs; unfold l_8_2 B_8_2 C_8_2
  refine (bif_f (dF (show ¬ (p : Int) < (T : Int) by omega))).trans ?_
  rfl
 | n + 1, k + 1, p, hp, hn, l, hl, hg => by
  conv => lhs; unfold l_8_2 B_8_2 C_8_2
  refine (bif_t (dT (show (p : Int) < (T : Int) by omega))).trans ?_
  refine (l85s N a m b z T L q hN hT hL hq (show p < T by omega) _ N 4 0 (by omega) (by omega) l hl hg).trans ?_
  show l_8_2 N n (((), (), addA .i64 (p : Int) 1, ()), (gridF (slicesGo a m b z T L q p 4 0 l) (4 * q) L, shq a T m b z L q, ())) κ = _
  rw [add64 (by omega) (by omega), show (p : Int) + 1 = ((p + 1 : Nat) : Int) by omega]
  refine (l82s hN hT hL hq κ n k (p + 1) (by omega) (by omega) _ (by rw [slicesGo_len]; exact hl) (slicesGo_W a m b z T L q p 4 0 l hg)).trans ?_
  rw [show 4 * (k + 1) = 4 * k + 4 by omega, show 4 * p = 4 * p + 0 by omega, slices_turns a m b z T L q p 4 0 (by omega) (4 * k) l]
  rfl
theorem p8r (hN : N = 1301) (hT : 1 ≤ T ∧ T ≤ 3) (hL : 1 ≤ L ∧ L ≤ 4) (hq : 2 ≤ q ∧ q ≤ 20) (l : List Bl) (hl : l.length = L * (4 * q)) (hg : GW l) (κ) :
  p_8 (R := R) N ((shq a T m b z L q, (), ()), (gridF l (4 * q) L, ())) κ = κ ((), (gridF (turnsGo a m b z T L q (4 * T) 0 l) (4 * q) L, ())) := by
 unfold p_8 Q_8
 refine (l82s N a m b z T L q hN hT hL hq _ N T 0 (by omega) (by omega) l hl hg).trans ?_
 rfl
end
theorem p3 {R : Type} (N : Nat) (hN : N = 1301) (a t m l z : Int) (s : ByteArray) (κ) : p_3 (R := R) N (((a, (t, (m, (l, (z, ()))))), s, ()), ()) κ = κ (true, ()) := by
 unfold p_3 Q_3
 dsimp only
 rw [p5 N hN, bif_f nT, p6]
 by_cases h : Fit a t m l z ∧ FewP t l (m / (4 * l))
 ·rw [dif_pos h]
  obtain ⟨h, hf1, hf2, hf3⟩ := h
  obtain ⟨⟨h1, h2⟩, ⟨h3, h4⟩, ⟨h5, h6⟩, ⟨h7, h8⟩, h9, h10, h11⟩ := h
  have q2 : 2 ≤ m / (4 * l) := (Int.le_ediv_iff_mul_le (by omega)).2 (by omega)
  generalize hq : m / (4 * l) = q at *
  obtain ⟨T, rfl⟩ := Int.eq_ofNat_of_zero_le (show 0 ≤ t by omega)
  obtain ⟨L, rfl⟩ := Int.eq_ofNat_of_zero_le (show 0 ≤ l by omega)
  obtain ⟨Q, rfl⟩ := Int.eq_ofNat_of_zero_le (show 0 ≤ q by omega)
  have e1 : (4 * (L : Int) * (Q : Int)) = ((L * (4 * Q) : Nat) : Int) := by
   rw [Int.natCast_mul, Int.natCast_mul, Int.mul_comm 4 (L : Int), Int.mul_assoc]; rfl
  rw [e1] at hf3 ⊢
  have e2 : ((4 * (Q : Int)).toNat) = 4 * Q := by omega
  rw [e2, Int.toNat_natCast, ← shq_shn]
  have hb : L * (4 * Q) ≤ 80 := by omega
  have hQ : Q ≤ 20 := by
   have : 1 * (4 * Q) ≤ L * (4 * Q) := Nat.mul_le_mul_right _ (by omega)
   omega
  have hL : 1 ≤ L ∧ L ≤ 4 := ⟨by omega, by omega⟩
  have hQ2 : 2 ≤ Q ∧ Q ≤ 20 := ⟨by omega, hQ⟩
  have hT : 1 ≤ T ∧ T ≤ 3 := ⟨by omega, by omega⟩
  generalize har : ((((L * (4 * Q) : Nat) : Int), (((L * (4 * Q) : Nat) : Int), (((L * (4 * Q) : Nat) : Int), ((1 : Int), ()))))) = ar
  generalize hbl : ((L * (4 * Q) : Nat) : Int) = bl
  show (bif decide (((s.size : Nat) : Int) > 200) then κ (true, ()) else _) = _
  by_cases c1 : ((s.size : Nat) : Int) > 200
  ·rw [bif_t (dT c1)]
  rw [bif_f (dF c1)]
  have hsz := Bk.strList_size s
  refine (p7q N (by omega) a T m bl z L Q hL.2 hQ2 s (by omega) ar (List.replicate (L * (4 * Q)) nulB) (by rw [List.length_replicate]) _).trans ?_
  have p10' : ∀ κ : Bl → Option R, p_10 N ((), ()) κ = κ Bk.ivF := by subst hN; exact fun κ => Bk.p10 κ
  refine (p10' _).trans ?_
  have p9' : ∀ κ, p_9 (R := R) N ((Bk.ivF, shq a T m bl z L Q, s, ()), ()) κ = κ ((), (gridF (begGo s (4 * Q) L 0 (List.replicate (L * (4 * Q)) nulB)) (4 * Q) L, ())) := by
   rw [shq_shn]; exact p9 N a T m bl Q z L (4 * Q) hN hL.2 ⟨by omega, by omega⟩ s (by omega)
  refine (p9' _).trans ?_
  have gw1 : GW (begGo s (4 * Q) L 0 (List.replicate (L * (4 * Q)) nulB)) := begGo_W s (4 * Q) L 0 _ (GW_rep _)
  have ln1 : (begGo s (4 * Q) L 0 (List.replicate (L * (4 * Q)) nulB)).length = L * (4 * Q) := by rw [begGo_len, List.length_replicate]
  refine (p8r N a m bl z T L Q hN hT hL hQ2 (begGo s (4 * Q) L 0 (List.replicate (L * (4 * Q)) nulB)) ln1 gw1 _).trans ?_
  refine (p11 N a m bl z T L Q hN hT hL hQ2 ar (begGo s (4 * Q) L 0 (List.replicate (L * (4 * Q)) nulB)) ln1 _).trans ?_
  refine (bif_t (show ((0 : Int) == 0) = true from rfl)).trans ?_
  have ln2 : (turnsGo a m bl z T L Q (4 * T) 0 (begGo s (4 * Q) L 0 (List.replicate (L * (4 * Q)) nulB))).length = L * (4 * Q) := by rw [turnsGo_len]; exact ln1
  generalize turnsGo a m bl z T L Q (4 * T) 0 (begGo s (4 * Q) L 0 (List.replicate (L * (4 * Q)) nulB)) = l2 at ln2 ⊢
  refine (p13q N (by omega) a T m bl z L Q hL.2 hQ ar l2 ln2 _).trans ?_
  show p_12 N (((), (), ()), (gridF l2 (4 * Q) L, gridF l2 (4 * Q) L, ())) _ = _
  refine (p12 N L (4 * Q) (by omega) (fun k => l2.getD k nulB) (fun k => l2.getD k nulB) (fun k _ => schEq128 (fun _ _ => rfl)) hL.2 (by omega) _).trans ?_
  rfl
 ·rw [dif_neg h]
theorem law_all (y0 : Sch.den (.stru (.fcons (.int .i64) (.fcons (.int .i64) (.fcons (.int .i64) (.fcons (.int .i64) (.fcons (.int .i64) .fnil))))))) {P0 : Prop} (wf0 : P0) (y1 : ByteArray) {P1 : Prop} (wf1 : P1) :
  ∃ H', ACalls Tryz.prog 3 [toAV (.stru (.fcons (.int .i64) (.fcons (.int .i64) (.fcons (.int .i64) (.fcons (.int .i64) (.fcons (.int .i64) .fnil)))))) y0, toAV (.str) y1] [] (.bool true) H' :=
 gd_law (good_3 1301) (x := (y0, y1, ())) (by
  obtain ⟨a, t, m, l, s, u⟩ := y0
  exact p3 1301 rfl a t m l s y1 _)
end Go.Proofs.YtfcloeflcpcheaaGreat.Eng
