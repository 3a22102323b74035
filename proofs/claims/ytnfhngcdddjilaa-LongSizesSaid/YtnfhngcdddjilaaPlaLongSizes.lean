/-
LongSizes: what the mirrors come to, in plain numbers and lists: the law's mirror answers true.
Conditions: none.
-/
import Derived.Test.YtnfhngcdddjilaaMirLongSizes
set_option linter.unusedVariables false
set_option linter.unusedSimpArgs false
namespace Go.Proofs.Ytnfhngcdddjilaa.Eng

def W (x : Int) : Prop := 0 ≤ x ∧ x < 18446744073709551616
theorem W_wrap (x : Int) : W (IntKind.wrap .u64 x) := by rw [wrapU64]; unfold W; omega
theorem W_xor (a b : Int) : W (xorA .u64 a b) := W_wrap _
theorem W_or (a b : Int) : W (orA .u64 a b) := W_wrap _
theorem W_add (a b : Int) : W (addA .u64 a b) := W_wrap _
theorem W_zero : W 0 := by unfold W; omega
theorem xor_comm (a b : Int) : xorA .u64 a b = xorA .u64 b a := by unfold xorA; rw [BitVec.xor_comm]
theorem xor_assoc (a b c : Int) (ha : W a) (hb : W b) (hc : W c) : xorA .u64 (xorA .u64 a b) c = xorA .u64 a (xorA .u64 b c) := by
  have key : ∀ x : BitVec 64, BitVec.ofInt 64 (IntKind.wrap .u64 (x.toNat : Int)) = x := by
    intro x
    rw [wrapU64]
    apply BitVec.eq_of_toNat_eq
    rw [BitVec.toNat_ofInt]
    have := x.isLt
    omega
  unfold xorA
  show IntKind.wrap .u64 (((BitVec.ofInt 64 (IntKind.wrap .u64 ((BitVec.ofInt 64 a ^^^ BitVec.ofInt 64 b).toNat : Int))) ^^^ BitVec.ofInt 64 c).toNat : Int) = IntKind.wrap .u64 ((BitVec.ofInt 64 a ^^^ BitVec.ofInt 64 (IntKind.wrap .u64 ((BitVec.ofInt 64 b ^^^ BitVec.ofInt 64 c).toNat : Int))).toNat : Int)
  rw [key, key, BitVec.xor_assoc]
theorem xor_self (a : Int) : xorA .u64 a a = 0 := by
  unfold xorA
  rw [BitVec.xor_self]
  rfl
theorem zero_xor {a : Int} (h : W a) : xorA .u64 0 a = a := by
  unfold xorA
  rw [wrapU64, BitVec.toNat_xor]
  have q1 : (BitVec.ofInt IntKind.u64.bits a).toNat = a.toNat := by
    show (BitVec.ofInt 64 a).toNat = a.toNat
    rw [BitVec.toNat_ofInt]; have := h.1; have := h.2; omega
  have q2 : (BitVec.ofInt IntKind.u64.bits 0).toNat = 0 := by decide
  rw [q1, q2, Nat.zero_xor]
  have := h.1
  have := h.2
  omega
theorem upd_same {α : Type} (f : Nat → α) (i : Nat) (x : α) : upd f i x i = x := by simp [upd]
theorem upd_other {α : Type} (f : Nat → α) {i j : Nat} (x : α) (h : j ≠ i) : upd f i x j = f j := by
  show (bif Nat.beq j i then x else f j) = f j
  cases hq : Nat.beq j i with
  | false => rfl
  | true => exact absurd (Nat.eq_of_beq_eq_true hq) h
theorem upd_if {α : Type} (f : Nat → α) (i j : Nat) (x : α) : upd f i x j = if j = i then x else f j := by
  by_cases h : j = i
  · subst h; rw [upd_same, if_pos rfl]
  · rw [upd_other f x h, if_neg h]
abbrev Bl := Nat → Int
def nulB : Bl := fun _ => 0
def rotF (x n : Int) : Int := orA .u64 (shrA .u64 x n) (shlA .u64 x (64 - n))
def roundR (x lo hi : Int) : Int := addA .u64 (quoA .u64 x lo) (mulA .u64 (remA .u64 x lo) hi)
theorem or_disj {a b : Nat} {n : Nat} (ha : a < 2 ^ n) : a ||| (b * 2 ^ n) = b * 2 ^ n + a := by
  rw [Nat.or_comm, Nat.mul_comm b, Nat.two_pow_add_eq_or_of_lt ha]
theorem nat_mod {B : Nat} (h : B < 2 ^ 64) : ((B : Nat) : Int) % 18446744073709551616 = B := by omega
/-- A word turned to the right by n places, n + m = 64. -/
theorem rot_eq {x : Int} (hx : W x) (n m : Nat) (hnm : n + m = 64) (hn : 0 < n) (hm : 0 < m) : roundR x (2 ^ n) (2 ^ m) = rotF x n := by
  obtain ⟨h1, h2⟩ := hx
  obtain ⟨y, rfl⟩ := Int.eq_ofNat_of_zero_le h1
  have hy : y < 2 ^ 64 := by omega
  unfold roundR rotF quoA remA
  have pn : ((2 : Int) ^ n) = ((2 ^ n : Nat) : Int) := by simp
  have pm : ((2 : Int) ^ m) = ((2 ^ m : Nat) : Int) := by simp
  have e64 : 2 ^ n * 2 ^ m = 2 ^ 64 := by rw [← Nat.pow_add, hnm]
  have d1 : y / 2 ^ n < 2 ^ m := by rw [Nat.div_lt_iff_lt_mul (Nat.two_pow_pos n), Nat.mul_comm, e64]; exact hy
  have m1 : y % 2 ^ n < 2 ^ n := Nat.mod_lt _ (Nat.two_pow_pos n)
  have p1 : y % 2 ^ n * 2 ^ m + y / 2 ^ n < 2 ^ 64 := by
    have : (y % 2 ^ n + 1) * 2 ^ m ≤ 2 ^ n * 2 ^ m := Nat.mul_le_mul_right _ m1
    rw [Nat.add_mul, e64] at this
    omega
  have p2 : y % 2 ^ n * 2 ^ m < 2 ^ 64 := Nat.lt_of_le_of_lt (Nat.le_add_right _ _) p1
  have p3 : y / 2 ^ n < 2 ^ 64 := Nat.lt_of_le_of_lt (Nat.le_add_left _ _) p1
  rw [pn, pm, Int.tdiv_eq_ediv_of_nonneg (by omega), Int.tmod_eq_emod_of_nonneg (by omega)]
  have e1 : ((y : Int) / ((2 ^ n : Nat) : Int)) = ((y / 2 ^ n : Nat) : Int) := by simp
  have e2 : ((y : Int) % ((2 ^ n : Nat) : Int)) = ((y % 2 ^ n : Nat) : Int) := by simp
  rw [e1, e2]
  have w1 : IntKind.wrap .u64 ((y / 2 ^ n : Nat) : Int) = ((y / 2 ^ n : Nat) : Int) := by rw [wrapU64, nat_mod p3]
  have q1 : mulA .u64 ((y % 2 ^ n : Nat) : Int) ((2 ^ m : Nat) : Int) = ((y % 2 ^ n * 2 ^ m : Nat) : Int) := by
    unfold mulA
    rw [wrapU64, ← Int.natCast_mul, nat_mod p2]
  rw [w1, q1]
  have l1 : addA .u64 ((y / 2 ^ n : Nat) : Int) ((y % 2 ^ n * 2 ^ m : Nat) : Int) = ((y % 2 ^ n * 2 ^ m + y / 2 ^ n : Nat) : Int) := by
    unfold addA
    rw [wrapU64, ← Int.natCast_add, Nat.add_comm, nat_mod p1]
  rw [l1]
  have s1 : shrA .u64 (y : Int) (n : Int) = ((y / 2 ^ n : Nat) : Int) := by
    rw [shrU64 (by omega) (by omega), pn, e1]
  have s2 : shlA .u64 (y : Int) (64 - (n : Int)) = ((y % 2 ^ n * 2 ^ m : Nat) : Int) := by
    unfold shlA
    have : (64 - (n : Int)).toNat = m := by omega
    rw [this, show min m IntKind.u64.bits = m from Nat.min_eq_left (by show m ≤ 64; omega), pm, wrapU64, ← Int.natCast_mul]
    have : y * 2 ^ m % 2 ^ 64 = y % 2 ^ n * 2 ^ m := by
      rw [← e64, Nat.mul_mod_mul_right]
    rw [← this]
    omega
  rw [s1, s2]
  unfold orA
  rw [wrapU64, BitVec.toNat_or]
  have b1 : (BitVec.ofInt IntKind.u64.bits ((y / 2 ^ n : Nat) : Int)).toNat = y / 2 ^ n := by
    show (BitVec.ofInt 64 _).toNat = _
    rw [BitVec.toNat_ofInt]; show (((y / 2 ^ n : Nat) : Int) % 18446744073709551616).toNat = _; rw [nat_mod p3]; rfl
  have b2 : (BitVec.ofInt IntKind.u64.bits ((y % 2 ^ n * 2 ^ m : Nat) : Int)).toNat = y % 2 ^ n * 2 ^ m := by
    show (BitVec.ofInt 64 _).toNat = _
    rw [BitVec.toNat_ofInt]; show (((y % 2 ^ n * 2 ^ m : Nat) : Int) % 18446744073709551616).toNat = _; rw [nat_mod p2]; rfl
  rw [b1, b2, or_disj d1, nat_mod p1]
theorem W_rot (x n : Int) : W (rotF x n) := W_or _ _
theorem bloop (bs : ByteArray) : ∀ (n i : Nat) (r : List UInt8), bs.size - i ≤ n → ByteArray.toList.loop bs i r = r.reverse ++ bs.data.toList.drop i
  | 0, i, r, h => by
    rw [ByteArray.toList.loop]
    have h1 : bs.data.size = bs.size := rfl
    rw [if_neg (by omega), List.drop_eq_nil_of_le (by simp; omega)]
    simp
  | n + 1, i, r, h => by
    rw [ByteArray.toList.loop]
    have h1 : bs.data.size = bs.size := rfl
    by_cases hi : i < bs.size
    · rw [if_pos hi, bloop bs n (i + 1) _ (by omega)]
      have : bs.get! i = bs.data.toList[i]'(by simp; omega) := by
        show bs.data[i]! = _
        rw [getElem!_pos bs.data i (by omega)]
        simp
      rw [this]
      rw [List.drop_eq_getElem_cons (i := i) (by simp; omega)]
      simp
    · rw [if_neg hi, List.drop_eq_nil_of_le (by simp; omega)]
      simp
theorem btoList (bs : ByteArray) : bs.toList = bs.data.toList := by
  unfold ByteArray.toList
  rw [bloop bs bs.size 0 [] (by omega)]
  simp
theorem strList_inj {a b : ByteArray} (h : strList a = strList b) : a = b := by
  unfold strList at h
  have h1 : a.data.toList = b.data.toList := by
    refine List.map_inj_right (f := fun b : UInt8 => (b.toNat : Int)) (fun x y hxy => ?_) |>.1 h
    exact UInt8.toNat_inj.1 (Int.ofNat_inj.1 hxy)
  obtain ⟨⟨l⟩⟩ := a
  obtain ⟨⟨m⟩⟩ := b
  simp at h1
  rw [h1]
theorem eqS_dec (a b : ByteArray) : eqS a b = decide (strList a = strList b) := by
  unfold eqS
  rw [btoList, btoList]
  by_cases h : strList a = strList b
  · rw [strList_inj h]; simp
  · have : ¬ a.data.toList = b.data.toList := fun e => h (by unfold strList; rw [e])
    rw [decide_eq_false h]
    exact beq_eq_false_iff_ne.2 this
theorem strList_app (a b : ByteArray) : strList (a ++ b) = strList a ++ strList b := by
  unfold strList
  simp
theorem strList_ext (s : ByteArray) (i j : Nat) : strList (s.extract i j) = ((strList s).take j).drop i := by
  unfold strList
  simp [ByteArray.data_extract]
  rw [List.drop_take]
theorem strList_get (s : ByteArray) (i : Nat) : byteAt s i = (strList s).getD i 0 := by
  unfold byteAt strList
  by_cases h : i < s.size
  · rw [getElem?_pos s i h]
    have h1 : s.data.size = s.size := rfl
    simp [h1, h]
    rfl
  · rw [getElem?_neg s i h]
    have h1 : s.data.size = s.size := rfl
    simp [h1, h]
theorem strList_size (s : ByteArray) : s.size = (strList s).length := by simp [strList]
theorem strList_mk (l : List Int) (h : ∀ x ∈ l, 0 ≤ x ∧ x < 256) : strList (listStr l) = l := by
  unfold strList listStr
  simp only [List.map_map]
  refine (List.map_congr_left (g := id) fun x hx => ?_).trans (by simp)
  have := h x hx
  simp [UInt8.toNat_ofNat']
  omega
theorem strList_rng (s : ByteArray) : ∀ x ∈ strList s, 0 ≤ x ∧ x < 256 := by
  unfold strList
  intro x hx
  simp only [List.mem_map] at hx
  obtain ⟨b, _, rfl⟩ := hx
  have := b.toNat_lt
  omega
abbrev Q4 := Int × (Int × (Int × (Int × Unit)))
def qF (a b c d x y : Int) : Q4 :=
  let a1 := addA .u64 a (addA .u64 b x)
  let d1 := rotF (xorA .u64 d a1) 32
  let c1 := addA .u64 c d1
  let b1 := rotF (xorA .u64 b c1) 24
  let a2 := addA .u64 a1 (addA .u64 b1 y)
  let d2 := rotF (xorA .u64 d1 a2) 16
  let c2 := addA .u64 c1 d2
  let b2 := rotF (xorA .u64 b1 c2) 63
  (a2, (b2, (c2, (d2, ()))))
theorem p17 {R : Type} (N : Nat) (a b c d x y : Int) (κ) : p_17 (R := R) N ((a, b, c, d, x, y, ()), ()) κ = κ (qF a b c d x y) := by kernel_rfl
def ar4 (a b c d : Int) : Bl := upd (upd (upd (upd (Sch.zero (.arr 4 (.int .u64))) 0 a) 1 b) 2 c) 3 d
def qR (q : Bl) (x y : Int) : Bl :=
  let q := upd q 0 (addA .u64 (addA .u64 (q 0) (q 1)) x)
  let q := upd q 3 (roundR (xorA .u64 (q 3) (q 0)) 4294967296 4294967296)
  let q := upd q 2 (addA .u64 (q 2) (q 3))
  let q := upd q 1 (roundR (xorA .u64 (q 1) (q 2)) 16777216 1099511627776)
  let q := upd q 0 (addA .u64 (addA .u64 (q 0) (q 1)) y)
  let q := upd q 3 (roundR (xorA .u64 (q 3) (q 0)) 65536 281474976710656)
  let q := upd q 2 (addA .u64 (q 2) (q 3))
  upd q 1 (roundR (xorA .u64 (q 1) (q 2)) 9223372036854775808 2)
theorem addU_assoc (a b c : Int) : addA .u64 (addA .u64 a b) c = addA .u64 a (addA .u64 b c) := by
  unfold addA
  rw [wrapU64, wrapU64, wrapU64, wrapU64]
  omega
theorem roundR32 {x : Int} (h : W x) : roundR x 4294967296 4294967296 = rotF x 32 := rot_eq h 32 32 rfl (by decide) (by decide)
theorem roundR24 {x : Int} (h : W x) : roundR x 16777216 1099511627776 = rotF x 24 := rot_eq h 24 40 rfl (by decide) (by decide)
theorem roundR16 {x : Int} (h : W x) : roundR x 65536 281474976710656 = rotF x 16 := rot_eq h 16 48 rfl (by decide) (by decide)
theorem roundR63 {x : Int} (h : W x) : roundR x 9223372036854775808 2 = rotF x 63 := rot_eq h 63 1 rfl (by decide) (by decide)
theorem qR_eq (a b c d x y : Int) : qR (ar4 a b c d) x y 0 = (qF a b c d x y).1 ∧ qR (ar4 a b c d) x y 1 = (qF a b c d x y).2.1 ∧ qR (ar4 a b c d) x y 2 = (qF a b c d x y).2.2.1 ∧ qR (ar4 a b c d) x y 3 = (qF a b c d x y).2.2.2.1 := by
  have h : ∀ u v, qR (ar4 a b c d) u v =
      (let a1 := addA .u64 (addA .u64 a b) u
       let d1 := roundR (xorA .u64 d a1) 4294967296 4294967296
       let c1 := addA .u64 c d1
       let b1 := roundR (xorA .u64 b c1) 16777216 1099511627776
       let a2 := addA .u64 (addA .u64 a1 b1) v
       let d2 := roundR (xorA .u64 d1 a2) 65536 281474976710656
       let c2 := addA .u64 c1 d2
       let b2 := roundR (xorA .u64 b1 c2) 9223372036854775808 2
       upd (upd (upd (upd (upd (upd (upd (upd (ar4 a b c d) 0 a1) 3 d1) 2 c1) 1 b1) 0 a2) 3 d2) 2 c2) 1 b2) := fun u v => rfl
  rw [h x y]
  dsimp only
  rw [addU_assoc a b x, roundR32 (W_xor _ _), roundR24 (W_xor _ _), addU_assoc _ _ y, roundR16 (W_xor _ _), roundR63 (W_xor _ _)]
  exact ⟨rfl, rfl, rfl, rfl⟩
theorem qF_W (a b c d x y : Int) : W (qF a b c d x y).1 ∧ W (qF a b c d x y).2.1 ∧ W (qF a b c d x y).2.2.1 ∧ W (qF a b c d x y).2.2.2.1 := ⟨W_add _ _, W_rot _ _, W_add _ _, W_rot _ _⟩
def ordF (r : Int) : Bl := (p_19 (R := Bl) 3001 ((r, ()), ()) some).getD nulB
def ten (P : Int → Prop) : Prop := P 0 ∧ P 1 ∧ P 2 ∧ P 3 ∧ P 4 ∧ P 5 ∧ P 6 ∧ P 7 ∧ P 8 ∧ P 9
theorem ten_mk {α : Type} {f g : Int → α} (h0 : f 0 = g 0) (h1 : f 1 = g 1) (h2 : f 2 = g 2) (h3 : f 3 = g 3) (h4 : f 4 = g 4) (h5 : f 5 = g 5) (h6 : f 6 = g 6) (h7 : f 7 = g 7) (h8 : f 8 = g 8) (h9 : f 9 = g 9) : ten fun r => f r = g r :=
  ⟨h0, h1, h2, h3, h4, h5, h6, h7, h8, h9⟩
theorem ten_all {P : Int → Prop} (h : ten P) {r : Int} (h1 : 0 ≤ r) (h2 : r < 10) : P r := by
  obtain ⟨q0, q1, q2, q3, q4, q5, q6, q7, q8, q9⟩ := h
  have : r = 0 ∨ r = 1 ∨ r = 2 ∨ r = 3 ∨ r = 4 ∨ r = 5 ∨ r = 6 ∨ r = 7 ∨ r = 8 ∨ r = 9 := by omega
  rcases this with h | h | h | h | h | h | h | h | h | h <;> subst h <;> assumption
theorem p19 {R : Type} (κ : Bl → Option R) : ten fun r => p_19 (R := R) 3001 ((r, ()), ()) κ = κ (ordF r) := by
  refine ten_mk ?_ ?_ ?_ ?_ ?_ ?_ ?_ ?_ ?_ ?_ <;> kernel_rfl
theorem schEq_arr {n : Nat} {k : IntKind} {x y : Bl} : schEq (.arr n (.int k)) x y = true ↔ ∀ j, j < n → x j = y j := by
  show (List.range n).all (fun i => x i == y i) = true ↔ _
  rw [List.all_eq_true]
  constructor
  · intro h j hj
    exact eq_of_beq (α := Int) (h j (List.mem_range.2 hj))
  · intro h j hj
    have := h j (List.mem_range.1 hj)
    rw [this]
    exact beq_self_eq_true (α := Int) _
def plF : Nat → Bl := (p_46 (R := Nat → Bl) 3001 ((), ()) some).getD (fun _ => nulB)
theorem p46 {R : Type} (κ : (Nat → Bl) → Option R) : p_46 3001 ((), ()) κ = κ plF := by kernel_rfl
def stQ (v : Bl) (i j k l : Nat) (x y : Int) : Bl :=
  let q := qF (v i) (v j) (v k) (v l) x y
  upd (upd (upd (upd v i q.1) j q.2.1) k q.2.2.1) l q.2.2.2.1
def rnd (v x : Bl) : Bl := stQ (stQ (stQ (stQ (stQ (stQ (stQ (stQ v 0 4 8 12 (x 0) (x 1)) 1 5 9 13 (x 2) (x 3)) 2 6 10 14 (x 4) (x 5)) 3 7 11 15 (x 6) (x 7)) 0 5 10 15 (x 8) (x 9)) 1 6 11 12 (x 10) (x 11)) 2 7 8 13 (x 12) (x 13)) 3 4 9 14 (x 14) (x 15)
def sel (s g : Bl) : Bl := fun j => g (Int.toNat (s j))
theorem l12i {R : Type} (g a z v : Bl) (u : Int) (κ) : ten fun r =>
    l_12_17 (R := R) 3001 3001 (((), (), (List.range 16).map g, (), (), (), u, plF, 0, ()), (a, z, v, plF, ordF r, ())) κ =
      κ (((), (), (List.range 16).map g, (), (), u, ()), (a, z, rnd v (sel (ordF r) g), plF, ())) := by
  refine ten_mk ?_ ?_ ?_ ?_ ?_ ?_ ?_ ?_ ?_ ?_ <;> kernel_rfl
def rndsF (g : Bl) : Nat → Nat → Bl → Bl
  | 0, _, v => v
  | n + 1, i, v => rndsF g n (i + 1) (rnd v (sel (ordF ((i : Int) % 10)) g))
theorem p19i {R : Type} {i : Int} (h1 : 0 ≤ i) (κ : Bl → Option R) : p_19 (R := R) 3001 ((i, ()), ()) κ = κ (ordF (i % 10)) := by
  have e : p_19 (R := R) 3001 ((i, ()), ()) κ = p_19 (R := R) 3001 ((i % 10, ()), ()) κ := by
    have m1 := Int.emod_nonneg i (show (10 : Int) ≠ 0 by decide)
    unfold p_19
    dsimp only
    rw [bif_f (dF (show ¬ i < 0 by omega)), bif_f (dF (show ¬ i % 10 < 0 by omega)), rem64 h1, rem64 m1, Int.emod_emod]
  rw [e]
  exact ten_all (p19 κ) (Int.emod_nonneg i (by decide)) (Int.emod_lt_of_pos i (by decide))
theorem l12o {R : Type} (g a z : Bl) (κ) : ∀ (n m i : Nat) (v : Bl), i + m = 12 → m < n →
    l_12_13 (R := R) 3001 n (((), (), (List.range 16).map g, (), (), (i : Int), ()), (a, z, v, plF, ())) κ = κ (((), (), (), ()), (a, z, rndsF g m i v, ()))
  | 0, m, i, v, h1, h2 => by omega
  | n + 1, 0, i, v, h1, h2 => by
    unfold l_12_13 B_12_13
    try dsimp only
    rw [bif_f (dF (show ¬ (i : Int) < 12 by omega))]
    rfl
  | n + 1, m + 1, i, v, h1, h2 => by
    unfold l_12_13 B_12_13
    try dsimp only
    have e3 : addA .i64 (i : Int) 1 = ((i + 1 : Nat) : Int) := by rw [add64 (by omega) (by omega)]; simp
    rw [bif_t (dT (show (i : Int) < 12 by omega)), p19i (by omega)]
    try dsimp only
    rw [ten_all (l12i g a z v (i : Int) _) (Int.emod_nonneg _ (by decide)) (Int.emod_lt_of_pos _ (by decide))]
    try dsimp only
    rw [e3]
    exact l12o g a z κ n m (i + 1) _ (by omega) (by omega)
def outQ (a v : Bl) : Bl := upd (upd (upd (upd (upd (upd (upd (upd a 0 (xorA .u64 (a 0) (xorA .u64 (v 0) (v 8)))) 1 (xorA .u64 (a 1) (xorA .u64 (v 1) (v 9)))) 2 (xorA .u64 (a 2) (xorA .u64 (v 2) (v 10)))) 3 (xorA .u64 (a 3) (xorA .u64 (v 3) (v 11)))) 4 (xorA .u64 (a 4) (xorA .u64 (v 4) (v 12)))) 5 (xorA .u64 (a 5) (xorA .u64 (v 5) (v 13)))) 6 (xorA .u64 (a 6) (xorA .u64 (v 6) (v 14)))) 7 (xorA .u64 (a 7) (xorA .u64 (v 7) (v 15)))
theorem l12x {R : Type} (a z v : Bl) (κ) : l_12_24 (R := R) 3001 3001 (((), (), (), 0, ()), (a, z, v, ())) κ = κ (((), (), ()), (outQ a v, z, ())) := by kernel_rfl
def wF (f : Bl) (i : Nat) : Nat → Int
  | 0 => 0
  | k + 1 => orA .u64 (wF f i k) (shlA .u64 (IntKind.wrap .u64 (f (8 * i + k))) ((8 * k : Nat) : Int))
def wR (f : Bl) (i : Nat) : Nat → Int
  | 0 => 0
  | n + 1 => addA .u64 (mulA .u64 256 (wR f i n)) (IntKind.wrap .u64 (f (8 * i + (7 - n))))
theorem p45 {R : Type} (f : Bl) (κ) : p_45 (R := R) 3001 (((List.range 128).map f, ()), ()) κ = κ (((List.range 16).map (fun i => wF f i 8), (0, ())), ()) := by kernel_rfl
def By (f : Bl) : Prop := ∀ j, 0 ≤ f j ∧ f j < 256
theorem or_step {a b : Int} {n : Nat} (ha0 : 0 ≤ a) (ha : a < 2 ^ n) (hb0 : 0 ≤ b) (hb : b < 256) (hn : n ≤ 56) : orA .u64 a (shlA .u64 (IntKind.wrap .u64 b) (n : Int)) = b * 2 ^ n + a := by
  obtain ⟨x, rfl⟩ := Int.eq_ofNat_of_zero_le ha0
  obtain ⟨y, rfl⟩ := Int.eq_ofNat_of_zero_le hb0
  have pn : ((2 : Int) ^ n) = ((2 ^ n : Nat) : Int) := by simp
  have hx : x < 2 ^ n := by rw [pn] at ha; omega
  have hp : 2 ^ n ≤ 2 ^ 56 := Nat.pow_le_pow_right (by decide) hn
  have hy : y < 256 := by omega
  have h1 : y * 2 ^ n + x < 2 ^ 64 := by
    have : (y + 1) * 2 ^ n ≤ 256 * 2 ^ 56 := Nat.mul_le_mul (by omega) hp
    rw [Nat.add_mul] at this
    omega
  have h2 : y * 2 ^ n < 2 ^ 64 := by omega
  have h3 : x < 2 ^ 64 := by omega
  have w1 : IntKind.wrap .u64 (y : Int) = (y : Int) := by rw [wrapU64]; omega
  have s2 : shlA .u64 (y : Int) (n : Int) = ((y * 2 ^ n : Nat) : Int) := by
    unfold shlA
    rw [show ((n : Int)).toNat = n by omega, show min n IntKind.u64.bits = n from Nat.min_eq_left (by show n ≤ 64; omega), pn, wrapU64, ← Int.natCast_mul, nat_mod h2]
  rw [w1, s2]
  unfold orA
  rw [wrapU64, BitVec.toNat_or]
  have b1 : (BitVec.ofInt IntKind.u64.bits (x : Int)).toNat = x := by
    show (BitVec.ofInt 64 _).toNat = _
    rw [BitVec.toNat_ofInt]; show ((x : Int) % 18446744073709551616).toNat = _; rw [nat_mod h3]; rfl
  have b2 : (BitVec.ofInt IntKind.u64.bits ((y * 2 ^ n : Nat) : Int)).toNat = y * 2 ^ n := by
    show (BitVec.ofInt 64 _).toNat = _
    rw [BitVec.toNat_ofInt]; show (((y * 2 ^ n : Nat) : Int) % 18446744073709551616).toNat = _; rw [nat_mod h2]; rfl
  rw [b1, b2, or_disj hx, nat_mod h1, pn]
  simp
theorem add_step {w b : Int} (h0 : 0 ≤ w) (h1 : w < 72057594037927936) (hb0 : 0 ≤ b) (hb : b < 256) : addA .u64 (mulA .u64 256 w) (IntKind.wrap .u64 b) = 256 * w + b := by
  have w1 : IntKind.wrap .u64 b = b := by rw [wrapU64]; omega
  rw [w1, mulU64 (by omega) (by omega), addU64 (by omega) (by omega)]
theorem word_eq {f : Bl} (h : By f) (i : Nat) : wR f i 8 = wF f i 8 := by
  have b0 := h (8 * i); have b1 := h (8 * i + 1); have b2 := h (8 * i + 2); have b3 := h (8 * i + 3); have b4 := h (8 * i + 4); have b5 := h (8 * i + 5); have b6 := h (8 * i + 6); have b7 := h (8 * i + 7)
  have f1 : wF f i 1 = f (8 * i) := by
    show orA .u64 0 (shlA .u64 (IntKind.wrap .u64 (f (8 * i))) ((0 : Nat) : Int)) = _
    rw [or_step (by omega) (by decide) b0.1 b0.2 (by decide)]; omega
  have f2 : wF f i 2 = f (8 * i + 1) * 2 ^ 8 + wF f i 1 := or_step (a := wF f i 1) (b := f (8 * i + 1)) (n := 8) (by omega) (by omega) b1.1 b1.2 (by decide)
  have f3 : wF f i 3 = f (8 * i + 2) * 2 ^ 16 + wF f i 2 := or_step (a := wF f i 2) (b := f (8 * i + 2)) (n := 16) (by omega) (by omega) b2.1 b2.2 (by decide)
  have f4 : wF f i 4 = f (8 * i + 3) * 2 ^ 24 + wF f i 3 := or_step (a := wF f i 3) (b := f (8 * i + 3)) (n := 24) (by omega) (by omega) b3.1 b3.2 (by decide)
  have f5 : wF f i 5 = f (8 * i + 4) * 2 ^ 32 + wF f i 4 := or_step (a := wF f i 4) (b := f (8 * i + 4)) (n := 32) (by omega) (by omega) b4.1 b4.2 (by decide)
  have f6 : wF f i 6 = f (8 * i + 5) * 2 ^ 40 + wF f i 5 := or_step (a := wF f i 5) (b := f (8 * i + 5)) (n := 40) (by omega) (by omega) b5.1 b5.2 (by decide)
  have f7 : wF f i 7 = f (8 * i + 6) * 2 ^ 48 + wF f i 6 := or_step (a := wF f i 6) (b := f (8 * i + 6)) (n := 48) (by omega) (by omega) b6.1 b6.2 (by decide)
  have f8 : wF f i 8 = f (8 * i + 7) * 2 ^ 56 + wF f i 7 := or_step (a := wF f i 7) (b := f (8 * i + 7)) (n := 56) (by omega) (by omega) b7.1 b7.2 (by decide)
  have g1 : wR f i 1 = 256 * 0 + f (8 * i + 7) := add_step (w := 0) (b := f (8 * i + 7)) (by decide) (by decide) b7.1 b7.2
  have g2 : wR f i 2 = 256 * wR f i 1 + f (8 * i + 6) := add_step (w := wR f i 1) (b := f (8 * i + 6)) (by omega) (by omega) b6.1 b6.2
  have g3 : wR f i 3 = 256 * wR f i 2 + f (8 * i + 5) := add_step (w := wR f i 2) (b := f (8 * i + 5)) (by omega) (by omega) b5.1 b5.2
  have g4 : wR f i 4 = 256 * wR f i 3 + f (8 * i + 4) := add_step (w := wR f i 3) (b := f (8 * i + 4)) (by omega) (by omega) b4.1 b4.2
  have g5 : wR f i 5 = 256 * wR f i 4 + f (8 * i + 3) := add_step (w := wR f i 4) (b := f (8 * i + 3)) (by omega) (by omega) b3.1 b3.2
  have g6 : wR f i 6 = 256 * wR f i 5 + f (8 * i + 2) := add_step (w := wR f i 5) (b := f (8 * i + 2)) (by omega) (by omega) b2.1 b2.2
  have g7 : wR f i 7 = 256 * wR f i 6 + f (8 * i + 1) := add_step (w := wR f i 6) (b := f (8 * i + 1)) (by omega) (by omega) b1.1 b1.2
  have g8 : wR f i 8 = 256 * wR f i 7 + f (8 * i) := add_step (w := wR f i 7) (b := f (8 * i)) (by omega) (by omega) b0.1 b0.2
  omega
def stR (v : Bl) (i j k l : Nat) (x y : Int) : Bl :=
  let q := qR (ar4 (v i) (v j) (v k) (v l)) x y
  upd (upd (upd (upd v i (q 0)) j (q 1)) k (q 2)) l (q 3)
def rndR (v x : Bl) : Bl := stR (stR (stR (stR (stR (stR (stR (stR v 0 4 8 12 (x 0) (x 1)) 1 5 9 13 (x 2) (x 3)) 2 6 10 14 (x 4) (x 5)) 3 7 11 15 (x 6) (x 7)) 0 5 10 15 (x 8) (x 9)) 1 6 11 12 (x 10) (x 11)) 2 7 8 13 (x 12) (x 13)) 3 4 9 14 (x 14) (x 15)
theorem stR_eq (v : Bl) (i j k l : Nat) (x y : Int) : stR v i j k l x y = stQ v i j k l x y := by
  obtain ⟨h1, h2, h3, h4⟩ := qR_eq (v i) (v j) (v k) (v l) x y
  unfold stR stQ
  dsimp only
  rw [h1, h2, h3, h4]
theorem rndR_eq (v x : Bl) : rndR v x = rnd v x := by
  unfold rndR rnd
  simp only [stR_eq]
theorem rnd_ext (v : Bl) {x y : Bl} (h : ∀ j, j < 16 → x j = y j) : rnd v x = rnd v y := by
  unfold rnd
  rw [h 0 (by decide), h 1 (by decide), h 2 (by decide), h 3 (by decide), h 4 (by decide), h 5 (by decide), h 6 (by decide), h 7 (by decide), h 8 (by decide), h 9 (by decide), h 10 (by decide), h 11 (by decide), h 12 (by decide), h 13 (by decide), h 14 (by decide), h 15 (by decide)]
def outR (a v : Bl) : Bl := upd (upd (upd (upd (upd (upd (upd (upd a 0 (xorA .u64 (xorA .u64 (a 0) (v 0)) (v 8))) 1 (xorA .u64 (xorA .u64 (a 1) (v 1)) (v 9))) 2 (xorA .u64 (xorA .u64 (a 2) (v 2)) (v 10))) 3 (xorA .u64 (xorA .u64 (a 3) (v 3)) (v 11))) 4 (xorA .u64 (xorA .u64 (a 4) (v 4)) (v 12))) 5 (xorA .u64 (xorA .u64 (a 5) (v 5)) (v 13))) 6 (xorA .u64 (xorA .u64 (a 6) (v 6)) (v 14))) 7 (xorA .u64 (xorA .u64 (a 7) (v 7)) (v 15))
theorem outR_eq {a v : Bl} (ha : ∀ j, j < 8 → W (a j)) (hv : ∀ j, W (v j)) : outR a v = outQ a v := by
  have h : ∀ j k m, j < 8 → xorA .u64 (xorA .u64 (a j) (v k)) (v m) = xorA .u64 (a j) (xorA .u64 (v k) (v m)) := fun j k m hj => xor_assoc _ _ _ (ha j hj) (hv k) (hv m)
  unfold outR outQ
  rw [h 0 0 8 (by decide), h 1 1 9 (by decide), h 2 2 10 (by decide), h 3 3 11 (by decide), h 4 4 12 (by decide), h 5 5 13 (by decide), h 6 6 14 (by decide), h 7 7 15 (by decide)]
theorem upd_W {v : Bl} (h : ∀ j, W (v j)) (i : Nat) {x : Int} (hx : W x) : ∀ j, W (upd v i x j) := fun j => by rw [upd_if]; split; exact hx; exact h j
theorem stQ_W {v : Bl} (h : ∀ j, W (v j)) (i j k l : Nat) (x y : Int) : ∀ m, W (stQ v i j k l x y m) := by
  obtain ⟨h1, h2, h3, h4⟩ := qF_W (v i) (v j) (v k) (v l) x y
  exact upd_W (upd_W (upd_W (upd_W h i h1) j h2) k h3) l h4
theorem rnd_W {v : Bl} (h : ∀ j, W (v j)) (x : Bl) : ∀ m, W (rnd v x m) :=
  stQ_W (stQ_W (stQ_W (stQ_W (stQ_W (stQ_W (stQ_W (stQ_W h _ _ _ _ _ _) _ _ _ _ _ _) _ _ _ _ _ _) _ _ _ _ _ _) _ _ _ _ _ _) _ _ _ _ _ _) _ _ _ _ _ _) _ _ _ _ _ _
theorem rndsF_W (g : Bl) : ∀ (n i : Nat) (v : Bl), (∀ j, W (v j)) → ∀ m, W (rndsF g n i v m)
  | 0, i, v, h => h
  | n + 1, i, v, h => rndsF_W g n (i + 1) _ (rnd_W h _)
def ivF : Bl := (p_15 (R := Bl) 3001 ((), ()) some).getD nulB
theorem p15 {R : Type} (κ : Bl → Option R) : p_15 3001 ((), ()) κ = κ ivF := by kernel_rfl
theorem ivF_W {j : Nat} (hj : j < 8) : W (ivF j) := by
  have h : (List.range 8).all (fun j => decide (0 ≤ ivF j) && decide (ivF j < 18446744073709551616)) = true := by kernel_rfl
  have := List.all_eq_true.1 h j (List.mem_range.2 hj)
  rw [Bool.and_eq_true] at this
  exact ⟨of_decide_eq_true this.1, of_decide_eq_true this.2⟩
def v0F (h : Bl) : Bl := copyF (copyF (Sch.zero (.arr 16 (.int .u64))) 0 (Nat.min 8 8) ((List.range 8).map fun j => h (0 + j)) (Sch.zero (.int .u64))) 8 (Nat.min 8 8) ((List.range 8).map fun j => ivF (0 + j)) (Sch.zero (.int .u64))
def initF (h : Bl) (n : Int) (last : Bool) : Bl :=
  let v := upd (v0F h) 12 (xorA .u64 (v0F h 12) n)
  bif last then upd v 14 (xorA .u64 18446744073709551615 (v 14)) else v
def compF (h f : Bl) (n : Int) (last : Bool) : Bl := outQ h (rndsF (fun i => wF f i 8) 12 0 (initF h n last))
theorem p12q {R : Type} (q45 : Tp_45 R) (q15 : Tp_15 R) (q46 : Tp_46 R) (q17 : Tp_17 R) (q19 : Tp_19 R) (m17 : Tl_12_17 R) (L : Tl_12_13 R) (L2 : Tl_12_24 R) (h f : Bl) (n : Int) (last : Bool) (κ : Bl × (Int × Unit) → Option R)
    (h45 : ∀ κ, q45 (((List.range 128).map f, ()), ()) κ = κ (((List.range 16).map (fun i => wF f i 8), (0, ())), ())) (h15 : q15 = fun _ κ => κ ivF) (h46 : q46 = fun _ κ => κ plF) :
    Q_12 q45 q15 q46 q17 q19 m17 L L2 ((h, (List.range 128).map f, n, last, ()), ()) κ =
      L (((), (), (List.range 16).map (fun i => wF f i 8), (), (), 0, ()), (h, Sch.zero (.arr 8 (.int .u64)), initF h n last, plF, ())) (fun y => L2 (((), (), (), 0, ()), (y.2.1, y.2.2.1, y.2.2.2.1, ())) (fun y => κ (y.2.1, (0, ())))) := by
  subst h15 h46
  unfold Q_12
  dsimp only
  rw [List.length_map, List.length_range, bif_f (show (((128 : Nat) : Int) != 128) = false from rfl), h45]
  cases last <;> kernel_rfl
theorem p12 {R : Type} (h f : Bl) (n : Int) (last : Bool) (κ) : p_12 (R := R) 3001 ((h, (List.range 128).map f, n, last, ()), ()) κ = κ (compF h f n last, (0, ())) := by
  have key := p12q (R := R) (p_45 3001) (p_15 3001) (p_46 3001) (p_17 3001) (p_19 3001) (l_12_17 3001 3001) (l_12_13 3001 3001) (l_12_24 3001 3001) h f n last κ (p45 f) (funext fun x => funext fun κ => p15 κ) (funext fun x => funext fun κ => p46 κ)
  refine Eq.trans ?_ (key.trans ?_)
  · kernel_rfl
  refine (l12o (fun i => wF f i 8) h _ _ 3001 12 0 _ rfl (by decide)).trans ?_
  dsimp only
  rw [l12x]
  rfl
def v0R (f0 h : Bl) : Bl := upd (upd (upd (upd (upd (upd (upd (upd (upd (upd (upd (upd (upd (upd (upd (upd (Sch.zero (.arr 16 (.int .u64))) 0 (h 0)) 8 (f0 0)) 1 (h 1)) 9 (f0 1)) 2 (h 2)) 10 (f0 2)) 3 (h 3)) 11 (f0 3)) 4 (h 4)) 12 (f0 4)) 5 (h 5)) 13 (f0 5)) 6 (h 6)) 14 (f0 6)) 7 (h 7)) 15 (f0 7)
theorem v0R_eq {f0 h : Bl} (hf : ∀ j, j < 8 → f0 j = ivF j) : v0R f0 h = v0F h := by
  funext j
  by_cases hj : j < 16
  · have : j = 0 ∨ j = 1 ∨ j = 2 ∨ j = 3 ∨ j = 4 ∨ j = 5 ∨ j = 6 ∨ j = 7 ∨ j = 8 ∨ j = 9 ∨ j = 10 ∨ j = 11 ∨ j = 12 ∨ j = 13 ∨ j = 14 ∨ j = 15 := by omega
    rcases this with e | e | e | e | e | e | e | e | e | e | e | e | e | e | e | e <;> subst e
    · rfl
    · rfl
    · rfl
    · rfl
    · rfl
    · rfl
    · rfl
    · rfl
    · exact hf 0 (by decide)
    · exact hf 1 (by decide)
    · exact hf 2 (by decide)
    · exact hf 3 (by decide)
    · exact hf 4 (by decide)
    · exact hf 5 (by decide)
    · exact hf 6 (by decide)
    · exact hf 7 (by decide)
  · have e1 : v0R f0 h j = 0 := by
      unfold v0R
      rw [upd_other _ _ (by omega), upd_other _ _ (by omega), upd_other _ _ (by omega), upd_other _ _ (by omega), upd_other _ _ (by omega), upd_other _ _ (by omega), upd_other _ _ (by omega), upd_other _ _ (by omega), upd_other _ _ (by omega), upd_other _ _ (by omega), upd_other _ _ (by omega), upd_other _ _ (by omega), upd_other _ _ (by omega), upd_other _ _ (by omega), upd_other _ _ (by omega), upd_other _ _ (by omega)]
      rfl
    have b1 : Nat.blt j (8 + Nat.min 8 8) = false := by
      cases hq : Nat.blt j (8 + Nat.min 8 8) with
      | false => rfl
      | true => have : j < 16 := Nat.blt_eq.mp hq; omega
    have b2 : Nat.blt j (0 + Nat.min 8 8) = false := by
      cases hq : Nat.blt j (0 + Nat.min 8 8) with
      | false => rfl
      | true => have : j < 8 := Nat.blt_eq.mp hq; omega
    rw [e1]
    unfold v0F copyF
    rw [b1, b2, Bool.and_false, Bool.and_false]
    rfl
theorem v0F_W {h : Bl} (hW : ∀ j, j < 8 → W (h j)) (j : Nat) : W (v0F h j) := by
  by_cases hj : j < 16
  · have : j = 0 ∨ j = 1 ∨ j = 2 ∨ j = 3 ∨ j = 4 ∨ j = 5 ∨ j = 6 ∨ j = 7 ∨ j = 8 ∨ j = 9 ∨ j = 10 ∨ j = 11 ∨ j = 12 ∨ j = 13 ∨ j = 14 ∨ j = 15 := by omega
    rcases this with e | e | e | e | e | e | e | e | e | e | e | e | e | e | e | e <;> subst e
    · exact hW 0 (by decide)
    · exact hW 1 (by decide)
    · exact hW 2 (by decide)
    · exact hW 3 (by decide)
    · exact hW 4 (by decide)
    · exact hW 5 (by decide)
    · exact hW 6 (by decide)
    · exact hW 7 (by decide)
    · exact ivF_W (j := 0) (by decide)
    · exact ivF_W (j := 1) (by decide)
    · exact ivF_W (j := 2) (by decide)
    · exact ivF_W (j := 3) (by decide)
    · exact ivF_W (j := 4) (by decide)
    · exact ivF_W (j := 5) (by decide)
    · exact ivF_W (j := 6) (by decide)
    · exact ivF_W (j := 7) (by decide)
  · have b1 : Nat.blt j (8 + Nat.min 8 8) = false := by
      cases hq : Nat.blt j (8 + Nat.min 8 8) with
      | false => rfl
      | true => have : j < 16 := Nat.blt_eq.mp hq; omega
    have b2 : Nat.blt j (0 + Nat.min 8 8) = false := by
      cases hq : Nat.blt j (0 + Nat.min 8 8) with
      | false => rfl
      | true => have : j < 8 := Nat.blt_eq.mp hq; omega
    unfold v0F copyF
    rw [b1, b2, Bool.and_false, Bool.and_false]
    exact W_zero
theorem initF_W {h : Bl} (hW : ∀ j, j < 8 → W (h j)) (n : Int) (last : Bool) : ∀ j, W (initF h n last j) := by
  unfold initF
  cases last with
  | false => exact upd_W (v0F_W hW) 12 (W_xor _ _)
  | true => exact upd_W (upd_W (v0F_W hW) 12 (W_xor _ _)) 14 (W_xor _ _)
theorem ones (h : Bl) (x : Int) : subA .u64 18446744073709551615 (upd (v0F h) 12 x 14) = xorA .u64 18446744073709551615 (upd (v0F h) 12 x 14) := by
  have e : upd (v0F h) 12 x 14 = 2270897969802886507 := by kernel_rfl
  rw [e]
  exact (show subA .u64 18446744073709551615 2270897969802886507 = xorA .u64 18446744073709551615 2270897969802886507 by kernel_rfl)
theorem comp_W (h f : Bl) (n : Int) (last : Bool) : ∀ j, j < 8 → W (compF h f n last j) := by
  intro j hj
  unfold compF outQ
  simp only [upd_if]
  have : j = 0 ∨ j = 1 ∨ j = 2 ∨ j = 3 ∨ j = 4 ∨ j = 5 ∨ j = 6 ∨ j = 7 := by omega
  rcases this with e | e | e | e | e | e | e | e <;> subst e <;> exact W_xor _ _
theorem bytes128 {l : List Int} (h : l.length = 128) : l = (List.range 128).map fun j => l.getD j 0 := by
  apply List.ext_getElem
  · simp [h]
  · intro i h1 h2
    simp [h1]
def blk (l : List Int) : Bl := fun j => l.getD j 0
def By1 (l : List Int) : Prop := ∀ x ∈ l, 0 ≤ x ∧ x < 256
theorem blk_By {l : List Int} (h : By1 l) : By (blk l) := by
  intro j
  unfold blk
  by_cases hj : j < l.length
  · have := h l[j] (List.getElem_mem hj)
    simpa [List.getD_eq_getElem?_getD, hj] using this
  · simp [List.getD_eq_getElem?_getD, Nat.le_of_not_lt hj]
theorem p12b {R : Type} (h : Bl) (l : List Int) (hl : l.length = 128) (n : Int) (last : Bool) (κ) : p_12 (R := R) 3001 ((h, l, n, last, ()), ()) κ = κ (compF h (blk l) n last, (0, ())) := by
  have := p12 (R := R) h (blk l) n last κ
  unfold blk at this
  rwa [← bytes128 hl] at this
def cutN : Nat → List Int → List (List Int) × List Int
  | 0, l => ([], l)
  | n + 1, l => if 128 < l.length then (l.take 128 :: (cutN n (l.drop 128)).1, (cutN n (l.drop 128)).2) else ([], l)
theorem cutN_fuel : ∀ (n m : Nat) (l : List Int), l.length ≤ 128 * n + 128 → l.length ≤ 128 * m + 128 → cutN n l = cutN m l
  | 0, 0, l, _, _ => rfl
  | 0, m + 1, l, h1, _ => by unfold cutN; rw [if_neg (by omega)]
  | n + 1, 0, l, _, h2 => by
    show (if 128 < l.length then _ else _) = _
    rw [if_neg (by omega)]
    rfl
  | n + 1, m + 1, l, h1, h2 => by
    unfold cutN
    by_cases h : 128 < l.length
    · rw [if_pos h, if_pos h, cutN_fuel n m (l.drop 128) (by simp; omega) (by simp; omega)]
    · rw [if_neg h, if_neg h]
def cut' (l : List Int) : List (List Int) × List Int := cutN l.length l
theorem cut_le {l : List Int} (h : l.length ≤ 128) : cut' l = ([], l) := cutN_fuel l.length 0 l (by omega) (by omega)
theorem cut_gt {l : List Int} (h : 128 < l.length) : cut' l = (l.take 128 :: (cut' (l.drop 128)).1, (cut' (l.drop 128)).2) := by
  unfold cut'
  rw [cutN_fuel l.length ((l.drop 128).length + 1) l (by omega) (by simp; omega)]
  show (if 128 < l.length then _ else _) = _
  rw [if_pos h]
theorem cut_app (m : List Int) : ∀ (n : Nat) (l : List Int), l.length ≤ n → cut' (l ++ m) = ((cut' l).1 ++ (cut' ((cut' l).2 ++ m)).1, (cut' ((cut' l).2 ++ m)).2)
  | n, l, hn => by
    by_cases h : 128 < l.length
    · match n, hn with
      | 0, hn => omega
      | n + 1, hn =>
        have ih := cut_app m n (l.drop 128) (by simp; omega)
        rw [cut_gt h, cut_gt (l := l ++ m) (by simp; omega), List.take_append_of_le_length (by omega), List.drop_append_of_le_length (by omega), ih]
        simp
    · rw [cut_le (l := l) (by omega)]
      simp
theorem cut_len : ∀ (n : Nat) (l : List Int), l.length ≤ n → (cut' l).1.length + (cut' l).2.length ≤ l.length ∧ (cut' l).2.length ≤ 128 ∧ 128 * (cut' l).1.length + (cut' l).2.length = l.length ∧ (∀ b ∈ (cut' l).1, b.length = 128) ∧ (128 * (cut' l).1.length ≤ l.length ∧ (cut' l).2 = l.drop (128 * (cut' l).1.length))
  | n, l, hn => by
    by_cases h : 128 < l.length
    · match n, hn with
      | 0, hn => omega
      | n + 1, hn =>
        obtain ⟨h1, h2, h3, h4, h5, h6⟩ := cut_len n (l.drop 128) (by simp; omega)
        rw [List.length_drop] at h1 h3 h5
        rw [cut_gt h]
        refine ⟨by simp; omega, h2, by simp; omega, fun b hb => ?_, by simp; omega, ?_⟩
        · rcases List.mem_cons.1 hb with rfl | hb
          · simp; omega
          · exact h4 b hb
        · show (cut' (l.drop 128)).2 = _
          rw [h6, List.drop_drop]
          congr 1
          simp; omega
    · rw [cut_le (l := l) (by omega)]
      exact ⟨by simp, by simp; omega, by simp, by simp, by simp, by simp⟩
def comps (a : Bl) (d : Int) : List (List Int) → Bl × Int
  | [] => (a, d)
  | b :: bs => comps (compF a (blk b) (addA .u64 d 128) false) (addA .u64 d 128) bs
theorem comps_app (y : List (List Int)) : ∀ (x : List (List Int)) (a : Bl) (d : Int), comps a d (x ++ y) = comps (comps a d x).1 (comps a d x).2 y
  | [], a, d => rfl
  | b :: x, a, d => comps_app y x _ _
theorem comps_W : ∀ (x : List (List Int)) (a : Bl) (d : Int), (∀ j, j < 8 → W (a j)) → ∀ j, j < 8 → W ((comps a d x).1 j)
  | [], a, d, h => h
  | b :: x, a, d, h => comps_W x _ _ (comp_W _ _ _ _)
theorem comps_d : ∀ (x : List (List Int)) (a : Bl) (d : Nat), d + 128 * x.length ≤ 1000000 → (comps a (d : Int) x).2 = ((d + 128 * x.length : Nat) : Int)
  | [], a, d, h => by simp [comps]
  | b :: x, a, d, h => by
    simp only [List.length_cons] at h
    unfold comps
    rw [addU64 (by omega) (by omega), show ((d : Int) + 128) = ((d + 128 : Nat) : Int) by simp, comps_d x _ (d + 128) (by omega)]
    simp; omega
abbrev Fd := Int × (Bool × (Unit × (Int × Unit)))
def fd (t : Int) : Fd := (128, (true, ((), (t, ()))))
theorem p82 {R : Type} (t : Int) (l : List Int) (κ) : p_82 (R := R) 3001 (((), ()), ((128, (true, ((), (t, ())))), l, ())) κ = κ (decide (128 < (l.length : Int))) := rfl
theorem l57i {R : Type} (P : List ByteArray) (u v t : Int) (κ) : ∀ (n : Nat) (l : List Int) (o : List (List Int)), l.length < 128 * n → l.length ≤ 10000 → o.length + l.length ≤ 20000 →
    l_57_v3_9 (R := R) 3001 n (((), (), P, u, v, ()), (fd t, l, o, ())) κ = κ (((), (), P, u, v, ()), (fd t, (cut' l).2, o ++ (cut' l).1, ()))
  | 0, l, o, h1, h2, h3 => by omega
  | n + 1, l, o, h1, h2, h3 => by
    unfold l_57_v3_9 B_57_v3_9
    unfold fd
    try dsimp only
    rw [p82]
    by_cases hl : 128 < l.length
    · have t1 : List.take (Int.toNat 128 - 0) (List.drop 0 l) = l.take 128 := rfl
      have t2 : List.take (l.length - Int.toNat 128) (List.drop (Int.toNat 128) l) = l.drop 128 := by
        rw [List.take_of_length_le]; rfl
        simp
      rw [bif_t (dT (show (128 : Int) < (l.length : Int) by omega)), bif_t (dT (show (0 : Int) ≤ 128 by decide)), bif_t (dT (show (128 : Int) ≤ (l.length : Int) by omega)), bif_t (dT (show (0 : Int) ≤ 128 by decide)), t1, bif_t (dT (show (l.take 128).length * 1 ≤ 140737488355328 by simp; omega)),
        bif_t (show (decide ((o.length + [l.take 128].length) * 24 ≤ 140737488355328) && true) = true by simp; omega), bif_t (dT (show (0 : Int) ≤ (l.length : Int) by omega)), bif_t (dT (show (l.length : Int) ≤ (l.length : Int) by omega)), bif_t (dT (show (0 : Int) ≤ 128 by decide)), bif_t (dT (show (128 : Int) ≤ (l.length : Int) by omega)), bif_t (dT (show 0 < l.length - Int.toNat 128 by show 0 < l.length - 128; omega)), t2]
      refine (l57i P u v t κ n (l.drop 128) (o ++ [l.take 128]) (by simp; omega) (by simp; omega) (by simp; omega)).trans ?_
      rw [cut_gt hl]
      unfold fd
      simp
    · rw [bif_f (dF (show ¬ (128 : Int) < (l.length : Int) by omega)), cut_le (by omega)]
      simp
def joinL (P : List ByteArray) : List Int := P.flatMap strList
theorem l57o {R : Type} (P : List ByteArray) (hP : P.length ≤ 3000) (κ) : ∀ (n i : Nat) (t : Int) (l : List Int) (o : List (List Int)), i ≤ P.length → P.length - i < n → o.length + l.length + (joinL (P.drop i)).length ≤ 10000 →
    ∃ t', l_57_v3_5 (R := R) 3001 n (((), (), P, (P.length : Int), (i : Int), ()), (fd t, l, o, ())) κ =
      κ (((), (), ()), (fd t', (if i < P.length then (cut' (l ++ joinL (P.drop i))).2 else l), (if i < P.length then o ++ (cut' (l ++ joinL (P.drop i))).1 else o), ()))
  | 0, i, t, l, o, h1, h2, h3 => by omega
  | n + 1, i, t, l, o, h1, h2, h3 => by
    by_cases hi : i < P.length
    · have hd : P.drop i = P[i] :: P.drop (i + 1) := List.drop_eq_getElem_cons hi
      have hg : List.getD P i (Sch.zero (.str)) = P[i] := by simp [hi]
      have hj : joinL (P.drop i) = strList P[i] ++ joinL (P.drop (i + 1)) := by rw [hd]; rfl
      have e3 : addA .i64 (i : Int) 1 = ((i + 1 : Nat) : Int) := by rw [add64 (by omega) (by omega)]; simp
      rw [hj, List.length_append] at h3
      obtain ⟨c1, c2, c3, c4, c5, c6⟩ := cut_len (l ++ strList P[i]).length (l ++ strList P[i]) (Nat.le_refl _)
      rw [List.length_append] at c1
      obtain ⟨t', ht⟩ := l57o P hP κ n (i + 1) (addA .i64 t ((P[i].size : Nat) : Int)) (cut' (l ++ strList P[i])).2 (o ++ (cut' (l ++ strList P[i])).1) (by omega) (by omega) (by rw [List.length_append]; omega)
      refine ⟨t', Eq.trans ?_ (ht.trans ?_)⟩
      · show B_57_v3_5 3001 (fun y => l_57_v3_5 3001 n y κ) _ κ = _
        unfold B_57_v3_5
        unfold fd
        try dsimp only
        rw [bif_t (dT (show (i : Int) < (P.length : Int) by omega)), bif_t (dT (show (0 : Int) ≤ (i : Int) by omega)), bif_t (dT (show (i : Int) < (P.length : Int) by omega)), Int.toNat_natCast, hg, bif_t (show (decide ((l.length + (strList P[i]).length) * 1 ≤ 140737488355328) && true) = true by simp; omega)]
        refine (l57i P (P.length : Int) (i : Int) (addA .i64 t ((P[i].size : Nat) : Int)) _ 3001 (l ++ strList P[i]) o (by rw [List.length_append]; omega) (by rw [List.length_append]; omega) (by rw [List.length_append]; omega)).trans ?_
        unfold fd
        try dsimp only
        rw [e3]
      · have ca := cut_app (joinL (P.drop (i + 1))) (l ++ strList P[i]).length (l ++ strList P[i]) (Nat.le_refl _)
        rw [if_pos hi, if_pos hi, hj, ← List.append_assoc, ca]
        by_cases h4 : i + 1 < P.length
        · rw [if_pos h4, if_pos h4, List.append_assoc]
        · rw [if_neg h4, if_neg h4, show P.drop (i + 1) = [] from List.drop_eq_nil_of_le (by omega)]
          show _ = κ (_, (_, (cut' ((cut' (l ++ strList P[i])).2 ++ [])).2, o ++ ((cut' (l ++ strList P[i])).1 ++ (cut' ((cut' (l ++ strList P[i])).2 ++ [])).1), ()))
          rw [List.append_nil, cut_le c2, List.append_nil]
    · refine ⟨t, ?_⟩
      rw [if_neg hi, if_neg hi]
      unfold l_57_v3_5 B_57_v3_5
      unfold fd
      try dsimp only
      rw [bif_f (dF (show ¬ (i : Int) < (P.length : Int) by omega))]
theorem joinL_empty {P : List ByteArray} (h : ¬ 0 < P.length) : joinL P = [] := by
  have : P = [] := List.eq_nil_of_length_eq_zero (by omega)
  rw [this]; rfl
theorem p57 {R : Type} (P : List ByteArray) (hP : P.length ≤ 3000) (t : Int) (l : List Int) (hl : l.length ≤ 128) (hb : l.length + (joinL P).length ≤ 10000) (κ0 κ1) :
    ∃ t', p_57_v3 (R := R) 3001 (((), P, ()), (fd t, l, ())) κ0 κ1 = κ1 ((cut' (l ++ joinL P)).1, (fd t', (cut' (l ++ joinL P)).2, ())) := by
  obtain ⟨c1, c2, c3, c4, c5, c6⟩ := cut_len (l ++ joinL P).length (l ++ joinL P) (Nat.le_refl _)
  rw [List.length_append] at c1
  obtain ⟨t', ht⟩ := l57o (R := R) P hP (fun y => bif decide (y.2.2.1.length * 1 ≤ 140737488355328) then κ1 (y.2.2.2.1, ((y.2.1.1, (y.2.1.2.1, ((), (y.2.1.2.2.2.1, ())))), y.2.2.1, ())) else none) 3001 0 t l [] (Nat.zero_le _) (by omega) (by simp only [List.length_nil, List.drop_zero]; omega)
  refine ⟨t', Eq.trans ?_ (ht.trans ?_)⟩
  · unfold p_57_v3
    unfold fd
    try dsimp only
    rw [bif_f (show ((128 : Int) == 0) = false from rfl)]
    rfl
  · by_cases h0 : 0 < P.length
    · rw [if_pos h0, if_pos h0, List.drop_zero]
      try dsimp only
      rw [bif_t (dT (show (cut' (l ++ joinL P)).2.length * 1 ≤ 140737488355328 by omega))]
      rfl
    · rw [if_neg h0, if_neg h0, joinL_empty h0, List.append_nil, cut_le hl]
      try dsimp only
      rw [bif_t (dT (show l.length * 1 ≤ 140737488355328 by omega))]
abbrev Hs := Unit × (Bl × (Int × (Int × Unit)))
def hs (a : Bl) (o d : Int) : Hs := ((), (a, (o, (d, ()))))
theorem l26 {R : Type} (bs : List (List Int)) (hbs : ∀ b ∈ bs, b.length = 128) (hl : bs.length ≤ 3000) (o t : Int) (r : List Int) (κ) : ∀ (n i : Nat) (a : Bl) (d : Int), i ≤ bs.length → bs.length - i < n →
    l_26_v5_4 (R := R) 3001 n (((), bs, (bs.length : Int), (i : Int), ()), (hs a o d, fd t, r, ())) κ = κ (((), ()), (hs (comps a d (bs.drop i)).1 o (comps a d (bs.drop i)).2, fd t, r, ()))
  | 0, i, a, d, h1, h2 => by omega
  | n + 1, i, a, d, h1, h2 => by
    show B_26_v5_4 3001 (fun y => l_26_v5_4 3001 n y κ) _ κ = _
    unfold B_26_v5_4
    by_cases hi : i < bs.length
    · have hd : bs.drop i = bs[i] :: bs.drop (i + 1) := List.drop_eq_getElem_cons hi
      have hg : List.getD bs i (Sch.zero (.sl (.int .u8))) = bs[i] := by simp [hi]
      have e3 : addA .i64 (i : Int) 1 = ((i + 1 : Nat) : Int) := by rw [add64 (by omega) (by omega)]; simp
      unfold hs fd
      try dsimp only
      rw [bif_t (dT (show (i : Int) < (bs.length : Int) by omega)), bif_t (dT (show (0 : Int) ≤ (i : Int) by omega)), bif_t (dT (show (i : Int) < (bs.length : Int) by omega)), Int.toNat_natCast, hg, p12b _ _ (hbs _ (List.getElem_mem hi))]
      try dsimp only
      rw [e3, hd]
      exact l26 bs hbs hl o t r κ n (i + 1) _ _ (by omega) (by omega)
    · unfold hs fd
      try dsimp only
      rw [bif_f (dF (show ¬ (i : Int) < (bs.length : Int) by omega)), List.drop_eq_nil_of_le (by omega)]
      rfl
/-- Where the bytes lead that come behind l. -/
def addC (a : Bl) (d : Int) (l m : List Int) : Bl × Int := comps a d (cut' (l ++ m)).1
theorem p26 {R : Type} (P : List ByteArray) (hP : P.length ≤ 3000) (a : Bl) (o d t : Int) (l : List Int) (hl : l.length ≤ 128) (hb : l.length + (joinL P).length ≤ 10000) (κ) :
    ∃ t', p_26_v5 (R := R) 3001 (((), P, ()), (hs a o d, fd t, l, ())) κ = κ ((), (hs (addC a d l (joinL P)).1 o (addC a d l (joinL P)).2, fd t', (cut' (l ++ joinL P)).2, ())) := by
  obtain ⟨c1, c2, c3, c4, c5, c6⟩ := cut_len (l ++ joinL P).length (l ++ joinL P) (Nat.le_refl _)
  rw [List.length_append] at c3
  obtain ⟨t', ht⟩ := p57 (R := R) P hP t l hl hb (fun _ => none) (fun y => l_26_v5_4 3001 3001 (((), y.1, ((y.1.length : Nat) : Int), 0, ()), (hs a o d, (y.2.1.1, (y.2.1.2.1, ((), (y.2.1.2.2.2.1, ())))), y.2.2.1, ())) (fun y => κ ((), (((), (y.2.1.2.1, (y.2.1.2.2.1, (y.2.1.2.2.2.1, ())))), (y.2.2.1.1, (y.2.2.1.2.1, ((), (y.2.2.1.2.2.2.1, ())))), y.2.2.2.1, ()))))
  refine ⟨t', Eq.trans ?_ (ht.trans ?_)⟩
  · unfold p_26_v5
    rfl
  · try dsimp only
    refine (l26 (cut' (l ++ joinL P)).1 c4 (by omega) o t' _ _ 3001 0 a d (Nat.zero_le _) (by omega)).trans ?_
    rfl
theorem put1 {R : Type} (s : ByteArray) (h : (strList s).length ≤ 128) (κ0 κ1) :
    ∃ t', p_57_v1 (R := R) 3001 (((), (), ()), (fd 0, [], [s], ())) κ0 κ1 = κ1 ([], (fd t', [s], strList s, ())) := by
  refine ⟨addA .i64 0 ((s.size : Nat) : Int), ?_⟩
  unfold p_57_v1 fd
  try dsimp only
  rw [bif_f (show ((128 : Int) == 0) = false from rfl)]
  have inner : ∀ (n : Nat) (u v t : Int) κ, l_57_v1_9 (R := R) 3001 (n + 1) (((), (), (), u, v, ()), ((128, (true, ((), (t, ())))), [s], strList s, [], ())) κ = κ (((), (), (), u, v, ()), ((128, (true, ((), (t, ())))), [s], strList s, [], ())) := by
    intro n u v t κ
    show B_57_v1_9 3001 (fun y => l_57_v1_9 3001 n y κ) _ κ = _
    unfold B_57_v1_9
    try dsimp only
    rw [p82, bif_f (dF (show ¬ (128 : Int) < ((strList s).length : Int) by omega))]
  have step : ∀ (n : Nat) (t : Int) κ, l_57_v1_5 (R := R) 3001 (n + 2) (((), (), (), (([s].length : Nat) : Int), 0, ()), ((128, (true, ((), (t, ())))), [s], [], [], ())) κ = κ (((), (), ()), ((128, (true, ((), (addA .i64 t ((s.size : Nat) : Int), ())))), [s], strList s, [], ())) := by
    intro n t κ
    show B_57_v1_5 3001 (fun y => l_57_v1_5 3001 (n + 1) y κ) _ κ = _
    unfold B_57_v1_5
    try dsimp only
    rw [bif_t (dT (show (0 : Int) < (([s].length : Nat) : Int) by simp)), bif_t (dT (show (0 : Int) ≤ 0 by decide)), bif_t (dT (show (0 : Int) < (([s].length : Nat) : Int) by simp)), show List.getD [s] (Int.toNat 0) (Sch.zero (.str)) = s from rfl, bif_t (show (decide ((List.length ([] : List Int) + (strList s).length) * 1 ≤ 140737488355328) && true) = true by simp; omega), List.nil_append]
    refine (inner 3000 _ _ _ _).trans ?_
    try dsimp only
    show B_57_v1_5 3001 (fun y => l_57_v1_5 3001 n y κ) _ κ = _
    unfold B_57_v1_5
    try dsimp only
    rw [bif_f (dF (show ¬ addA .i64 0 1 < (([s].length : Nat) : Int) by rw [add64 (by decide) (by decide)]; simp))]
  refine (step 2999 0 _).trans ?_
  try dsimp only
  rw [bif_t (dT (show (strList s).length * 1 ≤ 140737488355328 by omega))]
theorem add1 {R : Type} (s : ByteArray) (h : (strList s).length ≤ 128) (a : Bl) (o d : Int) (κ) :
    ∃ t', p_26_v1 (R := R) 3001 (((), (), ()), (hs a o d, fd 0, [], [s], ())) κ = κ ((), (hs a o d, fd t', [s], strList s, ())) := by
  have le : ∀ (n : Nat) (x) κ, l_26_v1_4 (R := R) 3001 (n + 1) (((), [], (((List.length ([] : List (List Int)) : Nat) : Int)), 0, ()), x) κ = κ (((), ()), (((), (x.1.2.1, (x.1.2.2.1, (x.1.2.2.2.1, ())))), (x.2.1.1, (x.2.1.2.1, ((), (x.2.1.2.2.2.1, ())))), x.2.2.1, x.2.2.2.1, ())) := by
    intro n x κ
    show B_26_v1_4 3001 (fun y => l_26_v1_4 3001 n y κ) _ κ = _
    unfold B_26_v1_4
    try dsimp only
    rw [bif_f (dF (show ¬ (0 : Int) < ((List.length ([] : List (List Int)) : Nat) : Int) by simp))]
  obtain ⟨t', ht⟩ := put1 (R := R) s h (fun _ => none) (fun y => l_26_v1_4 3001 3001 (((), y.1, ((y.1.length : Nat) : Int), 0, ()), (hs a o d, (y.2.1.1, (y.2.1.2.1, ((), (y.2.1.2.2.2.1, ())))), y.2.2.1, y.2.2.2.1, ())) (fun y => κ ((), (((), (y.2.1.2.1, (y.2.1.2.2.1, (y.2.1.2.2.2.1, ())))), (y.2.2.1.1, (y.2.2.1.2.1, ((), (y.2.2.1.2.2.2.1, ())))), y.2.2.2.1, y.2.2.2.2.1, ()))))
  refine ⟨t', Eq.trans ?_ (ht.trans ?_)⟩
  · unfold p_26_v1
    rfl
  · try dsimp only
    exact le 3000 _ _
def padL (r : List Int) : List Int := r ++ List.replicate (128 - r.length) 0
theorem padL_len {r : List Int} (h : r.length ≤ 128) : (padL r).length = 128 := by unfold padL; simp; omega
def leF (w : Bl) : List Int := (List.range 8).flatMap fun i => (List.range 8).map fun k => IntKind.wrap .u8 (shrA .u64 (w i) ((8 * k : Nat) : Int))
def dv (x : Int) : Nat → Int
  | 0 => x
  | k + 1 => quoA .u64 (dv x k) 256
def leR (w : Bl) : List Int := (List.range 8).flatMap fun i => (List.range 8).map fun k => IntKind.wrap .u8 (remA .u64 (dv (w i) k) 256)
theorem leF_len (w : Bl) : (leF w).length = 64 := rfl
theorem p56 {R : Type} (w : Bl) (κ) : p_56 (R := R) 3001 ((((List.range 8).map fun j => w (0 + j)), ()), ()) κ = κ ((), (leF w, ())) := by kernel_rfl
theorem quoU {a : Int} (h : W a) : quoA .u64 a 256 = a / 256 := by
  obtain ⟨h1, h2⟩ := h
  unfold quoA
  rw [Int.tdiv_eq_ediv_of_nonneg h1, wrapU64]
  omega
theorem quoU_W {a : Int} (h : W a) : W (a / 256) := by obtain ⟨h1, h2⟩ := h; exact ⟨by omega, by omega⟩
theorem le_byte {x : Int} (h : W x) {k : Nat} (hk : k < 8) : IntKind.wrap .u8 (remA .u64 (dv x k) 256) = IntKind.wrap .u8 (shrA .u64 x ((8 * k : Nat) : Int)) := by
  rw [shrU64 h.1 (by omega)]
  have d1 : dv x 1 = x / 256 := quoU h
  have w1 : W (x / 256) := quoU_W h
  have d2 : dv x 2 = x / 256 / 256 := by show quoA .u64 (dv x 1) 256 = _; rw [d1, quoU w1]
  have w2 := quoU_W w1
  have d3 : dv x 3 = x / 256 / 256 / 256 := by show quoA .u64 (dv x 2) 256 = _; rw [d2, quoU w2]
  have w3 := quoU_W w2
  have d4 : dv x 4 = x / 256 / 256 / 256 / 256 := by show quoA .u64 (dv x 3) 256 = _; rw [d3, quoU w3]
  have w4 := quoU_W w3
  have d5 : dv x 5 = x / 256 / 256 / 256 / 256 / 256 := by show quoA .u64 (dv x 4) 256 = _; rw [d4, quoU w4]
  have w5 := quoU_W w4
  have d6 : dv x 6 = x / 256 / 256 / 256 / 256 / 256 / 256 := by show quoA .u64 (dv x 5) 256 = _; rw [d5, quoU w5]
  have w6 := quoU_W w5
  have d7 : dv x 7 = x / 256 / 256 / 256 / 256 / 256 / 256 / 256 := by show quoA .u64 (dv x 6) 256 = _; rw [d6, quoU w6]
  have w7 := quoU_W w6
  have h0 := h.1
  have rm : ∀ y : Int, 0 ≤ y → IntKind.wrap .u8 (remA .u64 y 256) = y % 256 := fun y hy => by
    unfold remA
    rw [Int.tmod_eq_emod_of_nonneg hy, wrapU8]
    omega
  have : k = 0 ∨ k = 1 ∨ k = 2 ∨ k = 3 ∨ k = 4 ∨ k = 5 ∨ k = 6 ∨ k = 7 := by omega
  rcases this with e | e | e | e | e | e | e | e <;> subst e
  · rw [show dv x 0 = x from rfl, rm x h0, wrapU8]; show x % 256 = x / 1 % 256; omega
  · rw [d1, rm _ w1.1, wrapU8]; show x / 256 % 256 = x / 256 % 256; omega
  · rw [d2, rm _ w2.1, wrapU8]; show _ = x / 65536 % 256; omega
  · rw [d3, rm _ w3.1, wrapU8]; show _ = x / 16777216 % 256; omega
  · rw [d4, rm _ w4.1, wrapU8]; show _ = x / 4294967296 % 256; omega
  · rw [d5, rm _ w5.1, wrapU8]; show _ = x / 1099511627776 % 256; omega
  · rw [d6, rm _ w6.1, wrapU8]; show _ = x / 281474976710656 % 256; omega
  · rw [d7, rm _ w7.1, wrapU8]; show _ = x / 72057594037927936 % 256; omega
theorem leR_eq {w : Bl} (h : ∀ j, j < 8 → W (w j)) : leR w = leF w := by
  unfold leR leF
  rw [List.flatMap_def, List.flatMap_def]
  congr 1
  exact List.map_congr_left fun i hi => List.map_congr_left fun k hk => le_byte (h i (List.mem_range.1 hi)) (List.mem_range.1 hk)
def finF (a : Bl) (r : List Int) (n o : Int) : ByteArray := listStr ((leF (compF a (blk (padL r)) n true)).take o.toNat)
theorem p25 {R : Type} (a : Bl) (o d t : Int) (r : List Int) (hr : r.length ≤ 128) (h1 : 0 ≤ o) (h2 : o ≤ 64) (κ) :
    p_25_v2 (R := R) 3001 (((), ()), (hs a o d, fd t, r, ())) κ = κ (finF a r (addA .u64 d (r.length : Int)) o, (hs a o d, fd t, r, ())) := by
  have e1 : subA .i64 128 (r.length : Int) = ((128 - r.length : Nat) : Int) := by rw [sub64 (by omega) (by omega)]; omega
  have e2 : IntKind.wrap .u64 (r.length : Int) = (r.length : Int) := by rw [wrapU64]; omega
  have e3 : r ++ List.replicate (128 - r.length) (Sch.zero (.int .u8)) = padL r := rfl
  unfold p_25_v2 p_55_v1 hs fd
  try dsimp only
  rw [bif_t (dT (show r.length * 1 ≤ 140737488355328 by omega))]
  try dsimp only
  rw [e1, e2, Int.toNat_natCast, e3, bif_t (dT (show (0 : Int) ≤ ((128 - r.length : Nat) : Int) by omega)), bif_t (dT (show ((128 - r.length : Nat) : Int) ≤ 140737488355328 by omega)), bif_t (show (decide ((r.length + (List.replicate (128 - r.length) (Sch.zero (.int .u8))).length) * 1 ≤ 140737488355328) && true) = true by rw [List.length_replicate]; simp; omega), p12b _ _ (padL_len hr)]
  try dsimp only
  rw [p56]
  try dsimp only
  rw [leF_len, bif_t (dT h1), bif_t (dT (show o ≤ ((64 : Nat) : Int) by omega)), bif_t (dT h1)]
  rfl
def keyL (k : List Int) : List Int := if k = [] then [] else padL k
def parF (n size : Int) : Int := xorA .u64 (xorA .u64 16842752 (shlA .u64 (IntKind.wrap .u64 n) 8)) (IntKind.wrap .u64 size)
def parR (n size : Int) : Int := addA .u64 (addA .u64 16842752 (mulA .u64 256 (IntKind.wrap .u64 n))) (IntKind.wrap .u64 size)
theorem par_all : (List.range 65).all (fun n => (List.range 65).all fun s => parF (n : Int) (s : Int) == parR (n : Int) (s : Int)) = true := by kernel_rfl
theorem par_eq {n : Nat} {size : Int} (hn : n ≤ 64) (h1 : 1 ≤ size) (h2 : size ≤ 64) : parF (n : Int) size = parR (n : Int) size := by
  obtain ⟨s, rfl⟩ := Int.eq_ofNat_of_zero_le (show 0 ≤ size by omega)
  have := List.all_eq_true.1 (List.all_eq_true.1 par_all n (List.mem_range.2 (by omega))) s (List.mem_range.2 (by omega))
  exact eq_of_beq (α := Int) this
def st0 (n size : Int) : Bl := upd ivF 0 (xorA .u64 (ivF 0) (parF n size))
theorem st0_W (n size : Int) : ∀ j, j < 8 → W (st0 n size j) := fun j hj => by
  unfold st0
  rw [upd_if]
  split
  · exact W_xor _ _
  · exact ivF_W hj
theorem p58 {R : Type} (κ0 κ1) : p_58 (R := R) 3001 ((128, true, ()), ()) κ0 κ1 = κ1 (((), (0, ())), (fd 0, [], ())) := by kernel_rfl
theorem eqS_nil (s : ByteArray) : eqS s ⟨#[]⟩ = decide (strList s = []) := by rw [eqS_dec]; rfl
theorem p27b {R : Type} (size : Int) (key : ByteArray) (h : size < 1 ∨ size > 64 ∨ ((key.size : Nat) : Int) > 64) (κ0 κ1 κ2) : p_27 (R := R) 3001 ((size, key, ()), ()) κ0 κ1 κ2 = κ0 (((), (1, ())), ()) := by
  unfold p_27
  try dsimp only
  by_cases h1 : size < 1
  · rw [bif_t (dT h1)]
  · rw [bif_f (dF h1)]
    by_cases h2 : size > 64
    · rw [bif_t (dT h2)]
    · rw [bif_f (dF h2), bif_t (dT (show ((key.size : Nat) : Int) > 64 by omega))]
theorem p27 {R : Type} (size : Int) (key : ByteArray) (h1 : 1 ≤ size) (h2 : size ≤ 64) (h3 : (strList key).length ≤ 64) (κ0 κ1 κ2) :
    ∃ t, p_27 (R := R) 3001 ((size, key, ()), ()) κ0 κ1 κ2 = κ2 (((), (0, ())), (hs (st0 ((key.size : Nat) : Int) size) size 0, fd t, keyL (strList key), ())) := by
  have hz := strList_size key
  by_cases hk : strList key = []
  · refine ⟨0, ?_⟩
    unfold p_27
    try dsimp only
    rw [bif_f (dF (show ¬ size < 1 by omega)), bif_f (dF (show ¬ size > 64 by omega)), bif_f (dF (show ¬ ((key.size : Nat) : Int) > 64 by omega)), p58]
    try dsimp only
    rw [p15]
    try dsimp only
    rw [eqS_nil, bif_f (show (!decide (strList key = [])) = false by simp [hk])]
    unfold keyL
    rw [if_pos hk]
    rfl
  · have e1 : subA .i64 128 ((key.size : Nat) : Int) = ((128 - (strList key).length : Nat) : Int) := by rw [sub64 (by omega) (by omega)]; omega
    have e2 : strList (listStr (List.replicate (128 - (strList key).length) (Sch.zero (.int .u8)))) = List.replicate (128 - (strList key).length) 0 := by
      refine strList_mk _ fun x hx => ?_
      have : x = 0 := List.eq_of_mem_replicate hx
      omega
    have e3 : strList (key ++ listStr (List.replicate (128 - (strList key).length) (Sch.zero (.int .u8)))) = padL (strList key) := by rw [strList_app, e2]; rfl
    obtain ⟨t, ht⟩ := add1 (R := R) (key ++ listStr (List.replicate (128 - (strList key).length) (Sch.zero (.int .u8)))) (by rw [e3, padL_len (by omega)]; omega) (st0 ((key.size : Nat) : Int) size) size 0
      (fun y => κ2 (((), (0, ())), (((), (y.2.1.2.1, (y.2.1.2.2.1, (y.2.1.2.2.2.1, ())))), (y.2.2.1.1, (y.2.2.1.2.1, ((), (y.2.2.1.2.2.2.1, ())))), y.2.2.2.2.1, ())))
    refine ⟨t, Eq.trans ?_ (ht.trans ?_)⟩
    · unfold p_27
      try dsimp only
      rw [bif_f (dF (show ¬ size < 1 by omega)), bif_f (dF (show ¬ size > 64 by omega)), bif_f (dF (show ¬ ((key.size : Nat) : Int) > 64 by omega)), p58]
      try dsimp only
      rw [p15]
      try dsimp only
      have hsz : (listStr (List.replicate (128 - (strList key).length) (Sch.zero (.int .u8)))).size = 128 - (strList key).length := by rw [strList_size, e2, List.length_replicate]
      rw [eqS_nil, bif_t (show (!decide (strList key = [])) = true by simp [hk]), e1, Int.toNat_natCast, bif_t (dT (show (0 : Int) ≤ ((128 - (strList key).length : Nat) : Int) by omega)), bif_t (dT (show ((128 - (strList key).length : Nat) : Int) ≤ ((128 - (strList key).length : Nat) : Int) by omega)), bif_t (dT (show ((1 : Nat) : Int) * ((128 - (strList key).length : Nat) : Int) ≤ 281474976710656 by omega)), bif_t (dT (show ((128 - (strList key).length : Nat) : Int) ≤ 9223372036854775807 by omega)), hsz, bif_t (dT (show key.size + (128 - (strList key).length) ≤ maxI64 by unfold maxI64; omega))]
      rfl
    · unfold keyL
      rw [if_neg hk, ← e3]
theorem cut_three (l : List Int) : (cut' l).2.length ≤ 128 ∧ 128 * (cut' l).1.length + (cut' l).2.length = l.length ∧ (cut' l).2 = l.drop (128 * (cut' l).1.length) := by
  obtain ⟨c1, c2, c3, c4, c5, c6⟩ := cut_len l.length l (Nat.le_refl _)
  exact ⟨c2, c3, c6⟩
/-- The sum of bytes that follow a key. -/
def sumF (n size : Int) (l : List Int) : ByteArray := finF (comps (st0 n size) 0 (cut' l).1).1 (cut' l).2 (l.length : Int) size
theorem keyL_len {k : List Int} (h : k.length ≤ 64) : (keyL k).length ≤ 128 := by
  unfold keyL
  split
  · simp
  · rw [padL_len (by omega)]; omega
theorem joinL_len {M : Nat} : ∀ {P : List ByteArray}, (∀ s ∈ P, s.size ≤ M) → (joinL P).length ≤ P.length * M
  | [], _ => by simp [joinL]
  | s :: P, h => by
    have h1 := h s (List.mem_cons_self ..)
    have h2 := joinL_len (P := P) fun x hx => h x (List.mem_cons_of_mem _ hx)
    show (strList s ++ joinL P).length ≤ _
    rw [List.length_append, ← strList_size, List.length_cons, Nat.add_mul]
    omega
theorem l21 {R : Type} (P : List ByteArray) (hP : P.length ≤ 3000) (κ) : ∀ (n i t : Nat), i ≤ P.length → P.length - i < n → t + (joinL (P.drop i)).length < 4611686018427387904 →
    l_21_3 (R := R) 3001 n ((P, (t : Int), (i : Int), ()), ()) κ = κ ((((t + (joinL (P.drop i)).length : Nat) : Int), ()), ())
  | 0, i, t, h1, h2, h3 => by omega
  | n + 1, i, t, h1, h2, h3 => by
    show B_21_3 3001 (fun y => l_21_3 3001 n y κ) _ κ = _
    unfold B_21_3
    try dsimp only
    by_cases hi : i < P.length
    · have hd : P.drop i = P[i] :: P.drop (i + 1) := List.drop_eq_getElem_cons hi
      have hg : List.getD P i (Sch.zero (.str)) = P[i] := by simp [hi]
      have hj : joinL (P.drop i) = strList P[i] ++ joinL (P.drop (i + 1)) := by rw [hd]; rfl
      have e3 : addA .i64 (i : Int) 1 = ((i + 1 : Nat) : Int) := by rw [add64 (by omega) (by omega)]; simp
      have hz := strList_size P[i]
      rw [hj, List.length_append] at h3 ⊢
      have e4 : addA .i64 (t : Int) ((P[i].size : Nat) : Int) = ((t + P[i].size : Nat) : Int) := by rw [add64 (by omega) (by omega)]; omega
      rw [bif_t (dT (show (i : Int) < (P.length : Int) by omega)), bif_t (dT (show (0 : Int) ≤ (i : Int) by omega)), bif_t (dT (show (i : Int) < (P.length : Int) by omega)), Int.toNat_natCast, hg, e3, e4, l21 P hP κ n (i + 1) (t + P[i].size) (by omega) (by omega) (by omega)]
      congr 3
      omega
    · rw [bif_f (dF (show ¬ (i : Int) < (P.length : Int) by omega)), List.drop_eq_nil_of_le (by omega)]
      rfl
theorem p21 {R : Type} (P : List ByteArray) (hP : P.length ≤ 3000) (hs : ∀ s ∈ P, s.size ≤ 140737488351232) (κ) : p_21 (R := R) 3001 ((P, ()), ()) κ = κ (((joinL P).length : Nat) : Int) := by
  have h1 := joinL_len hs
  have h2 : P.length * 140737488351232 ≤ 3000 * 140737488351232 := Nat.mul_le_mul_right _ hP
  unfold p_21
  try dsimp only
  refine (l21 P hP _ 3001 0 0 (by omega) (by omega) (by simp only [List.drop_zero]; omega)).trans ?_
  rw [List.drop_zero, Nat.zero_add]
theorem l24 (P : List ByteArray) (hP : P.length ≤ 3000) : ∀ (n i : Nat) (s : ByteArray), i ≤ P.length → P.length - i < n → (strList s).length + (joinL (P.drop i)).length ≤ 100000 →
    ∃ T, strList T = strList s ++ joinL (P.drop i) ∧ ∀ {R : Type} (κ), l_24_3 (R := R) 3001 n ((P, s, (i : Int), ()), ()) κ = κ ((T, ()), ())
  | 0, i, s, h1, h2, h3 => by omega
  | n + 1, i, s, h1, h2, h3 => by
    by_cases hi : i < P.length
    · have hd : P.drop i = P[i] :: P.drop (i + 1) := List.drop_eq_getElem_cons hi
      have hg : List.getD P i (Sch.zero (.str)) = P[i] := by simp [hi]
      have hj : joinL (P.drop i) = strList P[i] ++ joinL (P.drop (i + 1)) := by rw [hd]; rfl
      have e3 : addA .i64 (i : Int) 1 = ((i + 1 : Nat) : Int) := by rw [add64 (by omega) (by omega)]; simp
      have hz := strList_size P[i]
      have hzs := strList_size s
      rw [hj, List.length_append] at h3
      obtain ⟨T, q1, q2⟩ := l24 P hP n (i + 1) (s ++ P[i]) (by omega) (by omega) (by rw [strList_app, List.length_append]; omega)
      refine ⟨T, by rw [q1, hj, strList_app, List.append_assoc], fun κ => Eq.trans ?_ (q2 κ)⟩
      show B_24_3 3001 (fun y => l_24_3 3001 n y κ) _ κ = _
      unfold B_24_3
      try dsimp only
      rw [bif_t (dT (show (i : Int) < (P.length : Int) by omega)), bif_t (dT (show (0 : Int) ≤ (i : Int) by omega)), bif_t (dT (show (i : Int) < (P.length : Int) by omega)), Int.toNat_natCast, hg, e3, bif_t (dT (show s.size + P[i].size ≤ maxI64 by unfold maxI64; omega))]
    · refine ⟨s, by rw [List.drop_eq_nil_of_le (by omega)]; simp [joinL], fun κ => ?_⟩
      show B_24_3 3001 (fun y => l_24_3 3001 n y κ) _ κ = _
      unfold B_24_3
      try dsimp only
      rw [bif_f (dF (show ¬ (i : Int) < (P.length : Int) by omega))]
theorem p24 (P : List ByteArray) (hP : P.length ≤ 3000) (hb : (joinL P).length ≤ 100000) : ∃ T, strList T = joinL P ∧ ∀ {R : Type} (κ), p_24 (R := R) 3001 ((P, ()), ()) κ = κ T := by
  obtain ⟨T, q1, q2⟩ := l24 P hP 3001 0 ⟨#[]⟩ (by omega) (by omega) (by simp only [List.drop_zero]; show 0 + _ ≤ _; omega)
  refine ⟨T, q1, fun κ => ?_⟩
  unfold p_24
  exact q2 _
theorem l57v {R : Type} (S : List ByteArray) (u v t : Int) (κ) : ∀ (n : Nat) (l : List Int) (o : List (List Int)), l.length < 128 * n → l.length ≤ 10000 → o.length + l.length ≤ 20000 →
    l_57_v1_9 (R := R) 3001 n (((), (), (), u, v, ()), (fd t, S, l, o, ())) κ = κ (((), (), (), u, v, ()), (fd t, S, (cut' l).2, o ++ (cut' l).1, ()))
  | 0, l, o, h1, h2, h3 => by omega
  | n + 1, l, o, h1, h2, h3 => by
    show B_57_v1_9 3001 (fun y => l_57_v1_9 3001 n y κ) _ κ = _
    unfold B_57_v1_9
    unfold fd
    try dsimp only
    rw [p82]
    by_cases hl : 128 < l.length
    · have t1 : List.take (Int.toNat 128 - 0) (List.drop 0 l) = l.take 128 := rfl
      have t2 : List.take (l.length - Int.toNat 128) (List.drop (Int.toNat 128) l) = l.drop 128 := by
        rw [List.take_of_length_le]; rfl
        simp
      rw [bif_t (dT (show (128 : Int) < (l.length : Int) by omega)), bif_t (dT (show (0 : Int) ≤ 128 by decide)), bif_t (dT (show (128 : Int) ≤ (l.length : Int) by omega)), bif_t (dT (show (0 : Int) ≤ 128 by decide)), t1, bif_t (dT (show (l.take 128).length * 1 ≤ 140737488355328 by simp; omega)),
        bif_t (show (decide ((o.length + [l.take 128].length) * 24 ≤ 140737488355328) && true) = true by simp; omega), bif_t (dT (show (0 : Int) ≤ (l.length : Int) by omega)), bif_t (dT (show (l.length : Int) ≤ (l.length : Int) by omega)), bif_t (dT (show (0 : Int) ≤ 128 by decide)), bif_t (dT (show (128 : Int) ≤ (l.length : Int) by omega)), bif_t (dT (show 0 < l.length - Int.toNat 128 by show 0 < l.length - 128; omega)), t2]
      refine (l57v S u v t κ n (l.drop 128) (o ++ [l.take 128]) (by simp; omega) (by simp; omega) (by simp; omega)).trans ?_
      rw [cut_gt hl]
      unfold fd
      simp
    · rw [bif_f (dF (show ¬ (128 : Int) < (l.length : Int) by omega)), cut_le (by omega)]
      simp
theorem put2 {R : Type} (s : ByteArray) (t : Int) (l : List Int) (h : l.length + (strList s).length ≤ 10000) (κ0 κ1) :
    ∃ t', p_57_v1 (R := R) 3001 (((), (), ()), (fd t, l, [s], ())) κ0 κ1 = κ1 ((cut' (l ++ strList s)).1, (fd t', [s], (cut' (l ++ strList s)).2, ())) := by
  obtain ⟨c1, c2, c3⟩ := cut_three (l ++ strList s)
  refine ⟨addA .i64 t ((s.size : Nat) : Int), ?_⟩
  unfold p_57_v1 fd
  try dsimp only
  rw [bif_f (show ((128 : Int) == 0) = false from rfl)]
  have step : ∀ (n : Nat) (t : Int) κ, l_57_v1_5 (R := R) 3001 (n + 2) (((), (), (), (([s].length : Nat) : Int), 0, ()), ((128, (true, ((), (t, ())))), [s], l, [], ())) κ = κ (((), (), ()), ((128, (true, ((), (addA .i64 t ((s.size : Nat) : Int), ())))), [s], (cut' (l ++ strList s)).2, [] ++ (cut' (l ++ strList s)).1, ())) := by
    intro n t κ
    show B_57_v1_5 3001 (fun y => l_57_v1_5 3001 (n + 1) y κ) _ κ = _
    unfold B_57_v1_5
    try dsimp only
    rw [bif_t (dT (show (0 : Int) < (([s].length : Nat) : Int) by simp)), bif_t (dT (show (0 : Int) ≤ 0 by decide)), bif_t (dT (show (0 : Int) < (([s].length : Nat) : Int) by simp)), show List.getD [s] (Int.toNat 0) (Sch.zero (.str)) = s from rfl, bif_t (show (decide ((l.length + (strList s).length) * 1 ≤ 140737488355328) && true) = true by simp; omega)]
    refine (l57v [s] _ _ (addA .i64 t ((s.size : Nat) : Int)) _ 3001 (l ++ strList s) [] (by rw [List.length_append]; omega) (by rw [List.length_append]; omega) (by rw [List.length_append, List.length_nil]; omega)).trans ?_
    unfold fd
    try dsimp only
    show B_57_v1_5 3001 (fun y => l_57_v1_5 3001 n y κ) _ κ = _
    unfold B_57_v1_5
    try dsimp only
    rw [bif_f (dF (show ¬ addA .i64 0 1 < (([s].length : Nat) : Int) by rw [add64 (by decide) (by decide)]; simp))]
  refine (step 2999 t _).trans ?_
  try dsimp only
  rw [bif_t (dT (show (cut' (l ++ strList s)).2.length * 1 ≤ 140737488355328 by omega)), List.nil_append]
theorem l26v {R : Type} (bs : List (List Int)) (hbs : ∀ b ∈ bs, b.length = 128) (hl : bs.length ≤ 3000) (o t : Int) (S : List ByteArray) (r : List Int) (κ) : ∀ (n i : Nat) (a : Bl) (d : Int), i ≤ bs.length → bs.length - i < n →
    l_26_v1_4 (R := R) 3001 n (((), bs, (bs.length : Int), (i : Int), ()), (hs a o d, fd t, S, r, ())) κ = κ (((), ()), (hs (comps a d (bs.drop i)).1 o (comps a d (bs.drop i)).2, fd t, S, r, ()))
  | 0, i, a, d, h1, h2 => by omega
  | n + 1, i, a, d, h1, h2 => by
    show B_26_v1_4 3001 (fun y => l_26_v1_4 3001 n y κ) _ κ = _
    unfold B_26_v1_4
    by_cases hi : i < bs.length
    · have hd : bs.drop i = bs[i] :: bs.drop (i + 1) := List.drop_eq_getElem_cons hi
      have hg : List.getD bs i (Sch.zero (.sl (.int .u8))) = bs[i] := by simp [hi]
      have e3 : addA .i64 (i : Int) 1 = ((i + 1 : Nat) : Int) := by rw [add64 (by omega) (by omega)]; simp
      unfold hs fd
      try dsimp only
      rw [bif_t (dT (show (i : Int) < (bs.length : Int) by omega)), bif_t (dT (show (0 : Int) ≤ (i : Int) by omega)), bif_t (dT (show (i : Int) < (bs.length : Int) by omega)), Int.toNat_natCast, hg, p12b _ _ (hbs _ (List.getElem_mem hi))]
      try dsimp only
      rw [e3, hd]
      exact l26v bs hbs hl o t S r κ n (i + 1) _ _ (by omega) (by omega)
    · unfold hs fd
      try dsimp only
      rw [bif_f (dF (show ¬ (i : Int) < (bs.length : Int) by omega)), List.drop_eq_nil_of_le (by omega)]
      rfl
theorem add2 {R : Type} (s : ByteArray) (a : Bl) (o d t : Int) (l : List Int) (h : l.length + (strList s).length ≤ 10000) (κ) :
    ∃ t', p_26_v1 (R := R) 3001 (((), (), ()), (hs a o d, fd t, l, [s], ())) κ = κ ((), (hs (addC a d l (strList s)).1 o (addC a d l (strList s)).2, fd t', [s], (cut' (l ++ strList s)).2, ())) := by
  obtain ⟨c1, c2, c3, c4, c5, c6⟩ := cut_len (l ++ strList s).length (l ++ strList s) (Nat.le_refl _)
  rw [List.length_append] at c3
  obtain ⟨t', ht⟩ := put2 (R := R) s t l h (fun _ => none) (fun y => l_26_v1_4 3001 3001 (((), y.1, ((y.1.length : Nat) : Int), 0, ()), (hs a o d, (y.2.1.1, (y.2.1.2.1, ((), (y.2.1.2.2.2.1, ())))), y.2.2.1, y.2.2.2.1, ())) (fun y => κ ((), (((), (y.2.1.2.1, (y.2.1.2.2.1, (y.2.1.2.2.2.1, ())))), (y.2.2.1.1, (y.2.2.1.2.1, ((), (y.2.2.1.2.2.2.1, ())))), y.2.2.2.1, y.2.2.2.2.1, ()))))
  refine ⟨t', Eq.trans ?_ (ht.trans ?_)⟩
  · unfold p_26_v1
    rfl
  · try dsimp only
    refine (l26v (cut' (l ++ strList s)).1 c4 (by omega) o t' [s] _ _ 3001 0 a d (Nat.zero_le _) (by omega)).trans ?_
    rfl
theorem p22l {R : Type} (size : Int) (key : ByteArray) (h1 : 1 ≤ size) (h2 : size ≤ 64) (h3 : (strList key).length ≤ 64) (T : ByteArray) (hb : (strList T).length ≤ 2000) (κ) :
    p_22 (R := R) 3001 ((size, key, (), ()), ([T], ())) κ = κ ((sumF ((key.size : Nat) : Int) size (keyL (strList key) ++ strList T), (0, ())), ([T], ())) := by
  have hkl := keyL_len h3
  obtain ⟨c1, c2, c3⟩ := cut_three (keyL (strList key) ++ strList T)
  rw [List.length_append] at c2
  have hd := comps_d (cut' (keyL (strList key) ++ strList T)).1 (st0 ((key.size : Nat) : Int) size) 0 (by omega)
  have hd' : (comps (st0 ((key.size : Nat) : Int) size) 0 (cut' (keyL (strList key) ++ strList T)).1).2 = ((0 + 128 * (cut' (keyL (strList key) ++ strList T)).1.length : Nat) : Int) := hd
  unfold p_22
  try dsimp only
  obtain ⟨t, ht⟩ := p27 (R := R) size key h1 h2 h3
    (fun y1003 => bif (y1003.1.2.1 != 0) then κ ((⟨#[]⟩, (y1003.1.2.1, ())), ([T], ())) else (p_26_v2 3001 (((), (), ()), ([T], ())) (fun y1006 => p_25 3001 (((), ()), ()) (fun y1008 => κ ((y1008.1, (0, ())), (y1006.2.1, ()))))))
    (fun y1010 => bif (y1010.1.2.1 != 0) then κ ((⟨#[]⟩, (y1010.1.2.1, ())), ([T], ())) else (p_26 3001 (((), (), ()), (((), (y1010.2.1.2.1, (y1010.2.1.2.2.1, (y1010.2.1.2.2.2.1, ())))), [T], ())) (fun y1015 => p_25_v1 3001 (((), ()), (((), (y1015.2.1.2.1, (y1015.2.1.2.2.1, (y1015.2.1.2.2.2.1, ())))), ())) (fun y1065 => κ ((y1065.1, (0, ())), (y1015.2.2.1, ()))))))
    (fun y => bif (y.1.2.1 != 0) then κ ((⟨#[]⟩, (y.1.2.1, ())), ([T], ())) else (p_26_v1 3001 (((), (), ()), (((), (y.2.1.2.1, (y.2.1.2.2.1, (y.2.1.2.2.2.1, ())))), (y.2.2.1.1, (y.2.2.1.2.1, ((), (y.2.2.1.2.2.2.1, ())))), y.2.2.2.1, [T], ())) (fun z => p_25_v2 3001 (((), ()), (((), (z.2.1.2.1, (z.2.1.2.2.1, (z.2.1.2.2.2.1, ())))), (z.2.2.1.1, (z.2.2.1.2.1, ((), (z.2.2.1.2.2.2.1, ())))), z.2.2.2.2.1, ())) (fun y => κ ((y.1, (0, ())), (z.2.2.2.1, ()))))))
  refine ht.trans ?_
  unfold hs fd
  try dsimp only
  rw [bif_f (show ((0 : Int) != 0) = false from rfl)]
  obtain ⟨t', ht'⟩ := add2 (R := R) T (st0 ((key.size : Nat) : Int) size) size 0 t (keyL (strList key)) (by omega) (fun z => p_25_v2 3001 (((), ()), (((), (z.2.1.2.1, (z.2.1.2.2.1, (z.2.1.2.2.2.1, ())))), (z.2.2.1.1, (z.2.2.1.2.1, ((), (z.2.2.1.2.2.2.1, ())))), z.2.2.2.2.1, ())) (fun y => κ ((y.1, (0, ())), (z.2.2.2.1, ()))))
  refine ht'.trans ?_
  try dsimp only
  refine (p25 _ size _ t' _ c1 (by omega) h2 _).trans ?_
  try dsimp only
  unfold addC hs
  try dsimp only
  rw [hd', addU64 (by omega) (by omega)]
  unfold sumF
  rw [List.length_append]
  congr 4
  omega
def totL (t : Int) (P : List ByteArray) : Int := P.foldl (fun t s => addA .i64 t ((s.size : Nat) : Int)) t
theorem put3 {R : Type} (s : ByteArray) (t : Int) (l : List Int) (h : l.length + (strList s).length ≤ 10000) (κ0 κ1) :
    p_57_v1 (R := R) 3001 (((), (), ()), (fd t, l, [s], ())) κ0 κ1 = κ1 ((cut' (l ++ strList s)).1, (fd (addA .i64 t ((s.size : Nat) : Int)), [s], (cut' (l ++ strList s)).2, ())) := by
  obtain ⟨c1, c2, c3⟩ := cut_three (l ++ strList s)
  unfold p_57_v1 fd
  try dsimp only
  rw [bif_f (show ((128 : Int) == 0) = false from rfl)]
  have step : ∀ (n : Nat) (t : Int) κ, l_57_v1_5 (R := R) 3001 (n + 2) (((), (), (), (([s].length : Nat) : Int), 0, ()), ((128, (true, ((), (t, ())))), [s], l, [], ())) κ = κ (((), (), ()), ((128, (true, ((), (addA .i64 t ((s.size : Nat) : Int), ())))), [s], (cut' (l ++ strList s)).2, [] ++ (cut' (l ++ strList s)).1, ())) := by
    intro n t κ
    show B_57_v1_5 3001 (fun y => l_57_v1_5 3001 (n + 1) y κ) _ κ = _
    unfold B_57_v1_5
    try dsimp only
    rw [bif_t (dT (show (0 : Int) < (([s].length : Nat) : Int) by simp)), bif_t (dT (show (0 : Int) ≤ 0 by decide)), bif_t (dT (show (0 : Int) < (([s].length : Nat) : Int) by simp)), show List.getD [s] (Int.toNat 0) (Sch.zero (.str)) = s from rfl, bif_t (show (decide ((l.length + (strList s).length) * 1 ≤ 140737488355328) && true) = true by simp; omega)]
    refine (l57v [s] _ _ (addA .i64 t ((s.size : Nat) : Int)) _ 3001 (l ++ strList s) [] (by rw [List.length_append]; omega) (by rw [List.length_append]; omega) (by rw [List.length_append, List.length_nil]; omega)).trans ?_
    unfold fd
    try dsimp only
    show B_57_v1_5 3001 (fun y => l_57_v1_5 3001 n y κ) _ κ = _
    unfold B_57_v1_5
    try dsimp only
    rw [bif_f (dF (show ¬ addA .i64 0 1 < (([s].length : Nat) : Int) by rw [add64 (by decide) (by decide)]; simp))]
  refine (step 2999 t _).trans ?_
  try dsimp only
  rw [bif_t (dT (show (cut' (l ++ strList s)).2.length * 1 ≤ 140737488355328 by omega)), List.nil_append]
theorem add3 {R : Type} (s : ByteArray) (a : Bl) (o d t : Int) (l : List Int) (h : l.length + (strList s).length ≤ 10000) (κ) :
    p_26_v1 (R := R) 3001 (((), (), ()), (hs a o d, fd t, l, [s], ())) κ = κ ((), (hs (addC a d l (strList s)).1 o (addC a d l (strList s)).2, fd (addA .i64 t ((s.size : Nat) : Int)), [s], (cut' (l ++ strList s)).2, ())) := by
  obtain ⟨c1, c2, c3, c4, c5, c6⟩ := cut_len (l ++ strList s).length (l ++ strList s) (Nat.le_refl _)
  rw [List.length_append] at c3
  have ht := put3 (R := R) s t l h (fun _ => none) (fun y => l_26_v1_4 3001 3001 (((), y.1, ((y.1.length : Nat) : Int), 0, ()), (hs a o d, (y.2.1.1, (y.2.1.2.1, ((), (y.2.1.2.2.2.1, ())))), y.2.2.1, y.2.2.2.1, ())) (fun y => κ ((), (((), (y.2.1.2.1, (y.2.1.2.2.1, (y.2.1.2.2.2.1, ())))), (y.2.2.1.1, (y.2.2.1.2.1, ((), (y.2.2.1.2.2.2.1, ())))), y.2.2.2.1, y.2.2.2.2.1, ()))))
  refine Eq.trans ?_ (ht.trans ?_)
  · unfold p_26_v1
    rfl
  · try dsimp only
    refine (l26v (cut' (l ++ strList s)).1 c4 (by omega) o (addA .i64 t ((s.size : Nat) : Int)) [s] _ _ 3001 0 a d (Nat.zero_le _) (by omega)).trans ?_
    rfl
theorem l57e {R : Type} (P : List ByteArray) (hP : P.length ≤ 3000) (κ) : ∀ (n i : Nat) (t : Int) (l : List Int) (o : List (List Int)), i ≤ P.length → P.length - i < n → o.length + l.length + (joinL (P.drop i)).length ≤ 10000 →
    l_57_v3_5 (R := R) 3001 n (((), (), P, (P.length : Int), (i : Int), ()), (fd t, l, o, ())) κ =
      κ (((), (), ()), (fd (totL t (P.drop i)), (if i < P.length then (cut' (l ++ joinL (P.drop i))).2 else l), (if i < P.length then o ++ (cut' (l ++ joinL (P.drop i))).1 else o), ()))
  | 0, i, t, l, o, h1, h2, h3 => by omega
  | n + 1, i, t, l, o, h1, h2, h3 => by
    by_cases hi : i < P.length
    · have hd : P.drop i = P[i] :: P.drop (i + 1) := List.drop_eq_getElem_cons hi
      have hg : List.getD P i (Sch.zero (.str)) = P[i] := by simp [hi]
      have hj : joinL (P.drop i) = strList P[i] ++ joinL (P.drop (i + 1)) := by rw [hd]; rfl
      have e3 : addA .i64 (i : Int) 1 = ((i + 1 : Nat) : Int) := by rw [add64 (by omega) (by omega)]; simp
      rw [hj, List.length_append] at h3
      obtain ⟨c1, c2, c3, c4, c5, c6⟩ := cut_len (l ++ strList P[i]).length (l ++ strList P[i]) (Nat.le_refl _)
      rw [List.length_append] at c1
      have ht := l57e P hP κ n (i + 1) (addA .i64 t ((P[i].size : Nat) : Int)) (cut' (l ++ strList P[i])).2 (o ++ (cut' (l ++ strList P[i])).1) (by omega) (by omega) (by rw [List.length_append]; omega)
      refine Eq.trans ?_ (ht.trans ?_)
      · show B_57_v3_5 3001 (fun y => l_57_v3_5 3001 n y κ) _ κ = _
        unfold B_57_v3_5
        unfold fd
        try dsimp only
        rw [bif_t (dT (show (i : Int) < (P.length : Int) by omega)), bif_t (dT (show (0 : Int) ≤ (i : Int) by omega)), bif_t (dT (show (i : Int) < (P.length : Int) by omega)), Int.toNat_natCast, hg, bif_t (show (decide ((l.length + (strList P[i]).length) * 1 ≤ 140737488355328) && true) = true by simp; omega)]
        refine (l57i P (P.length : Int) (i : Int) (addA .i64 t ((P[i].size : Nat) : Int)) _ 3001 (l ++ strList P[i]) o (by rw [List.length_append]; omega) (by rw [List.length_append]; omega) (by rw [List.length_append]; omega)).trans ?_
        unfold fd
        try dsimp only
        rw [e3]
      · have ca := cut_app (joinL (P.drop (i + 1))) (l ++ strList P[i]).length (l ++ strList P[i]) (Nat.le_refl _)
        rw [if_pos hi, if_pos hi, hj, ← List.append_assoc, ca, show totL t (P.drop i) = totL (addA .i64 t ((P[i].size : Nat) : Int)) (P.drop (i + 1)) by rw [hd]; rfl]
        by_cases h4 : i + 1 < P.length
        · rw [if_pos h4, if_pos h4, List.append_assoc]
        · rw [if_neg h4, if_neg h4, show P.drop (i + 1) = [] from List.drop_eq_nil_of_le (by omega)]
          show _ = κ (_, (_, (cut' ((cut' (l ++ strList P[i])).2 ++ [])).2, o ++ ((cut' (l ++ strList P[i])).1 ++ (cut' ((cut' (l ++ strList P[i])).2 ++ [])).1), ()))
          rw [List.append_nil, cut_le c2, List.append_nil]
    · rw [if_neg hi, if_neg hi, show P.drop i = [] from List.drop_eq_nil_of_le (by omega)]
      unfold l_57_v3_5 B_57_v3_5
      unfold fd
      try dsimp only
      rw [bif_f (dF (show ¬ (i : Int) < (P.length : Int) by omega))]
      rfl
theorem p57e {R : Type} (P : List ByteArray) (hP : P.length ≤ 3000) (t : Int) (l : List Int) (hl : l.length ≤ 128) (hb : l.length + (joinL P).length ≤ 10000) (κ0 κ1) :
    p_57_v3 (R := R) 3001 (((), P, ()), (fd t, l, ())) κ0 κ1 = κ1 ((cut' (l ++ joinL P)).1, (fd (totL t P), (cut' (l ++ joinL P)).2, ())) := by
  obtain ⟨c1, c2, c3, c4, c5, c6⟩ := cut_len (l ++ joinL P).length (l ++ joinL P) (Nat.le_refl _)
  rw [List.length_append] at c1
  have ht := l57e (R := R) P hP (fun y => bif decide (y.2.2.1.length * 1 ≤ 140737488355328) then κ1 (y.2.2.2.1, ((y.2.1.1, (y.2.1.2.1, ((), (y.2.1.2.2.2.1, ())))), y.2.2.1, ())) else none) 3001 0 t l [] (Nat.zero_le _) (by omega) (by simp only [List.length_nil, List.drop_zero]; omega)
  rw [List.drop_zero] at ht
  refine Eq.trans ?_ (ht.trans ?_)
  · unfold p_57_v3
    unfold fd
    try dsimp only
    rw [bif_f (show ((128 : Int) == 0) = false from rfl)]
    rfl
  · by_cases h0 : 0 < P.length
    · rw [if_pos h0, if_pos h0]
      try dsimp only
      rw [bif_t (dT (show (cut' (l ++ joinL P)).2.length * 1 ≤ 140737488355328 by omega))]
      rfl
    · rw [if_neg h0, if_neg h0, joinL_empty h0, List.append_nil, cut_le hl]
      try dsimp only
      rw [bif_t (dT (show l.length * 1 ≤ 140737488355328 by omega))]
theorem p26e {R : Type} (P : List ByteArray) (hP : P.length ≤ 3000) (a : Bl) (o d t : Int) (l : List Int) (hl : l.length ≤ 128) (hb : l.length + (joinL P).length ≤ 10000) (κ) :
    p_26_v5 (R := R) 3001 (((), P, ()), (hs a o d, fd t, l, ())) κ = κ ((), (hs (addC a d l (joinL P)).1 o (addC a d l (joinL P)).2, fd (totL t P), (cut' (l ++ joinL P)).2, ())) := by
  obtain ⟨c1, c2, c3, c4, c5, c6⟩ := cut_len (l ++ joinL P).length (l ++ joinL P) (Nat.le_refl _)
  rw [List.length_append] at c3
  have ht := p57e (R := R) P hP t l hl hb (fun _ => none) (fun y => l_26_v5_4 3001 3001 (((), y.1, ((y.1.length : Nat) : Int), 0, ()), (hs a o d, (y.2.1.1, (y.2.1.2.1, ((), (y.2.1.2.2.2.1, ())))), y.2.2.1, ())) (fun y => κ ((), (((), (y.2.1.2.1, (y.2.1.2.2.1, (y.2.1.2.2.2.1, ())))), (y.2.2.1.1, (y.2.2.1.2.1, ((), (y.2.2.1.2.2.2.1, ())))), y.2.2.2.1, ()))))
  refine Eq.trans ?_ (ht.trans ?_)
  · unfold p_26_v5
    rfl
  · try dsimp only
    refine (l26 (cut' (l ++ joinL P)).1 c4 (by omega) o (totL t P) _ _ 3001 0 a d (Nat.zero_le _) (by omega)).trans ?_
    rfl
def le4 (x : Int) : List Int := [IntKind.wrap .u8 x, IntKind.wrap .u8 (shrA .u32 x 8), IntKind.wrap .u8 (shrA .u32 x 16), IntKind.wrap .u8 (shrA .u32 x 24)]
theorem p60 {R : Type} (x : Int) (κ) : p_60 (R := R) 3001 (((), ()), ([x], ())) κ = κ (le4 x, ([x], ())) := by kernel_rfl
theorem le4_len (x : Int) : (le4 x).length = 4 := rfl
theorem le4_str (x : Int) : strList (listStr (le4 x)) = le4 x := by
  refine strList_mk _ fun y hy => ?_
  unfold le4 at hy
  simp only [List.mem_cons, List.not_mem_nil, or_false] at hy
  rcases hy with rfl | rfl | rfl | rfl <;> (rw [wrapU8]; omega)
theorem p27e {R : Type} (size : Int) (h1 : 1 ≤ size) (h2 : size ≤ 64) (κ0 κ1 κ2) : p_27 (R := R) 3001 ((size, ⟨#[]⟩, ()), ()) κ0 κ1 κ2 = κ2 (((), (0, ())), (hs (st0 0 size) size 0, fd 0, [], ())) := by
  unfold p_27
  try dsimp only
  rw [bif_f (dF (show ¬ size < 1 by omega)), bif_f (dF (show ¬ size > 64 by omega)), bif_f (show decide (((ByteArray.size ⟨#[]⟩ : Nat) : Int) > 64) = false from rfl), p58]
  try dsimp only
  rw [p15]
  try dsimp only
  rw [eqS_nil, bif_f (show (!decide (strList ⟨#[]⟩ = [])) = false from rfl)]
  rfl
theorem p22e {R : Type} (size : Int) (h1 : 1 ≤ size) (h2 : size ≤ 64) (T : ByteArray) (hb : (strList T).length ≤ 2000) (κ) :
    p_22 (R := R) 3001 ((size, ⟨#[]⟩, (), ()), ([T], ())) κ = κ ((sumF 0 size (strList T), (0, ())), ([T], ())) :=
  p22l size ⟨#[]⟩ h1 h2 (by show 0 ≤ 64; omega) T hb κ
theorem sum_len (n size : Int) (l : List Int) (h1 : 1 ≤ size) (h2 : size ≤ 64) : (strList (sumF n size l)).length = size.toNat := by
  unfold sumF finF
  rw [strList_mk, List.length_take, leF_len]
  · omega
  · intro x hx
    have hx := List.mem_of_mem_take hx
    unfold leF at hx
    obtain ⟨i, _, hx⟩ := List.mem_flatMap.1 hx
    obtain ⟨k, _, rfl⟩ := List.mem_map.1 hx
    rw [wrapU8]
    omega
def longGo (size : Int) : Nat → ByteArray → List Int → ByteArray × List Int
  | 0, s, o => (s, o)
  | n + 1, s, o => if size - (o.length : Int) > 64 then longGo size n (sumF 0 64 (strList s)) (o ++ (strList (sumF 0 64 (strList s))).take 32) else (s, o)
theorem longGo_spec (size : Int) : ∀ (n : Nat) (s : ByteArray) (o : List Int), (strList s).length ≤ 64 → 33 ≤ size - (o.length : Int) → size - (o.length : Int) ≤ 64 + 32 * (n : Int) →
    (strList (longGo size n s o).1).length ≤ 64 ∧ 33 ≤ size - ((longGo size n s o).2.length : Int) ∧ size - ((longGo size n s o).2.length : Int) ≤ 64 ∧ o.length ≤ (longGo size n s o).2.length
  | 0, s, o, h1, h2, h3 => ⟨h1, h2, by show size - (o.length : Int) ≤ 64; omega, Nat.le_refl _⟩
  | n + 1, s, o, h1, h2, h3 => by
    have hl := sum_len 0 64 (strList s) (by decide) (by decide)
    have hl : (strList (sumF 0 64 (strList s))).length = 64 := hl
    unfold longGo
    by_cases h : size - (o.length : Int) > 64
    · rw [if_pos h]
      have ho : (o ++ (strList (sumF 0 64 (strList s))).take 32).length = o.length + 32 := by rw [List.length_append, List.length_take]; omega
      obtain ⟨q1, q2, q3, q4⟩ := longGo_spec size n (sumF 0 64 (strList s)) (o ++ (strList (sumF 0 64 (strList s))).take 32) (by omega) (by rw [ho]; omega) (by rw [ho]; omega)
      exact ⟨q1, q2, q3, by rw [ho] at q4; omega⟩
    · rw [if_neg h]
      exact ⟨h1, h2, by show size - (o.length : Int) ≤ 64; omega, Nat.le_refl _⟩
theorem l29 {R : Type} (size : Int) (κ) : ∀ (n : Nat) (s : ByteArray) (o : List Int), (strList s).length ≤ 64 → 33 ≤ size - (o.length : Int) → size - (o.length : Int) ≤ 32 + 32 * (n : Int) → size ≤ 70000 →
    l_29_v1_8 (R := R) 3001 n ((size, s, (), ()), (o, ())) κ = κ ((size, (longGo size n s o).1, (), ()), ((longGo size n s o).2, ()))
  | 0, s, o, h1, h2, h3, h4 => by omega
  | n + 1, s, o, h1, h2, h3, h4 => by
    have hl : (strList (sumF 0 64 (strList s))).length = 64 := sum_len 0 64 (strList s) (by decide) (by decide)
    have hz := strList_size (sumF 0 64 (strList s))
    show B_29_v1_8 3001 (fun y => l_29_v1_8 3001 n y κ) _ κ = _
    unfold B_29_v1_8 longGo
    try dsimp only
    rw [sub64 (by omega) (by omega)]
    by_cases h : size - (o.length : Int) > 64
    · have ex : strList ((sumF 0 64 (strList s)).extract 0 32) = (strList (sumF 0 64 (strList s))).take 32 := by rw [strList_ext]; rfl
      have ho : (o ++ (strList (sumF 0 64 (strList s))).take 32).length = o.length + 32 := by rw [List.length_append, List.length_take]; omega
      rw [if_pos h, bif_t (dT h), p22e 64 (by decide) (by decide) s (by omega)]
      try dsimp only
      rw [bif_t (dT (show (32 : Int) ≤ (((sumF 0 64 (strList s)).size : Nat) : Int) by omega)), ex, bif_t (show (decide ((o.length + ((strList (sumF 0 64 (strList s))).take 32).length) * 1 ≤ 140737488355328) && true) = true by rw [List.length_take]; simp; omega)]
      exact l29 size κ n _ _ (by omega) (by rw [ho]; omega) (by rw [ho]; omega) h4
    · rw [if_neg h, bif_f (dF h)]
theorem l29h {R : Type} (size : Int) (S : List ByteArray) (κ) : ∀ (n : Nat) (s : ByteArray) (o : List Int), (strList s).length ≤ 64 → 33 ≤ size - (o.length : Int) → size - (o.length : Int) ≤ 32 + 32 * (n : Int) → size ≤ 70000 →
    l_29_8 (R := R) 3001 n ((size, s, (), ()), (S, o, ())) κ = κ ((size, (longGo size n s o).1, (), ()), (S, (longGo size n s o).2, ()))
  | 0, s, o, h1, h2, h3, h4 => by omega
  | n + 1, s, o, h1, h2, h3, h4 => by
    have hl : (strList (sumF 0 64 (strList s))).length = 64 := sum_len 0 64 (strList s) (by decide) (by decide)
    have hz := strList_size (sumF 0 64 (strList s))
    show B_29_8 3001 (fun y => l_29_8 3001 n y κ) _ κ = _
    unfold B_29_8 longGo
    try dsimp only
    rw [sub64 (by omega) (by omega)]
    by_cases h : size - (o.length : Int) > 64
    · have ex : strList ((sumF 0 64 (strList s)).extract 0 32) = (strList (sumF 0 64 (strList s))).take 32 := by rw [strList_ext]; rfl
      have ho : (o ++ (strList (sumF 0 64 (strList s))).take 32).length = o.length + 32 := by rw [List.length_append, List.length_take]; omega
      rw [if_pos h, bif_t (dT h), p22e 64 (by decide) (by decide) s (by omega)]
      try dsimp only
      rw [bif_t (dT (show (32 : Int) ≤ (((sumF 0 64 (strList s)).size : Nat) : Int) by omega)), ex, bif_t (show (decide ((o.length + ((strList (sumF 0 64 (strList s))).take 32).length) * 1 ≤ 140737488355328) && true) = true by rw [List.length_take]; simp; omega)]
      exact l29h size S κ n _ _ (by omega) (by rw [ho]; omega) (by rw [ho]; omega) h4
    · rw [if_neg h, bif_f (dF h)]
def longS (size : Int) (l : List Int) : ByteArray := sumF 0 (minA size 64) (le4 (IntKind.wrap .u32 size) ++ l)
def longR (size : Int) (l : List Int) : ByteArray × List Int := longGo size 3001 (longS size l) ((strList (longS size l)).take 32)
def longF (size : Int) (l : List Int) : List Int :=
  if size ≤ 64 then strList (longS size l) else (longR size l).2 ++ strList (sumF 0 (size - ((longR size l).2.length : Int)) (strList (longR size l).1))
def longB (size : Int) (l : List Int) : ByteArray := if size ≤ 64 then longS size l else listStr (longF size l)
theorem min64 {size : Int} (h1 : 1 ≤ size) : 1 ≤ minA size 64 ∧ minA size 64 ≤ 64 ∧ (size ≤ 64 → minA size 64 = size) ∧ (64 < size → minA size 64 = 64) := by
  unfold minA
  by_cases h : (64 : Int) < size
  · rw [if_pos h]; exact ⟨by decide, by decide, fun _ => by omega, fun _ => rfl⟩
  · rw [if_neg h]; exact ⟨h1, by omega, fun _ => rfl, fun _ => by omega⟩
theorem longR_spec {size : Int} (h1 : 64 < size) (h2 : size ≤ 32032) (l : List Int) : (strList (longS size l)).length = 64 ∧ (strList (longR size l).1).length ≤ 64 ∧ 33 ≤ size - ((longR size l).2.length : Int) ∧ size - ((longR size l).2.length : Int) ≤ 64 := by
  obtain ⟨m1, m2, m3, m4⟩ := min64 (size := size) (by omega)
  have hl : (strList (longS size l)).length = 64 := by unfold longS; rw [sum_len _ _ _ m1 m2, m4 h1]; rfl
  have ht : ((strList (longS size l)).take 32).length = 32 := by rw [List.length_take]; omega
  obtain ⟨q1, q2, q3, q4⟩ := longGo_spec size 3001 (longS size l) ((strList (longS size l)).take 32) (by omega) (by rw [ht]; omega) (by rw [ht]; omega)
  exact ⟨hl, q1, q2, q3⟩
theorem longF_len {size : Int} (h1 : 1 ≤ size) (h2 : size ≤ 32032) (l : List Int) : ((longF size l).length : Int) = size := by
  obtain ⟨m1, m2, m3, m4⟩ := min64 h1
  unfold longF
  by_cases h : size ≤ 64
  · rw [if_pos h]
    unfold longS
    rw [sum_len _ _ _ m1 m2, m3 h]
    omega
  · rw [if_neg h]
    obtain ⟨q0, q1, q2, q3⟩ := longR_spec (by omega) h2 l
    rw [List.length_append, sum_len _ _ _ (by omega) q3]
    omega
theorem longB_str {size : Int} (l : List Int) : strList (longB size l) = longF size l := by
  unfold longB
  by_cases h : size ≤ 64
  · rw [if_pos h]; unfold longF; rw [if_pos h]
  · rw [if_neg h]
    refine strList_mk _ fun x hx => ?_
    unfold longF at hx
    rw [if_neg h] at hx
    have key : ∀ (n : Nat) (s : ByteArray) (o : List Int), (∀ x ∈ o, 0 ≤ x ∧ x < 256) → ∀ x ∈ (longGo size n s o).2, 0 ≤ x ∧ x < 256 := by
      intro n
      induction n with
      | zero => intro s o ho; exact ho
      | succ n ih =>
        intro s o ho
        unfold longGo
        split
        · refine ih _ _ fun x hx => ?_
          rcases List.mem_append.1 hx with hx | hx
          · exact ho x hx
          · exact strList_rng _ x (List.mem_of_mem_take hx)
        · exact ho
    rcases List.mem_append.1 hx with hx | hx
    · exact key _ _ _ (fun x hx => strList_rng _ x (List.mem_of_mem_take hx)) x hx
    · exact strList_rng _ x hx
theorem fin_sum (n size : Int) (L : List Int) (h : L.length ≤ 5000) : finF (comps (st0 n size) 0 (cut' L).1).1 (cut' L).2 (addA .u64 (comps (st0 n size) 0 (cut' L).1).2 ((cut' L).2.length : Int)) size = sumF n size L := by
  obtain ⟨c1, c2, c3⟩ := cut_three L
  have hd := comps_d (cut' L).1 (st0 n size) 0 (by omega)
  have hd' : (comps (st0 n size) 0 (cut' L).1).2 = ((0 + 128 * (cut' L).1.length : Nat) : Int) := hd
  rw [hd', addU64 (by omega) (by omega)]
  unfold sumF
  congr 1
  omega
theorem add_two (a : Bl) (d : Int) (x y : List Int) (h : x.length ≤ 128) : cut' x = ([], x) ∧ addC a d [] x = (a, d) := by
  refine ⟨cut_le h, ?_⟩
  unfold addC
  rw [List.nil_append, cut_le h]
  rfl
theorem p29 {R : Type} (size : Int) (P : List ByteArray) (h1 : 1 ≤ size) (h2 : size ≤ 32032) (hP : P.length ≤ 3000) (hb : (joinL P).length ≤ 1500) (κ) :
    p_29_v1 (R := R) 3001 ((size, P, ()), ()) κ = κ ((longB size (joinL P), (0, ())), ()) := by
  obtain ⟨m1, m2, m3, m4⟩ := min64 h1
  have e4 := le4_len (IntKind.wrap .u32 size)
  unfold p_29_v1
  try dsimp only
  rw [bif_f (dF (show ¬ size < 1 by omega)), bif_f (dF (show ¬ size > 65536 by omega)), p27e _ m1 m2]
  try dsimp only
  rw [p60]
  unfold hs fd
  try dsimp only
  refine (add3 (listStr (le4 (IntKind.wrap .u32 size))) (st0 0 (minA size 64)) (minA size 64) 0 0 [] (by rw [le4_str, List.length_nil]; omega) _).trans ?_
  rw [le4_str, (add_two _ 0 _ [] (by omega)).2, List.nil_append, (add_two (st0 0 (minA size 64)) 0 _ [] (by omega)).1]
  unfold hs fd
  try dsimp only
  refine (p26e P hP (st0 0 (minA size 64)) (minA size 64) 0 _ (le4 (IntKind.wrap .u32 size)) (by omega) (by omega) _).trans ?_
  unfold hs fd
  try dsimp only
  obtain ⟨c1, c2, c3⟩ := cut_three (le4 (IntKind.wrap .u32 size) ++ joinL P)
  refine (p25 _ (minA size 64) _ _ _ c1 (by omega) m2 _).trans ?_
  try dsimp only
  unfold addC
  rw [fin_sum _ _ _ (by rw [List.length_append]; omega)]
  show (bif decide (size ≤ 64) then κ ((longS size (joinL P), (0, ())), ()) else _) = _
  by_cases h : size ≤ 64
  · rw [bif_t (dT h)]
    unfold longB
    rw [if_pos h]
  · rw [bif_f (dF h)]
    obtain ⟨q0, q1, q2, q3⟩ := longR_spec (by omega) h2 (joinL P)
    have hz := strList_size (longS size (joinL P))
    have ex : strList ((longS size (joinL P)).extract 0 32) = (strList (longS size (joinL P))).take 32 := by rw [strList_ext]; rfl
    have hzx := strList_size ((longS size (joinL P)).extract 0 32)
    have ht : ((strList (longS size (joinL P))).take 32).length = 32 := by rw [List.length_take]; omega
    rw [ex, ht] at hzx
    show (bif decide ((32 : Int) ≤ (((longS size (joinL P)).size : Nat) : Int)) then (bif decide (((longS size (joinL P)).extract 0 32).size ≤ maxI64) then l_29_v1_8 3001 3001 ((size, longS size (joinL P), (), ()), (strList ((longS size (joinL P)).extract 0 32), ())) _ else none) else none) = _
    rw [bif_t (dT (show (32 : Int) ≤ (((longS size (joinL P)).size : Nat) : Int) by omega)), hzx, bif_t (dT (show 32 ≤ maxI64 by unfold maxI64; omega)), ex]
    refine (l29 size _ 3001 _ _ (by omega) (by rw [ht]; omega) (by rw [ht]; omega) (by omega)).trans ?_
    try dsimp only
    rw [show longGo size 3001 (longS size (joinL P)) (List.take 32 (strList (longS size (joinL P)))) = longR size (joinL P) from rfl]
    rw [sub64 (by omega) (by omega)]
    refine (p22e _ (by omega) q3 _ (by omega) _).trans ?_
    try dsimp only
    rw [bif_t (show (decide (((longR size (joinL P)).2.length + (strList (sumF 0 (size - ((longR size (joinL P)).2.length : Int)) (strList (longR size (joinL P)).1))).length) * 1 ≤ 140737488355328) && true) = true by rw [sum_len _ _ _ (by omega) q3]; simp; omega)]
    unfold longB longF
    rw [if_neg h, if_neg h]
theorem p29h {R : Type} (size : Int) (T : ByteArray) (h1 : 1 ≤ size) (h2 : size ≤ 32032) (hb : (strList T).length ≤ 1500) (κ) :
    p_29 (R := R) 3001 ((size, (), ()), ([T], ())) κ = κ ((longB size (strList T), (0, ())), ([T], ())) := by
  obtain ⟨m1, m2, m3, m4⟩ := min64 h1
  have e4 := le4_len (IntKind.wrap .u32 size)
  unfold p_29
  try dsimp only
  rw [bif_f (dF (show ¬ size < 1 by omega)), bif_f (dF (show ¬ size > 65536 by omega)), p27e _ m1 m2]
  try dsimp only
  rw [p60]
  unfold hs fd
  try dsimp only
  refine (add3 (listStr (le4 (IntKind.wrap .u32 size))) (st0 0 (minA size 64)) (minA size 64) 0 0 [] (by rw [le4_str, List.length_nil]; omega) _).trans ?_
  rw [le4_str, (add_two _ 0 _ [] (by omega)).2, List.nil_append, (add_two (st0 0 (minA size 64)) 0 _ [] (by omega)).1]
  unfold hs fd
  try dsimp only
  refine (add3 T (st0 0 (minA size 64)) (minA size 64) 0 _ (le4 (IntKind.wrap .u32 size)) (by omega) _).trans ?_
  unfold hs fd
  try dsimp only
  obtain ⟨c1, c2, c3⟩ := cut_three (le4 (IntKind.wrap .u32 size) ++ strList T)
  refine (p25 _ (minA size 64) _ _ _ c1 (by omega) m2 _).trans ?_
  try dsimp only
  unfold addC
  rw [fin_sum _ _ _ (by rw [List.length_append]; omega)]
  show (bif decide (size ≤ 64) then κ ((longS size (strList T), (0, ())), ([T], ())) else _) = _
  by_cases h : size ≤ 64
  · rw [bif_t (dT h)]
    unfold longB
    rw [if_pos h]
  · rw [bif_f (dF h)]
    obtain ⟨q0, q1, q2, q3⟩ := longR_spec (by omega) h2 (strList T)
    have hz := strList_size (longS size (strList T))
    have ex : strList ((longS size (strList T)).extract 0 32) = (strList (longS size (strList T))).take 32 := by rw [strList_ext]; rfl
    have hzx := strList_size ((longS size (strList T)).extract 0 32)
    have ht : ((strList (longS size (strList T))).take 32).length = 32 := by rw [List.length_take]; omega
    rw [ex, ht] at hzx
    show (bif decide ((32 : Int) ≤ (((longS size (strList T)).size : Nat) : Int)) then (bif decide (((longS size (strList T)).extract 0 32).size ≤ maxI64) then l_29_8 3001 3001 ((size, longS size (strList T), (), ()), ([T], strList ((longS size (strList T)).extract 0 32), ())) _ else none) else none) = _
    rw [bif_t (dT (show (32 : Int) ≤ (((longS size (strList T)).size : Nat) : Int) by omega)), hzx, bif_t (dT (show 32 ≤ maxI64 by unfold maxI64; omega)), ex]
    refine (l29h size [T] _ 3001 _ _ (by omega) (by rw [ht]; omega) (by rw [ht]; omega) (by omega)).trans ?_
    try dsimp only
    rw [show longGo size 3001 (longS size (strList T)) (List.take 32 (strList (longS size (strList T)))) = longR size (strList T) from rfl]
    rw [sub64 (by omega) (by omega)]
    refine (p22e _ (by omega) q3 _ (by omega) _).trans ?_
    try dsimp only
    rw [bif_t (show (decide (((longR size (strList T)).2.length + (strList (sumF 0 (size - ((longR size (strList T)).2.length : Int)) (strList (longR size (strList T)).1))).length) * 1 ≤ 140737488355328) && true) = true by rw [sum_len _ _ _ (by omega) q3]; simp; omega)]
    unfold longB longF
    rw [if_neg h, if_neg h]
theorem p31 {R : Type} (size : Int) (h1 : 1 ≤ size) (h2 : size ≤ 65536) (κ) : p_31 (R := R) 3001 ((size, ()), ()) κ = κ (if size ≤ 64 then 0 else (size + 31) / 32 - 2, (0, ())) := by
  unfold p_31
  try dsimp only
  rw [bif_f (dF (show ¬ size < 1 by omega)), bif_f (dF (show ¬ size > 65536 by omega))]
  by_cases h : size ≤ 64
  · rw [bif_t (dT h), if_pos h]
  · rw [bif_f (dF h), if_neg h, add64 (by omega) (by omega), quo64 (by omega) (by omega) (by decide), sub64 (by omega) (by omega)]
theorem awake08 {R : Type} (κ : Bool → Option R) : p_28 3001 ((), ()) κ = κ true := by
  unfold p_28 p_59
  rw [p31 64 (by decide) (by decide)]
  try dsimp only
  rw [p31 65 (by decide) (by decide)]
  try dsimp only
  rw [p31 1024 (by decide) (by decide)]
  try dsimp only
  rw [bif_t (show ((0 : Int) == 0) = true from rfl), bif_t (show ((if (64 : Int) ≤ 64 then (0 : Int) else (64 + 31) / 32 - 2) == 0) = true from rfl), bif_t (show ((if (65 : Int) ≤ 64 then (0 : Int) else (65 + 31) / 32 - 2) == 1) = true from rfl), bif_t (show ((if (1024 : Int) ≤ 64 then (0 : Int) else (1024 + 31) / 32 - 2) == 30) = true from rfl), p29h 1024 _ (by decide) (by decide) (by show 1 ≤ 1500; decide)]
  try dsimp only
  have h := longF_len (size := 1024) (by decide) (by decide) (strList ⟨#[97]⟩)
  have hz := strList_size (longB 1024 (strList ⟨#[97]⟩))
  rw [longB_str] at hz
  rw [show ((((longB 1024 (strList ⟨#[97]⟩)).size : Nat) : Int) == 1024) = true by rw [hz, h]; rfl]
def halv (s : Int) : Int := if s ≤ 64 then 0 else (s + 31) / 32 - 2
theorem l32 {R : Type} (κ) : ∀ (n : Nat) (s c : Int), s + 32 ≤ 64 + 32 * (n : Int) → 33 ≤ s ∨ (1 ≤ s ∧ 1 ≤ n) → s ≤ 65536 → 0 ≤ c → c + s ≤ 1000000 → l_32_2 (R := R) 3001 n ((s, c, ()), ()) κ = κ ((c + halv s, ()), ())
  | 0, s, c, h1, h2, h3, h4, h5 => by omega
  | n + 1, s, c, h1, h2, h3, h4, h5 => by
    show B_32_2 3001 (fun y => l_32_2 3001 n y κ) _ κ = _
    unfold B_32_2
    try dsimp only
    by_cases h : s > 64
    · rw [bif_t (dT h), sub64 (by omega) (by omega), add64 (by omega) (by omega), l32 κ n (s - 32) (c + 1) (by omega) (by omega) (by omega) (by omega) (by omega)]
      have : c + 1 + halv (s - 32) = c + halv s := by
        unfold halv
        rw [if_neg (show ¬ s ≤ 64 by omega)]
        by_cases h6 : s - 32 ≤ 64
        · rw [if_pos h6]; omega
        · rw [if_neg h6]; omega
      rw [this]
    · rw [bif_f (dF h)]
      unfold halv
      rw [if_pos (by omega), Int.add_zero]
theorem p32 {R : Type} (s : Int) (h1 : 1 ≤ s) (h2 : s ≤ 65536) (κ) : p_32 (R := R) 3001 ((s, ()), ()) κ = κ (halv s) := by
  unfold p_32
  try dsimp only
  rw [l32 _ 3001 s 0 (by omega) (by omega) (by omega) (by omega) (by omega), Int.zero_add]
theorem p8 (size : Int) (P : List ByteArray) (hs : ∀ s ∈ P, s.size ≤ 140737488351232) (κ) : p_8 (R := AV) 3001 ((size, P, ()), ()) κ = κ (true, ()) := by
  have t0 : ((0 : Int) == 0) = true := rfl
  have t1 : ((1 : Int) == 1) = true := rfl
  unfold p_8
  try dsimp only
  rw [awake08]
  try dsimp only
  rw [bif_f (show (!true) = false from rfl)]
  by_cases g1 : size < 1 ∨ size > 65536
  · have e : p_31 (R := AV) 3001 ((size, ()), ()) = fun κ => κ (0, (1, ())) := by
      funext κ
      unfold p_31
      try dsimp only
      by_cases g : size < 1
      · rw [bif_t (dT g)]
      · rw [bif_f (dF g), bif_t (dT (show size > 65536 by omega))]
    rw [e]
    try dsimp only
    by_cases g : size < 1
    · rw [bif_t (dT g), bif_t t1, t0]
    · rw [bif_f (dF g), bif_t (dT (show size > 65536 by omega)), bif_t t1, t0]
  have e31 : (if size ≤ 64 then (0 : Int) else (size + 31) / 32 - 2) = halv size := rfl
  rw [p31 size (by omega) (by omega)]
  try dsimp only
  rw [e31, bif_f (dF (show ¬ size < 1 by omega)), bif_f (dF (show ¬ size > 65536 by omega)), bif_f (show ((0 : Int) != 0) = false from rfl), p32 size (by omega) (by omega)]
  try dsimp only
  rw [bif_f (show (halv size != halv size) = false by simp)]
  have fin : ∀ (hsz : size ≤ 3000), (bif decide (size > 3000) then κ (true, ()) else (bif decide (((P.length : Nat) : Int) > 20) then κ (true, ()) else (p_21 (R := AV) 3001 ((P, ()), ()) (fun y => bif decide (y > 500) then κ (true, ()) else (p_29_v1 3001 ((size, P, ()), ()) (fun y1787 => p_24 3001 ((P, ()), ()) (fun y1790 => p_29 3001 ((size, (), ()), ([y1790], ())) (fun y1793 =>
      bif (y1787.1.2.1 == 0) then (bif (y1793.1.2.1 == 0) then (bif (((y1787.1.1.size : Nat) : Int) == size) then κ (eqS y1787.1.1 y1793.1.1, ()) else κ (false, ())) else κ (false, ())) else κ (false, ()))))))))) = κ (true, ()) := by
    intro hsz
    rw [bif_f (dF (show ¬ size > 3000 by omega))]
    by_cases h2 : ((P.length : Nat) : Int) > 20
    · rw [bif_t (dT h2)]
    rw [bif_f (dF h2), p21 P (by omega) hs]
    try dsimp only
    by_cases h3 : (((joinL P).length : Nat) : Int) > 500
    · rw [bif_t (dT h3)]
    rw [bif_f (dF h3)]
    obtain ⟨T, q1, q2⟩ := p24 P (by omega) (by omega)
    rw [p29 size P (by omega) (by omega) (by omega) (by omega)]
    try dsimp only
    rw [q2]
    try dsimp only
    rw [p29h size T (by omega) (by omega) (by rw [q1]; omega), q1]
    try dsimp only
    have hz := strList_size (longB size (joinL P))
    have hl := longF_len (size := size) (by omega) (by omega) (joinL P)
    rw [longB_str] at hz
    rw [bif_t t0, bif_t t0, bif_t (show ((((longB size (joinL P)).size : Nat) : Int) == size) = true by rw [hz, hl]; exact beq_self_eq_true size), eqS_dec, decide_eq_true rfl]
  by_cases g2 : size > 64
  · have hh : halv size = (size + 31) / 32 - 2 := by unfold halv; rw [if_neg (by omega)]
    have hm : mulA .i64 32 (halv size) = 32 * halv size := mul64 (by omega) (by omega)
    have hd : subA .i64 size (32 * halv size) = size - 32 * halv size := sub64 (by omega) (by omega)
    rw [bif_t (dT g2), hm, hd, bif_f (dF (show ¬ size - 32 * halv size < 33 by omega)), bif_f (dF (show ¬ size - 32 * halv size > 64 by omega))]
    by_cases hsz : size > 3000
    · rw [bif_t (dT hsz)]
    · exact fin (by omega)
  · rw [bif_f (dF g2)]
    exact fin (by omega)
theorem law_all (y0 : Int) {P0 : Prop} (wf0 : P0) (y1 : List ByteArray) {P1 : Prop} (wf1 : P1) (z1 : ∀ s ∈ y1, s.size ≤ reachBytes) :
    ∃ H', ACalls Try.prog 8 [toAV (.int .i64) y0, toAV (.sl .str) y1] [] (.bool true) H' :=
  gd_law (good_8 3001) (x := (y0, y1, ())) (p8 y0 y1 z1 _)
end Go.Proofs.Ytnfhngcdddjilaa.Eng
