/-
BlakeCompresses: what the mirrors come to, in plain numbers and lists: the law's mirror answers true.
Conditions: none.
-/
import Derived.Test.YtnfhngcdddjilaaMirBlakeCompresses
set_option linter.unusedVariables false
set_option linter.unusedSimpArgs false
namespace Go.Proofs.Ytnfhngcdddjilaa.Eng

/-! ### blocks put together -/
def W (x : Int) : Prop := 0 ≤ x ∧ x < 18446744073709551616
theorem W_wrap (x : Int) : W (IntKind.wrap .u64 x) := by rw [wrapU64]; unfold W; omega
theorem W_xor (a b : Int) : W (xorA .u64 a b) := W_wrap _
theorem W_or (a b : Int) : W (orA .u64 a b) := W_wrap _
theorem W_add (a b : Int) : W (addA .u64 a b) := W_wrap _
theorem W_zero : W 0 := by unfold W; omega
theorem xor_comm (a b : Int) : xorA .u64 a b = xorA .u64 b a := by unfold xorA; rw [BitVec.xor_comm]
theorem xor_assoc (a b c : Int) (ha : W a) (hb : W b) (hc : W c) : xorA .u64 (xorA .u64 a b) c = xorA .u64 a (xorA .u64 b c) := by
  have key : ∀ x : BitVec 64, BitVec.ofInt 64 (IntKind.wrap .u64 (x.toNat : Int)) = x := by
    intro x
    rw [wrapU64]
    apply BitVec.eq_of_toNat_eq
    rw [BitVec.toNat_ofInt]
    have := x.isLt
    omega
  unfold xorA
  show IntKind.wrap .u64 (((BitVec.ofInt 64 (IntKind.wrap .u64 ((BitVec.ofInt 64 a ^^^ BitVec.ofInt 64 b).toNat : Int))) ^^^ BitVec.ofInt 64 c).toNat : Int) = IntKind.wrap .u64 ((BitVec.ofInt 64 a ^^^ BitVec.ofInt 64 (IntKind.wrap .u64 ((BitVec.ofInt 64 b ^^^ BitVec.ofInt 64 c).toNat : Int))).toNat : Int)
  rw [key, key, BitVec.xor_assoc]
theorem xor_self (a : Int) : xorA .u64 a a = 0 := by
  unfold xorA
  rw [BitVec.xor_self]
  rfl
theorem zero_xor {a : Int} (h : W a) : xorA .u64 0 a = a := by
  unfold xorA
  rw [wrapU64, BitVec.toNat_xor]
  have q1 : (BitVec.ofInt IntKind.u64.bits a).toNat = a.toNat := by
    show (BitVec.ofInt 64 a).toNat = a.toNat
    rw [BitVec.toNat_ofInt]; have := h.1; have := h.2; omega
  have q2 : (BitVec.ofInt IntKind.u64.bits 0).toNat = 0 := by decide
  rw [q1, q2, Nat.zero_xor]
  have := h.1
  have := h.2
  omega
theorem upd_same {α : Type} (f : Nat → α) (i : Nat) (x : α) : upd f i x i = x := by simp [upd]
theorem upd_other {α : Type} (f : Nat → α) {i j : Nat} (x : α) (h : j ≠ i) : upd f i x j = f j := by
  show (bif Nat.beq j i then x else f j) = f j
  cases hq : Nat.beq j i with
  | false => rfl
  | true => exact absurd (Nat.eq_of_beq_eq_true hq) h
theorem upd_if {α : Type} (f : Nat → α) (i j : Nat) (x : α) : upd f i x j = if j = i then x else f j := by
  by_cases h : j = i
  · subst h; rw [upd_same, if_pos rfl]
  · rw [upd_other f x h, if_neg h]
abbrev Bl := Nat → Int
def nulB : Bl := fun _ => 0
def rotF (x n : Int) : Int := orA .u64 (shrA .u64 x n) (shlA .u64 x (64 - n))
def roundR (x lo hi : Int) : Int := addA .u64 (quoA .u64 x lo) (mulA .u64 (remA .u64 x lo) hi)
theorem or_disj {a b : Nat} {n : Nat} (ha : a < 2 ^ n) : a ||| (b * 2 ^ n) = b * 2 ^ n + a := by
  rw [Nat.or_comm, Nat.mul_comm b, Nat.two_pow_add_eq_or_of_lt ha]
theorem nat_mod {B : Nat} (h : B < 2 ^ 64) : ((B : Nat) : Int) % 18446744073709551616 = B := by omega
/-- A word turned to the right by n places, n + m = 64. -/
theorem rot_eq {x : Int} (hx : W x) (n m : Nat) (hnm : n + m = 64) (hn : 0 < n) (hm : 0 < m) : roundR x (2 ^ n) (2 ^ m) = rotF x n := by
  obtain ⟨h1, h2⟩ := hx
  obtain ⟨y, rfl⟩ := Int.eq_ofNat_of_zero_le h1
  have hy : y < 2 ^ 64 := by omega
  unfold roundR rotF quoA remA
  have pn : ((2 : Int) ^ n) = ((2 ^ n : Nat) : Int) := by simp
  have pm : ((2 : Int) ^ m) = ((2 ^ m : Nat) : Int) := by simp
  have e64 : 2 ^ n * 2 ^ m = 2 ^ 64 := by rw [← Nat.pow_add, hnm]
  have d1 : y / 2 ^ n < 2 ^ m := by rw [Nat.div_lt_iff_lt_mul (Nat.two_pow_pos n), Nat.mul_comm, e64]; exact hy
  have m1 : y % 2 ^ n < 2 ^ n := Nat.mod_lt _ (Nat.two_pow_pos n)
  have p1 : y % 2 ^ n * 2 ^ m + y / 2 ^ n < 2 ^ 64 := by
    have : (y % 2 ^ n + 1) * 2 ^ m ≤ 2 ^ n * 2 ^ m := Nat.mul_le_mul_right _ m1
    rw [Nat.add_mul, e64] at this
    omega
  have p2 : y % 2 ^ n * 2 ^ m < 2 ^ 64 := Nat.lt_of_le_of_lt (Nat.le_add_right _ _) p1
  have p3 : y / 2 ^ n < 2 ^ 64 := Nat.lt_of_le_of_lt (Nat.le_add_left _ _) p1
  rw [pn, pm, Int.tdiv_eq_ediv_of_nonneg (by omega), Int.tmod_eq_emod_of_nonneg (by omega)]
  have e1 : ((y : Int) / ((2 ^ n : Nat) : Int)) = ((y / 2 ^ n : Nat) : Int) := by simp
  have e2 : ((y : Int) % ((2 ^ n : Nat) : Int)) = ((y % 2 ^ n : Nat) : Int) := by simp
  rw [e1, e2]
  have w1 : IntKind.wrap .u64 ((y / 2 ^ n : Nat) : Int) = ((y / 2 ^ n : Nat) : Int) := by rw [wrapU64, nat_mod p3]
  have q1 : mulA .u64 ((y % 2 ^ n : Nat) : Int) ((2 ^ m : Nat) : Int) = ((y % 2 ^ n * 2 ^ m : Nat) : Int) := by
    unfold mulA
    rw [wrapU64, ← Int.natCast_mul, nat_mod p2]
  rw [w1, q1]
  have l1 : addA .u64 ((y / 2 ^ n : Nat) : Int) ((y % 2 ^ n * 2 ^ m : Nat) : Int) = ((y % 2 ^ n * 2 ^ m + y / 2 ^ n : Nat) : Int) := by
    unfold addA
    rw [wrapU64, ← Int.natCast_add, Nat.add_comm, nat_mod p1]
  rw [l1]
  have s1 : shrA .u64 (y : Int) (n : Int) = ((y / 2 ^ n : Nat) : Int) := by
    rw [shrU64 (by omega) (by omega), pn, e1]
  have s2 : shlA .u64 (y : Int) (64 - (n : Int)) = ((y % 2 ^ n * 2 ^ m : Nat) : Int) := by
    unfold shlA
    have : (64 - (n : Int)).toNat = m := by omega
    rw [this, show min m IntKind.u64.bits = m from Nat.min_eq_left (by show m ≤ 64; omega), pm, wrapU64, ← Int.natCast_mul]
    have : y * 2 ^ m % 2 ^ 64 = y % 2 ^ n * 2 ^ m := by
      rw [← e64, Nat.mul_mod_mul_right]
    rw [← this]
    omega
  rw [s1, s2]
  unfold orA
  rw [wrapU64, BitVec.toNat_or]
  have b1 : (BitVec.ofInt IntKind.u64.bits ((y / 2 ^ n : Nat) : Int)).toNat = y / 2 ^ n := by
    show (BitVec.ofInt 64 _).toNat = _
    rw [BitVec.toNat_ofInt]; show (((y / 2 ^ n : Nat) : Int) % 18446744073709551616).toNat = _; rw [nat_mod p3]; rfl
  have b2 : (BitVec.ofInt IntKind.u64.bits ((y % 2 ^ n * 2 ^ m : Nat) : Int)).toNat = y % 2 ^ n * 2 ^ m := by
    show (BitVec.ofInt 64 _).toNat = _
    rw [BitVec.toNat_ofInt]; show (((y % 2 ^ n * 2 ^ m : Nat) : Int) % 18446744073709551616).toNat = _; rw [nat_mod p2]; rfl
  rw [b1, b2, or_disj d1, nat_mod p1]
theorem W_rot (x n : Int) : W (rotF x n) := W_or _ _
/-! ### texts as lists of bytes -/
theorem bloop (bs : ByteArray) : ∀ (n i : Nat) (r : List UInt8), bs.size - i ≤ n → ByteArray.toList.loop bs i r = r.reverse ++ bs.data.toList.drop i
  | 0, i, r, h => by
    rw [ByteArray.toList.loop]
    have h1 : bs.data.size = bs.size := rfl
    rw [if_neg (by omega), List.drop_eq_nil_of_le (by simp; omega)]
    simp
  | n + 1, i, r, h => by
    rw [ByteArray.toList.loop]
    have h1 : bs.data.size = bs.size := rfl
    by_cases hi : i < bs.size
    · rw [if_pos hi, bloop bs n (i + 1) _ (by omega)]
      have : bs.get! i = bs.data.toList[i]'(by simp; omega) := by
        show bs.data[i]! = _
        rw [getElem!_pos bs.data i (by omega)]
        simp
      rw [this]
      rw [List.drop_eq_getElem_cons (i := i) (by simp; omega)]
      simp
    · rw [if_neg hi, List.drop_eq_nil_of_le (by simp; omega)]
      simp
theorem btoList (bs : ByteArray) : bs.toList = bs.data.toList := by
  unfold ByteArray.toList
  rw [bloop bs bs.size 0 [] (by omega)]
  simp
theorem strList_inj {a b : ByteArray} (h : strList a = strList b) : a = b := by
  unfold strList at h
  have h1 : a.data.toList = b.data.toList := by
    refine List.map_inj_right (f := fun b : UInt8 => (b.toNat : Int)) (fun x y hxy => ?_) |>.1 h
    exact UInt8.toNat_inj.1 (Int.ofNat_inj.1 hxy)
  obtain ⟨⟨l⟩⟩ := a
  obtain ⟨⟨m⟩⟩ := b
  simp at h1
  rw [h1]
theorem eqS_dec (a b : ByteArray) : eqS a b = decide (strList a = strList b) := by
  unfold eqS
  rw [btoList, btoList]
  by_cases h : strList a = strList b
  · rw [strList_inj h]; simp
  · have : ¬ a.data.toList = b.data.toList := fun e => h (by unfold strList; rw [e])
    rw [decide_eq_false h]
    exact beq_eq_false_iff_ne.2 this
theorem strList_app (a b : ByteArray) : strList (a ++ b) = strList a ++ strList b := by
  unfold strList
  simp
theorem strList_ext (s : ByteArray) (i j : Nat) : strList (s.extract i j) = ((strList s).take j).drop i := by
  unfold strList
  simp [ByteArray.data_extract]
  rw [List.drop_take]
theorem strList_get (s : ByteArray) (i : Nat) : byteAt s i = (strList s).getD i 0 := by
  unfold byteAt strList
  by_cases h : i < s.size
  · rw [getElem?_pos s i h]
    have h1 : s.data.size = s.size := rfl
    simp [h1, h]
    rfl
  · rw [getElem?_neg s i h]
    have h1 : s.data.size = s.size := rfl
    simp [h1, h]
theorem strList_size (s : ByteArray) : s.size = (strList s).length := by simp [strList]
theorem strList_mk (l : List Int) (h : ∀ x ∈ l, 0 ≤ x ∧ x < 256) : strList (listStr l) = l := by
  unfold strList listStr
  simp only [List.map_map]
  refine (List.map_congr_left (g := id) fun x hx => ?_).trans (by simp)
  have := h x hx
  simp [UInt8.toNat_ofNat']
  omega
theorem strList_rng (s : ByteArray) : ∀ x ∈ strList s, 0 ≤ x ∧ x < 256 := by
  unfold strList
  intro x hx
  simp only [List.mem_map] at hx
  obtain ⟨b, _, rfl⟩ := hx
  have := b.toNat_lt
  omega
/-! ### a quarter -/
abbrev Q4 := Int × (Int × (Int × (Int × Unit)))
def qF (a b c d x y : Int) : Q4 :=
  let a1 := addA .u64 a (addA .u64 b x)
  let d1 := rotF (xorA .u64 d a1) 32
  let c1 := addA .u64 c d1
  let b1 := rotF (xorA .u64 b c1) 24
  let a2 := addA .u64 a1 (addA .u64 b1 y)
  let d2 := rotF (xorA .u64 d1 a2) 16
  let c2 := addA .u64 c1 d2
  let b2 := rotF (xorA .u64 b1 c2) 63
  (a2, (b2, (c2, (d2, ()))))
theorem p17 {R : Type} (N : Nat) (a b c d x y : Int) (κ) : p_17 (R := R) N ((a, b, c, d, x, y, ()), ()) κ = κ (qF a b c d x y) := by kernel_rfl
def ar4 (a b c d : Int) : Bl := upd (upd (upd (upd (Sch.zero (.arr 4 (.int .u64))) 0 a) 1 b) 2 c) 3 d
def qR (q : Bl) (x y : Int) : Bl :=
  let q := upd q 0 (addA .u64 (addA .u64 (q 0) (q 1)) x)
  let q := upd q 3 (roundR (xorA .u64 (q 3) (q 0)) 4294967296 4294967296)
  let q := upd q 2 (addA .u64 (q 2) (q 3))
  let q := upd q 1 (roundR (xorA .u64 (q 1) (q 2)) 16777216 1099511627776)
  let q := upd q 0 (addA .u64 (addA .u64 (q 0) (q 1)) y)
  let q := upd q 3 (roundR (xorA .u64 (q 3) (q 0)) 65536 281474976710656)
  let q := upd q 2 (addA .u64 (q 2) (q 3))
  upd q 1 (roundR (xorA .u64 (q 1) (q 2)) 9223372036854775808 2)
theorem p18 {R : Type} (N : Nat) (q : Bl) (x y : Int) (κ) : p_18 (R := R) N ((q, x, y, ()), ()) κ = κ (qR q x y) := by kernel_rfl
theorem addU_assoc (a b c : Int) : addA .u64 (addA .u64 a b) c = addA .u64 a (addA .u64 b c) := by
  unfold addA
  rw [wrapU64, wrapU64, wrapU64, wrapU64]
  omega
theorem roundR32 {x : Int} (h : W x) : roundR x 4294967296 4294967296 = rotF x 32 := rot_eq h 32 32 rfl (by decide) (by decide)
theorem roundR24 {x : Int} (h : W x) : roundR x 16777216 1099511627776 = rotF x 24 := rot_eq h 24 40 rfl (by decide) (by decide)
theorem roundR16 {x : Int} (h : W x) : roundR x 65536 281474976710656 = rotF x 16 := rot_eq h 16 48 rfl (by decide) (by decide)
theorem roundR63 {x : Int} (h : W x) : roundR x 9223372036854775808 2 = rotF x 63 := rot_eq h 63 1 rfl (by decide) (by decide)
theorem qR_eq (a b c d x y : Int) : qR (ar4 a b c d) x y 0 = (qF a b c d x y).1 ∧ qR (ar4 a b c d) x y 1 = (qF a b c d x y).2.1 ∧ qR (ar4 a b c d) x y 2 = (qF a b c d x y).2.2.1 ∧ qR (ar4 a b c d) x y 3 = (qF a b c d x y).2.2.2.1 := by
  have h : ∀ u v, qR (ar4 a b c d) u v =
      (let a1 := addA .u64 (addA .u64 a b) u
       let d1 := roundR (xorA .u64 d a1) 4294967296 4294967296
       let c1 := addA .u64 c d1
       let b1 := roundR (xorA .u64 b c1) 16777216 1099511627776
       let a2 := addA .u64 (addA .u64 a1 b1) v
       let d2 := roundR (xorA .u64 d1 a2) 65536 281474976710656
       let c2 := addA .u64 c1 d2
       let b2 := roundR (xorA .u64 b1 c2) 9223372036854775808 2
       upd (upd (upd (upd (upd (upd (upd (upd (ar4 a b c d) 0 a1) 3 d1) 2 c1) 1 b1) 0 a2) 3 d2) 2 c2) 1 b2) := fun u v => rfl
  rw [h x y]
  dsimp only
  rw [addU_assoc a b x, roundR32 (W_xor _ _), roundR24 (W_xor _ _), addU_assoc _ _ y, roundR16 (W_xor _ _), roundR63 (W_xor _ _)]
  exact ⟨rfl, rfl, rfl, rfl⟩
theorem qF_W (a b c d x y : Int) : W (qF a b c d x y).1 ∧ W (qF a b c d x y).2.1 ∧ W (qF a b c d x y).2.2.1 ∧ W (qF a b c d x y).2.2.2.1 := ⟨W_add _ _, W_rot _ _, W_add _ _, W_rot _ _⟩
/-! ### orders -/
def ordF (r : Int) : Bl := (p_19 (R := Bl) 1001 ((r, ()), ()) some).getD nulB
def ordR (r : Int) : Bl := (p_20 (R := Bl) 1001 ((r, ()), ()) some).getD nulB
def ten (P : Int → Prop) : Prop := P 0 ∧ P 1 ∧ P 2 ∧ P 3 ∧ P 4 ∧ P 5 ∧ P 6 ∧ P 7 ∧ P 8 ∧ P 9
theorem ten_mk {α : Type} {f g : Int → α} (h0 : f 0 = g 0) (h1 : f 1 = g 1) (h2 : f 2 = g 2) (h3 : f 3 = g 3) (h4 : f 4 = g 4) (h5 : f 5 = g 5) (h6 : f 6 = g 6) (h7 : f 7 = g 7) (h8 : f 8 = g 8) (h9 : f 9 = g 9) : ten fun r => f r = g r :=
  ⟨h0, h1, h2, h3, h4, h5, h6, h7, h8, h9⟩
theorem ten_all {P : Int → Prop} (h : ten P) {r : Int} (h1 : 0 ≤ r) (h2 : r < 10) : P r := by
  obtain ⟨q0, q1, q2, q3, q4, q5, q6, q7, q8, q9⟩ := h
  have : r = 0 ∨ r = 1 ∨ r = 2 ∨ r = 3 ∨ r = 4 ∨ r = 5 ∨ r = 6 ∨ r = 7 ∨ r = 8 ∨ r = 9 := by omega
  rcases this with h | h | h | h | h | h | h | h | h | h <;> subst h <;> assumption
theorem ord_eq : ten fun r => schEq (.arr 16 (.int .i64)) (ordF r) (ordR r) = true := by
  refine ten_mk ?_ ?_ ?_ ?_ ?_ ?_ ?_ ?_ ?_ ?_ <;> kernel_rfl
theorem p19 {R : Type} (κ : Bl → Option R) : ten fun r => p_19 (R := R) 1001 ((r, ()), ()) κ = κ (ordF r) := by
  refine ten_mk ?_ ?_ ?_ ?_ ?_ ?_ ?_ ?_ ?_ ?_ <;> kernel_rfl
theorem p20 {R : Type} (κ : Bl → Option R) : ten fun r => p_20 (R := R) 1001 ((r, ()), ()) κ = κ (ordR r) := by
  refine ten_mk ?_ ?_ ?_ ?_ ?_ ?_ ?_ ?_ ?_ ?_ <;> kernel_rfl
theorem awake07 {R : Type} (κ : Bool → Option R) : p_11 1001 ((), ()) κ = κ true := by kernel_rfl
theorem schEq_arr {n : Nat} {k : IntKind} {x y : Bl} : schEq (.arr n (.int k)) x y = true ↔ ∀ j, j < n → x j = y j := by
  show (List.range n).all (fun i => x i == y i) = true ↔ _
  rw [List.all_eq_true]
  constructor
  · intro h j hj
    exact eq_of_beq (α := Int) (h j (List.mem_range.2 hj))
  · intro h j hj
    have := h j (List.mem_range.1 hj)
    rw [this]
    exact beq_self_eq_true (α := Int) _
/-! ### rounds -/
def plF : Nat → Bl := (p_46 (R := Nat → Bl) 1001 ((), ()) some).getD (fun _ => nulB)
theorem p46 {R : Type} (κ : (Nat → Bl) → Option R) : p_46 1001 ((), ()) κ = κ plF := by kernel_rfl
def stQ (v : Bl) (i j k l : Nat) (x y : Int) : Bl :=
  let q := qF (v i) (v j) (v k) (v l) x y
  upd (upd (upd (upd v i q.1) j q.2.1) k q.2.2.1) l q.2.2.2.1
def rnd (v x : Bl) : Bl := stQ (stQ (stQ (stQ (stQ (stQ (stQ (stQ v 0 4 8 12 (x 0) (x 1)) 1 5 9 13 (x 2) (x 3)) 2 6 10 14 (x 4) (x 5)) 3 7 11 15 (x 6) (x 7)) 0 5 10 15 (x 8) (x 9)) 1 6 11 12 (x 10) (x 11)) 2 7 8 13 (x 12) (x 13)) 3 4 9 14 (x 14) (x 15)
def sel (s g : Bl) : Bl := fun j => g (Int.toNat (s j))
theorem l12i {R : Type} (g a z v : Bl) (u : Int) (κ) : ten fun r =>
    l_12_17 (R := R) 1001 1001 (((), (), (List.range 16).map g, (), (), (), u, plF, 0, ()), (a, z, v, plF, ordF r, ())) κ =
      κ (((), (), (List.range 16).map g, (), (), u, ()), (a, z, rnd v (sel (ordF r) g), plF, ())) := by
  refine ten_mk ?_ ?_ ?_ ?_ ?_ ?_ ?_ ?_ ?_ ?_ <;> kernel_rfl
def rndsF (g : Bl) : Nat → Nat → Bl → Bl
  | 0, _, v => v
  | n + 1, i, v => rndsF g n (i + 1) (rnd v (sel (ordF ((i : Int) % 10)) g))
theorem p19i {R : Type} {i : Int} (h1 : 0 ≤ i) (κ : Bl → Option R) : p_19 (R := R) 1001 ((i, ()), ()) κ = κ (ordF (i % 10)) := by
  have e : p_19 (R := R) 1001 ((i, ()), ()) κ = p_19 (R := R) 1001 ((i % 10, ()), ()) κ := by
    have m1 := Int.emod_nonneg i (show (10 : Int) ≠ 0 by decide)
    unfold p_19
    dsimp only
    rw [bif_f (dF (show ¬ i < 0 by omega)), bif_f (dF (show ¬ i % 10 < 0 by omega)), rem64 h1, rem64 m1, Int.emod_emod]
  rw [e]
  exact ten_all (p19 κ) (Int.emod_nonneg i (by decide)) (Int.emod_lt_of_pos i (by decide))
theorem p20i {R : Type} {i : Int} (h1 : 0 ≤ i) (κ : Bl → Option R) : p_20 (R := R) 1001 ((i, ()), ()) κ = κ (ordR (i % 10)) := by
  have e : p_20 (R := R) 1001 ((i, ()), ()) κ = p_20 (R := R) 1001 ((i % 10, ()), ()) κ := by
    have m1 := Int.emod_nonneg i (show (10 : Int) ≠ 0 by decide)
    unfold p_20
    dsimp only
    rw [bif_f (dF (show ¬ i < 0 by omega)), bif_f (dF (show ¬ i % 10 < 0 by omega)), rem64 h1, rem64 m1, Int.emod_emod]
  rw [e]
  exact ten_all (p20 κ) (Int.emod_nonneg i (by decide)) (Int.emod_lt_of_pos i (by decide))
theorem l12o {R : Type} (g a z : Bl) (κ) : ∀ (n m i : Nat) (v : Bl), i + m = 12 → m < n →
    l_12_13 (R := R) 1001 n (((), (), (List.range 16).map g, (), (), (i : Int), ()), (a, z, v, plF, ())) κ = κ (((), (), (), ()), (a, z, rndsF g m i v, ()))
  | 0, m, i, v, h1, h2 => by omega
  | n + 1, 0, i, v, h1, h2 => by
    unfold l_12_13 B_12_13
    try dsimp only
    rw [bif_f (dF (show ¬ (i : Int) < 12 by omega))]
    rfl
  | n + 1, m + 1, i, v, h1, h2 => by
    unfold l_12_13 B_12_13
    try dsimp only
    have e3 : addA .i64 (i : Int) 1 = ((i + 1 : Nat) : Int) := by rw [add64 (by omega) (by omega)]; simp
    rw [bif_t (dT (show (i : Int) < 12 by omega)), p19i (by omega)]
    try dsimp only
    rw [ten_all (l12i g a z v (i : Int) _) (Int.emod_nonneg _ (by decide)) (Int.emod_lt_of_pos _ (by decide))]
    try dsimp only
    rw [e3]
    exact l12o g a z κ n m (i + 1) _ (by omega) (by omega)
def outQ (a v : Bl) : Bl := upd (upd (upd (upd (upd (upd (upd (upd a 0 (xorA .u64 (a 0) (xorA .u64 (v 0) (v 8)))) 1 (xorA .u64 (a 1) (xorA .u64 (v 1) (v 9)))) 2 (xorA .u64 (a 2) (xorA .u64 (v 2) (v 10)))) 3 (xorA .u64 (a 3) (xorA .u64 (v 3) (v 11)))) 4 (xorA .u64 (a 4) (xorA .u64 (v 4) (v 12)))) 5 (xorA .u64 (a 5) (xorA .u64 (v 5) (v 13)))) 6 (xorA .u64 (a 6) (xorA .u64 (v 6) (v 14)))) 7 (xorA .u64 (a 7) (xorA .u64 (v 7) (v 15)))
theorem l12x {R : Type} (a z v : Bl) (κ) : l_12_24 (R := R) 1001 1001 (((), (), (), 0, ()), (a, z, v, ())) κ = κ (((), (), ()), (outQ a v, z, ())) := by kernel_rfl
/-! ### words of bytes -/
def wF (f : Bl) (i : Nat) : Nat → Int
  | 0 => 0
  | k + 1 => orA .u64 (wF f i k) (shlA .u64 (IntKind.wrap .u64 (f (8 * i + k))) ((8 * k : Nat) : Int))
def wR (f : Bl) (i : Nat) : Nat → Int
  | 0 => 0
  | n + 1 => addA .u64 (mulA .u64 256 (wR f i n)) (IntKind.wrap .u64 (f (8 * i + (7 - n))))
theorem p45 {R : Type} (f : Bl) (κ) : p_45 (R := R) 1001 (((List.range 128).map f, ()), ()) κ = κ (((List.range 16).map (fun i => wF f i 8), (0, ())), ()) := by kernel_rfl
theorem p49 {R : Type} (f : Bl) (κ) : p_49 (R := R) 1001 (((), 8, ()), ((List.range 128).map f, ())) κ = κ (((List.range 16).map (fun i => wR f i 8), (true, ())), ((List.range 128).map f, ())) := by kernel_rfl
def By (f : Bl) : Prop := ∀ j, 0 ≤ f j ∧ f j < 256
theorem or_step {a b : Int} {n : Nat} (ha0 : 0 ≤ a) (ha : a < 2 ^ n) (hb0 : 0 ≤ b) (hb : b < 256) (hn : n ≤ 56) : orA .u64 a (shlA .u64 (IntKind.wrap .u64 b) (n : Int)) = b * 2 ^ n + a := by
  obtain ⟨x, rfl⟩ := Int.eq_ofNat_of_zero_le ha0
  obtain ⟨y, rfl⟩ := Int.eq_ofNat_of_zero_le hb0
  have pn : ((2 : Int) ^ n) = ((2 ^ n : Nat) : Int) := by simp
  have hx : x < 2 ^ n := by rw [pn] at ha; omega
  have hp : 2 ^ n ≤ 2 ^ 56 := Nat.pow_le_pow_right (by decide) hn
  have hy : y < 256 := by omega
  have h1 : y * 2 ^ n + x < 2 ^ 64 := by
    have : (y + 1) * 2 ^ n ≤ 256 * 2 ^ 56 := Nat.mul_le_mul (by omega) hp
    rw [Nat.add_mul] at this
    omega
  have h2 : y * 2 ^ n < 2 ^ 64 := by omega
  have h3 : x < 2 ^ 64 := by omega
  have w1 : IntKind.wrap .u64 (y : Int) = (y : Int) := by rw [wrapU64]; omega
  have s2 : shlA .u64 (y : Int) (n : Int) = ((y * 2 ^ n : Nat) : Int) := by
    unfold shlA
    rw [show ((n : Int)).toNat = n by omega, show min n IntKind.u64.bits = n from Nat.min_eq_left (by show n ≤ 64; omega), pn, wrapU64, ← Int.natCast_mul, nat_mod h2]
  rw [w1, s2]
  unfold orA
  rw [wrapU64, BitVec.toNat_or]
  have b1 : (BitVec.ofInt IntKind.u64.bits (x : Int)).toNat = x := by
    show (BitVec.ofInt 64 _).toNat = _
    rw [BitVec.toNat_ofInt]; show ((x : Int) % 18446744073709551616).toNat = _; rw [nat_mod h3]; rfl
  have b2 : (BitVec.ofInt IntKind.u64.bits ((y * 2 ^ n : Nat) : Int)).toNat = y * 2 ^ n := by
    show (BitVec.ofInt 64 _).toNat = _
    rw [BitVec.toNat_ofInt]; show (((y * 2 ^ n : Nat) : Int) % 18446744073709551616).toNat = _; rw [nat_mod h2]; rfl
  rw [b1, b2, or_disj hx, nat_mod h1, pn]
  simp
theorem add_step {w b : Int} (h0 : 0 ≤ w) (h1 : w < 72057594037927936) (hb0 : 0 ≤ b) (hb : b < 256) : addA .u64 (mulA .u64 256 w) (IntKind.wrap .u64 b) = 256 * w + b := by
  have w1 : IntKind.wrap .u64 b = b := by rw [wrapU64]; omega
  rw [w1, mulU64 (by omega) (by omega), addU64 (by omega) (by omega)]
theorem word_eq {f : Bl} (h : By f) (i : Nat) : wR f i 8 = wF f i 8 := by
  have b0 := h (8 * i); have b1 := h (8 * i + 1); have b2 := h (8 * i + 2); have b3 := h (8 * i + 3); have b4 := h (8 * i + 4); have b5 := h (8 * i + 5); have b6 := h (8 * i + 6); have b7 := h (8 * i + 7)
  have f1 : wF f i 1 = f (8 * i) := by
    show orA .u64 0 (shlA .u64 (IntKind.wrap .u64 (f (8 * i))) ((0 : Nat) : Int)) = _
    rw [or_step (by omega) (by decide) b0.1 b0.2 (by decide)]; omega
  have f2 : wF f i 2 = f (8 * i + 1) * 2 ^ 8 + wF f i 1 := or_step (a := wF f i 1) (b := f (8 * i + 1)) (n := 8) (by omega) (by omega) b1.1 b1.2 (by decide)
  have f3 : wF f i 3 = f (8 * i + 2) * 2 ^ 16 + wF f i 2 := or_step (a := wF f i 2) (b := f (8 * i + 2)) (n := 16) (by omega) (by omega) b2.1 b2.2 (by decide)
  have f4 : wF f i 4 = f (8 * i + 3) * 2 ^ 24 + wF f i 3 := or_step (a := wF f i 3) (b := f (8 * i + 3)) (n := 24) (by omega) (by omega) b3.1 b3.2 (by decide)
  have f5 : wF f i 5 = f (8 * i + 4) * 2 ^ 32 + wF f i 4 := or_step (a := wF f i 4) (b := f (8 * i + 4)) (n := 32) (by omega) (by omega) b4.1 b4.2 (by decide)
  have f6 : wF f i 6 = f (8 * i + 5) * 2 ^ 40 + wF f i 5 := or_step (a := wF f i 5) (b := f (8 * i + 5)) (n := 40) (by omega) (by omega) b5.1 b5.2 (by decide)
  have f7 : wF f i 7 = f (8 * i + 6) * 2 ^ 48 + wF f i 6 := or_step (a := wF f i 6) (b := f (8 * i + 6)) (n := 48) (by omega) (by omega) b6.1 b6.2 (by decide)
  have f8 : wF f i 8 = f (8 * i + 7) * 2 ^ 56 + wF f i 7 := or_step (a := wF f i 7) (b := f (8 * i + 7)) (n := 56) (by omega) (by omega) b7.1 b7.2 (by decide)
  have g1 : wR f i 1 = 256 * 0 + f (8 * i + 7) := add_step (w := 0) (b := f (8 * i + 7)) (by decide) (by decide) b7.1 b7.2
  have g2 : wR f i 2 = 256 * wR f i 1 + f (8 * i + 6) := add_step (w := wR f i 1) (b := f (8 * i + 6)) (by omega) (by omega) b6.1 b6.2
  have g3 : wR f i 3 = 256 * wR f i 2 + f (8 * i + 5) := add_step (w := wR f i 2) (b := f (8 * i + 5)) (by omega) (by omega) b5.1 b5.2
  have g4 : wR f i 4 = 256 * wR f i 3 + f (8 * i + 4) := add_step (w := wR f i 3) (b := f (8 * i + 4)) (by omega) (by omega) b4.1 b4.2
  have g5 : wR f i 5 = 256 * wR f i 4 + f (8 * i + 3) := add_step (w := wR f i 4) (b := f (8 * i + 3)) (by omega) (by omega) b3.1 b3.2
  have g6 : wR f i 6 = 256 * wR f i 5 + f (8 * i + 2) := add_step (w := wR f i 5) (b := f (8 * i + 2)) (by omega) (by omega) b2.1 b2.2
  have g7 : wR f i 7 = 256 * wR f i 6 + f (8 * i + 1) := add_step (w := wR f i 6) (b := f (8 * i + 1)) (by omega) (by omega) b1.1 b1.2
  have g8 : wR f i 8 = 256 * wR f i 7 + f (8 * i) := add_step (w := wR f i 7) (b := f (8 * i)) (by omega) (by omega) b0.1 b0.2
  omega
/-! ### the document's rounds -/
def stR (v : Bl) (i j k l : Nat) (x y : Int) : Bl :=
  let q := qR (ar4 (v i) (v j) (v k) (v l)) x y
  upd (upd (upd (upd v i (q 0)) j (q 1)) k (q 2)) l (q 3)
def rndR (v x : Bl) : Bl := stR (stR (stR (stR (stR (stR (stR (stR v 0 4 8 12 (x 0) (x 1)) 1 5 9 13 (x 2) (x 3)) 2 6 10 14 (x 4) (x 5)) 3 7 11 15 (x 6) (x 7)) 0 5 10 15 (x 8) (x 9)) 1 6 11 12 (x 10) (x 11)) 2 7 8 13 (x 12) (x 13)) 3 4 9 14 (x 14) (x 15)
theorem stR_eq (v : Bl) (i j k l : Nat) (x y : Int) : stR v i j k l x y = stQ v i j k l x y := by
  obtain ⟨h1, h2, h3, h4⟩ := qR_eq (v i) (v j) (v k) (v l) x y
  unfold stR stQ
  dsimp only
  rw [h1, h2, h3, h4]
theorem rndR_eq (v x : Bl) : rndR v x = rnd v x := by
  unfold rndR rnd
  simp only [stR_eq]
theorem l16i {R : Type} (g a z v : Bl) (u : Int) (κ) : ten fun r =>
    l_16_16 (R := R) 1001 1001 (((), (), (List.range 16).map g, (), u, (), 0, ()), (a, z, v, ordR r, ())) κ =
      κ (((), (), (List.range 16).map g, (), u, ()), (a, z, rndR v (sel (ordR r) g), ())) := by
  refine ten_mk ?_ ?_ ?_ ?_ ?_ ?_ ?_ ?_ ?_ ?_ <;> kernel_rfl
theorem rnd_ext (v : Bl) {x y : Bl} (h : ∀ j, j < 16 → x j = y j) : rnd v x = rnd v y := by
  unfold rnd
  rw [h 0 (by decide), h 1 (by decide), h 2 (by decide), h 3 (by decide), h 4 (by decide), h 5 (by decide), h 6 (by decide), h 7 (by decide), h 8 (by decide), h 9 (by decide), h 10 (by decide), h 11 (by decide), h 12 (by decide), h 13 (by decide), h 14 (by decide), h 15 (by decide)]
theorem sel_eq {r : Int} (h1 : 0 ≤ r) (h2 : r < 10) (g v : Bl) : rnd v (sel (ordR r) g) = rnd v (sel (ordF r) g) :=
  rnd_ext v fun j hj => by
    have := schEq_arr.1 (ten_all ord_eq h1 h2) j hj
    unfold sel
    rw [this]
theorem l16o {R : Type} (g a z : Bl) (κ) : ∀ (n m i : Nat) (v : Bl), i + m = 12 → m < n →
    l_16_12 (R := R) 1001 n (((), (), (List.range 16).map g, (), (i : Int), ()), (a, z, v, ())) κ = κ (((), (), (), ()), (a, z, rndsF g m i v, ()))
  | 0, m, i, v, h1, h2 => by omega
  | n + 1, 0, i, v, h1, h2 => by
    unfold l_16_12 B_16_12
    try dsimp only
    rw [bif_f (dF (show ¬ (i : Int) < 12 by omega))]
    rfl
  | n + 1, m + 1, i, v, h1, h2 => by
    unfold l_16_12 B_16_12
    try dsimp only
    have e3 : addA .i64 (i : Int) 1 = ((i + 1 : Nat) : Int) := by rw [add64 (by omega) (by omega)]; simp
    rw [bif_t (dT (show (i : Int) < 12 by omega)), p20i (by omega)]
    try dsimp only
    rw [ten_all (l16i g a z v (i : Int) _) (Int.emod_nonneg _ (by decide)) (Int.emod_lt_of_pos _ (by decide))]
    try dsimp only
    rw [e3, rndR_eq, sel_eq (Int.emod_nonneg _ (by decide)) (Int.emod_lt_of_pos _ (by decide))]
    exact l16o g a z κ n m (i + 1) _ (by omega) (by omega)
def outR (a v : Bl) : Bl := upd (upd (upd (upd (upd (upd (upd (upd a 0 (xorA .u64 (xorA .u64 (a 0) (v 0)) (v 8))) 1 (xorA .u64 (xorA .u64 (a 1) (v 1)) (v 9))) 2 (xorA .u64 (xorA .u64 (a 2) (v 2)) (v 10))) 3 (xorA .u64 (xorA .u64 (a 3) (v 3)) (v 11))) 4 (xorA .u64 (xorA .u64 (a 4) (v 4)) (v 12))) 5 (xorA .u64 (xorA .u64 (a 5) (v 5)) (v 13))) 6 (xorA .u64 (xorA .u64 (a 6) (v 6)) (v 14))) 7 (xorA .u64 (xorA .u64 (a 7) (v 7)) (v 15))
theorem l16x {R : Type} (a z v : Bl) (κ) : l_16_25 (R := R) 1001 1001 (((), (), (), 0, ()), (a, z, v, ())) κ = κ (((), (), ()), (outR a v, z, ())) := by kernel_rfl
theorem outR_eq {a v : Bl} (ha : ∀ j, j < 8 → W (a j)) (hv : ∀ j, W (v j)) : outR a v = outQ a v := by
  have h : ∀ j k m, j < 8 → xorA .u64 (xorA .u64 (a j) (v k)) (v m) = xorA .u64 (a j) (xorA .u64 (v k) (v m)) := fun j k m hj => xor_assoc _ _ _ (ha j hj) (hv k) (hv m)
  unfold outR outQ
  rw [h 0 0 8 (by decide), h 1 1 9 (by decide), h 2 2 10 (by decide), h 3 3 11 (by decide), h 4 4 12 (by decide), h 5 5 13 (by decide), h 6 6 14 (by decide), h 7 7 15 (by decide)]
theorem upd_W {v : Bl} (h : ∀ j, W (v j)) (i : Nat) {x : Int} (hx : W x) : ∀ j, W (upd v i x j) := fun j => by rw [upd_if]; split; exact hx; exact h j
theorem stQ_W {v : Bl} (h : ∀ j, W (v j)) (i j k l : Nat) (x y : Int) : ∀ m, W (stQ v i j k l x y m) := by
  obtain ⟨h1, h2, h3, h4⟩ := qF_W (v i) (v j) (v k) (v l) x y
  exact upd_W (upd_W (upd_W (upd_W h i h1) j h2) k h3) l h4
theorem rnd_W {v : Bl} (h : ∀ j, W (v j)) (x : Bl) : ∀ m, W (rnd v x m) :=
  stQ_W (stQ_W (stQ_W (stQ_W (stQ_W (stQ_W (stQ_W (stQ_W h _ _ _ _ _ _) _ _ _ _ _ _) _ _ _ _ _ _) _ _ _ _ _ _) _ _ _ _ _ _) _ _ _ _ _ _) _ _ _ _ _ _) _ _ _ _ _ _
theorem rndsF_W (g : Bl) : ∀ (n i : Nat) (v : Bl), (∀ j, W (v j)) → ∀ m, W (rndsF g n i v m)
  | 0, i, v, h => h
  | n + 1, i, v, h => rndsF_W g n (i + 1) _ (rnd_W h _)
/-! ### a block -/
def ivF : Bl := (p_15 (R := Bl) 1001 ((), ()) some).getD nulB
theorem p15 {R : Type} (κ : Bl → Option R) : p_15 1001 ((), ()) κ = κ ivF := by kernel_rfl
theorem ivF_W {j : Nat} (hj : j < 8) : W (ivF j) := by
  have h : (List.range 8).all (fun j => decide (0 ≤ ivF j) && decide (ivF j < 18446744073709551616)) = true := by kernel_rfl
  have := List.all_eq_true.1 h j (List.mem_range.2 hj)
  rw [Bool.and_eq_true] at this
  exact ⟨of_decide_eq_true this.1, of_decide_eq_true this.2⟩
def v0F (h : Bl) : Bl := copyF (copyF (Sch.zero (.arr 16 (.int .u64))) 0 (Nat.min 8 8) ((List.range 8).map fun j => h (0 + j)) (Sch.zero (.int .u64))) 8 (Nat.min 8 8) ((List.range 8).map fun j => ivF (0 + j)) (Sch.zero (.int .u64))
def initF (h : Bl) (n : Int) (last : Bool) : Bl :=
  let v := upd (v0F h) 12 (xorA .u64 (v0F h 12) n)
  bif last then upd v 14 (xorA .u64 18446744073709551615 (v 14)) else v
def compF (h f : Bl) (n : Int) (last : Bool) : Bl := outQ h (rndsF (fun i => wF f i 8) 12 0 (initF h n last))
theorem p12q {R : Type} (q45 : Tp_45 R) (q15 : Tp_15 R) (q46 : Tp_46 R) (q17 : Tp_17 R) (q19 : Tp_19 R) (m17 : Tl_12_17 R) (L : Tl_12_13 R) (L2 : Tl_12_24 R) (h f : Bl) (n : Int) (last : Bool) (κ : Bl × (Int × Unit) → Option R)
    (h45 : ∀ κ, q45 (((List.range 128).map f, ()), ()) κ = κ (((List.range 16).map (fun i => wF f i 8), (0, ())), ())) (h15 : q15 = fun _ κ => κ ivF) (h46 : q46 = fun _ κ => κ plF) :
    Q_12 q45 q15 q46 q17 q19 m17 L L2 ((h, (List.range 128).map f, n, last, ()), ()) κ =
      L (((), (), (List.range 16).map (fun i => wF f i 8), (), (), 0, ()), (h, Sch.zero (.arr 8 (.int .u64)), initF h n last, plF, ())) (fun y => L2 (((), (), (), 0, ()), (y.2.1, y.2.2.1, y.2.2.2.1, ())) (fun y => κ (y.2.1, (0, ())))) := by
  subst h15 h46
  unfold Q_12
  dsimp only
  rw [List.length_map, List.length_range, bif_f (show (((128 : Nat) : Int) != 128) = false from rfl), h45]
  cases last <;> kernel_rfl
theorem p12 {R : Type} (h f : Bl) (n : Int) (last : Bool) (κ) : p_12 (R := R) 1001 ((h, (List.range 128).map f, n, last, ()), ()) κ = κ (compF h f n last, (0, ())) := by
  have key := p12q (R := R) (p_45 1001) (p_15 1001) (p_46 1001) (p_17 1001) (p_19 1001) (l_12_17 1001 1001) (l_12_13 1001 1001) (l_12_24 1001 1001) h f n last κ (p45 f) (funext fun x => funext fun κ => p15 κ) (funext fun x => funext fun κ => p46 κ)
  refine Eq.trans ?_ (key.trans ?_)
  · kernel_rfl
  refine (l12o (fun i => wF f i 8) h _ _ 1001 12 0 _ rfl (by decide)).trans ?_
  dsimp only
  rw [l12x]
  rfl
def v0R (f0 h : Bl) : Bl := upd (upd (upd (upd (upd (upd (upd (upd (upd (upd (upd (upd (upd (upd (upd (upd (Sch.zero (.arr 16 (.int .u64))) 0 (h 0)) 8 (f0 0)) 1 (h 1)) 9 (f0 1)) 2 (h 2)) 10 (f0 2)) 3 (h 3)) 11 (f0 3)) 4 (h 4)) 12 (f0 4)) 5 (h 5)) 13 (f0 5)) 6 (h 6)) 14 (f0 6)) 7 (h 7)) 15 (f0 7)
theorem l16j {R : Type} (f0 h z : Bl) (m : List Int) (n : Int) (last : Bool) (κ) : l_16_4 (R := R) 1001 1001 ((n, last, (), (), (), m, (), 0, ()), (f0, h, z, Sch.zero (.arr 16 (.int .u64)), ())) κ = κ ((n, last, (), (), m, (), ()), (h, z, v0R f0 h, ())) := by kernel_rfl
theorem v0R_eq {f0 h : Bl} (hf : ∀ j, j < 8 → f0 j = ivF j) : v0R f0 h = v0F h := by
  funext j
  by_cases hj : j < 16
  · have : j = 0 ∨ j = 1 ∨ j = 2 ∨ j = 3 ∨ j = 4 ∨ j = 5 ∨ j = 6 ∨ j = 7 ∨ j = 8 ∨ j = 9 ∨ j = 10 ∨ j = 11 ∨ j = 12 ∨ j = 13 ∨ j = 14 ∨ j = 15 := by omega
    rcases this with e | e | e | e | e | e | e | e | e | e | e | e | e | e | e | e <;> subst e
    · rfl
    · rfl
    · rfl
    · rfl
    · rfl
    · rfl
    · rfl
    · rfl
    · exact hf 0 (by decide)
    · exact hf 1 (by decide)
    · exact hf 2 (by decide)
    · exact hf 3 (by decide)
    · exact hf 4 (by decide)
    · exact hf 5 (by decide)
    · exact hf 6 (by decide)
    · exact hf 7 (by decide)
  · have e1 : v0R f0 h j = 0 := by
      unfold v0R
      rw [upd_other _ _ (by omega), upd_other _ _ (by omega), upd_other _ _ (by omega), upd_other _ _ (by omega), upd_other _ _ (by omega), upd_other _ _ (by omega), upd_other _ _ (by omega), upd_other _ _ (by omega), upd_other _ _ (by omega), upd_other _ _ (by omega), upd_other _ _ (by omega), upd_other _ _ (by omega), upd_other _ _ (by omega), upd_other _ _ (by omega), upd_other _ _ (by omega), upd_other _ _ (by omega)]
      rfl
    have b1 : Nat.blt j (8 + Nat.min 8 8) = false := by
      cases hq : Nat.blt j (8 + Nat.min 8 8) with
      | false => rfl
      | true => have : j < 16 := Nat.blt_eq.mp hq; omega
    have b2 : Nat.blt j (0 + Nat.min 8 8) = false := by
      cases hq : Nat.blt j (0 + Nat.min 8 8) with
      | false => rfl
      | true => have : j < 8 := Nat.blt_eq.mp hq; omega
    rw [e1]
    unfold v0F copyF
    rw [b1, b2, Bool.and_false, Bool.and_false]
    rfl
theorem v0F_W {h : Bl} (hW : ∀ j, j < 8 → W (h j)) (j : Nat) : W (v0F h j) := by
  by_cases hj : j < 16
  · have : j = 0 ∨ j = 1 ∨ j = 2 ∨ j = 3 ∨ j = 4 ∨ j = 5 ∨ j = 6 ∨ j = 7 ∨ j = 8 ∨ j = 9 ∨ j = 10 ∨ j = 11 ∨ j = 12 ∨ j = 13 ∨ j = 14 ∨ j = 15 := by omega
    rcases this with e | e | e | e | e | e | e | e | e | e | e | e | e | e | e | e <;> subst e
    · exact hW 0 (by decide)
    · exact hW 1 (by decide)
    · exact hW 2 (by decide)
    · exact hW 3 (by decide)
    · exact hW 4 (by decide)
    · exact hW 5 (by decide)
    · exact hW 6 (by decide)
    · exact hW 7 (by decide)
    · exact ivF_W (j := 0) (by decide)
    · exact ivF_W (j := 1) (by decide)
    · exact ivF_W (j := 2) (by decide)
    · exact ivF_W (j := 3) (by decide)
    · exact ivF_W (j := 4) (by decide)
    · exact ivF_W (j := 5) (by decide)
    · exact ivF_W (j := 6) (by decide)
    · exact ivF_W (j := 7) (by decide)
  · have b1 : Nat.blt j (8 + Nat.min 8 8) = false := by
      cases hq : Nat.blt j (8 + Nat.min 8 8) with
      | false => rfl
      | true => have : j < 16 := Nat.blt_eq.mp hq; omega
    have b2 : Nat.blt j (0 + Nat.min 8 8) = false := by
      cases hq : Nat.blt j (0 + Nat.min 8 8) with
      | false => rfl
      | true => have : j < 8 := Nat.blt_eq.mp hq; omega
    unfold v0F copyF
    rw [b1, b2, Bool.and_false, Bool.and_false]
    exact W_zero
theorem initF_W {h : Bl} (hW : ∀ j, j < 8 → W (h j)) (n : Int) (last : Bool) : ∀ j, W (initF h n last j) := by
  unfold initF
  cases last with
  | false => exact upd_W (v0F_W hW) 12 (W_xor _ _)
  | true => exact upd_W (upd_W (v0F_W hW) 12 (W_xor _ _)) 14 (W_xor _ _)
theorem ones (h : Bl) (x : Int) : subA .u64 18446744073709551615 (upd (v0F h) 12 x 14) = xorA .u64 18446744073709551615 (upd (v0F h) 12 x 14) := by
  have e : upd (v0F h) 12 x 14 = 2270897969802886507 := by kernel_rfl
  rw [e]
  exact (show subA .u64 18446744073709551615 2270897969802886507 = xorA .u64 18446744073709551615 2270897969802886507 by kernel_rfl)
theorem p16 {R : Type} (f0 h f : Bl) (s : ByteArray) (n : Int) (last : Bool) (hs : strList s = (List.range 128).map f) (hf : ∀ j, j < 8 → f0 j = ivF j) (hW : ∀ j, j < 8 → W (h j)) (hB : By f) (κ) :
    p_16 (R := R) 1001 ((f0, h, s, n, last, ()), ()) κ = κ (compF h f n last) := by
  have hsz : s.size = 128 := by rw [strList_size, hs, List.length_map, List.length_range]
  have hw : (fun i => wR f i 8) = (fun i => wF f i 8) := funext fun i => word_eq hB i
  unfold p_16
  dsimp only
  rw [hsz, bif_t (dT (show 128 ≤ maxI64 by unfold maxI64; omega)), hs, p49, hw]
  dsimp only
  rw [l16j]
  dsimp only
  rw [v0R_eq hf]
  have fin : ∀ last, l_16_12 (R := R) 1001 1001 (((), (), (List.range 16).map (fun i => wF f i 8), (), 0, ()), (h, Sch.zero (.arr 8 (.int .u64)), initF h n last, ())) (fun y => l_16_25 1001 1001 (((), (), (), 0, ()), (y.2.1, y.2.2.1, y.2.2.2.1, ())) (fun y => κ y.2.1)) = κ (compF h f n last) := by
    intro last
    refine (l16o (fun i => wF f i 8) h _ _ 1001 12 0 _ rfl (by decide)).trans ?_
    dsimp only
    rw [l16x]
    dsimp only
    rw [outR_eq hW (rndsF_W _ _ _ _ (initF_W hW n last))]
    rfl
  have i0 : initF h n false = upd (v0F h) 12 (xorA .u64 (v0F h 12) n) := rfl
  have i1 : initF h n true = upd (upd (v0F h) 12 (xorA .u64 (v0F h 12) n)) 14 (xorA .u64 18446744073709551615 (upd (v0F h) 12 (xorA .u64 (v0F h 12) n) 14)) := rfl
  cases last with
  | false =>
    have := fin false
    rw [i0] at this
    rw [bif_f rfl]
    exact this
  | true =>
    have := fin true
    rw [i1] at this
    rw [bif_t rfl, ones]
    exact this
theorem comp_W (h f : Bl) (n : Int) (last : Bool) : ∀ j, j < 8 → W (compF h f n last j) := by
  intro j hj
  unfold compF outQ
  simp only [upd_if]
  have : j = 0 ∨ j = 1 ∨ j = 2 ∨ j = 3 ∨ j = 4 ∨ j = 5 ∨ j = 6 ∨ j = 7 := by omega
  rcases this with e | e | e | e | e | e | e | e <;> subst e <;> exact W_xor _ _
theorem bytes128 {l : List Int} (h : l.length = 128) : l = (List.range 128).map fun j => l.getD j 0 := by
  apply List.ext_getElem
  · simp [h]
  · intro i h1 h2
    simp [h1]
/-! ### the first words, reckoned -/
theorem bits2 {R : Type} (κ : Int → Option R) : p_48 1001 ((2, 2, 4, ()), ()) κ = κ 0x6a09e667f3bcc908 := by kernel_rfl
theorem bits3 {R : Type} (κ : Int → Option R) : p_48 1001 ((3, 2, 4, ()), ()) κ = κ 0xbb67ae8584caa73b := by kernel_rfl
theorem bits5 {R : Type} (κ : Int → Option R) : p_48 1001 ((5, 2, 4, ()), ()) κ = κ 0x3c6ef372fe94f82b := by kernel_rfl
theorem bits7 {R : Type} (κ : Int → Option R) : p_48 1001 ((7, 2, 4, ()), ()) κ = κ 0xa54ff53a5f1d36f1 := by kernel_rfl
theorem bits11 {R : Type} (κ : Int → Option R) : p_48 1001 ((11, 2, 4, ()), ()) κ = κ 0x510e527fade682d1 := by kernel_rfl
theorem bits13 {R : Type} (κ : Int → Option R) : p_48 1001 ((13, 2, 4, ()), ()) κ = κ 0x9b05688c2b3e6c1f := by kernel_rfl
theorem bits17 {R : Type} (κ : Int → Option R) : p_48 1001 ((17, 2, 4, ()), ()) κ = κ 0x1f83d9abfb41bd6b := by kernel_rfl
theorem bits19 {R : Type} (κ : Int → Option R) : p_48 1001 ((19, 2, 4, ()), ()) κ = κ 0x5be0cd19137e2179 := by kernel_rfl
theorem p47 {R : Type} (κ : List Int → Option R) : p_47 1001 ((8, ()), ()) κ = κ [2, 3, 5, 7, 11, 13, 17, 19] := by kernel_rfl
theorem l13u {R : Type} (n : Nat) (x) (κ) : l_13_4 (R := R) 1001 (n + 1) x κ = B_13_4 1001 (fun y => l_13_4 1001 n y κ) x κ := rfl
theorem l13s0 {R : Type} (rec) (z a : Bl) (κ) : B_13_4 (R := R) 1001 rec (((), [2, 3, 5, 7, 11, 13, 17, 19], (), 0, ()), (z, a, ())) κ = rec (((), [2, 3, 5, 7, 11, 13, 17, 19], (), 1, ()), (z, upd a 0 0x6a09e667f3bcc908, ())) := by
  unfold B_13_4
  try dsimp only
  rw [bif_t (dT (show (0 : Int) < 8 by decide)), bif_t (dT (show (0 : Int) ≤ 0 by decide)), bif_t (dT (show (0 : Int) < ((List.length [(2 : Int), 3, 5, 7, 11, 13, 17, 19] : Nat) : Int) by decide)), show List.getD [(2 : Int), 3, 5, 7, 11, 13, 17, 19] (Int.toNat 0) (Sch.zero (.int .i64)) = 2 from rfl, bits2]
  try dsimp only
  rw [bif_t (dT (show (0 : Int) ≤ 0 by decide)), bif_t (dT (show (0 : Int) < 8 by decide))]
  rfl
theorem l13s1 {R : Type} (rec) (z a : Bl) (κ) : B_13_4 (R := R) 1001 rec (((), [2, 3, 5, 7, 11, 13, 17, 19], (), 1, ()), (z, a, ())) κ = rec (((), [2, 3, 5, 7, 11, 13, 17, 19], (), 2, ()), (z, upd a 1 0xbb67ae8584caa73b, ())) := by
  unfold B_13_4
  try dsimp only
  rw [bif_t (dT (show (1 : Int) < 8 by decide)), bif_t (dT (show (0 : Int) ≤ 1 by decide)), bif_t (dT (show (1 : Int) < ((List.length [(2 : Int), 3, 5, 7, 11, 13, 17, 19] : Nat) : Int) by decide)), show List.getD [(2 : Int), 3, 5, 7, 11, 13, 17, 19] (Int.toNat 1) (Sch.zero (.int .i64)) = 3 from rfl, bits3]
  try dsimp only
  rw [bif_t (dT (show (0 : Int) ≤ 1 by decide)), bif_t (dT (show (1 : Int) < 8 by decide))]
  rfl
theorem l13s2 {R : Type} (rec) (z a : Bl) (κ) : B_13_4 (R := R) 1001 rec (((), [2, 3, 5, 7, 11, 13, 17, 19], (), 2, ()), (z, a, ())) κ = rec (((), [2, 3, 5, 7, 11, 13, 17, 19], (), 3, ()), (z, upd a 2 0x3c6ef372fe94f82b, ())) := by
  unfold B_13_4
  try dsimp only
  rw [bif_t (dT (show (2 : Int) < 8 by decide)), bif_t (dT (show (0 : Int) ≤ 2 by decide)), bif_t (dT (show (2 : Int) < ((List.length [(2 : Int), 3, 5, 7, 11, 13, 17, 19] : Nat) : Int) by decide)), show List.getD [(2 : Int), 3, 5, 7, 11, 13, 17, 19] (Int.toNat 2) (Sch.zero (.int .i64)) = 5 from rfl, bits5]
  try dsimp only
  rw [bif_t (dT (show (0 : Int) ≤ 2 by decide)), bif_t (dT (show (2 : Int) < 8 by decide))]
  rfl
theorem l13s3 {R : Type} (rec) (z a : Bl) (κ) : B_13_4 (R := R) 1001 rec (((), [2, 3, 5, 7, 11, 13, 17, 19], (), 3, ()), (z, a, ())) κ = rec (((), [2, 3, 5, 7, 11, 13, 17, 19], (), 4, ()), (z, upd a 3 0xa54ff53a5f1d36f1, ())) := by
  unfold B_13_4
  try dsimp only
  rw [bif_t (dT (show (3 : Int) < 8 by decide)), bif_t (dT (show (0 : Int) ≤ 3 by decide)), bif_t (dT (show (3 : Int) < ((List.length [(2 : Int), 3, 5, 7, 11, 13, 17, 19] : Nat) : Int) by decide)), show List.getD [(2 : Int), 3, 5, 7, 11, 13, 17, 19] (Int.toNat 3) (Sch.zero (.int .i64)) = 7 from rfl, bits7]
  try dsimp only
  rw [bif_t (dT (show (0 : Int) ≤ 3 by decide)), bif_t (dT (show (3 : Int) < 8 by decide))]
  rfl
theorem l13s4 {R : Type} (rec) (z a : Bl) (κ) : B_13_4 (R := R) 1001 rec (((), [2, 3, 5, 7, 11, 13, 17, 19], (), 4, ()), (z, a, ())) κ = rec (((), [2, 3, 5, 7, 11, 13, 17, 19], (), 5, ()), (z, upd a 4 0x510e527fade682d1, ())) := by
  unfold B_13_4
  try dsimp only
  rw [bif_t (dT (show (4 : Int) < 8 by decide)), bif_t (dT (show (0 : Int) ≤ 4 by decide)), bif_t (dT (show (4 : Int) < ((List.length [(2 : Int), 3, 5, 7, 11, 13, 17, 19] : Nat) : Int) by decide)), show List.getD [(2 : Int), 3, 5, 7, 11, 13, 17, 19] (Int.toNat 4) (Sch.zero (.int .i64)) = 11 from rfl, bits11]
  try dsimp only
  rw [bif_t (dT (show (0 : Int) ≤ 4 by decide)), bif_t (dT (show (4 : Int) < 8 by decide))]
  rfl
theorem l13s5 {R : Type} (rec) (z a : Bl) (κ) : B_13_4 (R := R) 1001 rec (((), [2, 3, 5, 7, 11, 13, 17, 19], (), 5, ()), (z, a, ())) κ = rec (((), [2, 3, 5, 7, 11, 13, 17, 19], (), 6, ()), (z, upd a 5 0x9b05688c2b3e6c1f, ())) := by
  unfold B_13_4
  try dsimp only
  rw [bif_t (dT (show (5 : Int) < 8 by decide)), bif_t (dT (show (0 : Int) ≤ 5 by decide)), bif_t (dT (show (5 : Int) < ((List.length [(2 : Int), 3, 5, 7, 11, 13, 17, 19] : Nat) : Int) by decide)), show List.getD [(2 : Int), 3, 5, 7, 11, 13, 17, 19] (Int.toNat 5) (Sch.zero (.int .i64)) = 13 from rfl, bits13]
  try dsimp only
  rw [bif_t (dT (show (0 : Int) ≤ 5 by decide)), bif_t (dT (show (5 : Int) < 8 by decide))]
  rfl
theorem l13s6 {R : Type} (rec) (z a : Bl) (κ) : B_13_4 (R := R) 1001 rec (((), [2, 3, 5, 7, 11, 13, 17, 19], (), 6, ()), (z, a, ())) κ = rec (((), [2, 3, 5, 7, 11, 13, 17, 19], (), 7, ()), (z, upd a 6 0x1f83d9abfb41bd6b, ())) := by
  unfold B_13_4
  try dsimp only
  rw [bif_t (dT (show (6 : Int) < 8 by decide)), bif_t (dT (show (0 : Int) ≤ 6 by decide)), bif_t (dT (show (6 : Int) < ((List.length [(2 : Int), 3, 5, 7, 11, 13, 17, 19] : Nat) : Int) by decide)), show List.getD [(2 : Int), 3, 5, 7, 11, 13, 17, 19] (Int.toNat 6) (Sch.zero (.int .i64)) = 17 from rfl, bits17]
  try dsimp only
  rw [bif_t (dT (show (0 : Int) ≤ 6 by decide)), bif_t (dT (show (6 : Int) < 8 by decide))]
  rfl
theorem l13s7 {R : Type} (rec) (z a : Bl) (κ) : B_13_4 (R := R) 1001 rec (((), [2, 3, 5, 7, 11, 13, 17, 19], (), 7, ()), (z, a, ())) κ = rec (((), [2, 3, 5, 7, 11, 13, 17, 19], (), 8, ()), (z, upd a 7 0x5be0cd19137e2179, ())) := by
  unfold B_13_4
  try dsimp only
  rw [bif_t (dT (show (7 : Int) < 8 by decide)), bif_t (dT (show (0 : Int) ≤ 7 by decide)), bif_t (dT (show (7 : Int) < ((List.length [(2 : Int), 3, 5, 7, 11, 13, 17, 19] : Nat) : Int) by decide)), show List.getD [(2 : Int), 3, 5, 7, 11, 13, 17, 19] (Int.toNat 7) (Sch.zero (.int .i64)) = 19 from rfl, bits19]
  try dsimp only
  rw [bif_t (dT (show (0 : Int) ≤ 7 by decide)), bif_t (dT (show (7 : Int) < 8 by decide))]
  rfl
theorem l13e {R : Type} (rec) (z a : Bl) (κ) : B_13_4 (R := R) 1001 rec (((), [2, 3, 5, 7, 11, 13, 17, 19], (), 8, ()), (z, a, ())) κ = κ (((), (), ()), (z, a, ())) := rfl
def rkF : Bl := upd (upd (upd (upd (upd (upd (upd (upd (Sch.zero (.arr 8 (.int .u64))) 0 0x6a09e667f3bcc908) 1 0xbb67ae8584caa73b) 2 0x3c6ef372fe94f82b) 3 0xa54ff53a5f1d36f1) 4 0x510e527fade682d1) 5 0x9b05688c2b3e6c1f) 6 0x1f83d9abfb41bd6b) 7 0x5be0cd19137e2179
theorem p13 {R : Type} (κ : Bl → Option R) : p_13 1001 ((), ()) κ = κ rkF := by
  unfold p_13
  rw [p47]
  try dsimp only
  rw [l13u, l13s0]
  rw [l13u, l13s1]
  rw [l13u, l13s2]
  rw [l13u, l13s3]
  rw [l13u, l13s4]
  rw [l13u, l13s5]
  rw [l13u, l13s6]
  rw [l13u, l13s7]
  rw [l13u, l13e]
  rfl
theorem p14 {R : Type} (κ : Bl → Option R) : p_14 1001 ((), ()) κ = κ ((p_14 (R := Bl) 1001 ((), ()) some).getD nulB) := by kernel_rfl
theorem known1 : schEq (.arr 8 (.int .u64)) rkF ((p_14 (R := Bl) 1001 ((), ()) some).getD nulB) = true := by kernel_rfl
theorem known2 : schEq (.arr 8 (.int .u64)) ivF rkF = true := by kernel_rfl
theorem p3 (h : Bl) (hW : ∀ j, j < 8 → W (h j)) (l : List Int) (hl : ∀ x ∈ l, 0 ≤ x ∧ x < 256) (n : Int) (last : Bool) (κ) : p_3 (R := AV) 1001 ((h, l, n, last, ()), ()) κ = κ (true, ()) := by
  unfold p_3
  try dsimp only
  rw [awake07]
  simp only [Bool.not_true, cond_false]
  by_cases h8 : l.length = 128
  · have hB : By fun j => l.getD j 0 := by
      intro j
      by_cases hj : j < l.length
      · have := hl l[j] (List.getElem_mem hj)
        simpa [List.getD_eq_getElem?_getD, hj] using this
      · simp [List.getD_eq_getElem?_getD, Nat.le_of_not_lt hj]
    have hs : strList (listStr l) = (List.range 128).map fun j => l.getD j 0 := by rw [strList_mk l hl]; exact bytes128 h8
    have e : p_12 (R := AV) 1001 ((h, l, n, last, ()), ()) = fun κ => κ (compF h (fun j => l.getD j 0) n last, (0, ())) := by
      funext κ
      have := p12 (R := AV) h (fun j => l.getD j 0) n last κ
      rwa [← bytes128 h8] at this
    rw [e, h8]
    try dsimp only
    rw [bif_f (show (((128 : Nat) : Int) != 128) = false from rfl), p13]
    try dsimp only
    rw [bif_t (show ((0 : Int) == 0) = true from rfl), p14]
    try dsimp only
    rw [known1, bif_t rfl, p15]
    try dsimp only
    rw [known2, bif_t rfl, p16 rkF h _ _ n last hs (fun j hj => (schEq_arr.1 known2 j hj).symm) hW hB, schEq_arr.2 fun _ _ => rfl]
  · have e : p_12 (R := AV) 1001 ((h, l, n, last, ()), ()) = fun κ => κ (Sch.zero (.arr 8 (.int .u64)), (9, ())) := by
      funext κ
      unfold p_12
      try dsimp only
      rw [bif_t (by simp; omega)]
    rw [e]
    try dsimp only
    rw [bif_t (show (((l.length : Nat) : Int) != 128) = true by simp; omega), bif_t (show ((9 : Int) == 9) = true from rfl), schEq_arr.2 fun _ _ => rfl]
theorem law_all (y0 : Bl) (wf0 : WF (.arr 8 (.int .u64)) y0) (y1 : List Int) (wf1 : WF (.sl (.int .u8)) y1) (y2 : Int) {P2 : Prop} (wf2 : P2) (y3 : Bool) {P3 : Prop} (wf3 : P3) :
    ∃ H', ACalls Try.prog 3 [toAV (.arr 8 (.int .u64)) y0, toAV (.sl (.int .u8)) y1, toAV (.int .u64) y2, toAV .bool y3] [] (.bool true) H' :=
  gd_law (good_3 1001) (x := (y0, y1, y2, y3, ())) (p3 y0 (fun j hj => wf_u64 (wf0 j hj)) y1 (fun x hx => by
    obtain ⟨i, hi, rfl⟩ := List.mem_iff_getElem.1 hx
    have := wf_u8 (wf1.2 i hi)
    simpa [List.getD_eq_getElem?_getD, hi] using this) y2 y3 _)
end Go.Proofs.Ytnfhngcdddjilaa.Eng
