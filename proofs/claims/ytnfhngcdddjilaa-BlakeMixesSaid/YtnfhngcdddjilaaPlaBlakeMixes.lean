/-
BlakeMixes: what the mirrors come to, in plain numbers and lists: the law's mirror answers true.
Conditions: none.
-/
import Derived.Test.YtnfhngcdddjilaaMirBlakeMixes
set_option linter.unusedVariables false
set_option linter.unusedSimpArgs false
namespace Go.Proofs.Ytnfhngcdddjilaa.Eng

/-! ### blocks put together -/
def W (x : Int) : Prop := 0 ≤ x ∧ x < 18446744073709551616
theorem W_wrap (x : Int) : W (IntKind.wrap .u64 x) := by rw [wrapU64]; unfold W; omega
theorem W_xor (a b : Int) : W (xorA .u64 a b) := W_wrap _
theorem W_or (a b : Int) : W (orA .u64 a b) := W_wrap _
theorem W_add (a b : Int) : W (addA .u64 a b) := W_wrap _
theorem W_zero : W 0 := by unfold W; omega
theorem xor_comm (a b : Int) : xorA .u64 a b = xorA .u64 b a := by unfold xorA; rw [BitVec.xor_comm]
theorem xor_assoc (a b c : Int) (ha : W a) (hb : W b) (hc : W c) : xorA .u64 (xorA .u64 a b) c = xorA .u64 a (xorA .u64 b c) := by
  have key : ∀ x : BitVec 64, BitVec.ofInt 64 (IntKind.wrap .u64 (x.toNat : Int)) = x := by
    intro x
    rw [wrapU64]
    apply BitVec.eq_of_toNat_eq
    rw [BitVec.toNat_ofInt]
    have := x.isLt
    omega
  unfold xorA
  show IntKind.wrap .u64 (((BitVec.ofInt 64 (IntKind.wrap .u64 ((BitVec.ofInt 64 a ^^^ BitVec.ofInt 64 b).toNat : Int))) ^^^ BitVec.ofInt 64 c).toNat : Int) = IntKind.wrap .u64 ((BitVec.ofInt 64 a ^^^ BitVec.ofInt 64 (IntKind.wrap .u64 ((BitVec.ofInt 64 b ^^^ BitVec.ofInt 64 c).toNat : Int))).toNat : Int)
  rw [key, key, BitVec.xor_assoc]
theorem xor_self (a : Int) : xorA .u64 a a = 0 := by
  unfold xorA
  rw [BitVec.xor_self]
  rfl
theorem zero_xor {a : Int} (h : W a) : xorA .u64 0 a = a := by
  unfold xorA
  rw [wrapU64, BitVec.toNat_xor]
  have q1 : (BitVec.ofInt IntKind.u64.bits a).toNat = a.toNat := by
    show (BitVec.ofInt 64 a).toNat = a.toNat
    rw [BitVec.toNat_ofInt]; have := h.1; have := h.2; omega
  have q2 : (BitVec.ofInt IntKind.u64.bits 0).toNat = 0 := by decide
  rw [q1, q2, Nat.zero_xor]
  have := h.1
  have := h.2
  omega
theorem upd_same {α : Type} (f : Nat → α) (i : Nat) (x : α) : upd f i x i = x := by simp [upd]
theorem upd_other {α : Type} (f : Nat → α) {i j : Nat} (x : α) (h : j ≠ i) : upd f i x j = f j := by
  show (bif Nat.beq j i then x else f j) = f j
  cases hq : Nat.beq j i with
  | false => rfl
  | true => exact absurd (Nat.eq_of_beq_eq_true hq) h
theorem upd_if {α : Type} (f : Nat → α) (i j : Nat) (x : α) : upd f i x j = if j = i then x else f j := by
  by_cases h : j = i
  · subst h; rw [upd_same, if_pos rfl]
  · rw [upd_other f x h, if_neg h]
abbrev Bl := Nat → Int
def nulB : Bl := fun _ => 0
def rotF (x n : Int) : Int := orA .u64 (shrA .u64 x n) (shlA .u64 x (64 - n))
def roundR (x lo hi : Int) : Int := addA .u64 (quoA .u64 x lo) (mulA .u64 (remA .u64 x lo) hi)
theorem or_disj {a b : Nat} {n : Nat} (ha : a < 2 ^ n) : a ||| (b * 2 ^ n) = b * 2 ^ n + a := by
  rw [Nat.or_comm, Nat.mul_comm b, Nat.two_pow_add_eq_or_of_lt ha]
theorem nat_mod {B : Nat} (h : B < 2 ^ 64) : ((B : Nat) : Int) % 18446744073709551616 = B := by omega
/-- A word turned to the right by n places, n + m = 64. -/
theorem rot_eq {x : Int} (hx : W x) (n m : Nat) (hnm : n + m = 64) (hn : 0 < n) (hm : 0 < m) : roundR x (2 ^ n) (2 ^ m) = rotF x n := by
  obtain ⟨h1, h2⟩ := hx
  obtain ⟨y, rfl⟩ := Int.eq_ofNat_of_zero_le h1
  have hy : y < 2 ^ 64 := by omega
  unfold roundR rotF quoA remA
  have pn : ((2 : Int) ^ n) = ((2 ^ n : Nat) : Int) := by simp
  have pm : ((2 : Int) ^ m) = ((2 ^ m : Nat) : Int) := by simp
  have e64 : 2 ^ n * 2 ^ m = 2 ^ 64 := by rw [← Nat.pow_add, hnm]
  have d1 : y / 2 ^ n < 2 ^ m := by rw [Nat.div_lt_iff_lt_mul (Nat.two_pow_pos n), Nat.mul_comm, e64]; exact hy
  have m1 : y % 2 ^ n < 2 ^ n := Nat.mod_lt _ (Nat.two_pow_pos n)
  have p1 : y % 2 ^ n * 2 ^ m + y / 2 ^ n < 2 ^ 64 := by
    have : (y % 2 ^ n + 1) * 2 ^ m ≤ 2 ^ n * 2 ^ m := Nat.mul_le_mul_right _ m1
    rw [Nat.add_mul, e64] at this
    omega
  have p2 : y % 2 ^ n * 2 ^ m < 2 ^ 64 := Nat.lt_of_le_of_lt (Nat.le_add_right _ _) p1
  have p3 : y / 2 ^ n < 2 ^ 64 := Nat.lt_of_le_of_lt (Nat.le_add_left _ _) p1
  rw [pn, pm, Int.tdiv_eq_ediv_of_nonneg (by omega), Int.tmod_eq_emod_of_nonneg (by omega)]
  have e1 : ((y : Int) / ((2 ^ n : Nat) : Int)) = ((y / 2 ^ n : Nat) : Int) := by simp
  have e2 : ((y : Int) % ((2 ^ n : Nat) : Int)) = ((y % 2 ^ n : Nat) : Int) := by simp
  rw [e1, e2]
  have w1 : IntKind.wrap .u64 ((y / 2 ^ n : Nat) : Int) = ((y / 2 ^ n : Nat) : Int) := by rw [wrapU64, nat_mod p3]
  have q1 : mulA .u64 ((y % 2 ^ n : Nat) : Int) ((2 ^ m : Nat) : Int) = ((y % 2 ^ n * 2 ^ m : Nat) : Int) := by
    unfold mulA
    rw [wrapU64, ← Int.natCast_mul, nat_mod p2]
  rw [w1, q1]
  have l1 : addA .u64 ((y / 2 ^ n : Nat) : Int) ((y % 2 ^ n * 2 ^ m : Nat) : Int) = ((y % 2 ^ n * 2 ^ m + y / 2 ^ n : Nat) : Int) := by
    unfold addA
    rw [wrapU64, ← Int.natCast_add, Nat.add_comm, nat_mod p1]
  rw [l1]
  have s1 : shrA .u64 (y : Int) (n : Int) = ((y / 2 ^ n : Nat) : Int) := by
    rw [shrU64 (by omega) (by omega), pn, e1]
  have s2 : shlA .u64 (y : Int) (64 - (n : Int)) = ((y % 2 ^ n * 2 ^ m : Nat) : Int) := by
    unfold shlA
    have : (64 - (n : Int)).toNat = m := by omega
    rw [this, show min m IntKind.u64.bits = m from Nat.min_eq_left (by show m ≤ 64; omega), pm, wrapU64, ← Int.natCast_mul]
    have : y * 2 ^ m % 2 ^ 64 = y % 2 ^ n * 2 ^ m := by
      rw [← e64, Nat.mul_mod_mul_right]
    rw [← this]
    omega
  rw [s1, s2]
  unfold orA
  rw [wrapU64, BitVec.toNat_or]
  have b1 : (BitVec.ofInt IntKind.u64.bits ((y / 2 ^ n : Nat) : Int)).toNat = y / 2 ^ n := by
    show (BitVec.ofInt 64 _).toNat = _
    rw [BitVec.toNat_ofInt]; show (((y / 2 ^ n : Nat) : Int) % 18446744073709551616).toNat = _; rw [nat_mod p3]; rfl
  have b2 : (BitVec.ofInt IntKind.u64.bits ((y % 2 ^ n * 2 ^ m : Nat) : Int)).toNat = y % 2 ^ n * 2 ^ m := by
    show (BitVec.ofInt 64 _).toNat = _
    rw [BitVec.toNat_ofInt]; show (((y % 2 ^ n * 2 ^ m : Nat) : Int) % 18446744073709551616).toNat = _; rw [nat_mod p2]; rfl
  rw [b1, b2, or_disj d1, nat_mod p1]
theorem W_rot (x n : Int) : W (rotF x n) := W_or _ _
/-! ### a quarter -/
abbrev Q4 := Int × (Int × (Int × (Int × Unit)))
def qF (a b c d x y : Int) : Q4 :=
  let a1 := addA .u64 a (addA .u64 b x)
  let d1 := rotF (xorA .u64 d a1) 32
  let c1 := addA .u64 c d1
  let b1 := rotF (xorA .u64 b c1) 24
  let a2 := addA .u64 a1 (addA .u64 b1 y)
  let d2 := rotF (xorA .u64 d1 a2) 16
  let c2 := addA .u64 c1 d2
  let b2 := rotF (xorA .u64 b1 c2) 63
  (a2, (b2, (c2, (d2, ()))))
theorem p17 {R : Type} (N : Nat) (a b c d x y : Int) (κ) : p_17 (R := R) N ((a, b, c, d, x, y, ()), ()) κ = κ (qF a b c d x y) := by kernel_rfl
def ar4 (a b c d : Int) : Bl := upd (upd (upd (upd (Sch.zero (.arr 4 (.int .u64))) 0 a) 1 b) 2 c) 3 d
def qR (q : Bl) (x y : Int) : Bl :=
  let q := upd q 0 (addA .u64 (addA .u64 (q 0) (q 1)) x)
  let q := upd q 3 (roundR (xorA .u64 (q 3) (q 0)) 4294967296 4294967296)
  let q := upd q 2 (addA .u64 (q 2) (q 3))
  let q := upd q 1 (roundR (xorA .u64 (q 1) (q 2)) 16777216 1099511627776)
  let q := upd q 0 (addA .u64 (addA .u64 (q 0) (q 1)) y)
  let q := upd q 3 (roundR (xorA .u64 (q 3) (q 0)) 65536 281474976710656)
  let q := upd q 2 (addA .u64 (q 2) (q 3))
  upd q 1 (roundR (xorA .u64 (q 1) (q 2)) 9223372036854775808 2)
theorem p18 {R : Type} (N : Nat) (q : Bl) (x y : Int) (κ) : p_18 (R := R) N ((q, x, y, ()), ()) κ = κ (qR q x y) := by kernel_rfl
theorem addU_assoc (a b c : Int) : addA .u64 (addA .u64 a b) c = addA .u64 a (addA .u64 b c) := by
  unfold addA
  rw [wrapU64, wrapU64, wrapU64, wrapU64]
  omega
theorem roundR32 {x : Int} (h : W x) : roundR x 4294967296 4294967296 = rotF x 32 := rot_eq h 32 32 rfl (by decide) (by decide)
theorem roundR24 {x : Int} (h : W x) : roundR x 16777216 1099511627776 = rotF x 24 := rot_eq h 24 40 rfl (by decide) (by decide)
theorem roundR16 {x : Int} (h : W x) : roundR x 65536 281474976710656 = rotF x 16 := rot_eq h 16 48 rfl (by decide) (by decide)
theorem roundR63 {x : Int} (h : W x) : roundR x 9223372036854775808 2 = rotF x 63 := rot_eq h 63 1 rfl (by decide) (by decide)
theorem qR_eq (a b c d x y : Int) : qR (ar4 a b c d) x y 0 = (qF a b c d x y).1 ∧ qR (ar4 a b c d) x y 1 = (qF a b c d x y).2.1 ∧ qR (ar4 a b c d) x y 2 = (qF a b c d x y).2.2.1 ∧ qR (ar4 a b c d) x y 3 = (qF a b c d x y).2.2.2.1 := by
  have h : ∀ u v, qR (ar4 a b c d) u v =
      (let a1 := addA .u64 (addA .u64 a b) u
       let d1 := roundR (xorA .u64 d a1) 4294967296 4294967296
       let c1 := addA .u64 c d1
       let b1 := roundR (xorA .u64 b c1) 16777216 1099511627776
       let a2 := addA .u64 (addA .u64 a1 b1) v
       let d2 := roundR (xorA .u64 d1 a2) 65536 281474976710656
       let c2 := addA .u64 c1 d2
       let b2 := roundR (xorA .u64 b1 c2) 9223372036854775808 2
       upd (upd (upd (upd (upd (upd (upd (upd (ar4 a b c d) 0 a1) 3 d1) 2 c1) 1 b1) 0 a2) 3 d2) 2 c2) 1 b2) := fun u v => rfl
  rw [h x y]
  dsimp only
  rw [addU_assoc a b x, roundR32 (W_xor _ _), roundR24 (W_xor _ _), addU_assoc _ _ y, roundR16 (W_xor _ _), roundR63 (W_xor _ _)]
  exact ⟨rfl, rfl, rfl, rfl⟩
theorem qF_W (a b c d x y : Int) : W (qF a b c d x y).1 ∧ W (qF a b c d x y).2.1 ∧ W (qF a b c d x y).2.2.1 ∧ W (qF a b c d x y).2.2.2.1 := ⟨W_add _ _, W_rot _ _, W_add _ _, W_rot _ _⟩
/-! ### orders -/
def ordF (r : Int) : Bl := (p_19 (R := Bl) 1001 ((r, ()), ()) some).getD nulB
def ordR (r : Int) : Bl := (p_20 (R := Bl) 1001 ((r, ()), ()) some).getD nulB
def ten (P : Int → Prop) : Prop := P 0 ∧ P 1 ∧ P 2 ∧ P 3 ∧ P 4 ∧ P 5 ∧ P 6 ∧ P 7 ∧ P 8 ∧ P 9
theorem ten_mk {α : Type} {f g : Int → α} (h0 : f 0 = g 0) (h1 : f 1 = g 1) (h2 : f 2 = g 2) (h3 : f 3 = g 3) (h4 : f 4 = g 4) (h5 : f 5 = g 5) (h6 : f 6 = g 6) (h7 : f 7 = g 7) (h8 : f 8 = g 8) (h9 : f 9 = g 9) : ten fun r => f r = g r :=
  ⟨h0, h1, h2, h3, h4, h5, h6, h7, h8, h9⟩
theorem ten_all {P : Int → Prop} (h : ten P) {r : Int} (h1 : 0 ≤ r) (h2 : r < 10) : P r := by
  obtain ⟨q0, q1, q2, q3, q4, q5, q6, q7, q8, q9⟩ := h
  have : r = 0 ∨ r = 1 ∨ r = 2 ∨ r = 3 ∨ r = 4 ∨ r = 5 ∨ r = 6 ∨ r = 7 ∨ r = 8 ∨ r = 9 := by omega
  rcases this with h | h | h | h | h | h | h | h | h | h <;> subst h <;> assumption
theorem ord_eq : ten fun r => schEq (.arr 16 (.int .i64)) (ordF r) (ordR r) = true := by
  refine ten_mk ?_ ?_ ?_ ?_ ?_ ?_ ?_ ?_ ?_ ?_ <;> kernel_rfl
theorem p19 {R : Type} (κ : Bl → Option R) : ten fun r => p_19 (R := R) 1001 ((r, ()), ()) κ = κ (ordF r) := by
  refine ten_mk ?_ ?_ ?_ ?_ ?_ ?_ ?_ ?_ ?_ ?_ <;> kernel_rfl
theorem p20 {R : Type} (κ : Bl → Option R) : ten fun r => p_20 (R := R) 1001 ((r, ()), ()) κ = κ (ordR r) := by
  refine ten_mk ?_ ?_ ?_ ?_ ?_ ?_ ?_ ?_ ?_ ?_ <;> kernel_rfl
theorem awake07 {R : Type} (κ : Bool → Option R) : p_11 1001 ((), ()) κ = κ true := by kernel_rfl
theorem schEq_arr {n : Nat} {k : IntKind} {x y : Bl} : schEq (.arr n (.int k)) x y = true ↔ ∀ j, j < n → x j = y j := by
  show (List.range n).all (fun i => x i == y i) = true ↔ _
  rw [List.all_eq_true]
  constructor
  · intro h j hj
    exact eq_of_beq (α := Int) (h j (List.mem_range.2 hj))
  · intro h j hj
    have := h j (List.mem_range.1 hj)
    rw [this]
    exact beq_self_eq_true (α := Int) _
theorem p19i {R : Type} {i : Int} (h1 : 0 ≤ i) (κ : Bl → Option R) : p_19 (R := R) 1001 ((i, ()), ()) κ = κ (ordF (i % 10)) := by
  have e : p_19 (R := R) 1001 ((i, ()), ()) κ = p_19 (R := R) 1001 ((i % 10, ()), ()) κ := by
    have m1 := Int.emod_nonneg i (show (10 : Int) ≠ 0 by decide)
    unfold p_19
    dsimp only
    rw [bif_f (dF (show ¬ i < 0 by omega)), bif_f (dF (show ¬ i % 10 < 0 by omega)), rem64 h1, rem64 m1, Int.emod_emod]
  rw [e]
  exact ten_all (p19 κ) (Int.emod_nonneg i (by decide)) (Int.emod_lt_of_pos i (by decide))
theorem p20i {R : Type} {i : Int} (h1 : 0 ≤ i) (κ : Bl → Option R) : p_20 (R := R) 1001 ((i, ()), ()) κ = κ (ordR (i % 10)) := by
  have e : p_20 (R := R) 1001 ((i, ()), ()) κ = p_20 (R := R) 1001 ((i % 10, ()), ()) κ := by
    have m1 := Int.emod_nonneg i (show (10 : Int) ≠ 0 by decide)
    unfold p_20
    dsimp only
    rw [bif_f (dF (show ¬ i < 0 by omega)), bif_f (dF (show ¬ i % 10 < 0 by omega)), rem64 h1, rem64 m1, Int.emod_emod]
  rw [e]
  exact ten_all (p20 κ) (Int.emod_nonneg i (by decide)) (Int.emod_lt_of_pos i (by decide))
/-! ### the plain law -/
theorem ord_neg {R : Type} {r : Int} (h : r < 0) (κ) : p_19 (R := R) 1001 ((r, ()), ()) κ = κ (Sch.zero (.arr 16 (.int .i64))) ∧ p_20 (R := R) 1001 ((r, ()), ()) κ = κ (Sch.zero (.arr 16 (.int .i64))) := by
  constructor
  · unfold p_19
    try dsimp only
    rw [bif_t (dT h)]
  · unfold p_20
    try dsimp only
    rw [bif_t (dT h)]
theorem l4 {R : Type} (κ0 κ1) : ten fun r => l_4_11 (R := R) 1001 1001 (((), ordF r, 0, ()), (Sch.zero (.arr 16 (.bool)), ())) κ0 κ1 = κ1 ((), ()) := by
  refine ten_mk ?_ ?_ ?_ ?_ ?_ ?_ ?_ ?_ ?_ ?_ <;> kernel_rfl
theorem p4 (v : Bl) (r : Int) (κ) : p_4 (R := AV) 1001 ((v, r, ()), ()) κ = κ (true, ()) := by
  unfold p_4
  try dsimp only
  rw [awake07]
  simp only [Bool.not_true, cond_false]
  rw [p17]
  try dsimp only
  rw [p18]
  try dsimp only
  have e : schEq (.arr 4 (.int .u64)) (upd (upd (upd (upd (Sch.zero (.arr 4 (.int .u64))) 0 (qF (v 0) (v 1) (v 2) (v 3) (v 4) (v 5)).1) 1 (qF (v 0) (v 1) (v 2) (v 3) (v 4) (v 5)).2.1) 2 (qF (v 0) (v 1) (v 2) (v 3) (v 4) (v 5)).2.2.1) 3 (qF (v 0) (v 1) (v 2) (v 3) (v 4) (v 5)).2.2.2.1) (qR (ar4 (v 0) (v 1) (v 2) (v 3)) (v 4) (v 5)) = true := by
    refine schEq_arr.2 fun j hj => ?_
    obtain ⟨h1, h2, h3, h4⟩ := qR_eq (v 0) (v 1) (v 2) (v 3) (v 4) (v 5)
    have : j = 0 ∨ j = 1 ∨ j = 2 ∨ j = 3 := by omega
    rcases this with e | e | e | e <;> subst e
    · rw [h1]; rfl
    · rw [h2]; rfl
    · rw [h3]; rfl
    · rw [h4]; rfl
  unfold ar4 at e
  rw [e]
  simp only [Bool.not_true, cond_false]
  by_cases hr : r < 0
  · rw [(ord_neg hr _).1]
    try dsimp only
    rw [(ord_neg hr _).2]
    try dsimp only
    rw [schEq_arr.2 fun _ _ => rfl]
    simp only [Bool.not_true, cond_false]
    rw [bif_t (dT hr), bif_t (dT hr)]
  · have m1 := Int.emod_nonneg r (show (10 : Int) ≠ 0 by decide)
    have m2 := Int.emod_lt_of_pos r (show (0 : Int) < 10 by decide)
    rw [p19i (by omega)]
    try dsimp only
    rw [p20i (by omega)]
    try dsimp only
    rw [ten_all ord_eq m1 m2]
    simp only [Bool.not_true, cond_false]
    rw [bif_f (dF hr)]
    rw [ten_all (l4 _ _) m1 m2]
theorem law_all (y0 : Bl) {P0 : Prop} (wf0 : P0) (y1 : Int) {P1 : Prop} (wf1 : P1) :
    ∃ H', ACalls Try.prog 4 [toAV (.arr 8 (.int .u64)) y0, toAV (.int .i64) y1] [] (.bool true) H' :=
  gd_law (good_4 1001) (x := (y0, y1, ())) (p4 y0 y1 _)
end Go.Proofs.Ytnfhngcdddjilaa.Eng
