/-
The engine, twenty-fifth text: numbers that fit are as they are; helps for plain laws. Plain lemmas.
Conditions: none.
-/
import Derived.Test.YtfcloeflcpcheaaGreatEngX
set_option linter.unusedVariables false
set_option linter.unusedSimpArgs false
namespace Go.Proofs.YtfcloeflcpcheaaGreat.Eng
theorem wrap64 {x : Int} (h1 : -9223372036854775808 ≤ x) (h2 : x < 9223372036854775808) : IntKind.wrap .i64 x = x := by
 simp [IntKind.wrap, IntKind.signed, IntKind.bits]
 omega
theorem wrapU64 (x : Int) : IntKind.wrap .u64 x = x % 18446744073709551616 := by
 simp [IntKind.wrap, IntKind.signed, IntKind.bits]
theorem wrapU32 (x : Int) : IntKind.wrap .u32 x = x % 4294967296 := by
 simp [IntKind.wrap, IntKind.signed, IntKind.bits]
theorem wrapU8 (x : Int) : IntKind.wrap .u8 x = x % 256 := by
 simp [IntKind.wrap, IntKind.signed, IntKind.bits]
theorem wrap64_range (x : Int) : -9223372036854775808 ≤ IntKind.wrap .i64 x ∧ IntKind.wrap .i64 x < 9223372036854775808 := by
 simp [IntKind.wrap, IntKind.signed, IntKind.bits]
 omega
theorem add64 {a b : Int} (h1 : -9223372036854775808 ≤ a + b) (h2 : a + b < 9223372036854775808) : addA .i64 a b = a + b := wrap64 h1 h2
theorem sub64 {a b : Int} (h1 : -9223372036854775808 ≤ a - b) (h2 : a - b < 9223372036854775808) : subA .i64 a b = a - b := wrap64 h1 h2
theorem mul64 {a b : Int} (h1 : -9223372036854775808 ≤ a * b) (h2 : a * b < 9223372036854775808) : mulA .i64 a b = a * b := wrap64 h1 h2
theorem quo64 {a b : Int} (h1 : 0 ≤ a) (h2 : a < 9223372036854775808) (hb : 0 ≤ b) : quoA .i64 a b = a / b := by
 unfold quoA
 rw [Int.tdiv_eq_ediv_of_nonneg h1]
 have h3 : 0 ≤ a / b := Int.ediv_nonneg h1 hb
 have h4 : a / b ≤ a := Int.ediv_le_self b h1
 exact wrap64 (by omega) (by omega)
theorem rem64 {a b : Int} (h1 : 0 ≤ a) : remA .i64 a b = a % b := by
 unfold remA
 exact Int.tmod_eq_emod_of_nonneg h1
theorem mod_le {a b : Int} (ha : 0 ≤ a) (hb : 0 < b) : a % b ≤ a := by
 have h1 := Int.mul_ediv_add_emod a b
 have h2 : 0 ≤ b * (a / b) := Int.mul_nonneg (by omega) (Int.ediv_nonneg ha (by omega))
 omega
theorem shrU64 {x : Int} {k : Nat} (h : 0 ≤ x) (hk : k ≤ 64) : shrA .u64 x (k : Int) = x / 2 ^ k := by
 unfold shrA
 rw [Int.fdiv_eq_ediv_of_nonneg _ (Int.pow_nonneg (by decide))]
 simp [IntKind.bits, Nat.min_eq_left hk]
theorem shr32 {x : Int} (h : 0 ≤ x) : shrA .u64 x 32 = x / 4294967296 := shrU64 (k := 32) h (by decide)
theorem mask32 {x : Int} (h1 : 0 ≤ x) (h2 : x < 18446744073709551616) : andA .u64 x 4294967295 = x % 4294967296 := by
 obtain ⟨n, rfl⟩ := Int.eq_ofNat_of_zero_le h1
 unfold andA
 rw [wrapU64]
 have e1 : (BitVec.ofInt IntKind.u64.bits (n : Int) &&& BitVec.ofInt IntKind.u64.bits 4294967295).toNat = n % 4294967296 := by
  rw [BitVec.toNat_and]
  have q1 : (BitVec.ofInt IntKind.u64.bits (n : Int)).toNat = n := by
   show (BitVec.ofInt 64 (n : Int)).toNat = n
   rw [BitVec.toNat_ofInt]; omega
  have q2 : (BitVec.ofInt IntKind.u64.bits 4294967295).toNat = 2 ^ 32 - 1 := by decide
  rw [q1, q2, Nat.and_two_pow_sub_one_eq_mod]
 rw [e1]
 omega
theorem addU64 {a b : Int} (h1 : 0 ≤ a + b) (h2 : a + b < 18446744073709551616) : addA .u64 a b = a + b := by
 unfold addA; rw [wrapU64]; omega
theorem mulU64 {a b : Int} (h1 : 0 ≤ a * b) (h2 : a * b < 18446744073709551616) : mulA .u64 a b = a * b := by
 unfold mulA; rw [wrapU64]; omega
theorem high64 {x y : Int} (x1 : 0 ≤ x) (x2 : x < 18446744073709551616) (y1 : 0 ≤ y) (y2 : y < 18446744073709551616) :
  addA .u64 (addA .u64 (mulA .u64 (shrA .u64 x 32) (shrA .u64 y 32)) (shrA .u64 (addA .u64 (mulA .u64 (shrA .u64 x 32) (andA .u64 y 4294967295)) (shrA .u64 (mulA .u64 (andA .u64 x 4294967295) (andA .u64 y 4294967295)) 32)) 32))
   (shrA .u64 (addA .u64 (andA .u64 (addA .u64 (mulA .u64 (shrA .u64 x 32) (andA .u64 y 4294967295)) (shrA .u64 (mulA .u64 (andA .u64 x 4294967295) (andA .u64 y 4294967295)) 32)) 4294967295) (mulA .u64 (andA .u64 x 4294967295) (shrA .u64 y 32))) 32) = x * y / 18446744073709551616 := by
 rw [shr32 x1, shr32 y1, mask32 x1 x2, mask32 y1 y2]
 have hx := Int.mul_ediv_add_emod x 4294967296
 have hy := Int.mul_ediv_add_emod y 4294967296
 generalize hxh : x / 4294967296 = a at *
 generalize hxl : x % 4294967296 = b at *
 generalize hyh : y / 4294967296 = c at *
 generalize hyl : y % 4294967296 = d at *
 have a1 : 0 ≤ a ∧ a ≤ 4294967295 := by omega
 have b1 : 0 ≤ b ∧ b ≤ 4294967295 := by omega
 have c1 : 0 ≤ c ∧ c ≤ 4294967295 := by omega
 have d1 : 0 ≤ d ∧ d ≤ 4294967295 := by omega
 have bd : ∀ {u v : Int}, (0 ≤ u ∧ u ≤ 4294967295) → (0 ≤ v ∧ v ≤ 4294967295) → 0 ≤ u * v ∧ u * v ≤ 4294967295 * 4294967295 := fun h1 h2 =>
  ⟨Int.mul_nonneg h1.1 h2.1, Int.mul_le_mul h1.2 h2.2 h2.1 (by decide)⟩
 have ac := bd a1 c1
 have ad := bd a1 d1
 have bc := bd b1 c1
 have bd' := bd b1 d1
 have key : x * y = a * c * 18446744073709551616 + (a * d + b * c) * 4294967296 + b * d := by
  rw [← hx, ← hy]
  simp only [Int.mul_add, Int.add_mul]
  have e1 : (4294967296 * a) * (4294967296 * c) = a * c * 18446744073709551616 := by
   rw [Int.mul_assoc, Int.mul_left_comm a, ← Int.mul_assoc, Int.mul_comm]; rfl
  have e2 : (4294967296 * a) * d = a * d * 4294967296 := by rw [Int.mul_assoc, Int.mul_comm]
  have e3 : b * (4294967296 * c) = b * c * 4294967296 := by rw [Int.mul_left_comm, Int.mul_comm]
  rw [e1, e2, e3]
  omega
 rw [key]
 rw [mulU64 (a := a) (b := c) (by omega) (by omega), mulU64 (a := a) (b := d) (by omega) (by omega), mulU64 (a := b) (b := d) (by omega) (by omega), mulU64 (a := b) (b := c) (by omega) (by omega)]
 generalize a * c = p at *
 generalize a * d = q at *
 generalize b * c = r at *
 generalize b * d = s at *
 rw [shr32 (x := s) (by omega), addU64 (a := q) (b := s / 4294967296) (by omega) (by omega), shr32 (x := q + s / 4294967296) (by omega), mask32 (x := q + s / 4294967296) (by omega) (by omega)]
 rw [addU64 (a := (q + s / 4294967296) % 4294967296) (b := r) (by omega) (by omega), shr32 (x := (q + s / 4294967296) % 4294967296 + r) (by omega), addU64 (a := p) (by omega) (by omega), addU64 (by omega) (by omega)]
 omega
theorem wf_int {k : IntKind} {y : Int} (h : WF (.int k) y) : k.min ≤ y ∧ y ≤ k.max := by
 simpa [WF, Lit.wf] using h
theorem wf_u32 {y : Int} (h : WF (.int .u32) y) : 0 ≤ y ∧ y < 4294967296 := by
 have := wf_int h
 simp [IntKind.min, IntKind.max, IntKind.signed, IntKind.bits] at this
 omega
theorem wf_u64 {y : Int} (h : WF (.int .u64) y) : 0 ≤ y ∧ y < 18446744073709551616 := by
 have := wf_int h
 simp [IntKind.min, IntKind.max, IntKind.signed, IntKind.bits] at this
 omega
theorem wf_u8 {y : Int} (h : WF (.int .u8) y) : 0 ≤ y ∧ y < 256 := by
 have := wf_int h
 simp [IntKind.min, IntKind.max, IntKind.signed, IntKind.bits] at this
 omega
theorem wf_i64 {y : Int} (h : WF (.int .i64) y) : -9223372036854775808 ≤ y ∧ y < 9223372036854775808 := by
 have := wf_int h
 simp [IntKind.min, IntKind.max, IntKind.signed, IntKind.bits] at this
 omega
theorem bif_t {α : Type} {c : Bool} {a b : α} (h : c = true) : (bif c then a else b) = a := by rw [h]; rfl
theorem bif_f {α : Type} {c : Bool} {a b : α} (h : c = false) : (bif c then a else b) = b := by rw [h]; rfl
theorem dT {p : Prop} [Decidable p] (h : p) : decide p = true := decide_eq_true h
theorem dF {p : Prop} [Decidable p] (h : ¬ p) : decide p = false := decide_eq_false h
end Go.Proofs.YtfcloeflcpcheaaGreat.Eng
