/-
The engine, twenty-fifth text: numbers that fit are as they are; helps for plain laws. Plain lemmas.
Conditions: none.
-/
import Derived.Test.YtjehpceomlnicaaEngX
set_option linter.unusedVariables false
set_option linter.unusedSimpArgs false
namespace Go.Proofs.Ytjehpceomlnicaa.Eng

theorem wrap64 {x : Int} (h1 : -9223372036854775808 ≤ x) (h2 : x < 9223372036854775808) : IntKind.wrap .i64 x = x := by
  simp [IntKind.wrap, IntKind.signed, IntKind.bits]
  omega
theorem wrapU64 (x : Int) : IntKind.wrap .u64 x = x % 18446744073709551616 := by
  simp [IntKind.wrap, IntKind.signed, IntKind.bits]
theorem wrapU32 (x : Int) : IntKind.wrap .u32 x = x % 4294967296 := by
  simp [IntKind.wrap, IntKind.signed, IntKind.bits]
theorem wrapU8 (x : Int) : IntKind.wrap .u8 x = x % 256 := by
  simp [IntKind.wrap, IntKind.signed, IntKind.bits]
theorem wrap64_range (x : Int) : -9223372036854775808 ≤ IntKind.wrap .i64 x ∧ IntKind.wrap .i64 x < 9223372036854775808 := by
  simp [IntKind.wrap, IntKind.signed, IntKind.bits]
  omega
theorem add64 {a b : Int} (h1 : -9223372036854775808 ≤ a + b) (h2 : a + b < 9223372036854775808) : addA .i64 a b = a + b := wrap64 h1 h2
theorem sub64 {a b : Int} (h1 : -9223372036854775808 ≤ a - b) (h2 : a - b < 9223372036854775808) : subA .i64 a b = a - b := wrap64 h1 h2
theorem mul64 {a b : Int} (h1 : -9223372036854775808 ≤ a * b) (h2 : a * b < 9223372036854775808) : mulA .i64 a b = a * b := wrap64 h1 h2
theorem quo64 {a b : Int} (h1 : 0 ≤ a) (h2 : a < 9223372036854775808) (hb : 0 ≤ b) : quoA .i64 a b = a / b := by
  unfold quoA
  rw [Int.tdiv_eq_ediv_of_nonneg h1]
  have h3 : 0 ≤ a / b := Int.ediv_nonneg h1 hb
  have h4 : a / b ≤ a := Int.ediv_le_self b h1
  exact wrap64 (by omega) (by omega)
theorem rem64 {a b : Int} (h1 : 0 ≤ a) : remA .i64 a b = a % b := by
  unfold remA
  exact Int.tmod_eq_emod_of_nonneg h1
theorem mod_le {a b : Int} (ha : 0 ≤ a) (hb : 0 < b) : a % b ≤ a := by
  have h1 := Int.mul_ediv_add_emod a b
  have h2 : 0 ≤ b * (a / b) := Int.mul_nonneg (by omega) (Int.ediv_nonneg ha (by omega))
  omega
/-- 'bif' by what is known. -/
theorem bif_t {α : Type} {c : Bool} {a b : α} (h : c = true) : (bif c then a else b) = a := by rw [h]; rfl
theorem bif_f {α : Type} {c : Bool} {a b : α} (h : c = false) : (bif c then a else b) = b := by rw [h]; rfl
theorem dT {p : Prop} [Decidable p] (h : p) : decide p = true := decide_eq_true h
theorem dF {p : Prop} [Decidable p] (h : ¬ p) : decide p = false := decide_eq_false h
end Go.Proofs.Ytjehpceomlnicaa.Eng
