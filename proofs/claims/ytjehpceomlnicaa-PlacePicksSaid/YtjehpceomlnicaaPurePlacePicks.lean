/-
The picks of package place, in numbers: of any number of blocks one is picked, as the document says, and a greater number never picks a later one.
Conditions: the numbers are of their kinds.
-/
import Derived.Test.YtjehpceomlnicaaPPlacePicksx1
import Derived.Laws.BitsAllLaws
namespace Go.Proofs.Ytjehpceomlnicaa.Pure
open Go.RowKit Go.Proofs.Ytjehpceomlnicaa.PPlacePicks Go.Proofs.YtjehpceomlnicaaW.PrintWords Go.Proofs.YtjehpceomlnicaaW.PrintLast

theorem and_low (a : Int) (h0 : 0 ≤ a) (h1 : a < 18446744073709551616) : Go.bits .and .u64 a 4294967295 = a % 4294967296 := by
  rw [u64_and a 4294967295 h0 h1 (by omega) (by omega)]
  have : (a.toNat &&& (4294967295 : Int).toNat) = a.toNat % 2 ^ 32 := Nat.and_two_pow_sub_one_eq_mod a.toNat 32
  rw [this]; omega

theorem mul_bd (x y : Int) (hx : 0 ≤ x) (hx1 : x ≤ 4294967295) (hy : 0 ≤ y) (hy1 : y ≤ 4294967295) : 0 ≤ x * y ∧ x * y ≤ 18446744065119617025 := by
  refine ⟨Int.mul_nonneg hx hy, ?_⟩
  have h : x * y ≤ 4294967295 * 4294967295 := Int.mul_le_mul hx1 hy1 hy (by omega)
  omega

theorem mul_parts (a b : Int) : a * b = (a / 4294967296) * (b / 4294967296) * 18446744073709551616 + (a / 4294967296) * (b % 4294967296) * 4294967296 + (a % 4294967296) * (b / 4294967296) * 4294967296 + (a % 4294967296) * (b % 4294967296) := by
  have ha : a = 4294967296 * (a / 4294967296) + a % 4294967296 := by omega
  have hb : b = 4294967296 * (b / 4294967296) + b % 4294967296 := by omega
  generalize a / 4294967296 = p at *
  generalize a % 4294967296 = q at *
  generalize b / 4294967296 = r at *
  generalize b % 4294967296 = s at *
  subst ha hb
  simp only [Int.add_mul, Int.mul_add]
  have e1 : 4294967296 * p * (4294967296 * r) = p * r * 18446744073709551616 := by
    rw [show 4294967296 * p * (4294967296 * r) = p * r * (4294967296 * 4294967296) by ac_rfl]
    rfl
  have e2 : 4294967296 * p * s = p * s * 4294967296 := by ac_rfl
  have e3 : q * (4294967296 * r) = q * r * 4294967296 := by ac_rfl
  rw [e1, e2, e3]; omega

theorem mul64 (a b : Int) (a0 : 0 ≤ a) (a1 : a < 18446744073709551616) (b0 : 0 ≤ b) (b1 : b < 18446744073709551616) :
    bits_Mul64.f a b = some (a * b / 18446744073709551616, a * b % 18446744073709551616) := by
  unfold bits_Mul64.f
  have hm := mul_parts a b
  obtain ⟨p0, p1⟩ := mul_bd (a / 4294967296) (b / 4294967296) (by omega) (by omega) (by omega) (by omega)
  obtain ⟨q0, q1⟩ := mul_bd (a / 4294967296) (b % 4294967296) (by omega) (by omega) (by omega) (by omega)
  obtain ⟨r0, r1⟩ := mul_bd (a % 4294967296) (b / 4294967296) (by omega) (by omega) (by omega) (by omega)
  obtain ⟨s0, s1⟩ := mul_bd (a % 4294967296) (b % 4294967296) (by omega) (by omega) (by omega) (by omega)
  rw [and_low a a0 a1, and_low b b0 b1]
  generalize a * b = m at *
  generalize (a / 4294967296) * (b / 4294967296) = p at *
  generalize (a / 4294967296) * (b % 4294967296) = q at *
  generalize (a % 4294967296) * (b / 4294967296) = r at *
  generalize (a % 4294967296) * (b % 4294967296) = s at *
  have w1 : IntKind.u64.wrap s = s := by rw [IntKind.wrap_u64]; omega
  have w2 : IntKind.u64.wrap q = q := by rw [IntKind.wrap_u64]; omega
  have w3 : IntKind.u64.wrap r = r := by rw [IntKind.wrap_u64]; omega
  have w4 : IntKind.u64.wrap p = p := by rw [IntKind.wrap_u64]; omega
  have w5 : IntKind.u64.wrap (q + s / 4294967296) = q + s / 4294967296 := by rw [IntKind.wrap_u64]; omega
  rw [w1, w2, w3, w4, w5, and_low _ (by omega) (by omega)]
  have w6 : IntKind.u64.wrap ((q + s / 4294967296) % 4294967296 + r) = (q + s / 4294967296) % 4294967296 + r := by rw [IntKind.wrap_u64]; omega
  rw [w6]
  clear w1 w2 w3 w4 w5 w6
  simp only [IntKind.wrap_u64, Option.some.injEq, Prod.mk.injEq]
  refine ⟨?_, trivial⟩
  omega

theorem low_or (x : Int) (h0 : 0 ≤ x) (h1 : x < 18446744073709551616) : Go.bits .or .u64 (IntKind.u64.wrap (0 * 4294967296)) x = x := by
  rw [IntKind.wrap_u64, u64_or _ _ (by omega) (by omega) h0 h1]
  simp; omega

/-- What a pick is. -/
theorem pick_is (a j : Int) (a0 : 1 ≤ a) (a1 : a ≤ 4294967296) (j0 : 0 ≤ j) (j1 : j < 4294967296) :
    place_Pick.f a j = some (a - 1 - a * (j * j / 4294967296) / 4294967296) ∧ 0 ≤ a * (j * j / 4294967296) / 4294967296 ∧ a * (j * j / 4294967296) / 4294967296 ≤ a - 1 ∧ 0 ≤ j * j / 4294967296 ∧ j * j / 4294967296 < 4294967296 := by
  obtain ⟨x0, x1⟩ := mul_bd j j j0 (by omega) j0 (by omega)
  have hx : 0 ≤ j * j / 4294967296 ∧ j * j / 4294967296 ≤ 4294967294 := by omega
  have hp0 : 0 ≤ a * (j * j / 4294967296) := Int.mul_nonneg (by omega) hx.1
  have hp1 : a * (j * j / 4294967296) ≤ a * 4294967294 := Int.mul_le_mul_of_nonneg_left hx.2 (by omega)
  unfold place_Pick.f
  rw [if_neg (by omega)]
  have w1 : IntKind.u64.wrap a = a := by rw [IntKind.wrap_u64]; omega
  have w2 : IntKind.u64.wrap j = j := by rw [IntKind.wrap_u64]; omega
  have w3 : IntKind.u64.wrap (j * j) = j * j := by rw [IntKind.wrap_u64]; omega
  rw [w1, w2, w3, mul64 a (j * j / 4294967296) (by omega) (by omega) (by omega) (by omega)]
  generalize j * j / 4294967296 = x at *
  generalize a * x = m at *
  have e1 : m / 18446744073709551616 = 0 := by omega
  have e2 : m % 18446744073709551616 = m := by omega
  simp only [Option.bind_some, e1, e2]
  rw [low_or _ (by omega) (by omega)]
  refine ⟨?_, by omega, by omega, by omega, by omega⟩
  unfold wrap64
  simp only [Option.some.injEq]
  omega

theorem ref_is (a j : Int) (a0 : 1 ≤ a) (a1 : a ≤ 4294967296) (j0 : 0 ≤ j) (j1 : j < 4294967296) :
    pestleref29_Pick.f a j = some (a - 1 - a * (j * j / 4294967296) / 4294967296) := by
  obtain ⟨x0, x1⟩ := mul_bd j j j0 (by omega) j0 (by omega)
  have hx : 0 ≤ j * j / 4294967296 ∧ j * j / 4294967296 ≤ 4294967294 := by omega
  have hp0 : 0 ≤ a * (j * j / 4294967296) := Int.mul_nonneg (by omega) hx.1
  have hp1 : a * (j * j / 4294967296) ≤ a * 4294967294 := Int.mul_le_mul_of_nonneg_left hx.2 (by omega)
  unfold pestleref29_Pick.f
  have w1 : IntKind.u64.wrap a = a := by rw [IntKind.wrap_u64]; omega
  have w2 : IntKind.u64.wrap j = j := by rw [IntKind.wrap_u64]; omega
  have w3 : IntKind.u64.wrap (j * j) = j * j := by rw [IntKind.wrap_u64]; omega
  rw [w1, w2, w3]
  have t1 : Int.tdiv (j * j) 4294967296 = j * j / 4294967296 := Int.tdiv_eq_ediv_of_nonneg x0
  rw [t1]
  generalize j * j / 4294967296 = x at *
  have w4 : IntKind.u64.wrap x = x := by rw [IntKind.wrap_u64]; omega
  rw [w4]
  generalize a * x = m at *
  have w5 : IntKind.u64.wrap m = m := by rw [IntKind.wrap_u64]; omega
  rw [w5]
  have t2 : Int.tdiv m 4294967296 = m / 4294967296 := Int.tdiv_eq_ediv_of_nonneg hp0
  rw [t2]
  simp only [IntKind.wrap_u64, Option.some.injEq]
  unfold wrap64
  omega

theorem awake_is : pestlelaw29_awake.f = some true := by
  unfold pestlelaw29_awake.f
  rw [(pick_is 10 0 (by omega) (by omega) (by omega) (by omega)).1, (pick_is 10 4294967295 (by omega) (by omega) (by omega) (by omega)).1]
  simp

theorem below_zero (a j : Int) (h : a < 1) : place_Pick.f a j = some 0 := by
  unfold place_Pick.f; rw [if_pos h]

theorem PlacePicks : pestlelaw29_PlacePicks.Pure := by
  intro a j more ha hj hm
  simp [Lit.wf, IntKind.min, IntKind.max, IntKind.signed, IntKind.bits] at ha hj hm
  refine ⟨1, ?_⟩
  unfold pestlelaw29_PlacePicks.f
  rw [awake_is]
  simp only [Option.bind_some, if_true]
  by_cases h1 : a < 1
  · rw [if_pos h1, below_zero a j h1]; simp
  rw [if_neg h1]
  by_cases h2 : a > 4294967296
  · rw [if_pos h2]
  rw [if_neg h2]
  obtain ⟨e1, l1, l2, l3, l4⟩ := pick_is a j (by omega) (by omega) (by omega) (by omega)
  rw [e1]
  simp only [Option.bind_some]
  rw [if_neg (by omega), if_neg (by omega)]
  have hfin : pestlelaw29_PlacePicks.j0 1 a j more (a - 1 - a * (j * j / 4294967296) / 4294967296) false = some true := by
    unfold pestlelaw29_PlacePicks.j0
    simp only [Bool.false_eq_true, if_false]
    rw [show (4294967295 - j) % 4294967296 = 4294967295 - j by omega]
    by_cases h3 : more > 4294967295 - j
    · rw [if_pos h3]
    rw [if_neg h3]
    rw [show (j + more) % 4294967296 = j + more by omega]
    obtain ⟨e2, _, _, _, _⟩ := pick_is a (j + more) (by omega) (by omega) (by omega) (by omega)
    rw [e2]
    simp only [Option.bind_some, Option.some.injEq, decide_eq_true_eq]
    have hsq : j * j ≤ (j + more) * (j + more) := Int.mul_le_mul (by omega) (by omega) (by omega) (by omega)
    have hd : j * j / 4294967296 ≤ (j + more) * (j + more) / 4294967296 := Int.ediv_le_ediv (by omega) hsq
    have hp : a * (j * j / 4294967296) ≤ a * ((j + more) * (j + more) / 4294967296) := Int.mul_le_mul_of_nonneg_left hd (by omega)
    have := Int.ediv_le_ediv (show (0 : Int) < 4294967296 by omega) hp
    omega
  by_cases h4 : a < 2147483648
  · rw [if_pos h4, ref_is a j (by omega) (by omega) (by omega) (by omega)]
    simp only [Option.bind_some, bne_self_eq_false]
    exact hfin
  · rw [if_neg h4]; exact hfin

end Go.Proofs.Ytjehpceomlnicaa.Pure
