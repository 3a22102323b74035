/-
AddressBlocks: what the mirrors come to, in plain numbers and lists: the law's mirror answers true.
Conditions: none.
-/
import Derived.Test.YtjehpceomlnicaaMirAddressBlocks
set_option linter.unusedVariables false
set_option linter.unusedSimpArgs false
namespace Go.Proofs.Ytjehpceomlnicaa.Eng
/-! ### the plain law -/
/-- Parameters that may be. -/
def Fit (a t m l s : Int) : Prop := (1 ≤ a ∧ a ≤ 3) ∧ (1 ≤ t ∧ t ≤ 4294967295) ∧ (1 ≤ l ∧ l ≤ 16777215) ∧ (1 ≤ m ∧ m ≤ 4294967295) ∧ l ≤ m / 8 ∧ 4 ≤ s ∧ s ≤ 1024
instance (a t m l s : Int) : Decidable (Fit a t m l s) := by unfold Fit; exact inferInstance
theorem p87 {R : Type} (N : Nat) (a b c : Int) (κ) : p_87 (R := R) N ((a, b, c, ()), ()) κ = κ (decide (b ≤ a ∧ a ≤ c)) := by
  unfold p_87
  dsimp only
  by_cases h1 : b ≤ a
  · by_cases h2 : a ≤ c <;> simp [h1, h2]
  · simp [h1]
theorem p88 {R : Type} (N : Nat) (a b : Int) (h1 : 0 ≤ a) (h2 : a ≤ 4611686018427387904) (h3 : 1 ≤ b) (κ) : p_88 (R := R) N ((a, b, ()), ()) κ = κ (a - a % b, (0, ())) := by
  unfold p_88 p_116
  dsimp only
  have e1 : 0 ≤ a % b := Int.emod_nonneg a (by omega)
  have e2 : a % b ≤ a := mod_le h1 (by omega)
  rw [rem64 h1, sub64 (by omega) (by omega)]
  simp [h1, h2, show ¬ b < 1 by omega, show ¬ b = 0 by omega]
theorem p26 {R : Type} (N : Nat) (a t m l s : Int) (κ) : p_26 (R := R) N (((a, (t, (m, (l, (s, ()))))), ()), ()) κ =
    (bif decide (Fit a t m l s) then κ ((a, (t, (l, (m, (4 * l * (m / (4 * l)), (4 * (m / (4 * l)), (m / (4 * l), (s, ())))))))), (0, ())) else κ ((0, (0, (0, (0, (0, (0, (0, (0, ())))))))), (2, ()))) := by
  by_cases h : Fit a t m l s
  · obtain ⟨⟨h1, h2⟩, ⟨h3, h4⟩, ⟨h5, h6⟩, ⟨h7, h8⟩, h9, h10, h11⟩ := id h
    unfold p_26
    dsimp only
    have e1 : quoA .i64 m 8 = m / 8 := quo64 (by omega) (by omega) (by omega)
    have e2 : mulA .i64 4 l = 4 * l := mul64 (by omega) (by omega)
    have e3 : m - m % (4 * l) = 4 * l * (m / (4 * l)) := by have := Int.mul_ediv_add_emod m (4 * l); omega
    have q0 : 0 ≤ m / (4 * l) := Int.ediv_nonneg (by omega) (by omega)
    have q1 : 0 ≤ m % (4 * l) := Int.emod_nonneg _ (by omega)
    have e4 : quoA .i64 (4 * l * (m / (4 * l))) l = 4 * (m / (4 * l)) := by
      rw [quo64 (by rw [← e3]; have := mod_le (b := 4 * l) (show 0 ≤ m by omega) (by omega); omega) (by omega) (by omega)]
      rw [show 4 * l * (m / (4 * l)) = l * (4 * (m / (4 * l))) by rw [Int.mul_comm 4 l, Int.mul_assoc]]
      exact Int.mul_ediv_cancel_left _ (by omega)
    have q2 : m / (4 * l) ≤ m := Int.ediv_le_self _ (by omega)
    have e5 : quoA .i64 (4 * (m / (4 * l))) 4 = m / (4 * l) := by
      rw [quo64 (by omega) (by omega) (by omega)]
      exact Int.mul_ediv_cancel_left _ (by omega)
    simp only [p87, e1, e2]
    rw [p88 N m (4 * l) (by omega) (by omega) (by omega)]
    simp only [e3, e4, e5]
    simp [h, h1, h2, h3, h4, h5, h6, h7, h8, h9, h10, h11, show ¬ l = 0 by omega]
  · rw [dF h]
    unfold p_26
    dsimp only
    simp only [p87, cond_false]
    by_cases g1 : 1 ≤ a ∧ a ≤ 3
    · rw [dT g1]
      by_cases g2 : 1 ≤ t ∧ t ≤ 4294967295
      · rw [dT g2]
        by_cases g3 : 1 ≤ l ∧ l ≤ 16777215
        · rw [dT g3]
          by_cases g4 : 1 ≤ m ∧ m ≤ 4294967295
          · rw [dT g4, quo64 (by omega) (by omega) (by omega)]
            by_cases g5 : m / 8 ≥ l
            · rw [dT g5]
              by_cases g6 : 4 ≤ s ∧ s ≤ 1024
              · exact absurd ⟨g1, g2, g3, g4, g5, g6⟩ h
              · rw [dF g6]; rfl
            · rw [dF g5]; rfl
          · rw [dF g4]; rfl
        · rw [dF g3]; rfl
      · rw [dF g2]; rfl
    · rw [dF g1]; rfl

/-! ### blocks put together -/
def W (x : Int) : Prop := 0 ≤ x ∧ x < 18446744073709551616
theorem W_wrap (x : Int) : W (IntKind.wrap .u64 x) := by rw [wrapU64]; unfold W; omega
theorem W_xor (a b : Int) : W (xorA .u64 a b) := W_wrap _
theorem W_or (a b : Int) : W (orA .u64 a b) := W_wrap _
theorem W_add (a b : Int) : W (addA .u64 a b) := W_wrap _
theorem W_zero : W 0 := by unfold W; omega
theorem xor_comm (a b : Int) : xorA .u64 a b = xorA .u64 b a := by unfold xorA; rw [BitVec.xor_comm]
theorem xor_assoc (a b c : Int) (ha : W a) (hb : W b) (hc : W c) : xorA .u64 (xorA .u64 a b) c = xorA .u64 a (xorA .u64 b c) := by
  have key : ∀ x : BitVec 64, BitVec.ofInt 64 (IntKind.wrap .u64 (x.toNat : Int)) = x := by
    intro x
    rw [wrapU64]
    apply BitVec.eq_of_toNat_eq
    rw [BitVec.toNat_ofInt]
    have := x.isLt
    omega
  unfold xorA
  show IntKind.wrap .u64 (((BitVec.ofInt 64 (IntKind.wrap .u64 ((BitVec.ofInt 64 a ^^^ BitVec.ofInt 64 b).toNat : Int))) ^^^ BitVec.ofInt 64 c).toNat : Int) = IntKind.wrap .u64 ((BitVec.ofInt 64 a ^^^ BitVec.ofInt 64 (IntKind.wrap .u64 ((BitVec.ofInt 64 b ^^^ BitVec.ofInt 64 c).toNat : Int))).toNat : Int)
  rw [key, key, BitVec.xor_assoc]
theorem xor_self (a : Int) : xorA .u64 a a = 0 := by
  unfold xorA
  rw [BitVec.xor_self]
  rfl
theorem zero_xor {a : Int} (h : W a) : xorA .u64 0 a = a := by
  unfold xorA
  rw [wrapU64, BitVec.toNat_xor]
  have q1 : (BitVec.ofInt IntKind.u64.bits a).toNat = a.toNat := by
    show (BitVec.ofInt 64 a).toNat = a.toNat
    rw [BitVec.toNat_ofInt]; have := h.1; have := h.2; omega
  have q2 : (BitVec.ofInt IntKind.u64.bits 0).toNat = 0 := by decide
  rw [q1, q2, Nat.zero_xor]
  have := h.1
  have := h.2
  omega
theorem upd_same {α : Type} (f : Nat → α) (i : Nat) (x : α) : upd f i x i = x := by simp [upd]
theorem upd_other {α : Type} (f : Nat → α) {i j : Nat} (x : α) (h : j ≠ i) : upd f i x j = f j := by
  show (bif Nat.beq j i then x else f j) = f j
  cases hq : Nat.beq j i with
  | false => rfl
  | true => exact absurd (Nat.eq_of_beq_eq_true hq) h
theorem upd_if {α : Type} (f : Nat → α) (i j : Nat) (x : α) : upd f i x j = if j = i then x else f j := by
  by_cases h : j = i
  · subst h; rw [upd_same, if_pos rfl]
  · rw [upd_other f x h, if_neg h]
abbrev Bl := Nat → Int
def nulB : Bl := fun _ => 0
/-- The words from k on, put together. -/
def xorFrom (k : Nat) (o b : Bl) : Bl := fun j => if k ≤ j ∧ j < 128 then xorA .u64 (o j) (b j) else o j
def xorL (l : List Bl) : Bl := l.foldl (xorFrom 0) nulB
theorem l94i {R : Type} (N : Nat) (l : List Bl) (u v : Int) (b z : Bl) (κ) : ∀ (n m k : Nat) (o : Bl), k + m = 128 → m < n →
    l_94_6 (R := R) N n (((), (), l, u, v, b, (k : Int), ()), (z, o, ())) κ = κ (((), (), l, u, v, ()), (z, xorFrom k o b, ()))
  | 0, m, k, o, h1, h2 => by omega
  | n + 1, m, k, o, h1, h2 => by
    unfold l_94_6 B_94_6
    try dsimp only
    by_cases hk : k < 128
    · have e3 : addA .i64 (k : Int) 1 = ((k + 1 : Nat) : Int) := by rw [add64 (by omega) (by omega)]; simp
      rw [bif_t (dT (show (k : Int) < 128 by omega)), bif_t (dT (show (0 : Int) ≤ (k : Int) by omega)), bif_t (dT (show (k : Int) < 128 by omega)), bif_t (dT (show (0 : Int) ≤ (k : Int) by omega)), bif_t (dT (show (k : Int) < 128 by omega)), bif_t (dT (show (0 : Int) ≤ (k : Int) by omega)), bif_t (dT (show (k : Int) < 128 by omega)), e3, Int.toNat_natCast]
      rw [l94i N l u v b z κ n (m - 1) (k + 1) _ (by omega) (by omega)]
      congr 4
      funext j
      unfold xorFrom
      by_cases hj : j = k
      · subst hj; rw [if_neg (by omega), if_pos ⟨by omega, hk⟩, upd_same]
      · rw [upd_other _ _ hj]
        by_cases h3 : k + 1 ≤ j ∧ j < 128
        · rw [if_pos h3, if_pos ⟨by omega, h3.2⟩]
        · rw [if_neg h3, if_neg (by omega)]
    · rw [bif_f (dF (show ¬ (k : Int) < 128 by omega))]
      have e : xorFrom k o b = o := by funext j; unfold xorFrom; rw [if_neg (by omega)]
      rw [e]
theorem l94o {R : Type} (N : Nat) (hN : 1000 < N) (l : List Bl) (hl : l.length ≤ 1000) (z : Bl) (κ) : ∀ (n i : Nat) (o : Bl), i ≤ l.length → l.length - i < n →
    l_94_3 (R := R) N n (((), (), l, (l.length : Int), (i : Int), ()), (z, o, ())) κ = κ (((), (), ()), (z, (l.drop i).foldl (xorFrom 0) o, ()))
  | 0, i, o, h1, h2 => by omega
  | n + 1, i, o, h1, h2 => by
    unfold l_94_3 B_94_3
    try dsimp only
    by_cases hi : i < l.length
    · have hd : l.drop i = l[i] :: l.drop (i + 1) := List.drop_eq_getElem_cons hi
      have hg : List.getD l i (Sch.zero (.arr 128 (.int .u64))) = l[i] := by simp [hi]
      have e3 : addA .i64 (i : Int) 1 = ((i + 1 : Nat) : Int) := by rw [add64 (by omega) (by omega)]; simp
      rw [bif_t (dT (show (i : Int) < (l.length : Int) by omega)), bif_t (dT (show (0 : Int) ≤ (i : Int) by omega)), bif_t (dT (show (i : Int) < (l.length : Int) by omega)), Int.toNat_natCast, hg, hd]
      refine (l94i N l (l.length : Int) (i : Int) l[i] z _ N 128 0 o (by omega) (by omega)).trans ?_
      try dsimp only
      rw [e3]
      exact l94o N hN l hl z κ n (i + 1) _ (by omega) (by omega)
    · rw [bif_f (dF (by omega)), List.drop_eq_nil_of_le (by omega)]
      rfl
theorem p94 {R : Type} (N : Nat) (hN : 1000 < N) (l : List Bl) (hl : l.length ≤ 1000) (κ) : p_94 (R := R) N ((l, ()), ()) κ = κ (xorL l) := by
  unfold p_94
  try dsimp only
  refine (l94o N hN l hl _ _ N 0 _ (by omega) (by omega)).trans ?_
  rfl
def WB (b : Bl) : Prop := ∀ j, j < 128 → W (b j)
def OutB (b : Bl) : Prop := ∀ j, 128 ≤ j → b j = 0
theorem foldl_out : ∀ (l : List Bl) (o : Bl), OutB o → OutB (l.foldl (xorFrom 0) o)
  | [], o, h => h
  | b :: l, o, h => foldl_out l _ fun j hj => by unfold xorFrom; rw [if_neg (by omega)]; exact h j hj
theorem foldl_W : ∀ (l : List Bl) (o : Bl), (∀ j, W (o j)) → ∀ j, W (l.foldl (xorFrom 0) o j)
  | [], o, h => h
  | b :: l, o, h => foldl_W l _ fun j => by unfold xorFrom; split; exact W_xor _ _; exact h j
theorem xorL_W (l : List Bl) (j : Nat) : W (xorL l j) := foldl_W l nulB (fun _ => W_zero) j
theorem xorL_out (l : List Bl) : OutB (xorL l) := foldl_out l nulB (fun _ _ => rfl)
theorem xorL_two (x y : Bl) (j : Nat) : xorL [x, y] j = if j < 128 then xorA .u64 (xorA .u64 0 (x j)) (y j) else 0 := by
  simp only [xorL, List.foldl_cons, List.foldl_nil, xorFrom, nulB]
  by_cases h : j < 128 <;> simp [h]
theorem xorL_one (x : Bl) (h1 : ∀ j, W (x j)) (h2 : OutB x) : xorL [x] = x := by
  funext j
  simp only [xorL, List.foldl_cons, List.foldl_nil, xorFrom, nulB]
  by_cases h : j < 128
  · simp [h, zero_xor (h1 j)]
  · simp [h, h2 j (by omega)]
theorem xorL_comm (x y : Bl) (hx : WB x) (hy : WB y) : xorL [x, y] = xorL [y, x] := by
  funext j
  rw [xorL_two, xorL_two]
  by_cases h : j < 128
  · rw [if_pos h, if_pos h, zero_xor (hx j h), zero_xor (hy j h), xor_comm]
  · rw [if_neg h, if_neg h]
theorem xorL_same (x : Bl) (hx : WB x) : xorL [x, x] = nulB := by
  funext j
  rw [xorL_two]
  by_cases h : j < 128
  · rw [if_pos h, zero_xor (hx j h), xor_self]; rfl
  · rw [if_neg h]; rfl
theorem schEq128 {x y : Bl} (h : ∀ j, j < 128 → x j = y j) : schEq (.arr 128 (.int .u64)) x y = true := by
  show (List.range 128).all (fun i => x i == y i) = true
  rw [List.all_eq_true]
  intro j hj
  rw [List.mem_range] at hj
  rw [h j hj]
  exact beq_self_eq_true _
theorem zero128 : (Sch.zero (.arr 128 (.int .u64)) : Nat → Int) = nulB := rfl

/-! ### four words mixed -/
def prodF (a b : Int) : Int := addA .u64 (addA .u64 a b) (mulA .u64 (mulA .u64 2 (IntKind.wrap .u64 (IntKind.wrap .u32 a))) (IntKind.wrap .u64 (IntKind.wrap .u32 b)))
def rotF (x n : Int) : Int := orA .u64 (shrA .u64 x n) (shlA .u64 x (64 - n))
abbrev Q4 := Int × (Int × (Int × (Int × Unit)))
def qF (a b c d : Int) : Q4 :=
  let a1 := prodF a b
  let d1 := rotF (xorA .u64 d a1) 32
  let c1 := prodF c d1
  let b1 := rotF (xorA .u64 b c1) 24
  let a2 := prodF a1 b1
  let d2 := rotF (xorA .u64 d1 a2) 16
  let c2 := prodF c1 d2
  let b2 := rotF (xorA .u64 b1 c2) 63
  (a2, (b2, (c2, (d2, ()))))
theorem p38 {R : Type} (N : Nat) (a b c d : Int) (κ) : p_38 (R := R) N ((a, b, c, d, ()), ()) κ = κ (qF a b c d) := by kernel_rfl
def stF (v : Bl) (i j k l : Nat) : Bl :=
  let q := qF (v i) (v j) (v k) (v l)
  upd (upd (upd (upd v i q.1) j q.2.1) k q.2.2.1) l q.2.2.2.1
def permF (v : Bl) : Bl := stF (stF (stF (stF (stF (stF (stF (stF v 0 4 8 12) 1 5 9 13) 2 6 10 14) 3 7 11 15) 0 5 10 15) 1 6 11 12) 2 7 8 13) 3 4 9 14
theorem p40 {R : Type} (N : Nat) (hN : N = 1001) (v : Bl) (κ) : p_40 (R := R) N ((v, ()), ()) κ = κ (permF v) := by subst hN; kernel_rfl
theorem qF_W (a b c d : Int) : W (qF a b c d).1 ∧ W (qF a b c d).2.1 ∧ W (qF a b c d).2.2.1 ∧ W (qF a b c d).2.2.2.1 := ⟨W_add _ _, W_or _ _, W_add _ _, W_or _ _⟩
theorem upd_W {v : Bl} (h : ∀ j, W (v j)) (i : Nat) {x : Int} (hx : W x) : ∀ j, W (upd v i x j) := fun j => by rw [upd_if]; split; exact hx; exact h j
theorem stF_W {v : Bl} (h : ∀ j, W (v j)) (i j k l : Nat) : ∀ m, W (stF v i j k l m) := by
  obtain ⟨q1, q2, q3, q4⟩ := qF_W (v i) (v j) (v k) (v l)
  exact upd_W (upd_W (upd_W (upd_W h i q1) j q2) k q3) l q4
theorem permF_W {v : Bl} (h : ∀ j, W (v j)) : ∀ m, W (permF v m) :=
  stF_W (stF_W (stF_W (stF_W (stF_W (stF_W (stF_W (stF_W h _ _ _ _) _ _ _ _) _ _ _ _) _ _ _ _) _ _ _ _) _ _ _ _) _ _ _ _) _ _ _ _

/-! ### rows and columns -/
def gath (at_ b : Bl) : Nat → Nat → Bl → Bl
  | 0, _, v => v
  | n + 1, k, v => gath at_ b n (k + 1) (upd v k (b (at_ k).toNat))
def scat (at_ w : Bl) : Nat → Nat → Bl → Bl
  | 0, _, b => b
  | n + 1, k, b => scat at_ w n (k + 1) (upd b (at_ k).toNat (w k))
def chainA (f : Nat → Int) : Nat → Bl
  | 0 => nulB
  | n + 1 => upd (chainA f n) n (f n)
theorem chainA_get (f : Nat → Int) : ∀ (n k : Nat), k < n → chainA f n k = f k
  | n + 1, k, h => by
    show upd (chainA f n) n (f n) k = f k
    rw [upd_if]
    split
    · subst k; rfl
    · exact chainA_get f n k (by omega)
def atRow (i : Int) : Bl := chainA (fun k => addA .i64 (mulA .i64 16 i) (k : Int)) 16
def atCol (i : Int) : Bl := chainA (fun k => addA .i64 (addA .i64 (mulA .i64 2 i) (remA .i64 (k : Int) 2)) (mulA .i64 16 (quoA .i64 (k : Int) 2))) 16
def at_ (c : Bool) (i : Int) : Bl := bif c then atCol i else atRow i
theorem atRow_get {i : Int} (hi : 0 ≤ i ∧ i < 8) {k : Nat} (hk : k < 16) : atRow i k = 16 * i + k := by
  unfold atRow
  rw [chainA_get _ _ _ hk, mul64 (by omega) (by omega), add64 (by omega) (by omega)]
theorem atCol_get {i : Int} (hi : 0 ≤ i ∧ i < 8) {k : Nat} (hk : k < 16) : atCol i k = 2 * i + ((k % 2 : Nat) : Int) + 16 * ((k / 2 : Nat) : Int) := by
  unfold atCol
  rw [chainA_get _ _ _ hk, mul64 (a := 2) (by omega) (by omega), rem64 (by omega), quo64 (by omega) (by omega) (by omega), add64 (a := 2 * i) (by omega) (by omega), mul64 (a := 16) (by omega) (by omega), add64 (by omega) (by omega)]
  omega
theorem at_in (c : Bool) {i : Int} (hi : 0 ≤ i ∧ i < 8) {k : Nat} (hk : k < 16) : 0 ≤ at_ c i k ∧ at_ c i k < 128 := by
  cases c with
  | false => show 0 ≤ atRow i k ∧ atRow i k < 128; rw [atRow_get hi hk]; omega
  | true => show 0 ≤ atCol i k ∧ atCol i k < 128; rw [atCol_get hi hk]; omega
theorem p95 {R : Type} (N : Nat) (hN : N = 1001) (i : Int) (c : Bool) (κ) : p_95 (R := R) N ((i, c, ()), ()) κ = κ (at_ c i) := by
  subst hN
  cases c with
  | false => kernel_rfl
  | true => kernel_rfl
section
variable {R : Type} (N : Nat)
theorem l44g (b : Bool) (u v w : Int) (at_ : Bl) (hat : ∀ k, k < 16 → 0 ≤ at_ k ∧ at_ k < 128) (a a2 a3 : Bl) (l : List Bool) (κ) : ∀ (n m k : Nat) (o : Bl), k + m = 16 → m < n →
    l_44_10 (R := R) N n (((), (), b, (), (), (), u, v, w, at_, (k : Int), ()), (a, a2, a3, o, l, ())) κ = κ (((), (), b, (), (), (), u, v, w, ()), (a, a2, a3, gath at_ a m k o, l, ()))
  | 0, m, k, o, h1, h2 => by omega
  | n + 1, m, k, o, h1, h2 => by
    unfold l_44_10 B_44_10
    try dsimp only
    cases m with
    | zero => rw [bif_f (dF (show ¬ (k : Int) < 16 by omega))]; rfl
    | succ m =>
      have hk : k < 16 := by omega
      obtain ⟨g1, g2⟩ := hat k hk
      have e3 : addA .i64 (k : Int) 1 = ((k + 1 : Nat) : Int) := by rw [add64 (by omega) (by omega)]; simp
      rw [bif_t (dT (show (k : Int) < 16 by omega)), bif_t (dT (show (0 : Int) ≤ (k : Int) by omega)), bif_t (dT (show (k : Int) < 16 by omega)), Int.toNat_natCast, bif_t (dT g1), bif_t (dT g2), bif_t (dT (show (0 : Int) ≤ (k : Int) by omega)), bif_t (dT (show (k : Int) < 16 by omega)), e3]
      exact l44g b u v w at_ hat a a2 a3 l κ n m (k + 1) _ (by omega) (by omega)
theorem l44s (b : Bool) (u v w : Int) (at_ : Bl) (hat : ∀ k, k < 16 → 0 ≤ at_ k ∧ at_ k < 128) (a2 x : Bl) (l : List Bool) (κ) : ∀ (n m k : Nat) (a : Bl), k + m = 16 → m < n →
    l_44_16 (R := R) N n (((), (), b, (), (), u, v, w, at_, (k : Int), ()), (a, a2, x, l, ())) κ = κ (((), (), b, (), u, v, w, ()), (scat at_ x m k a, a2, l, ()))
  | 0, m, k, a, h1, h2 => by omega
  | n + 1, m, k, a, h1, h2 => by
    unfold l_44_16 B_44_16
    try dsimp only
    cases m with
    | zero => rw [bif_f (dF (show ¬ (k : Int) < 16 by omega))]; rfl
    | succ m =>
      have hk : k < 16 := by omega
      obtain ⟨g1, g2⟩ := hat k hk
      have e3 : addA .i64 (k : Int) 1 = ((k + 1 : Nat) : Int) := by rw [add64 (by omega) (by omega)]; simp
      rw [bif_t (dT (show (k : Int) < 16 by omega)), bif_t (dT (show (0 : Int) ≤ (k : Int) by omega)), bif_t (dT (show (k : Int) < 16 by omega)), Int.toNat_natCast, bif_t (dT (show (0 : Int) ≤ (k : Int) by omega)), bif_t (dT (show (k : Int) < 16 by omega)), bif_t (dT g1), bif_t (dT g2), e3]
      exact l44s b u v w at_ hat a2 x l κ n m (k + 1) _ (by omega) (by omega)
end
def wStep (c : Bool) (i : Int) (a : Bl) : Bl := scat (at_ c i) (permF (gath (at_ c i) a 16 0 nulB)) 16 0 a
def wRun (c : Bool) : Nat → Nat → Bl → Bl
  | 0, _, a => a
  | n + 1, i, a => wRun c n (i + 1) (wStep c (i : Int) a)
def wholeF (a : Bl) : Bl := wRun true 8 0 (wRun false 8 0 a)
theorem l44i {R : Type} (N : Nat) (hN : N = 1001) (c : Bool) (u v : Int) (a2 : Bl) (l : List Bool) (κ) : ∀ (n m i : Nat) (a : Bl), i + m = 8 → m < n →
    l_44_5 (R := R) N n (((), (), c, (), u, v, (i : Int), ()), (a, a2, l, ())) κ = κ (((), (), (), u, v, ()), (wRun c m i a, a2, l, ()))
  | 0, m, i, a, h1, h2 => by omega
  | n + 1, m, i, a, h1, h2 => by
    unfold l_44_5 B_44_5
    try dsimp only
    cases m with
    | zero => rw [bif_f (dF (show ¬ (i : Int) < 8 by omega))]; rfl
    | succ m =>
      have hi : (0 : Int) ≤ (i : Int) ∧ (i : Int) < 8 := by omega
      have e3 : addA .i64 (i : Int) 1 = ((i + 1 : Nat) : Int) := by rw [add64 (by omega) (by omega)]; simp
      rw [bif_t (dT (show (i : Int) < 8 by omega)), p95 N hN]
      refine (l44g N c u v (i : Int) (at_ c i) (fun k hk => at_in c hi hk) a a2 _ l _ N 16 0 _ (by omega) (by omega)).trans ?_
      try dsimp only
      rw [p40 N hN]
      refine (l44s N c u v (i : Int) (at_ c i) (fun k hk => at_in c hi hk) a2 _ l _ N 16 0 a (by omega) (by omega)).trans ?_
      try dsimp only
      rw [e3]
      exact l44i N hN c u v a2 l κ n m (i + 1) _ (by omega) (by omega)
theorem p44 {R : Type} (N : Nat) (hN : N = 1001) (a : Bl) (κ) : p_44 (R := R) N ((a, ()), ()) κ = κ (wholeF a) := by
  unfold p_44
  try dsimp only
  have step : ∀ (n : Nat) (c : Bool) (i : Nat) (a a2 : Bl) (κ), i < 2 → [false, true].getD i false = c →
      l_44_2 (R := R) N (n + 1) (((), (), (), 2, (i : Int), ()), (a, a2, [false, true], ())) κ = l_44_2 N n (((), (), (), 2, ((i + 1 : Nat) : Int), ()), (wRun c 8 0 a, a2, [false, true], ())) κ := by
    intro n c i a a2 κ hi hc
    conv => lhs; unfold l_44_2 B_44_2
    dsimp only [List.length_cons, List.length_nil]
    rw [bif_t (dT (by omega)), bif_t (dT (by omega)), bif_t (dT (by show (i : Int) < ((0 + 1 + 1 : Nat) : Int); omega)), Int.toNat_natCast]
    show l_44_5 N N (((), (), [false, true].getD i false, (), 2, (i : Int), ((0 : Nat) : Int), ()), (a, a2, [false, true], ())) _ = _
    rw [hc]
    refine (l44i N hN c 2 (i : Int) a2 [false, true] _ N 8 0 a (by omega) (by omega)).trans ?_
    try dsimp only
    rw [show addA .i64 (i : Int) 1 = ((i + 1 : Nat) : Int) by rw [add64 (by omega) (by omega)]; simp]
  obtain ⟨n, rfl⟩ : ∃ n, N = n + 3 := ⟨N - 3, by omega⟩
  refine (step (n + 2) false 0 a _ _ (by omega) rfl).trans ?_
  refine (step (n + 1) true 1 _ _ _ (by omega) rfl).trans ?_
  rfl
def mixF (x y : Bl) : Bl := xorL [xorL [x, y], wholeF (xorL [x, y])]
theorem p43 {R : Type} (N : Nat) (hN : N = 1001) (x y : Bl) (κ) : p_43 (R := R) N ((x, y, ()), ()) κ = κ (mixF x y) := by
  unfold p_43
  try dsimp only
  rw [p94 N (by omega) [x, y] (by simp)]
  try dsimp only
  rw [p44 N hN]
  try dsimp only
  rw [p94 N (by omega) _ (by simp)]
  rfl
theorem mixF_W (x y : Bl) (j : Nat) : W (mixF x y j) := xorL_W _ j
theorem mixF_out (x y : Bl) : OutB (mixF x y) := xorL_out _
theorem mixF_comm (x y : Bl) (hx : WB x) (hy : WB y) : mixF x y = mixF y x := by unfold mixF; rw [xorL_comm x y hx hy]
/-- A block without a word mixed with itself. -/
theorem whole_zero : wholeF nulB = nulB := by
  have p0 : prodF 0 0 = 0 := by decide
  have r0 : ∀ n : Int, 0 ≤ n → rotF 0 n = 0 := by
    intro n hn
    unfold rotF
    have e1 : shrA .u64 0 n = 0 := by unfold shrA; simp
    have e2 : shlA .u64 0 (64 - n) = 0 := by unfold shlA; simp; rfl
    rw [e1, e2]; rfl
  have x0 : xorA .u64 0 0 = 0 := by decide
  have q0 : qF 0 0 0 0 = (0, (0, (0, (0, ())))) := by
    unfold qF
    simp only [p0, x0, r0 32 (by omega), r0 24 (by omega), r0 16 (by omega), r0 63 (by omega)]
  have u0 : ∀ i, upd nulB i 0 = nulB := fun i => by funext j; rw [upd_if]; split <;> rfl
  have s0 : ∀ i j k l, stF nulB i j k l = nulB := by
    intro i j k l
    unfold stF
    show (let q := qF 0 0 0 0; upd (upd (upd (upd nulB i q.1) j q.2.1) k q.2.2.1) l q.2.2.2.1) = nulB
    simp only [q0, u0]
  have pm : permF nulB = nulB := by unfold permF; simp only [s0]
  have g0 : ∀ (at_ : Bl) (n k : Nat), gath at_ nulB n k nulB = nulB := by
    intro at_ n
    induction n with
    | zero => intro k; rfl
    | succ n ih => intro k; show gath at_ nulB n (k + 1) (upd nulB k 0) = nulB; rw [u0]; exact ih (k + 1)
  have c0 : ∀ (at_ : Bl) (n k : Nat), scat at_ nulB n k nulB = nulB := by
    intro at_ n
    induction n with
    | zero => intro k; rfl
    | succ n ih => intro k; show scat at_ nulB n (k + 1) (upd nulB _ 0) = nulB; rw [u0]; exact ih (k + 1)
  have w0 : ∀ c i, wStep c i nulB = nulB := fun c i => by unfold wStep; rw [g0, pm, c0]
  have t0 : ∀ (c : Bool) (n i : Nat), wRun c n i nulB = nulB := by
    intro c n
    induction n with
    | zero => intro i; rfl
    | succ n ih => intro i; show wRun c n (i + 1) (wStep c _ nulB) = nulB; rw [w0]; exact ih (i + 1)
  unfold wholeF
  rw [t0, t0]
theorem mixF_same (x : Bl) (hx : WB x) : mixF x x = nulB := by
  unfold mixF
  rw [xorL_same x hx, whole_zero, xorL_same nulB (fun _ _ => W_zero)]

/-! ### the document's -/
def prodR (a b : Int) : Int := addA .u64 (addA .u64 a b) (mulA .u64 (mulA .u64 2 (remA .u64 a 4294967296)) (remA .u64 b 4294967296))
def roundR (x lo hi : Int) : Int := addA .u64 (quoA .u64 x lo) (mulA .u64 (remA .u64 x lo) hi)
theorem prod_eq {a b : Int} (ha : W a) (hb : W b) : prodR a b = prodF a b := by
  unfold prodR prodF remA W at *
  rw [Int.tmod_eq_emod_of_nonneg ha.1, Int.tmod_eq_emod_of_nonneg hb.1, wrapU32, wrapU32, wrapU64 (a % 4294967296), wrapU64 (b % 4294967296), Int.emod_eq_of_lt (by omega) (by omega : a % 4294967296 < 18446744073709551616), Int.emod_eq_of_lt (by omega) (by omega : b % 4294967296 < 18446744073709551616)]
theorem or_disj {a b : Nat} {n : Nat} (ha : a < 2 ^ n) : a ||| (b * 2 ^ n) = b * 2 ^ n + a := by
  rw [Nat.or_comm, Nat.mul_comm b, Nat.two_pow_add_eq_or_of_lt ha]
theorem nat_mod {B : Nat} (h : B < 2 ^ 64) : ((B : Nat) : Int) % 18446744073709551616 = B := by omega
/-- A word turned to the right by n places, n + m = 64. -/
theorem rot_eq {x : Int} (hx : W x) (n m : Nat) (hnm : n + m = 64) (hn : 0 < n) (hm : 0 < m) : roundR x (2 ^ n) (2 ^ m) = rotF x n := by
  obtain ⟨h1, h2⟩ := hx
  obtain ⟨y, rfl⟩ := Int.eq_ofNat_of_zero_le h1
  have hy : y < 2 ^ 64 := by omega
  unfold roundR rotF quoA remA
  have pn : ((2 : Int) ^ n) = ((2 ^ n : Nat) : Int) := by simp
  have pm : ((2 : Int) ^ m) = ((2 ^ m : Nat) : Int) := by simp
  have e64 : 2 ^ n * 2 ^ m = 2 ^ 64 := by rw [← Nat.pow_add, hnm]
  have d1 : y / 2 ^ n < 2 ^ m := by rw [Nat.div_lt_iff_lt_mul (Nat.two_pow_pos n), Nat.mul_comm, e64]; exact hy
  have m1 : y % 2 ^ n < 2 ^ n := Nat.mod_lt _ (Nat.two_pow_pos n)
  have p1 : y % 2 ^ n * 2 ^ m + y / 2 ^ n < 2 ^ 64 := by
    have : (y % 2 ^ n + 1) * 2 ^ m ≤ 2 ^ n * 2 ^ m := Nat.mul_le_mul_right _ m1
    rw [Nat.add_mul, e64] at this
    omega
  have p2 : y % 2 ^ n * 2 ^ m < 2 ^ 64 := Nat.lt_of_le_of_lt (Nat.le_add_right _ _) p1
  have p3 : y / 2 ^ n < 2 ^ 64 := Nat.lt_of_le_of_lt (Nat.le_add_left _ _) p1
  rw [pn, pm, Int.tdiv_eq_ediv_of_nonneg (by omega), Int.tmod_eq_emod_of_nonneg (by omega)]
  have e1 : ((y : Int) / ((2 ^ n : Nat) : Int)) = ((y / 2 ^ n : Nat) : Int) := by simp
  have e2 : ((y : Int) % ((2 ^ n : Nat) : Int)) = ((y % 2 ^ n : Nat) : Int) := by simp
  rw [e1, e2]
  have w1 : IntKind.wrap .u64 ((y / 2 ^ n : Nat) : Int) = ((y / 2 ^ n : Nat) : Int) := by rw [wrapU64, nat_mod p3]
  have q1 : mulA .u64 ((y % 2 ^ n : Nat) : Int) ((2 ^ m : Nat) : Int) = ((y % 2 ^ n * 2 ^ m : Nat) : Int) := by
    unfold mulA
    rw [wrapU64, ← Int.natCast_mul, nat_mod p2]
  rw [w1, q1]
  have l1 : addA .u64 ((y / 2 ^ n : Nat) : Int) ((y % 2 ^ n * 2 ^ m : Nat) : Int) = ((y % 2 ^ n * 2 ^ m + y / 2 ^ n : Nat) : Int) := by
    unfold addA
    rw [wrapU64, ← Int.natCast_add, Nat.add_comm, nat_mod p1]
  rw [l1]
  have s1 : shrA .u64 (y : Int) (n : Int) = ((y / 2 ^ n : Nat) : Int) := by
    rw [shrU64 (by omega) (by omega), pn, e1]
  have s2 : shlA .u64 (y : Int) (64 - (n : Int)) = ((y % 2 ^ n * 2 ^ m : Nat) : Int) := by
    unfold shlA
    have : (64 - (n : Int)).toNat = m := by omega
    rw [this, show min m IntKind.u64.bits = m from Nat.min_eq_left (by show m ≤ 64; omega), pm, wrapU64, ← Int.natCast_mul]
    have : y * 2 ^ m % 2 ^ 64 = y % 2 ^ n * 2 ^ m := by
      rw [← e64, Nat.mul_mod_mul_right]
    rw [← this]
    omega
  rw [s1, s2]
  unfold orA
  rw [wrapU64, BitVec.toNat_or]
  have b1 : (BitVec.ofInt IntKind.u64.bits ((y / 2 ^ n : Nat) : Int)).toNat = y / 2 ^ n := by
    show (BitVec.ofInt 64 _).toNat = _
    rw [BitVec.toNat_ofInt]; show (((y / 2 ^ n : Nat) : Int) % 18446744073709551616).toNat = _; rw [nat_mod p3]; rfl
  have b2 : (BitVec.ofInt IntKind.u64.bits ((y % 2 ^ n * 2 ^ m : Nat) : Int)).toNat = y % 2 ^ n * 2 ^ m := by
    show (BitVec.ofInt 64 _).toNat = _
    rw [BitVec.toNat_ofInt]; show (((y % 2 ^ n * 2 ^ m : Nat) : Int) % 18446744073709551616).toNat = _; rw [nat_mod p2]; rfl
  rw [b1, b2, or_disj d1, nat_mod p1]
theorem W_rot (x n : Int) : W (rotF x n) := W_or _ _
theorem W_prod (a b : Int) : W (prodF a b) := W_add _ _
/-- The array of four words, mixed in place. -/
def qR (q : Bl) : Bl :=
  let q1 := upd q 0 (prodR (q 0) (q 1))
  let q2 := upd q1 3 (roundR (xorA .u64 (q1 3) (q1 0)) 4294967296 4294967296)
  let q3 := upd q2 2 (prodR (q2 2) (q2 3))
  let q4 := upd q3 1 (roundR (xorA .u64 (q3 1) (q3 2)) 16777216 1099511627776)
  let q5 := upd q4 0 (prodR (q4 0) (q4 1))
  let q6 := upd q5 3 (roundR (xorA .u64 (q5 3) (q5 0)) 65536 281474976710656)
  let q7 := upd q6 2 (prodR (q6 2) (q6 3))
  upd q7 1 (roundR (xorA .u64 (q7 1) (q7 2)) 9223372036854775808 2)
theorem p39 {R : Type} (N : Nat) (hN : N = 1001) (q : Bl) (κ) : p_39 (R := R) N ((q, ()), ()) κ = κ (qR q) := by subst hN; kernel_rfl
theorem qR_eq (q : Bl) (h0 : W (q 0)) (h1 : W (q 1)) (h2 : W (q 2)) (h3 : W (q 3)) :
    qR q 0 = (qF (q 0) (q 1) (q 2) (q 3)).1 ∧ qR q 1 = (qF (q 0) (q 1) (q 2) (q 3)).2.1 ∧ qR q 2 = (qF (q 0) (q 1) (q 2) (q 3)).2.2.1 ∧ qR q 3 = (qF (q 0) (q 1) (q 2) (q 3)).2.2.2.1 := by
  have r1 : ∀ {x}, W x → roundR x 4294967296 4294967296 = rotF x 32 := fun h => rot_eq h 32 32 rfl (by omega) (by omega)
  have r2 : ∀ {x}, W x → roundR x 16777216 1099511627776 = rotF x 24 := fun h => rot_eq h 24 40 rfl (by omega) (by omega)
  have r3 : ∀ {x}, W x → roundR x 65536 281474976710656 = rotF x 16 := fun h => rot_eq h 16 48 rfl (by omega) (by omega)
  have r4 : ∀ {x}, W x → roundR x 9223372036854775808 2 = rotF x 63 := fun h => rot_eq h 63 1 rfl (by omega) (by omega)
  unfold qR qF
  simp only [upd_if]
  simp only [reduceIte, show ¬ (1 : Nat) = 0 by omega, show ¬ (2 : Nat) = 0 by omega, show ¬ (3 : Nat) = 0 by omega, show ¬ (0 : Nat) = 1 by omega, show ¬ (2 : Nat) = 1 by omega, show ¬ (3 : Nat) = 1 by omega, show ¬ (0 : Nat) = 2 by omega, show ¬ (1 : Nat) = 2 by omega, show ¬ (3 : Nat) = 2 by omega, show ¬ (0 : Nat) = 3 by omega, show ¬ (1 : Nat) = 3 by omega, show ¬ (2 : Nat) = 3 by omega, if_false]
  simp only [r1 (W_xor _ _), r2 (W_xor _ _), r3 (W_xor _ _), r4 (W_xor _ _), prod_eq h0 h1, prod_eq h2 (W_rot _ _), prod_eq (W_prod _ _) (W_rot _ _), and_self]
def stR (v : Bl) (i j k l : Nat) : Bl :=
  let q := qR (upd (upd (upd (upd nulB 0 (v i)) 1 (v j)) 2 (v k)) 3 (v l))
  upd (upd (upd (upd v i (q 0)) j (q 1)) k (q 2)) l (q 3)
def permR (v : Bl) : Bl := stR (stR (stR (stR (stR (stR (stR (stR v 0 4 8 12) 1 5 9 13) 2 6 10 14) 3 7 11 15) 0 5 10 15) 1 6 11 12) 2 7 8 13) 3 4 9 14
theorem p41 {R : Type} (N : Nat) (hN : N = 1001) (v : Bl) (κ) : p_41 (R := R) N ((v, ()), ()) κ = κ (permR v) := by subst hN; kernel_rfl
theorem stR_eq {v : Bl} (h : ∀ j, W (v j)) (i j k l : Nat) : stR v i j k l = stF v i j k l := by
  unfold stR stF
  generalize hq : upd (upd (upd (upd nulB 0 (v i)) 1 (v j)) 2 (v k)) 3 (v l) = q
  have e0 : q 0 = v i := by subst hq; simp [upd_if]
  have e1 : q 1 = v j := by subst hq; simp [upd_if]
  have e2 : q 2 = v k := by subst hq; simp [upd_if]
  have e3 : q 3 = v l := by subst hq; simp [upd_if]
  obtain ⟨g0, g1, g2, g3⟩ := qR_eq q (e0 ▸ h i) (e1 ▸ h j) (e2 ▸ h k) (e3 ▸ h l)
  rw [e0, e1, e2, e3] at g0 g1 g2 g3
  simp only [g0, g1, g2, g3]
theorem permR_eq {v : Bl} (h : ∀ j, W (v j)) : permR v = permF v := by
  unfold permR permF
  have h1 := stF_W h 0 4 8 12
  have h2 := stF_W h1 1 5 9 13
  have h3 := stF_W h2 2 6 10 14
  have h4 := stF_W h3 3 7 11 15
  have h5 := stF_W h4 0 5 10 15
  have h6 := stF_W h5 1 6 11 12
  have h7 := stF_W h6 2 7 8 13
  rw [stR_eq h, stR_eq h1, stR_eq h2, stR_eq h3, stR_eq h4, stR_eq h5, stR_eq h6, stR_eq h7]
theorem W_ext {v : Bl} (h : ∀ j, j < 16 → W (v j)) : ∀ j, W ((fun j => if j < 16 then v j else 0) j) := fun j => by
  show W (if j < 16 then v j else 0)
  split
  · exact h j (by omega)
  · exact W_zero

/-! ### the document's blocks -/
theorem foldl_at (j : Nat) (hj : j < 128) : ∀ (l : List Bl) (o : Bl), l.foldl (xorFrom 0) o j = l.foldl (fun a b => xorA .u64 a (b j)) (o j)
  | [], o => rfl
  | b :: l, o => by
    show l.foldl (xorFrom 0) (xorFrom 0 o b) j = l.foldl _ (xorA .u64 (o j) (b j))
    rw [foldl_at j hj l]
    congr 1
    unfold xorFrom
    rw [if_pos ⟨Nat.zero_le _, hj⟩]
theorem l47i {R : Type} (N : Nat) (l : List Bl) (hl : l.length ≤ 1000) (w : Nat) (hw : w < 128) (z : Bl) (κ) : ∀ (n i : Nat) (o : Bl), i ≤ l.length → l.length - i < n →
    l_47_6 (R := R) N n ((l, (), (), (w : Int), (i : Int), ()), (z, o, ())) κ = κ ((l, (), (), (w : Int), ()), (z, upd o w ((l.drop i).foldl (fun a b => xorA .u64 a (b w)) (o w)), ()))
  | 0, i, o, h1, h2 => by omega
  | n + 1, i, o, h1, h2 => by
    unfold l_47_6 B_47_6
    try dsimp only
    by_cases hi : i < l.length
    · have hd : l.drop i = l[i] :: l.drop (i + 1) := List.drop_eq_getElem_cons hi
      have hg : List.getD l i (Sch.zero (.arr 128 (.int .u64))) = l[i] := by simp [hi]
      have e3 : addA .i64 (i : Int) 1 = ((i + 1 : Nat) : Int) := by rw [add64 (by omega) (by omega)]; simp
      have w1 : decide ((0 : Int) ≤ (w : Int)) = true := dT (by omega)
      have w2 : decide ((w : Int) < 128) = true := dT (by omega)
      rw [bif_t (dT (show (i : Int) < (l.length : Int) by omega)), bif_t w1, bif_t w2, bif_t (dT (show (0 : Int) ≤ (i : Int) by omega)), bif_t (dT (show (i : Int) < (l.length : Int) by omega)), bif_t w1, bif_t w2, bif_t w1, bif_t w2, Int.toNat_natCast, Int.toNat_natCast, hg, hd, e3]
      refine (l47i N l hl w hw z κ n (i + 1) _ (by omega) (by omega)).trans ?_
      have uu : ∀ (p q : Int), upd (upd o w p) w q = upd o w q := by
        intro p q
        funext j
        by_cases hj : j = w
        · subst hj; rw [upd_same, upd_same]
        · rw [upd_other _ _ hj, upd_other _ _ hj, upd_other _ _ hj]
      rw [upd_same, uu]
      rfl
    · rw [bif_f (dF (by omega)), List.drop_eq_nil_of_le (by omega)]
      have e : upd o w ((([] : List Bl)).foldl (fun a b => xorA .u64 a (b w)) (o w)) = o := by
        funext j; rw [upd_if]; split
        · subst j; rfl
        · rfl
      rw [e]
theorem l47o {R : Type} (N : Nat) (hN : 1001 ≤ N) (l : List Bl) (hl : l.length ≤ 1000) (z : Bl) (κ) : ∀ (n m w : Nat) (o : Bl), w + m = 128 → m < n →
    l_47_3 (R := R) N n ((l, (), (), (w : Int), ()), (z, o, ())) κ = κ (((), (), ()), (z, (fun j => if w ≤ j ∧ j < 128 then l.foldl (fun a b => xorA .u64 a (b j)) (o j) else o j), ()))
  | 0, m, w, o, h1, h2 => by omega
  | n + 1, m, w, o, h1, h2 => by
    unfold l_47_3 B_47_3
    try dsimp only
    by_cases hw : w < 128
    · have e3 : addA .i64 (w : Int) 1 = ((w + 1 : Nat) : Int) := by rw [add64 (by omega) (by omega)]; simp
      rw [bif_t (dT (show (w : Int) < 128 by omega))]
      refine (l47i N l hl w hw z _ N 0 o (by omega) (by omega)).trans ?_
      try dsimp only
      rw [e3, l47o N hN l hl z κ n (m - 1) (w + 1) _ (by omega) (by omega), List.drop_zero]
      congr 4
      funext j
      rw [upd_if]
      by_cases hj : j = w
      · subst hj; rw [if_neg (by omega), if_pos rfl, if_pos ⟨by omega, hw⟩]
      · rw [if_neg hj]
        by_cases h3 : w + 1 ≤ j ∧ j < 128
        · rw [if_pos h3, if_pos ⟨by omega, h3.2⟩]
        · rw [if_neg h3, if_neg (by omega)]
    · rw [bif_f (dF (show ¬ (w : Int) < 128 by omega))]
      congr 4
      funext j
      rw [if_neg (by omega)]
theorem p47 {R : Type} (N : Nat) (hN : 1001 ≤ N) (l : List Bl) (hl : l.length ≤ 1000) (κ) : p_47 (R := R) N ((l, ()), ()) κ = κ (xorL l) := by
  unfold p_47
  try dsimp only
  refine (l47o N hN l hl _ _ N 128 0 _ (by omega) (by omega)).trans ?_
  try dsimp only
  congr 1
  funext j
  by_cases hj : j < 128
  · rw [if_pos ⟨by omega, hj⟩]
    unfold xorL
    rw [foldl_at j hj]
    rfl
  · rw [if_neg (by omega), xorL_out l j (by omega)]
    rfl
def tI (c : Bool) : Int := bif c then 1 else 0
section
variable {R : Type} (N : Nat)
theorem idx_row (c : Bool) {i : Int} (hi : 0 ≤ i ∧ i < 8) {k : Nat} (hk : k < 16) :
    (c = true → addA .i64 (addA .i64 (mulA .i64 16 (quoA .i64 (k : Int) 2)) (mulA .i64 2 i)) (remA .i64 (k : Int) 2) = at_ c i k) ∧
    (c = false → addA .i64 (addA .i64 (mulA .i64 16 i) (mulA .i64 2 (quoA .i64 (k : Int) 2))) (remA .i64 (k : Int) 2) = at_ c i k) := by
  rw [quo64 (by omega) (by omega) (by omega), rem64 (by omega), mul64 (a := 16) (by omega) (by omega), mul64 (a := 2) (by omega) (by omega), mul64 (a := 16) (b := i) (by omega) (by omega), mul64 (a := 2) (by omega) (by omega), add64 (a := 16 * ((k : Int) / 2)) (by omega) (by omega), add64 (a := 16 * i) (by omega) (by omega), add64 (by omega) (by omega), add64 (by omega) (by omega)]
  constructor
  · rintro rfl
    show _ = atCol i k
    rw [atCol_get hi hk]
    omega
  · rintro rfl
    show _ = atRow i k
    rw [atRow_get hi hk]
    omega
theorem l45g (c : Bool) (i : Int) (hi : 0 ≤ i ∧ i < 8) (a a2 : Bl) (κ) : ∀ (n m k : Nat) (o : Bl), k + m = 16 → m < n →
    l_45_9 (R := R) N n (((), (), tI c, i, (), (k : Int), ()), (a, a2, o, ())) κ = κ (((), (), tI c, i, (), ()), (a, a2, gath (at_ c i) a m k o, ()))
  | 0, m, k, o, h1, h2 => by omega
  | n + 1, m, k, o, h1, h2 => by
    unfold l_45_9 B_45_9
    try dsimp only
    cases m with
    | zero => rw [bif_f (dF (show ¬ (k : Int) < 16 by omega))]; rfl
    | succ m =>
      have hk : k < 16 := by omega
      obtain ⟨x1, x2⟩ := idx_row c hi hk
      obtain ⟨g1, g2⟩ := at_in c hi hk
      have e3 : addA .i64 (k : Int) 1 = ((k + 1 : Nat) : Int) := by rw [add64 (by omega) (by omega)]; simp
      rw [bif_t (dT (show (k : Int) < 16 by omega)), e3, Int.toNat_natCast]
      cases c with
      | true =>
        rw [bif_t (show (tI true == 1) = true from rfl), x1 rfl, bif_t (dT g1), bif_t (dT g2), bif_t (dT (show (0 : Int) ≤ (k : Int) by omega)), bif_t (dT (show (k : Int) < 16 by omega))]
        exact l45g true i hi a a2 κ n m (k + 1) _ (by omega) (by omega)
      | false =>
        rw [bif_f (show (tI false == 1) = false from rfl), x2 rfl, bif_t (dT g1), bif_t (dT g2), bif_t (dT (show (0 : Int) ≤ (k : Int) by omega)), bif_t (dT (show (k : Int) < 16 by omega))]
        exact l45g false i hi a a2 κ n m (k + 1) _ (by omega) (by omega)
theorem l45s (c : Bool) (i : Int) (hi : 0 ≤ i ∧ i < 8) (a2 x : Bl) (κ) : ∀ (n m k : Nat) (a : Bl), k + m = 16 → m < n →
    l_45_19 (R := R) N n (((), (), tI c, i, (), (k : Int), ()), (a, a2, x, ())) κ = κ (((), (), tI c, i, ()), (scat (at_ c i) x m k a, a2, ()))
  | 0, m, k, a, h1, h2 => by omega
  | n + 1, m, k, a, h1, h2 => by
    unfold l_45_19 B_45_19
    try dsimp only
    cases m with
    | zero => rw [bif_f (dF (show ¬ (k : Int) < 16 by omega))]; rfl
    | succ m =>
      have hk : k < 16 := by omega
      obtain ⟨x1, x2⟩ := idx_row c hi hk
      obtain ⟨g1, g2⟩ := at_in c hi hk
      have e3 : addA .i64 (k : Int) 1 = ((k + 1 : Nat) : Int) := by rw [add64 (by omega) (by omega)]; simp
      rw [bif_t (dT (show (k : Int) < 16 by omega)), e3, Int.toNat_natCast]
      cases c with
      | true =>
        rw [bif_t (show (tI true == 1) = true from rfl), x1 rfl, bif_t (dT (show (0 : Int) ≤ (k : Int) by omega)), bif_t (dT (show (k : Int) < 16 by omega)), bif_t (dT g1), bif_t (dT g2)]
        exact l45s true i hi a2 x κ n m (k + 1) _ (by omega) (by omega)
      | false =>
        rw [bif_f (show (tI false == 1) = false from rfl), x2 rfl, bif_t (dT (show (0 : Int) ≤ (k : Int) by omega)), bif_t (dT (show (k : Int) < 16 by omega)), bif_t (dT g1), bif_t (dT g2)]
        exact l45s false i hi a2 x κ n m (k + 1) _ (by omega) (by omega)
end
theorem gath_W {c : Bool} {i : Int} (hi : 0 ≤ i ∧ i < 8) {a : Bl} (ha : WB a) : ∀ (n k : Nat) (v : Bl), k + n = 16 → (∀ j, W (v j)) → ∀ j, W (gath (at_ c i) a n k v j)
  | 0, k, v, h, hv => hv
  | n + 1, k, v, h, hv => by
    obtain ⟨g1, g2⟩ := at_in c hi (show k < 16 by omega)
    exact gath_W hi ha n (k + 1) _ (by omega) (upd_W hv k (ha _ (by omega)))
theorem scat_W {at_ w : Bl} (hw : ∀ j, W (w j)) : ∀ (n k : Nat) (a : Bl), WB a → WB (scat at_ w n k a)
  | 0, k, a, h => h
  | n + 1, k, a, h => scat_W hw n (k + 1) _ fun j hj => by
    rw [upd_if]; split
    · exact hw k
    · exact h j hj
theorem wStep_W {c : Bool} {i : Int} (hi : 0 ≤ i ∧ i < 8) {a : Bl} (ha : WB a) : WB (wStep c i a) := scat_W (permF_W (gath_W hi ha 16 0 nulB rfl (fun _ => W_zero))) 16 0 a ha
theorem wRun_W (c : Bool) : ∀ (n i : Nat) (a : Bl), i + n = 8 → WB a → WB (wRun c n i a)
  | 0, i, a, h, ha => ha
  | n + 1, i, a, h, ha => wRun_W c n (i + 1) _ (by omega) (wStep_W (by omega) ha)
theorem l45i {R : Type} (N : Nat) (hN : N = 1001) (c : Bool) (a2 : Bl) (κ) : ∀ (n m i : Nat) (a : Bl), i + m = 8 → m < n → WB a →
    l_45_5 (R := R) N n (((), (), tI c, (i : Int), ()), (a, a2, ())) κ = κ (((), (), tI c, ()), (wRun c m i a, a2, ()))
  | 0, m, i, a, h1, h2, ha => by omega
  | n + 1, m, i, a, h1, h2, ha => by
    unfold l_45_5 B_45_5
    try dsimp only
    cases m with
    | zero => rw [bif_f (dF (show ¬ (i : Int) < 8 by omega))]; rfl
    | succ m =>
      have hi : (0 : Int) ≤ (i : Int) ∧ (i : Int) < 8 := by omega
      have e3 : addA .i64 (i : Int) 1 = ((i + 1 : Nat) : Int) := by rw [add64 (by omega) (by omega)]; simp
      rw [bif_t (dT (show (i : Int) < 8 by omega))]
      refine (l45g N c (i : Int) hi a a2 _ N 16 0 _ (by omega) (by omega)).trans ?_
      try dsimp only
      rw [p41 N hN]
      refine (l45s N c (i : Int) hi a2 _ _ N 16 0 a (by omega) (by omega)).trans ?_
      try dsimp only
      rw [e3]
      have hp : permR (gath (at_ c (i : Int)) a 16 0 (Sch.zero (.arr 16 (.int .u64)))) = permF (gath (at_ c (i : Int)) a 16 0 nulB) := permR_eq (gath_W hi ha 16 0 nulB rfl (fun _ => W_zero))
      rw [hp]
      exact l45i N hN c a2 κ n m (i + 1) _ (by omega) (by omega) (wStep_W hi ha)
theorem p45 {R : Type} (N : Nat) (hN : N = 1001) (a : Bl) (ha : WB a) (κ) : p_45 (R := R) N ((a, ()), ()) κ = κ (wholeF a) := by
  unfold p_45
  try dsimp only
  have step : ∀ (n : Nat) (c : Bool) (a a2 : Bl) (κ), WB a → l_45_2 (R := R) N (n + 1) (((), (), tI c, ()), (a, a2, ())) κ = l_45_2 N n (((), (), addA .i64 (tI c) 1, ()), (wRun c 8 0 a, a2, ())) κ := by
    intro n c a a2 κ ha
    conv => lhs; unfold l_45_2 B_45_2
    try dsimp only
    rw [bif_t (show decide (tI c < 2) = true by cases c <;> rfl)]
    exact (l45i N hN c a2 _ N 8 0 a (by omega) (by omega) ha).trans rfl
  obtain ⟨n, rfl⟩ : ∃ n, N = n + 3 := ⟨N - 3, by omega⟩
  refine (step (n + 2) false a _ _ ha).trans ?_
  refine (step (n + 1) true _ _ _ (wRun_W false 8 0 a rfl ha)).trans ?_
  rfl
theorem p42 {R : Type} (N : Nat) (hN : N = 1001) (x y : Bl) (κ) : p_42 (R := R) N ((x, y, ()), ()) κ = κ (mixF x y) := by
  unfold p_42
  try dsimp only
  rw [p47 N (by omega) [x, y] (by simp)]
  try dsimp only
  rw [p45 N hN _ (fun j _ => xorL_W _ j)]
  try dsimp only
  rw [p47 N (by omega) _ (by simp)]
  rfl

/-! ### addresses -/
theorem p49 {R : Type} (N : Nat) (s0 t s2 s3 s4 s5 s6 s7 a b : Int) (ht : 1 ≤ t ∧ t ≤ 4294967295) (κ) : p_49 (R := R) N (((s0, (t, (s2, (s3, (s4, (s5, (s6, (s7, ())))))))), (a, (b, ())), ()), ()) κ = κ (decide ((0 ≤ a ∧ a ≤ t - 1) ∧ 0 ≤ b ∧ b ≤ 3)) := by
  unfold p_49
  try dsimp only
  rw [sub64 (by omega) (by omega), p87]
  by_cases h1 : 0 ≤ a ∧ a ≤ t - 1
  · rw [dT h1, bif_t rfl, p87]
    by_cases h2 : 0 ≤ b ∧ b ≤ 3
    · rw [dT h2, dT ⟨h1, h2⟩]
    · rw [dF h2, dF (fun h => h2 h.2)]
  · rw [dF h1, bif_f rfl, dF (fun h => h1 h.1)]
theorem p69 {R : Type} (N : Nat) (hN : N = 1001) (κ) : p_69 (R := R) N ((), ()) κ = κ true := by subst hN; kernel_rfl
abbrev Sh8 := Int × (Int × (Int × (Int × (Int × (Int × (Int × (Int × Unit)))))))
def seedF (alg passes blocks pass slice lane counter : Int) : Bl :=
  upd (upd (upd (upd (upd (upd (upd nulB 0 (IntKind.wrap .u64 pass)) 1 (IntKind.wrap .u64 lane)) 2 (IntKind.wrap .u64 slice)) 3 (IntKind.wrap .u64 blocks)) 4 (IntKind.wrap .u64 passes)) 5 (IntKind.wrap .u64 (subA .i64 alg 1))) 6 (IntKind.wrap .u64 counter)
theorem p70 {R : Type} (N : Nat) (hN : N = 1001) (alg t L m b c q z pass slice lane counter : Int) (κ) :
    p_70 (R := R) N (((alg, (t, (L, (m, (b, (c, (q, (z, ())))))))), (pass, (slice, ())), lane, counter, ()), ()) κ = κ (seedF alg t b pass slice lane counter) := by subst hN; kernel_rfl
/-- The counter-th block of addresses. -/
def addrF (alg passes blocks pass slice lane counter : Int) : Bl := mixF nulB (mixF nulB (seedF alg passes blocks pass slice lane counter))
theorem p71 {R : Type} (N : Nat) (hN : N = 1001) (alg t L m b c q z pass slice lane counter : Int) (κ) :
    p_71 (R := R) N (((alg, (t, (L, (m, (b, (c, (q, (z, ())))))))), (pass, (slice, ())), lane, counter, ()), ()) κ = κ (addrF alg t b pass slice lane counter) := by
  unfold p_71
  try dsimp only
  rw [p70 N hN]
  try dsimp only
  rw [p43 N hN]
  try dsimp only
  rw [p43 N hN]
  rfl
theorem p72 {R : Type} (N : Nat) (hN : N = 1001) (alg t L m b c q z pass slice lane counter : Int) (κ) :
    p_72 (R := R) N (((alg, (t, (L, (m, (b, (c, (q, (z, ())))))))), pass, slice, lane, counter, ()), ()) κ = κ (addrF alg t b pass slice lane counter) := by
  unfold p_72
  try dsimp only
  rw [p42 N hN]
  try dsimp only
  rw [p42 N hN]
  rfl
theorem addrF_W (alg passes blocks pass slice lane counter : Int) (j : Nat) : W (addrF alg passes blocks pass slice lane counter j) := mixF_W _ _ j
theorem p73 {R : Type} (N : Nat) (s : Sh8) (pass slice : Int) (κ : Bool → Option R) : p_73 (R := R) N ((s, (pass, (slice, ())), ()), ()) κ = p_74 N ((s, pass, slice, ()), ()) κ := by
  unfold p_73 p_74
  try dsimp only
  by_cases h2 : s.1 = 2
  · have h3 : ¬ s.1 = 3 := by omega
    rw [bif_t (beq_iff_eq.2 h2), bif_f (beq_eq_false_iff_ne.2 h3), beq_iff_eq.2 h2]
  · rw [bif_f (beq_eq_false_iff_ne.2 h2)]
    by_cases h3 : s.1 = 3
    · rw [bif_t (beq_iff_eq.2 h3), bif_t (beq_iff_eq.2 h3)]
    · rw [bif_f (beq_eq_false_iff_ne.2 h3), bif_f (beq_eq_false_iff_ne.2 h3), beq_eq_false_iff_ne.2 h2]
/-- Free's answer. -/
def freeF (s : Sh8) (pass slice : Int) : Bool := if s.1 = 3 then (if pass = 0 then decide (slice < 2) else false) else s.1 == 2
theorem p74 {R : Type} (N : Nat) (s : Sh8) (pass slice : Int) (κ : Bool → Option R) : p_74 N ((s, pass, slice, ()), ()) κ = κ (freeF s pass slice) := by
  unfold p_74 freeF
  try dsimp only
  by_cases h3 : s.1 = 3
  · rw [bif_t (beq_iff_eq.2 h3), if_pos h3]
    by_cases h4 : pass = 0
    · rw [bif_t (beq_iff_eq.2 h4), if_pos h4]
    · rw [bif_f (beq_eq_false_iff_ne.2 h4), if_neg h4]
  · rw [bif_f (beq_eq_false_iff_ne.2 h3), if_neg h3]
theorem p16 (N : Nat) (hN : N = 1001) (a t m l s pass slice lane counter : Int) (κ) : p_16 (R := AV) N (((a, (t, (m, (l, (s, ()))))), (pass, (slice, ())), lane, counter, ()), ()) κ = κ (true, ()) := by
  unfold p_16
  try dsimp only
  rw [p69 N hN]
  simp only [Bool.not_true, cond_false]
  rw [p26]
  by_cases h : Fit a t m l s
  · rw [dT h]
    obtain ⟨⟨h1, h2⟩, ⟨h3, h4⟩, ⟨h5, h6⟩, ⟨h7, h8⟩, h9, h10, h11⟩ := h
    simp only [cond_true, bne_self_eq_false, cond_false]
    rw [p49 N _ _ _ _ _ _ _ _ _ _ ⟨h3, h4⟩]
    by_cases g1 : (0 ≤ pass ∧ pass ≤ t - 1) ∧ 0 ≤ slice ∧ slice ≤ 3
    · rw [dT g1]
      simp only [Bool.not_true, cond_false]
      by_cases g2 : lane < 0
      · rw [bif_t (dT g2)]
      rw [bif_f (dF g2)]
      by_cases g3 : lane ≥ l
      · rw [bif_t (dT g3)]
      rw [bif_f (dF g3), p70 N hN]
      try dsimp only
      show (bif !(schEq (.arr 128 (.int .u64)) (seedF a t (4 * l * (m / (4 * l))) pass slice lane counter) (seedF a t (4 * l * (m / (4 * l))) pass slice lane counter)) then _ else _) = _
      rw [schEq128 (fun _ _ => rfl)]
      simp only [Bool.not_true, cond_false]
      rw [p71 N hN]
      try dsimp only
      rw [p72 N hN]
      try dsimp only
      rw [schEq128 (fun _ _ => rfl), bif_t rfl, p73, p74]
      try dsimp only
      rw [p74, beq_self_eq_true]
    · rw [dF g1]
      rfl
  · rw [dF h]
    rfl
theorem law_all (y0 : Sch.den (.stru (.fcons (.int .i64) (.fcons (.int .i64) (.fcons (.int .i64) (.fcons (.int .i64) (.fcons (.int .i64) .fnil))))))) {P0 : Prop} (wf0 : P0) (y1 : Sch.den (.stru (.fcons (.int .i64) (.fcons (.int .i64) .fnil)))) {P1 : Prop} (wf1 : P1) (y2 : Int) {P2 : Prop} (wf2 : P2) (y3 : Int) {P3 : Prop} (wf3 : P3) :
    ∃ H', ACalls Try.prog 16 [toAV (.stru (.fcons (.int .i64) (.fcons (.int .i64) (.fcons (.int .i64) (.fcons (.int .i64) (.fcons (.int .i64) .fnil)))))) y0, toAV (.stru (.fcons (.int .i64) (.fcons (.int .i64) .fnil))) y1, toAV (.int .i64) y2, toAV (.int .i64) y3] [] (.bool true) H' :=
  gd_law (good_16 1001) (x := (y0, y1, y2, y3, ())) (by
    obtain ⟨a, t, m, l, s, u⟩ := y0
    obtain ⟨p, i, v⟩ := y1
    exact p16 1001 rfl a t m l s p i y2 y3 _)
end Go.Proofs.Ytjehpceomlnicaa.Eng
