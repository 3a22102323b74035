/-
LaneEnds: what the mirrors come to, in plain numbers and lists: the law's mirror answers true.
Conditions: none.
-/
import Derived.Test.YtfcloeflcpcheaaMirLaneEnds
set_option linter.unusedVariables false
set_option linter.unusedSimpArgs false
namespace Go.Proofs.Ytfcloeflcpcheaa.Eng
/-- Parameters that may be. -/
def Fit (a t m l s : Int) : Prop := (1 ≤ a ∧ a ≤ 3) ∧ (1 ≤ t ∧ t ≤ 4294967295) ∧ (1 ≤ l ∧ l ≤ 16777215) ∧ (1 ≤ m ∧ m ≤ 4294967295) ∧ l ≤ m / 8 ∧ 4 ≤ s ∧ s ≤ 1024
instance (a t m l s : Int) : Decidable (Fit a t m l s) := by unfold Fit; exact inferInstance
theorem p63 {R : Type} (N : Nat) (a b c : Int) (κ) : p_63 (R := R) N ((a, b, c, ()), ()) κ = κ (decide (b ≤ a ∧ a ≤ c)) := by
  unfold p_63 Q_63
  dsimp only
  by_cases h1 : b ≤ a
  · by_cases h2 : a ≤ c <;> simp [h1, h2]
  · simp [h1]
theorem p76 {R : Type} (N : Nat) (a b : Int) (h1 : 0 ≤ a) (h2 : a ≤ 4611686018427387904) (h3 : 1 ≤ b) (κ) : p_76 (R := R) N ((a, b, ()), ()) κ = κ (a - a % b, (0, ())) := by
  unfold p_76 Q_76 p_88 Q_88
  dsimp only
  have e1 : 0 ≤ a % b := Int.emod_nonneg a (by omega)
  have e2 : a % b ≤ a := mod_le h1 (by omega)
  rw [rem64 h1, sub64 (by omega) (by omega)]
  simp [h1, h2, show ¬ b < 1 by omega, show ¬ b = 0 by omega]
theorem p42 {R : Type} (N : Nat) (a t m l s : Int) (κ) : p_42 (R := R) N (((a, (t, (m, (l, (s, ()))))), ()), ()) κ =
    (bif decide (Fit a t m l s) then κ ((a, (t, (l, (m, (4 * l * (m / (4 * l)), (4 * (m / (4 * l)), (m / (4 * l), (s, ())))))))), (0, ())) else κ ((0, (0, (0, (0, (0, (0, (0, (0, ())))))))), (2, ()))) := by
  by_cases h : Fit a t m l s
  · obtain ⟨⟨h1, h2⟩, ⟨h3, h4⟩, ⟨h5, h6⟩, ⟨h7, h8⟩, h9, h10, h11⟩ := id h
    unfold p_42 Q_42
    dsimp only
    have e1 : quoA .i64 m 8 = m / 8 := quo64 (by omega) (by omega) (by omega)
    have e2 : mulA .i64 4 l = 4 * l := mul64 (by omega) (by omega)
    have e3 : m - m % (4 * l) = 4 * l * (m / (4 * l)) := by have := Int.mul_ediv_add_emod m (4 * l); omega
    have q0 : 0 ≤ m / (4 * l) := Int.ediv_nonneg (by omega) (by omega)
    have q1 : 0 ≤ m % (4 * l) := Int.emod_nonneg _ (by omega)
    have e4 : quoA .i64 (4 * l * (m / (4 * l))) l = 4 * (m / (4 * l)) := by
      rw [quo64 (by rw [← e3]; have := mod_le (b := 4 * l) (show 0 ≤ m by omega) (by omega); omega) (by omega) (by omega)]
      rw [show 4 * l * (m / (4 * l)) = l * (4 * (m / (4 * l))) by rw [Int.mul_comm 4 l, Int.mul_assoc]]
      exact Int.mul_ediv_cancel_left _ (by omega)
    have q2 : m / (4 * l) ≤ m := Int.ediv_le_self _ (by omega)
    have e5 : quoA .i64 (4 * (m / (4 * l))) 4 = m / (4 * l) := by
      rw [quo64 (by omega) (by omega) (by omega)]
      exact Int.mul_ediv_cancel_left _ (by omega)
    simp only [p63, e1, e2]
    rw [p76 N m (4 * l) (by omega) (by omega) (by omega)]
    simp only [e3, e4, e5]
    simp [h, h1, h2, h3, h4, h5, h6, h7, h8, h9, h10, h11, show ¬ l = 0 by omega]
  · rw [dF h]
    unfold p_42 Q_42
    dsimp only
    simp only [p63, cond_false]
    by_cases g1 : 1 ≤ a ∧ a ≤ 3
    · rw [dT g1]
      by_cases g2 : 1 ≤ t ∧ t ≤ 4294967295
      · rw [dT g2]
        by_cases g3 : 1 ≤ l ∧ l ≤ 16777215
        · rw [dT g3]
          by_cases g4 : 1 ≤ m ∧ m ≤ 4294967295
          · rw [dT g4, quo64 (by omega) (by omega) (by omega)]
            by_cases g5 : m / 8 ≥ l
            · rw [dT g5]
              by_cases g6 : 4 ≤ s ∧ s ≤ 1024
              · exact absurd ⟨g1, g2, g3, g4, g5, g6⟩ h
              · rw [dF g6]; rfl
            · rw [dF g5]; rfl
          · rw [dF g4]; rfl
        · rw [dF g3]; rfl
      · rw [dF g2]; rfl
    · rw [dF g1]; rfl

def W (x : Int) : Prop := 0 ≤ x ∧ x < 18446744073709551616
theorem W_wrap (x : Int) : W (IntKind.wrap .u64 x) := by rw [wrapU64]; unfold W; omega
theorem W_xor (a b : Int) : W (xorA .u64 a b) := W_wrap _
theorem W_or (a b : Int) : W (orA .u64 a b) := W_wrap _
theorem W_add (a b : Int) : W (addA .u64 a b) := W_wrap _
theorem W_zero : W 0 := by unfold W; omega
theorem xor_comm (a b : Int) : xorA .u64 a b = xorA .u64 b a := by unfold xorA; rw [BitVec.xor_comm]
theorem xor_assoc (a b c : Int) (ha : W a) (hb : W b) (hc : W c) : xorA .u64 (xorA .u64 a b) c = xorA .u64 a (xorA .u64 b c) := by
  have key : ∀ x : BitVec 64, BitVec.ofInt 64 (IntKind.wrap .u64 (x.toNat : Int)) = x := by
    intro x
    rw [wrapU64]
    apply BitVec.eq_of_toNat_eq
    rw [BitVec.toNat_ofInt]
    have := x.isLt
    omega
  unfold xorA
  show IntKind.wrap .u64 (((BitVec.ofInt 64 (IntKind.wrap .u64 ((BitVec.ofInt 64 a ^^^ BitVec.ofInt 64 b).toNat : Int))) ^^^ BitVec.ofInt 64 c).toNat : Int) = IntKind.wrap .u64 ((BitVec.ofInt 64 a ^^^ BitVec.ofInt 64 (IntKind.wrap .u64 ((BitVec.ofInt 64 b ^^^ BitVec.ofInt 64 c).toNat : Int))).toNat : Int)
  rw [key, key, BitVec.xor_assoc]
theorem xor_self (a : Int) : xorA .u64 a a = 0 := by
  unfold xorA
  rw [BitVec.xor_self]
  rfl
theorem zero_xor {a : Int} (h : W a) : xorA .u64 0 a = a := by
  unfold xorA
  rw [wrapU64, BitVec.toNat_xor]
  have q1 : (BitVec.ofInt IntKind.u64.bits a).toNat = a.toNat := by
    show (BitVec.ofInt 64 a).toNat = a.toNat
    rw [BitVec.toNat_ofInt]; have := h.1; have := h.2; omega
  have q2 : (BitVec.ofInt IntKind.u64.bits 0).toNat = 0 := by decide
  rw [q1, q2, Nat.zero_xor]
  have := h.1
  have := h.2
  omega
theorem upd_same {α : Type} (f : Nat → α) (i : Nat) (x : α) : upd f i x i = x := by simp [upd]
theorem upd_other {α : Type} (f : Nat → α) {i j : Nat} (x : α) (h : j ≠ i) : upd f i x j = f j := by
  show (bif Nat.beq j i then x else f j) = f j
  cases hq : Nat.beq j i with
  | false => rfl
  | true => exact absurd (Nat.eq_of_beq_eq_true hq) h
theorem upd_if {α : Type} (f : Nat → α) (i j : Nat) (x : α) : upd f i x j = if j = i then x else f j := by
  by_cases h : j = i
  · subst h; rw [upd_same, if_pos rfl]
  · rw [upd_other f x h, if_neg h]
abbrev Bl := Nat → Int
def nulB : Bl := fun _ => 0
/-- The words from k on, put together. -/
def xorFrom (k : Nat) (o b : Bl) : Bl := fun j => if k ≤ j ∧ j < 128 then xorA .u64 (o j) (b j) else o j
def xorL (l : List Bl) : Bl := l.foldl (xorFrom 0) nulB
theorem l48i {R : Type} (N : Nat) (l : List Bl) (u v : Int) (b z : Bl) (κ) : ∀ (n m k : Nat) (o : Bl), k + m = 128 → m < n →
    l_48_6 (R := R) N n (((), (), l, u, v, b, (k : Int), ()), (z, o, ())) κ = κ (((), (), l, u, v, ()), (z, xorFrom k o b, ()))
  | 0, m, k, o, h1, h2 => by omega
  | n + 1, m, k, o, h1, h2 => by
    unfold l_48_6 B_48_6 C_48_6
    try dsimp only
    by_cases hk : k < 128
    · have e3 : addA .i64 (k : Int) 1 = ((k + 1 : Nat) : Int) := by rw [add64 (by omega) (by omega)]; simp
      rw [bif_t (dT (show (k : Int) < 128 by omega)), bif_t (dT (show (0 : Int) ≤ (k : Int) by omega)), bif_t (dT (show (k : Int) < 128 by omega)), bif_t (dT (show (0 : Int) ≤ (k : Int) by omega)), bif_t (dT (show (k : Int) < 128 by omega)), bif_t (dT (show (0 : Int) ≤ (k : Int) by omega)), bif_t (dT (show (k : Int) < 128 by omega)), e3, Int.toNat_natCast]
      rw [l48i N l u v b z κ n (m - 1) (k + 1) _ (by omega) (by omega)]
      congr 4
      funext j
      unfold xorFrom
      by_cases hj : j = k
      · subst hj; rw [if_neg (by omega), if_pos ⟨by omega, hk⟩, upd_same]
      · rw [upd_other _ _ hj]
        by_cases h3 : k + 1 ≤ j ∧ j < 128
        · rw [if_pos h3, if_pos ⟨by omega, h3.2⟩]
        · rw [if_neg h3, if_neg (by omega)]
    · rw [bif_f (dF (show ¬ (k : Int) < 128 by omega))]
      have e : xorFrom k o b = o := by funext j; unfold xorFrom; rw [if_neg (by omega)]
      rw [e]
theorem l48o {R : Type} (N : Nat) (hN : 1000 < N) (l : List Bl) (hl : l.length ≤ 1000) (z : Bl) (κ) : ∀ (n i : Nat) (o : Bl), i ≤ l.length → l.length - i < n →
    l_48_3 (R := R) N n (((), (), l, (l.length : Int), (i : Int), ()), (z, o, ())) κ = κ (((), (), ()), (z, (l.drop i).foldl (xorFrom 0) o, ()))
  | 0, i, o, h1, h2 => by omega
  | n + 1, i, o, h1, h2 => by
    unfold l_48_3 B_48_3 C_48_3
    try dsimp only
    by_cases hi : i < l.length
    · have hd : l.drop i = l[i] :: l.drop (i + 1) := List.drop_eq_getElem_cons hi
      have hg : List.getD l i (Sch.zero (.arr 128 (.int .u64))) = l[i] := by simp [hi]
      have e3 : addA .i64 (i : Int) 1 = ((i + 1 : Nat) : Int) := by rw [add64 (by omega) (by omega)]; simp
      rw [bif_t (dT (show (i : Int) < (l.length : Int) by omega)), bif_t (dT (show (0 : Int) ≤ (i : Int) by omega)), bif_t (dT (show (i : Int) < (l.length : Int) by omega)), Int.toNat_natCast, hg, hd]
      refine (l48i N l (l.length : Int) (i : Int) l[i] z _ N 128 0 o (by omega) (by omega)).trans ?_
      try dsimp only
      rw [e3]
      exact l48o N hN l hl z κ n (i + 1) _ (by omega) (by omega)
    · rw [bif_f (dF (by omega)), List.drop_eq_nil_of_le (by omega)]
      rfl
theorem p48 {R : Type} (N : Nat) (hN : 1000 < N) (l : List Bl) (hl : l.length ≤ 1000) (κ) : p_48 (R := R) N ((l, ()), ()) κ = κ (xorL l) := by
  unfold p_48 Q_48
  try dsimp only
  refine (l48o N hN l hl _ _ N 0 _ (by omega) (by omega)).trans ?_
  rfl
def WB (b : Bl) : Prop := ∀ j, j < 128 → W (b j)
def OutB (b : Bl) : Prop := ∀ j, 128 ≤ j → b j = 0
theorem foldl_out : ∀ (l : List Bl) (o : Bl), OutB o → OutB (l.foldl (xorFrom 0) o)
  | [], o, h => h
  | b :: l, o, h => foldl_out l _ fun j hj => by unfold xorFrom; rw [if_neg (by omega)]; exact h j hj
theorem foldl_W : ∀ (l : List Bl) (o : Bl), (∀ j, W (o j)) → ∀ j, W (l.foldl (xorFrom 0) o j)
  | [], o, h => h
  | b :: l, o, h => foldl_W l _ fun j => by unfold xorFrom; split; exact W_xor _ _; exact h j
theorem xorL_W (l : List Bl) (j : Nat) : W (xorL l j) := foldl_W l nulB (fun _ => W_zero) j
theorem xorL_out (l : List Bl) : OutB (xorL l) := foldl_out l nulB (fun _ _ => rfl)
theorem xorL_two (x y : Bl) (j : Nat) : xorL [x, y] j = if j < 128 then xorA .u64 (xorA .u64 0 (x j)) (y j) else 0 := by
  simp only [xorL, List.foldl_cons, List.foldl_nil, xorFrom, nulB]
  by_cases h : j < 128 <;> simp [h]
theorem xorL_one (x : Bl) (h1 : ∀ j, W (x j)) (h2 : OutB x) : xorL [x] = x := by
  funext j
  simp only [xorL, List.foldl_cons, List.foldl_nil, xorFrom, nulB]
  by_cases h : j < 128
  · simp [h, zero_xor (h1 j)]
  · simp [h, h2 j (by omega)]
theorem xorL_comm (x y : Bl) (hx : WB x) (hy : WB y) : xorL [x, y] = xorL [y, x] := by
  funext j
  rw [xorL_two, xorL_two]
  by_cases h : j < 128
  · rw [if_pos h, if_pos h, zero_xor (hx j h), zero_xor (hy j h), xor_comm]
  · rw [if_neg h, if_neg h]
theorem xorL_same (x : Bl) (hx : WB x) : xorL [x, x] = nulB := by
  funext j
  rw [xorL_two]
  by_cases h : j < 128
  · rw [if_pos h, zero_xor (hx j h), xor_self]; rfl
  · rw [if_neg h]; rfl
theorem schEq128 {x y : Bl} (h : ∀ j, j < 128 → x j = y j) : schEq (.arr 128 (.int .u64)) x y = true := by
  show (List.range 128).all (fun i => x i == y i) = true
  rw [List.all_eq_true]
  intro j hj
  rw [List.mem_range] at hj
  rw [h j hj]
  exact beq_self_eq_true _
theorem zero128 : (Sch.zero (.arr 128 (.int .u64)) : Nat → Int) = nulB := rfl

def prodF (a b : Int) : Int := addA .u64 (addA .u64 a b) (mulA .u64 (mulA .u64 2 (IntKind.wrap .u64 (IntKind.wrap .u32 a))) (IntKind.wrap .u64 (IntKind.wrap .u32 b)))
def rotF (x n : Int) : Int := orA .u64 (shrA .u64 x n) (shlA .u64 x (64 - n))
abbrev Q4 := Int × (Int × (Int × (Int × Unit)))
def qF (a b c d : Int) : Q4 :=
  let a1 := prodF a b
  let d1 := rotF (xorA .u64 d a1) 32
  let c1 := prodF c d1
  let b1 := rotF (xorA .u64 b c1) 24
  let a2 := prodF a1 b1
  let d2 := rotF (xorA .u64 d1 a2) 16
  let c2 := prodF c1 d2
  let b2 := rotF (xorA .u64 b1 c2) 63
  (a2, (b2, (c2, (d2, ()))))
theorem p121 {R : Type} (N : Nat) (a b c d : Int) (κ) : p_121 (R := R) N ((a, b, c, d, ()), ()) κ = κ (qF a b c d) := by kernel_rfl
def stF (v : Bl) (i j k l : Nat) : Bl :=
  let q := qF (v i) (v j) (v k) (v l)
  upd (upd (upd (upd v i q.1) j q.2.1) k q.2.2.1) l q.2.2.2.1
def permF (v : Bl) : Bl := stF (stF (stF (stF (stF (stF (stF (stF v 0 4 8 12) 1 5 9 13) 2 6 10 14) 3 7 11 15) 0 5 10 15) 1 6 11 12) 2 7 8 13) 3 4 9 14
theorem p116 {R : Type} (N : Nat) (hN : N = 1001) (v : Bl) (κ) : p_116 (R := R) N ((v, ()), ()) κ = κ (permF v) := by subst hN; kernel_rfl
theorem qF_W (a b c d : Int) : W (qF a b c d).1 ∧ W (qF a b c d).2.1 ∧ W (qF a b c d).2.2.1 ∧ W (qF a b c d).2.2.2.1 := ⟨W_add _ _, W_or _ _, W_add _ _, W_or _ _⟩
theorem upd_W {v : Bl} (h : ∀ j, W (v j)) (i : Nat) {x : Int} (hx : W x) : ∀ j, W (upd v i x j) := fun j => by rw [upd_if]; split; exact hx; exact h j
theorem stF_W {v : Bl} (h : ∀ j, W (v j)) (i j k l : Nat) : ∀ m, W (stF v i j k l m) := by
  obtain ⟨q1, q2, q3, q4⟩ := qF_W (v i) (v j) (v k) (v l)
  exact upd_W (upd_W (upd_W (upd_W h i q1) j q2) k q3) l q4
theorem permF_W {v : Bl} (h : ∀ j, W (v j)) : ∀ m, W (permF v m) :=
  stF_W (stF_W (stF_W (stF_W (stF_W (stF_W (stF_W (stF_W h _ _ _ _) _ _ _ _) _ _ _ _) _ _ _ _) _ _ _ _) _ _ _ _) _ _ _ _) _ _ _ _

def gath (at_ b : Bl) : Nat → Nat → Bl → Bl
  | 0, _, v => v
  | n + 1, k, v => gath at_ b n (k + 1) (upd v k (b (at_ k).toNat))
def scat (at_ w : Bl) : Nat → Nat → Bl → Bl
  | 0, _, b => b
  | n + 1, k, b => scat at_ w n (k + 1) (upd b (at_ k).toNat (w k))
def chainA (f : Nat → Int) : Nat → Bl
  | 0 => nulB
  | n + 1 => upd (chainA f n) n (f n)
theorem chainA_get (f : Nat → Int) : ∀ (n k : Nat), k < n → chainA f n k = f k
  | n + 1, k, h => by
    show upd (chainA f n) n (f n) k = f k
    rw [upd_if]
    split
    · subst k; rfl
    · exact chainA_get f n k (by omega)
def atRow (i : Int) : Bl := chainA (fun k => addA .i64 (mulA .i64 16 i) (k : Int)) 16
def atCol (i : Int) : Bl := chainA (fun k => addA .i64 (addA .i64 (mulA .i64 2 i) (remA .i64 (k : Int) 2)) (mulA .i64 16 (quoA .i64 (k : Int) 2))) 16
def at_ (c : Bool) (i : Int) : Bl := bif c then atCol i else atRow i
theorem atRow_get {i : Int} (hi : 0 ≤ i ∧ i < 8) {k : Nat} (hk : k < 16) : atRow i k = 16 * i + k := by
  unfold atRow
  rw [chainA_get _ _ _ hk, mul64 (by omega) (by omega), add64 (by omega) (by omega)]
theorem atCol_get {i : Int} (hi : 0 ≤ i ∧ i < 8) {k : Nat} (hk : k < 16) : atCol i k = 2 * i + ((k % 2 : Nat) : Int) + 16 * ((k / 2 : Nat) : Int) := by
  unfold atCol
  rw [chainA_get _ _ _ hk, mul64 (a := 2) (by omega) (by omega), rem64 (by omega), quo64 (by omega) (by omega) (by omega), add64 (a := 2 * i) (by omega) (by omega), mul64 (a := 16) (by omega) (by omega), add64 (by omega) (by omega)]
  omega
theorem at_in (c : Bool) {i : Int} (hi : 0 ≤ i ∧ i < 8) {k : Nat} (hk : k < 16) : 0 ≤ at_ c i k ∧ at_ c i k < 128 := by
  cases c with
  | false => show 0 ≤ atRow i k ∧ atRow i k < 128; rw [atRow_get hi hk]; omega
  | true => show 0 ≤ atCol i k ∧ atCol i k < 128; rw [atCol_get hi hk]; omega
theorem p115 {R : Type} (N : Nat) (hN : N = 1001) (i : Int) (c : Bool) (κ) : p_115 (R := R) N ((i, c, ()), ()) κ = κ (at_ c i) := by
  subst hN
  cases c with
  | false => kernel_rfl
  | true => kernel_rfl
section
variable {R : Type} (N : Nat)
theorem l105g (b : Bool) (u v w : Int) (at_ : Bl) (hat : ∀ k, k < 16 → 0 ≤ at_ k ∧ at_ k < 128) (a a2 a3 : Bl) (l : List Bool) (κ) : ∀ (n m k : Nat) (o : Bl), k + m = 16 → m < n →
    l_105_10 (R := R) N n (((), (), b, (), (), (), u, v, w, at_, (k : Int), ()), (a, a2, a3, o, l, ())) κ = κ (((), (), b, (), (), (), u, v, w, ()), (a, a2, a3, gath at_ a m k o, l, ()))
  | 0, m, k, o, h1, h2 => by omega
  | n + 1, m, k, o, h1, h2 => by
    unfold l_105_10 B_105_10 C_105_10
    try dsimp only
    cases m with
    | zero => rw [bif_f (dF (show ¬ (k : Int) < 16 by omega))]; rfl
    | succ m =>
      have hk : k < 16 := by omega
      obtain ⟨g1, g2⟩ := hat k hk
      have e3 : addA .i64 (k : Int) 1 = ((k + 1 : Nat) : Int) := by rw [add64 (by omega) (by omega)]; simp
      rw [bif_t (dT (show (k : Int) < 16 by omega)), bif_t (dT (show (0 : Int) ≤ (k : Int) by omega)), bif_t (dT (show (k : Int) < 16 by omega)), Int.toNat_natCast, bif_t (dT g1), bif_t (dT g2), bif_t (dT (show (0 : Int) ≤ (k : Int) by omega)), bif_t (dT (show (k : Int) < 16 by omega)), e3]
      exact l105g b u v w at_ hat a a2 a3 l κ n m (k + 1) _ (by omega) (by omega)
theorem l105s (b : Bool) (u v w : Int) (at_ : Bl) (hat : ∀ k, k < 16 → 0 ≤ at_ k ∧ at_ k < 128) (a2 x : Bl) (l : List Bool) (κ) : ∀ (n m k : Nat) (a : Bl), k + m = 16 → m < n →
    l_105_16 (R := R) N n (((), (), b, (), (), u, v, w, at_, (k : Int), ()), (a, a2, x, l, ())) κ = κ (((), (), b, (), u, v, w, ()), (scat at_ x m k a, a2, l, ()))
  | 0, m, k, a, h1, h2 => by omega
  | n + 1, m, k, a, h1, h2 => by
    unfold l_105_16 B_105_16 C_105_16
    try dsimp only
    cases m with
    | zero => rw [bif_f (dF (show ¬ (k : Int) < 16 by omega))]; rfl
    | succ m =>
      have hk : k < 16 := by omega
      obtain ⟨g1, g2⟩ := hat k hk
      have e3 : addA .i64 (k : Int) 1 = ((k + 1 : Nat) : Int) := by rw [add64 (by omega) (by omega)]; simp
      rw [bif_t (dT (show (k : Int) < 16 by omega)), bif_t (dT (show (0 : Int) ≤ (k : Int) by omega)), bif_t (dT (show (k : Int) < 16 by omega)), Int.toNat_natCast, bif_t (dT (show (0 : Int) ≤ (k : Int) by omega)), bif_t (dT (show (k : Int) < 16 by omega)), bif_t (dT g1), bif_t (dT g2), e3]
      exact l105s b u v w at_ hat a2 x l κ n m (k + 1) _ (by omega) (by omega)
end
def wStep (c : Bool) (i : Int) (a : Bl) : Bl := scat (at_ c i) (permF (gath (at_ c i) a 16 0 nulB)) 16 0 a
def wRun (c : Bool) : Nat → Nat → Bl → Bl
  | 0, _, a => a
  | n + 1, i, a => wRun c n (i + 1) (wStep c (i : Int) a)
def wholeF (a : Bl) : Bl := wRun true 8 0 (wRun false 8 0 a)
theorem l105i {R : Type} (N : Nat) (hN : N = 1001) (c : Bool) (u v : Int) (a2 : Bl) (l : List Bool) (κ) : ∀ (n m i : Nat) (a : Bl), i + m = 8 → m < n →
    l_105_5 (R := R) N n (((), (), c, (), u, v, (i : Int), ()), (a, a2, l, ())) κ = κ (((), (), (), u, v, ()), (wRun c m i a, a2, l, ()))
  | 0, m, i, a, h1, h2 => by omega
  | n + 1, m, i, a, h1, h2 => by
    unfold l_105_5 B_105_5 C_105_5
    try dsimp only
    cases m with
    | zero => rw [bif_f (dF (show ¬ (i : Int) < 8 by omega))]; rfl
    | succ m =>
      have hi : (0 : Int) ≤ (i : Int) ∧ (i : Int) < 8 := by omega
      have e3 : addA .i64 (i : Int) 1 = ((i + 1 : Nat) : Int) := by rw [add64 (by omega) (by omega)]; simp
      rw [bif_t (dT (show (i : Int) < 8 by omega)), p115 N hN]
      refine (l105g N c u v (i : Int) (at_ c i) (fun k hk => at_in c hi hk) a a2 _ l _ N 16 0 _ (by omega) (by omega)).trans ?_
      try dsimp only
      rw [p116 N hN]
      refine (l105s N c u v (i : Int) (at_ c i) (fun k hk => at_in c hi hk) a2 _ l _ N 16 0 a (by omega) (by omega)).trans ?_
      try dsimp only
      rw [e3]
      exact l105i N hN c u v a2 l κ n m (i + 1) _ (by omega) (by omega)
theorem p105 {R : Type} (N : Nat) (hN : N = 1001) (a : Bl) (κ) : p_105 (R := R) N ((a, ()), ()) κ = κ (wholeF a) := by
  unfold p_105 Q_105
  try dsimp only
  have step : ∀ (n : Nat) (c : Bool) (i : Nat) (a a2 : Bl) (κ), i < 2 → [false, true].getD i false = c →
      l_105_2 (R := R) N (n + 1) (((), (), (), 2, (i : Int), ()), (a, a2, [false, true], ())) κ = l_105_2 N n (((), (), (), 2, ((i + 1 : Nat) : Int), ()), (wRun c 8 0 a, a2, [false, true], ())) κ := by
    intro n c i a a2 κ hi hc
    conv => lhs; unfold l_105_2 B_105_2 C_105_2
    try dsimp only [List.length_cons, List.length_nil]
    rw [bif_t (dT (by omega)), bif_t (dT (by omega)), bif_t (dT (by show (i : Int) < ((0 + 1 + 1 : Nat) : Int); omega)), Int.toNat_natCast]
    show l_105_5 N N (((), (), [false, true].getD i false, (), 2, (i : Int), ((0 : Nat) : Int), ()), (a, a2, [false, true], ())) _ = _
    rw [hc]
    refine (l105i N hN c 2 (i : Int) a2 [false, true] _ N 8 0 a (by omega) (by omega)).trans ?_
    try dsimp only
    rw [show addA .i64 (i : Int) 1 = ((i + 1 : Nat) : Int) by rw [add64 (by omega) (by omega)]; simp]
  obtain ⟨n, rfl⟩ : ∃ n, N = n + 3 := ⟨N - 3, by omega⟩
  refine (step (n + 2) false 0 a _ _ (by omega) rfl).trans ?_
  refine (step (n + 1) true 1 _ _ _ (by omega) rfl).trans ?_
  rfl
def mixF (x y : Bl) : Bl := xorL [xorL [x, y], wholeF (xorL [x, y])]
theorem p95 {R : Type} (N : Nat) (hN : N = 1001) (x y : Bl) (κ) : p_95 (R := R) N ((x, y, ()), ()) κ = κ (mixF x y) := by
  unfold p_95 Q_95
  try dsimp only
  rw [p48 N (by omega) [x, y] (by simp)]
  try dsimp only
  rw [p105 N hN]
  try dsimp only
  rw [p48 N (by omega) _ (by simp)]
  rfl
theorem mixF_W (x y : Bl) (j : Nat) : W (mixF x y j) := xorL_W _ j
theorem mixF_out (x y : Bl) : OutB (mixF x y) := xorL_out _
theorem mixF_comm (x y : Bl) (hx : WB x) (hy : WB y) : mixF x y = mixF y x := by unfold mixF; rw [xorL_comm x y hx hy]
/-- A block without a word mixed with itself. -/
theorem whole_zero : wholeF nulB = nulB := by
  have p0 : prodF 0 0 = 0 := by decide
  have r0 : ∀ n : Int, 0 ≤ n → rotF 0 n = 0 := by
    intro n hn
    unfold rotF
    have e1 : shrA .u64 0 n = 0 := by unfold shrA; simp
    have e2 : shlA .u64 0 (64 - n) = 0 := by unfold shlA; simp; rfl
    rw [e1, e2]; rfl
  have x0 : xorA .u64 0 0 = 0 := by decide
  have q0 : qF 0 0 0 0 = (0, (0, (0, (0, ())))) := by
    unfold qF
    simp only [p0, x0, r0 32 (by omega), r0 24 (by omega), r0 16 (by omega), r0 63 (by omega)]
  have u0 : ∀ i, upd nulB i 0 = nulB := fun i => by funext j; rw [upd_if]; split <;> rfl
  have s0 : ∀ i j k l, stF nulB i j k l = nulB := by
    intro i j k l
    unfold stF
    show (let q := qF 0 0 0 0; upd (upd (upd (upd nulB i q.1) j q.2.1) k q.2.2.1) l q.2.2.2.1) = nulB
    simp only [q0, u0]
  have pm : permF nulB = nulB := by unfold permF; simp only [s0]
  have g0 : ∀ (at_ : Bl) (n k : Nat), gath at_ nulB n k nulB = nulB := by
    intro at_ n
    induction n with
    | zero => intro k; rfl
    | succ n ih => intro k; show gath at_ nulB n (k + 1) (upd nulB k 0) = nulB; rw [u0]; exact ih (k + 1)
  have c0 : ∀ (at_ : Bl) (n k : Nat), scat at_ nulB n k nulB = nulB := by
    intro at_ n
    induction n with
    | zero => intro k; rfl
    | succ n ih => intro k; show scat at_ nulB n (k + 1) (upd nulB _ 0) = nulB; rw [u0]; exact ih (k + 1)
  have w0 : ∀ c i, wStep c i nulB = nulB := fun c i => by unfold wStep; rw [g0, pm, c0]
  have t0 : ∀ (c : Bool) (n i : Nat), wRun c n i nulB = nulB := by
    intro c n
    induction n with
    | zero => intro i; rfl
    | succ n ih => intro i; show wRun c n (i + 1) (wStep c _ nulB) = nulB; rw [w0]; exact ih (i + 1)
  unfold wholeF
  rw [t0, t0]
theorem mixF_same (x : Bl) (hx : WB x) : mixF x x = nulB := by
  unfold mixF
  rw [xorL_same x hx, whole_zero, xorL_same nulB (fun _ _ => W_zero)]

theorem p89 {R : Type} (N : Nat) {x y : Int} (x1 : 0 ≤ x) (x2 : x < 18446744073709551616) (y1 : 0 ≤ y) (y2 : y < 18446744073709551616) (κ) : p_89 (R := R) N ((x, y, ()), ()) κ = κ (x * y / 18446744073709551616, (x * y % 18446744073709551616, ())) := by
  unfold p_89 Q_89
  dsimp only
  rw [high64 x1 x2 y1 y2]
  unfold mulA
  rw [wrapU64 (x * y)]

theorem or_zero64 {z : Int} (h1 : 0 ≤ z) (h2 : z < 18446744073709551616) : orA .u64 0 z = z := by
  unfold orA
  rw [wrapU64, BitVec.toNat_or]
  have q1 : (BitVec.ofInt IntKind.u64.bits z).toNat = z.toNat := by
    show (BitVec.ofInt 64 z).toNat = z.toNat
    rw [BitVec.toNat_ofInt]; omega
  have q2 : (BitVec.ofInt IntKind.u64.bits 0).toNat = 0 := by decide
  rw [q1, q2, Nat.zero_or]
  omega
def pickOf (area j : Int) : Int := area - 1 - area * (j * j / 4294967296) / 4294967296
theorem pick_in {area j : Int} (h1 : 1 ≤ area) (j1 : 0 ≤ j) (j2 : j < 4294967296) : 0 ≤ pickOf area j ∧ pickOf area j ≤ area - 1 := by
  unfold pickOf
  have b1 : j * j ≤ 4294967295 * 4294967295 := Int.mul_le_mul (by omega) (by omega) j1 (by omega)
  have b0 : 0 ≤ j * j := Int.mul_nonneg j1 j1
  generalize hx : j * j / 4294967296 = x
  have x0 : 0 ≤ x ∧ x ≤ 4294967295 := by omega
  have c0 : 0 ≤ area * x := Int.mul_nonneg (by omega) x0.1
  have c1 : area * x ≤ area * 4294967295 := Int.mul_le_mul_of_nonneg_left x0.2 (by omega)
  omega
theorem p70 {R : Type} (N : Nat) (area j : Int) (h2 : area ≤ 4294967296) (j1 : 0 ≤ j) (j2 : j < 4294967296) (κ) : p_70 (R := R) N ((area, j, ()), ()) κ = if area < 1 then κ 0 else κ (pickOf area j) := by
  unfold p_70 Q_70
  try dsimp only
  by_cases h1 : area < 1
  · rw [bif_t (dT h1), if_pos h1]
  rw [bif_f (dF h1), if_neg h1, wrapU64, wrapU64, Int.emod_eq_of_lt j1 (by omega), Int.emod_eq_of_lt (by omega) (by omega)]
  have b1 : j * j ≤ 4294967295 * 4294967295 := Int.mul_le_mul (by omega) (by omega) j1 (by omega)
  have b0 : 0 ≤ j * j := Int.mul_nonneg j1 j1
  have pin := pick_in (area := area) (by omega) j1 j2
  unfold pickOf at *
  rw [mulU64 b0 (by omega), shr32 b0]
  generalize hx : j * j / 4294967296 = x at *
  have x0 : 0 ≤ x ∧ x ≤ 4294967295 := by omega
  rw [p89 N (by omega) (by omega) x0.1 (by omega)]
  have c0 : 0 ≤ area * x := Int.mul_nonneg (by omega) x0.1
  have c1 : area * x ≤ 4294967296 * 4294967295 := Int.mul_le_mul h2 x0.2 x0.1 (by omega)
  generalize area * x = z at *
  have e1 : z / 18446744073709551616 = 0 := by omega
  have e2 : z % 18446744073709551616 = z := by omega
  rw [e1, e2]
  try dsimp only
  rw [shr32 c0, show shlA .u64 0 32 = 0 from rfl, or_zero64 (by omega) (by omega), sub64 (a := area) (by omega) (by omega), wrap64 (by omega) (by omega), sub64 (by omega) (by omega)]
abbrev Shp8 := Int × (Int × (Int × (Int × (Int × (Int × (Int × (Int × Unit)))))))
def laneOf (pass slice lane j L : Int) : Int := if pass = 0 ∧ slice = 0 then lane else j % L
def doneOf (pass slice q : Int) : Int := if pass > 0 then 3 * q else slice * q
def areaOf (pass slice q index : Int) (own : Bool) : Int := if own = true then doneOf pass slice q + index - 1 else if index = 0 then doneOf pass slice q - 1 else doneOf pass slice q
def fromOf (pass slice q : Int) : Int := if pass = 0 ∨ slice = 3 then 0 else (slice + 1) * q
theorem p30 {R : Type} (N : Nat) (s : Shp8) (a b : Int) (κ) : p_30 (R := R) N ((s, a, b, ()), ()) κ = κ (if a = 0 ∧ b = 0 then 2 else 0) := by
  unfold p_30 Q_30
  try dsimp only
  by_cases h1 : a = 0
  · by_cases h2 : b = 0
    · simp [h1, h2]
    · simp [h1, h2, show (b == 0) = false from beq_eq_false_iff_ne.2 h2]
  · simp [h1, show (a == 0) = false from beq_eq_false_iff_ne.2 h1]
theorem p29 {R : Type} (N : Nat) (s0 t s2 s3 s4 s5 s6 s7 a b : Int) (ht : 1 ≤ t ∧ t ≤ 4294967295) (κ) : p_29 (R := R) N (((s0, (t, (s2, (s3, (s4, (s5, (s6, (s7, ())))))))), (a, (b, ())), ()), ()) κ = κ (decide ((0 ≤ a ∧ a ≤ t - 1) ∧ 0 ≤ b ∧ b ≤ 3)) := by
  unfold p_29 Q_29
  try dsimp only
  rw [sub64 (by omega) (by omega), p63]
  by_cases h1 : 0 ≤ a ∧ a ≤ t - 1
  · rw [dT h1, bif_t rfl, p63]
    by_cases h2 : 0 ≤ b ∧ b ≤ 3
    · rw [dT h2, dT ⟨h1, h2⟩]
    · rw [dF h2, dF (fun h => h2 h.2)]
  · rw [dF h1, bif_f rfl, dF (fun h => h1 h.1)]
section
variable {R : Type} (N : Nat) (s0 t L s3 s4 q s7 : Int)
theorem p67 (hL : 1 ≤ L ∧ L ≤ 16777215) (pass slice lane j : Int) (j1 : 0 ≤ j) (j2 : j < 4294967296) (s5 : Int) (κ : Int → Option R) :
    p_67 (R := R) N (((s0, (t, (L, (s3, (s4, (s5, (q, (s7, ())))))))), (pass, (slice, ())), lane, j, ()), ()) κ = κ (laneOf pass slice lane j L) := by
  unfold p_67 Q_67 laneOf
  try dsimp only
  have e1 : IntKind.wrap .i64 (remA .u64 (IntKind.wrap .u64 j) (IntKind.wrap .u64 L)) = j % L := by
    rw [wrapU64, wrapU64, Int.emod_eq_of_lt j1 (by omega), Int.emod_eq_of_lt (by omega) (by omega)]
    unfold remA
    rw [Int.tmod_eq_emod_of_nonneg j1]
    have := Int.emod_nonneg j (show L ≠ 0 by omega)
    have := Int.emod_lt_of_pos j (show 0 < L by omega)
    exact wrap64 (by omega) (by omega)
  have e2 : ¬ IntKind.wrap .u64 L = 0 := by rw [wrapU64]; omega
  rw [e1, dF e2]
  by_cases h1 : pass = 0
  · by_cases h2 : slice = 0
    · simp [h1, h2]
    · simp [h1, h2, show (slice == 0) = false from beq_eq_false_iff_ne.2 h2]
  · simp [h1, show (pass == 0) = false from beq_eq_false_iff_ne.2 h1]
theorem p68 (hq : 2 ≤ q ∧ 4 * q ≤ 4294967295) (pass slice index : Int) (own : Bool) (h1 : 0 ≤ pass) (h2 : 0 ≤ slice ∧ slice ≤ 3) (h3 : 0 ≤ index ∧ index < q) (κ : Int → Option R) :
    p_68 (R := R) N (((s0, (t, (L, (s3, (s4, (4 * q, (q, (s7, ())))))))), (pass, (slice, ())), index, own, ()), ()) κ = κ (areaOf pass slice q index own) := by
  unfold p_68 Q_68 areaOf doneOf
  try dsimp only
  have b1 : slice * q ≤ 3 * q := Int.mul_le_mul_of_nonneg_right h2.2 (by omega)
  have b0 : 0 ≤ slice * q := Int.mul_nonneg h2.1 (by omega)
  rw [mul64 (by omega) (by omega), sub64 (a := 4 * q) (by omega) (by omega), show 4 * q - q = 3 * q by omega]
  by_cases g1 : pass > 0
  · rw [bif_t (dT g1)]
    simp only [if_pos g1]
    cases own with
    | true => rw [bif_t rfl, if_pos rfl, add64 (a := 3 * q) (by omega) (by omega), sub64 (by omega) (by omega)]
    | false =>
      rw [bif_f rfl, if_neg (by simp)]
      by_cases g2 : index = 0
      · rw [bif_t (beq_iff_eq.2 g2), if_pos g2, sub64 (by omega) (by omega)]
      · rw [bif_f (beq_eq_false_iff_ne.2 g2), if_neg g2]
  · rw [bif_f (dF g1)]
    simp only [if_neg g1]
    cases own with
    | true => rw [bif_t rfl, if_pos rfl, add64 (a := slice * q) (by omega) (by omega), sub64 (by omega) (by omega)]
    | false =>
      rw [bif_f rfl, if_neg (by simp)]
      by_cases g2 : index = 0
      · rw [bif_t (beq_iff_eq.2 g2), if_pos g2, sub64 (by omega) (by omega)]
      · rw [bif_f (beq_eq_false_iff_ne.2 g2), if_neg g2]
theorem p69 (hq : 2 ≤ q ∧ 4 * q ≤ 4294967295) (pass slice : Int) (h2 : 0 ≤ slice ∧ slice ≤ 3) (s5 : Int) (κ : Int → Option R) :
    p_69 (R := R) N (((s0, (t, (L, (s3, (s4, (s5, (q, (s7, ())))))))), (pass, (slice, ())), ()), ()) κ = κ (fromOf pass slice q) := by
  unfold p_69 Q_69 fromOf
  try dsimp only
  by_cases g1 : pass = 0
  · rw [bif_t (beq_iff_eq.2 g1), if_pos (.inl g1)]
  rw [bif_f (beq_eq_false_iff_ne.2 g1)]
  by_cases g2 : slice = 3
  · rw [bif_t (beq_iff_eq.2 g2), if_pos (.inr g2)]
  rw [bif_f (beq_eq_false_iff_ne.2 g2), if_neg (fun h => h.elim g1 g2), add64 (by omega) (by omega)]
  have b1 : (slice + 1) * q ≤ 4 * q := Int.mul_le_mul_of_nonneg_right (by omega) (by omega)
  have b0 : 0 ≤ (slice + 1) * q := Int.mul_nonneg (by omega) (by omega)
  rw [mul64 (by omega) (by omega)]
/-- Is there such a block that is filled? -/
def There (t L q pass slice lane index : Int) : Prop := ((0 ≤ pass ∧ pass ≤ t - 1) ∧ 0 ≤ slice ∧ slice ≤ 3) ∧ (0 ≤ lane ∧ lane ≤ L - 1) ∧ (if pass = 0 ∧ slice = 0 then 2 else 0) ≤ index ∧ index ≤ q - 1
theorem area_in (hq : 2 ≤ q) (pass slice lane index : Int) (own : Bool) (h : There t L q pass slice lane index) (ho : pass = 0 → slice = 0 → own = true) : 1 ≤ areaOf pass slice q index own ∧ areaOf pass slice q index own ≤ 4 * q := by
  obtain ⟨⟨⟨h1, h2⟩, h3, h4⟩, ⟨h5, h6⟩, h7, h8⟩ := h
  unfold areaOf doneOf
  have b1 : slice * q ≤ 3 * q := Int.mul_le_mul_of_nonneg_right h4 (by omega)
  have b0 : 0 ≤ slice * q := Int.mul_nonneg h3 (by omega)
  by_cases g1 : pass > 0
  · simp only [if_pos g1]
    rw [if_neg (by omega)] at h7
    split
    · omega
    · split <;> omega
  · simp only [if_neg g1]
    by_cases g2 : slice = 0
    · subst g2
      rw [if_pos ⟨by omega, rfl⟩] at h7
      rw [if_pos (ho (by omega) rfl)]
      omega
    · have b2 : 1 * q ≤ slice * q := Int.mul_le_mul_of_nonneg_right (by omega) (by omega)
      rw [if_neg (fun hh => g2 hh.2)] at h7
      split
      · omega
      · split <;> omega
def colOf (pass slice index j q : Int) (own : Bool) : Int := (fromOf pass slice q + pickOf (areaOf pass slice q index own) j) % (4 * q)
open Classical in
theorem p34 (ht : 1 ≤ t ∧ t ≤ 4294967295) (hL : 1 ≤ L ∧ L ≤ 16777215) (hq : 2 ≤ q ∧ 4 * q ≤ 4294967295) (pass slice lane index ja jb : Int) (ja1 : 0 ≤ ja) (ja2 : ja < 4294967296) (jb1 : 0 ≤ jb) (jb2 : jb < 4294967296) (κ : ((Int × (Int × Unit)) × (Int × Unit)) → Option R) :
    p_34 (R := R) N (((s0, (t, (L, (s3, (s4, (4 * q, (q, (s7, ())))))))), (pass, (slice, ())), lane, index, ja, jb, ()), ()) κ =
      if There t L q pass slice lane index then κ ((laneOf pass slice lane jb L, (colOf pass slice index ja q (laneOf pass slice lane jb L == lane), ())), (0, ())) else κ ((0, (0, ())), (11, ())) := by
  unfold p_34 Q_34
  try dsimp only
  rw [bif_t (dT (show L > 0 by omega)), p29 N _ _ _ _ _ _ _ _ _ _ ht]
  by_cases h1 : (0 ≤ pass ∧ pass ≤ t - 1) ∧ 0 ≤ slice ∧ slice ≤ 3
  · rw [dT h1]
    try dsimp only
    rw [bif_t rfl, sub64 (a := L) (by omega) (by omega), p63]
    by_cases h2 : 0 ≤ lane ∧ lane ≤ L - 1
    · rw [dT h2]
      simp only [Bool.not_true, cond_false]
      rw [p30, sub64 (a := q) (by omega) (by omega), p63]
      by_cases h3 : (if pass = 0 ∧ slice = 0 then (2 : Int) else 0) ≤ index ∧ index ≤ q - 1
      · have hth : There t L q pass slice lane index := ⟨h1, h2, h3⟩
        rw [dT h3, if_pos hth]
        simp only [Bool.not_true, cond_false]
        have hi : 0 ≤ index ∧ index < q := by
          have := h3.1
          split at this <;> omega
        rw [p67 N s0 t L s3 s4 q s7 hL pass slice lane jb jb1 jb2]
        try dsimp only
        rw [p68 N s0 t L s3 s4 q s7 hq pass slice index _ h1.1.1 h1.2 hi]
        try dsimp only
        rw [p69 N s0 t L s3 s4 q s7 hq pass slice h1.2]
        obtain ⟨a1, a2⟩ := area_in t L q hq.1 pass slice lane index (laneOf pass slice lane jb L == lane) hth (fun e1 e2 => by unfold laneOf; rw [if_pos ⟨e1, e2⟩]; simp)
        rw [p70 N _ ja (by omega) ja1 ja2, if_neg (by omega), bif_f (dF (by omega))]
        have pin := pick_in a1 ja1 ja2
        have f0 : 0 ≤ fromOf pass slice q ∧ fromOf pass slice q ≤ 4 * q := by
          unfold fromOf
          have b1 : (slice + 1) * q ≤ 4 * q := Int.mul_le_mul_of_nonneg_right (by omega) (by omega)
          have b0 : 0 ≤ (slice + 1) * q := Int.mul_nonneg (by omega) (by omega)
          split <;> omega
        rw [add64 (by omega) (by omega), rem64 (by omega)]
        rfl
      · rw [dF h3, if_neg (fun hh => h3 hh.2.2)]
        rfl
    · rw [dF h2, if_neg (fun hh => h2 hh.2.1)]
      rfl
  · rw [dF h1, if_neg (fun hh => h1 hh.1)]
    rfl
end
theorem pair_s (x y : Sch.den (.stru (.fcons (.int .i64) (.fcons (.int .i64) .fnil)))) : schEq (.stru (.fcons (.int .i64) (.fcons (.int .i64) .fnil))) x y = (fun (a b c d : Int) => decide (a = c ∧ b = d)) x.1 x.2.1 y.1 y.2.1 := by
  obtain ⟨a, b, _⟩ := x
  obtain ⟨c, d, _⟩ := y
  show schEq (.stru (.fcons (.int .i64) (.fcons (.int .i64) .fnil))) ((a : Int), ((b : Int), ())) ((c : Int), ((d : Int), ())) = decide ((a : Int) = c ∧ (b : Int) = d)
  by_cases h1 : (a : Int) = c
  · by_cases h2 : (b : Int) = d
    · rw [dT ⟨h1, h2⟩]; subst h1 h2; simp [schEq]
    · rw [dF (fun h => h2 h.2)]; simp [schEq]; exact fun _ => h2
  · rw [dF (fun h => h1 h.1)]; simp [schEq]; exact fun h => absurd h h1

abbrev Sh8 := Int × (Int × (Int × (Int × (Int × (Int × (Int × (Int × Unit)))))))
def seedF (alg passes blocks pass slice lane counter : Int) : Bl :=
  upd (upd (upd (upd (upd (upd (upd nulB 0 (IntKind.wrap .u64 pass)) 1 (IntKind.wrap .u64 lane)) 2 (IntKind.wrap .u64 slice)) 3 (IntKind.wrap .u64 blocks)) 4 (IntKind.wrap .u64 passes)) 5 (IntKind.wrap .u64 (subA .i64 alg 1))) 6 (IntKind.wrap .u64 counter)
theorem p103 {R : Type} (N : Nat) (hN : N = 1001) (alg t L m b c q z pass slice lane counter : Int) (κ) :
    p_103 (R := R) N (((alg, (t, (L, (m, (b, (c, (q, (z, ())))))))), (pass, (slice, ())), lane, counter, ()), ()) κ = κ (seedF alg t b pass slice lane counter) := by subst hN; kernel_rfl
/-- The counter-th block of addresses. -/
def addrF (alg passes blocks pass slice lane counter : Int) : Bl := mixF nulB (mixF nulB (seedF alg passes blocks pass slice lane counter))
theorem p90 {R : Type} (N : Nat) (hN : N = 1001) (alg t L m b c q z pass slice lane counter : Int) (κ) :
    p_90 (R := R) N (((alg, (t, (L, (m, (b, (c, (q, (z, ())))))))), (pass, (slice, ())), lane, counter, ()), ()) κ = κ (addrF alg t b pass slice lane counter) := by
  unfold p_90 Q_90
  try dsimp only
  rw [p103 N hN]
  try dsimp only
  rw [p95 N hN]
  try dsimp only
  rw [p95 N hN]
  rfl
theorem addrF_W (alg passes blocks pass slice lane counter : Int) (j : Nat) : W (addrF alg passes blocks pass slice lane counter j) := mixF_W _ _ j

theorem nT : (!true) = false := rfl
theorem nF : (!false) = true := rfl
theorem getD_set {α : Type} (l : List α) (i j : Nat) (x z : α) (hi : i < l.length) : (l.set i x).getD j z = if j = i then x else l.getD j z := by
  by_cases h : j = i
  · subst h; simp [List.getD_eq_getElem?_getD, hi]
  · simp [List.getD_eq_getElem?_getD, List.getElem?_set, Ne.symm h, h]
/-- Rows of blocks, told by their numbers. -/
def rowsF (f : Nat → Bl) (C L : Nat) : List (List Bl) := (List.range L).map fun la => (List.range C).map fun co => f (la * C + co)
theorem rowsF_len (f : Nat → Bl) (C L : Nat) : (rowsF f C L).length = L := by simp [rowsF]
theorem rowsF_row (f : Nat → Bl) (C L : Nat) {la : Nat} (h : la < L) : (rowsF f C L).getD la [] = (List.range C).map fun co => f (la * C + co) := by simp [rowsF, h]
theorem rowsF_rlen (f : Nat → Bl) (C L : Nat) {la : Nat} (h : la < L) : ((rowsF f C L).getD la []).length = C := by rw [rowsF_row f C L h]; simp
theorem rowsF_get (f : Nat → Bl) (C L : Nat) {la co : Nat} (h : la < L) (hc : co < C) (z : Bl) : ((rowsF f C L).getD la []).getD co z = f (la * C + co) := by rw [rowsF_row f C L h]; simp [hc]
theorem at_inj {C a b c d : Nat} (hb : b < C) (hd : d < C) (h : a * C + b = c * C + d) : a = c ∧ b = d := by
  have h1 : (a * C + b) / C = a := by rw [Nat.mul_comm, Nat.mul_add_div (by omega), Nat.div_eq_of_lt hb, Nat.add_zero]
  have h2 : (c * C + d) / C = c := by rw [Nat.mul_comm, Nat.mul_add_div (by omega), Nat.div_eq_of_lt hd, Nat.add_zero]
  have h3 : a = c := by rw [← h1, h, h2]
  subst h3; exact ⟨rfl, by omega⟩
theorem rowsF_set (f : Nat → Bl) (C L : Nat) {la co : Nat} (h : la < L) (hc : co < C) (b : Bl) : (rowsF f C L).set la (((rowsF f C L).getD la []).set co b) = rowsF (upd f (la * C + co) b) C L := by
  apply List.ext_getElem?
  intro i
  rw [List.getElem?_set, rowsF_len]
  by_cases hi : la = i
  · subst hi
    rw [if_pos rfl, if_pos h, rowsF_row f C L h]
    simp only [rowsF, List.getElem?_map, List.getElem?_range h, Option.map_some, Option.some.injEq]
    apply List.ext_getElem?
    intro j
    rw [List.getElem?_set]
    simp only [List.length_map, List.length_range, List.getElem?_map]
    by_cases hj : co = j
    · subst hj
      rw [if_pos rfl, if_pos hc, List.getElem?_range hc]
      simp [upd_same]
    · rw [if_neg hj]
      by_cases hjc : j < C
      · rw [List.getElem?_range hjc]
        simp only [Option.map_some, Option.some.injEq]
        rw [upd_other]; omega
      · rw [List.getElem?_eq_none (by simpa using hjc)]; rfl
  · rw [if_neg hi]
    simp only [rowsF, List.getElem?_map]
    by_cases hiL : i < L
    · rw [List.getElem?_range hiL]
      simp only [Option.map_some, Option.some.injEq]
      apply List.map_congr_left
      intro j hj
      rw [List.mem_range] at hj
      rw [upd_other]
      intro e
      exact hi (at_inj hj hc e).1.symm
    · rw [List.getElem?_eq_none (by simpa using hiL)]; rfl
theorem rowsF_congr {f g : Nat → Bl} {C L : Nat} (h : ∀ k, k < L * C → f k = g k) : rowsF f C L = rowsF g C L := by
  unfold rowsF
  apply List.map_congr_left
  intro la hla
  apply List.map_congr_left
  intro co hco
  rw [List.mem_range] at hla hco
  apply h
  have := Nat.mul_le_mul_right C (show la + 1 ≤ L by omega)
  rw [Nat.succ_mul] at this
  omega
abbrev GH := (Unit × (Shp8 × Unit)) × (Unit × (Unit × (Bool × Unit))) × (Int × (Int × (Int × (Int × Unit)))) × (List Bl) × Unit
def gh (s : Shp8) (ar : Int × (Int × (Int × (Int × Unit)))) (l : List Bl) : GH := (((), (s, ())), ((), ((), (true, ()))), ar, l, ())
def shn (s0 t m b q z : Int) (L C : Nat) : Shp8 := (s0, (t, ((L : Int), (m, (b, ((C : Int), (q, (z, ()))))))))
section
variable {R : Type} (N : Nat) (s0 t m b q z : Int) (L C : Nat)
theorem p46 (hL : L ≤ 4) (hC : C ≤ 80) (la co : Int) (ar) (l : List Bl) (κ : Int → Option R) :
    p_46 N (((), (la, (co, ())), ()), gh (shn s0 t m b q z L C) ar l) κ = κ (if 0 ≤ la ∧ la < L ∧ 0 ≤ co ∧ co < C then la * C + co else -1) := by
  unfold p_46 Q_46 gh shn
  dsimp only
  by_cases h1 : la < 0
  · rw [bif_t (dT h1), if_neg (by omega)]
  rw [bif_f (dF h1)]
  by_cases h2 : la ≥ L
  · rw [bif_t (dT h2), if_neg (by omega)]
  rw [bif_f (dF h2)]
  by_cases h3 : co < 0
  · rw [bif_t (dT h3), if_neg (by omega)]
  rw [bif_f (dF h3)]
  by_cases h4 : co ≥ C
  · rw [bif_t (dT h4), if_neg (by omega)]
  rw [bif_f (dF h4), if_pos ⟨by omega, by omega, by omega, by omega⟩]
  unfold p_78 Q_78
  dsimp only
  have e0 : 0 ≤ la * C := Int.mul_nonneg (by omega) (by omega)
  have e1 : la * C ≤ 4 * 80 := Int.mul_le_mul (by omega) (by omega) (by omega) (by omega)
  rw [mul64 (a := la) (by omega) (by omega), add64 (by omega) (by omega)]
theorem at_lt {la co L C : Nat} (h : la < L) (hc : co < C) : la * C + co < L * C := by
  have := Nat.mul_le_mul_right C (show la + 1 ≤ L by omega)
  rw [Nat.succ_mul] at this
  omega
theorem p47 (n : Int) (ar) (l : List Bl) (h0 : 0 ≤ n) (h1 : n < l.length) (κ) :
    p_47 (R := R) N (((), n, ()), (((), ((), (true, ()))), ar, l, ())) κ = κ (l.getD n.toNat nulB, (0, ())) := by
  unfold p_47 Q_47
  dsimp only
  rw [bif_f (dF (by omega)), bif_f (dF (by omega)), bif_f (show (!true) = false from rfl), bif_t (dT h0), bif_t (dT h1)]; rfl
theorem p9 (hL : L ≤ 4) (hC : C ≤ 80) (la co : Int) (ar) (l : List Bl) (hl : l.length = L * C) (κ) :
    p_9 (R := R) N (((), (la, (co, ())), ()), gh (shn s0 t m b q z L C) ar l) κ = if 0 ≤ la ∧ la < L ∧ 0 ≤ co ∧ co < C then κ (l.getD (la * C + co).toNat nulB, (0, ())) else κ (nulB, (11, ())) := by
  unfold p_9 Q_9
  dsimp only
  refine (p46 N s0 t m b q z L C hL hC la co ar l _).trans ?_
  by_cases h : 0 ≤ la ∧ la < L ∧ 0 ≤ co ∧ co < C
  · rw [if_pos h, if_pos h]
    obtain ⟨h1, h2, h3, h4⟩ := h
    have e0 : 0 ≤ la * C := Int.mul_nonneg h1 (by omega)
    obtain ⟨a, rfl⟩ := Int.eq_ofNat_of_zero_le h1
    obtain ⟨c, rfl⟩ := Int.eq_ofNat_of_zero_le h3
    have hlt := at_lt (la := a) (co := c) (L := L) (C := C) (by omega) (by omega)
    rw [bif_f (dF (by omega))]
    exact p47 N _ ar l (by omega) (by rw [hl]; exact_mod_cast hlt) _
  · rw [if_neg h, if_neg h]; rfl
theorem p12 (hL : L ≤ 4) (hC : C ≤ 80) (la co : Int) (ar) (l : List Bl) (hl : l.length = L * C) (x : Bl) (κ) :
    p_12 (R := R) N (((), (la, (co, ())), x, ()), gh (shn s0 t m b q z L C) ar l) κ = if 0 ≤ la ∧ la < L ∧ 0 ≤ co ∧ co < C then κ (0, gh (shn s0 t m b q z L C) ar (l.set (la * C + co).toNat x)) else κ (11, gh (shn s0 t m b q z L C) ar l) := by
  unfold p_12 Q_12
  dsimp only
  refine (p46 N s0 t m b q z L C hL hC la co ar l _).trans ?_
  by_cases h : 0 ≤ la ∧ la < L ∧ 0 ≤ co ∧ co < C
  · rw [if_pos h, if_pos h]
    obtain ⟨h1, h2, h3, h4⟩ := h
    have e0 : 0 ≤ la * C := Int.mul_nonneg h1 (by omega)
    obtain ⟨a, rfl⟩ := Int.eq_ofNat_of_zero_le h1
    obtain ⟨c, rfl⟩ := Int.eq_ofNat_of_zero_le h3
    have hlt := at_lt (la := a) (co := c) (L := L) (C := C) (by omega) (by omega)
    have hb : ((a : Int) * C + c) < (l.length : Int) := by rw [hl]; exact_mod_cast hlt
    rw [bif_f (dF (by omega))]
    unfold p_51 Q_51 gh shn
    dsimp only
    refine (p47 N _ ar l (by omega) hb _).trans ?_
    dsimp only
    rw [bif_f (show ((0 : Int) != 0) = false from rfl), bif_t (dT (by omega)), bif_t (dT hb)]
  · rw [if_neg h, if_neg h]; rfl
theorem rep_succ {α : Type} (n : Nat) (x : α) : List.replicate n x ++ [x] = List.replicate (n + 1) x := by rw [List.replicate_succ']
theorem rowsF_zero : rowsF (fun _ => nulB) C L = List.replicate L (List.replicate C nulB) := by
  unfold rowsF
  rw [List.map_const', List.map_const']; simp
/-- The first n blocks. -/
def upTo (l : List Bl) (n : Nat) : Nat → Bl := fun k => if k < n then l.getD k nulB else nulB
theorem upTo_succ (l : List Bl) (n : Nat) : upd (upTo l n) n (l.getD n nulB) = upTo l (n + 1) := by
  funext k
  rw [upd_if]
  unfold upTo
  by_cases h : k = n
  · subst h; rw [if_pos rfl, if_pos (by omega)]
  · rw [if_neg h]
    by_cases h2 : k < n
    · rw [if_pos h2, if_pos (by omega)]
    · rw [if_neg h2, if_neg (by omega)]
/-- A grid's blocks, by lanes and columns. -/
def gridF (l : List Bl) (C L : Nat) : List (List Bl) := rowsF (fun k => l.getD k nulB) C L
end
/-- Parameters that are few. -/
def FewP (t L q : Int) : Prop := t ≤ 3 ∧ L ≤ 4 ∧ 4 * L * q ≤ 80
instance (t L q : Int) : Decidable (FewP t L q) := by unfold FewP; exact inferInstance
theorem p55 {R : Type} (N : Nat) (s0 t l m b c q z : Int) (κ) : p_55 (R := R) N (((s0, (t, (l, (m, (b, (c, (q, (z, ())))))))), ()), ()) κ = κ (decide (t ≤ 3 ∧ l ≤ 4 ∧ b ≤ 80)) := by
  unfold p_55 Q_55
  dsimp only
  by_cases h1 : t ≤ 3
  · by_cases h2 : l ≤ 4
    · simp [h1, h2]
    · simp [h2]
  · simp [h1]
theorem p43 {R : Type} (N : Nat) (n : Int) (h : 0 ≤ n ∧ n ≤ 80) (κ0 κ1) : p_43 (R := R) N ((n, ()), ()) κ0 κ1 = κ1 (((), (0, ())), ((n, (0, (0, (0, ())))), ())) := by
  unfold p_43 Q_43
  dsimp only
  rw [bif_f (dF (by omega)), bif_f (dF (by omega))]
theorem p44_v1 {R : Type} (N : Nat) (n : Int) (h : 0 ≤ n ∧ n ≤ 80) (κ0 κ1) : p_44_v1 (R := R) N (((), n, ()), ((n, (0, (0, (0, ())))), ())) κ0 κ1 = κ1 (((), (0, ())), ((n, (n, (n, (1, ())))), ((), ((), (true, ()))), List.replicate n.toNat nulB, ())) := by
  unfold p_44_v1 Q_44_v1
  dsimp only
  have e : maxA 0 n = n := by unfold maxA; split <;> omega
  rw [bif_f (dF (by omega)), sub64 (by omega) (by omega), Int.sub_zero, bif_f (dF (by omega)), add64 (by omega) (by omega), Int.zero_add, e, bif_t (dT (by omega)), bif_t (dT (by omega)), bif_t (dT (by omega)), bif_t (dT (by omega))]
  rfl
theorem p45_v1 {R : Type} (N : Nat) (s0 t l m b c q z : Int) (hl : 1 ≤ l) (ar) (bl : List Bl) (hb : (bl.length : Int) = b) (κ0 κ1) :
    p_45_v1 (R := R) N (((), (s0, (t, (l, (m, (b, (c, (q, (z, ())))))))), ()), (((), ((), (true, ()))), ar, bl, ())) κ0 κ1 = κ1 (((), (0, ())), (((), ((), (true, ()))), ar, bl, ((), ((s0, (t, (l, (m, (b, (c, (q, (z, ())))))))), ())), ())) := by
  unfold p_45_v1 Q_45_v1
  dsimp only
  rw [bif_f (dF (by omega))]
  unfold p_77 Q_77
  dsimp only
  rw [hb, bif_f (dF (by omega))]
/-- A grid is made if its parameters may be and are few. -/
theorem p14 {R : Type} (N : Nat) (a t m l z : Int) (κ0 κ1) : p_14 (R := R) N (((a, (t, (m, (l, (z, ()))))), ()), ()) κ0 κ1 =
    if h : Fit a t m l z ∧ FewP t l (m / (4 * l)) then κ1 ((), gh (shn a t m (4 * l * (m / (4 * l))) (m / (4 * l)) z l.toNat (4 * (m / (4 * l))).toNat) (4 * l * (m / (4 * l)), (4 * l * (m / (4 * l)), (4 * l * (m / (4 * l)), (1, ())))) (List.replicate (l.toNat * (4 * (m / (4 * l))).toNat) nulB)) else κ0 ((), ()) := by
  unfold p_14 Q_14
  dsimp only
  rw [p42]
  by_cases h : Fit a t m l z
  · rw [dT h]
    obtain ⟨⟨h1, h2⟩, ⟨h3, h4⟩, ⟨h5, h6⟩, ⟨h7, h8⟩, h9, h10, h11⟩ := id h
    simp only [cond_true, bne_self_eq_false, cond_false]
    rw [p55]
    have q0 : 0 ≤ m / (4 * l) := Int.ediv_nonneg (by omega) (by omega)
    generalize hq : m / (4 * l) = q at *
    have e2 : 4 * l * q = l * (4 * q) := by rw [Int.mul_comm 4 l, Int.mul_assoc]
    have e3 : 0 ≤ 4 * l * q := by rw [e2]; exact Int.mul_nonneg (by omega) (by omega)
    by_cases g : t ≤ 3 ∧ l ≤ 4 ∧ 4 * l * q ≤ 80
    · rw [dT g, bif_f nT]
      rw [p43 N _ ⟨e3, g.2.2⟩]
      dsimp only
      rw [p44_v1 N _ ⟨e3, g.2.2⟩]
      dsimp only
      rw [p45_v1 N _ _ _ _ _ _ _ _ h5 _ _ (by rw [List.length_replicate]; omega)]
      rw [dif_pos ⟨h, g⟩]
      unfold gh shn
      rw [show ((l.toNat : Nat) : Int) = l by omega, show (((4 * q).toNat : Nat) : Int) = 4 * q by omega, show (4 * l * q).toNat = l.toNat * (4 * q).toNat by
        rw [e2]
        obtain ⟨x, rfl⟩ := Int.eq_ofNat_of_zero_le (show 0 ≤ l by omega)
        obtain ⟨y, rfl⟩ := Int.eq_ofNat_of_zero_le q0
        rw [show (4 : Int) * (y : Int) = ((4 * y : Nat) : Int) by simp, ← Int.natCast_mul, Int.toNat_natCast, Int.toNat_natCast, Int.toNat_natCast]]
    · rw [dF g, bif_t nF, dif_neg (fun hh => g hh.2)]
  · rw [dF h, bif_f rfl, dif_neg (fun hh => h hh.1)]
    rfl

/-- Whether a block refers by words of its own. -/
def freeF (s : Shp8) (pass slice : Int) : Bool := if s.1 = 3 then (if pass = 0 then decide (slice < 2) else false) else s.1 == 2
theorem p64 {R : Type} (N : Nat) (s : Shp8) (pass slice : Int) (κ : Bool → Option R) : p_64 N ((s, (pass, (slice, ())), ()), ()) κ = κ (freeF s pass slice) := by
  unfold p_64 Q_64 freeF
  dsimp only
  by_cases h2 : s.1 = 2
  · have h3 : ¬ s.1 = 3 := by omega
    rw [bif_t (beq_iff_eq.2 h2), if_neg h3, beq_iff_eq.2 h2]
  · rw [bif_f (beq_eq_false_iff_ne.2 h2)]
    by_cases h3 : s.1 = 3
    · rw [bif_t (beq_iff_eq.2 h3), if_pos h3]
      by_cases h4 : pass = 0
      · rw [bif_t (beq_iff_eq.2 h4), if_pos h4]
      · rw [bif_f (beq_eq_false_iff_ne.2 h4), if_neg h4]
    · rw [bif_f (beq_eq_false_iff_ne.2 h3), if_neg h3, beq_eq_false_iff_ne.2 h2]
/-- A word as two numbers. -/
def wordsF (w : Int) : Int × Int := (IntKind.wrap .u32 w, IntKind.wrap .u32 (shrA .u64 w 32))
theorem wordsF_in (w : Int) : (0 ≤ (wordsF w).1 ∧ (wordsF w).1 < 4294967296) ∧ 0 ≤ (wordsF w).2 ∧ (wordsF w).2 < 4294967296 := by
  unfold wordsF
  dsimp only
  rw [wrapU32, wrapU32]
  omega
theorem p66 {R : Type} (N : Nat) (w : Int) (κ) : p_66 (R := R) N ((w, ()), ()) κ = κ ((wordsF w).1, ((wordsF w).2, ())) := rfl
/-- The shape of a grid of L lanes of 4 q columns. -/
def shq (a t m b z : Int) (L q : Nat) : Shp8 := (a, (t, ((L : Int), (m, (b, (4 * (q : Int), ((q : Int), (z, ()))))))))
theorem shq_shn (a t m b z : Int) (L q : Nat) : shq a t m b z L q = shn a t m b q z L (4 * q) := by unfold shq shn; simp
abbrev SrB := Shp8 × ((Int × (Int × Unit)) × (Int × (Int × ((Nat → Int) × Unit))))
def src (s : Shp8) (pass slice lane c : Int) (h : Bl) : SrB := (s, ((pass, (slice, ())), (lane, (c, (h, ())))))
abbrev GS := (Unit × (Shp8 × Unit)) × (Unit × (Unit × (Bool × Unit))) × (Int × (Int × (Int × (Int × Unit)))) × (List Bl) × SrB × Unit
def ghs (s : Shp8) (ar : Int × (Int × (Int × (Int × Unit)))) (l : List Bl) (r : SrB) : GS := (((), (s, ())), ((), ((), (true, ()))), ar, l, r, ())
section
variable {R : Type} (N : Nat) (a t m b z : Int) (L q : Nat)
theorem p36 (hq : 2 ≤ q ∧ q ≤ 20) {slice index : Nat} (hs : slice < 4) (hi : index < q) (κ : Int → Option R) :
    p_36 N ((shq a t m b z L q, (slice : Int), (index : Int), ()), ()) κ = κ ((slice * q + index : Nat) : Int) := by
  unfold p_36 Q_36 shq
  dsimp only
  have h1 : slice * q ≤ 3 * q := Nat.mul_le_mul_right _ (by omega)
  have h2 : ((slice * q : Nat) : Int) = (slice : Int) * (q : Int) := Int.natCast_mul ..
  rw [mul64 (by omega) (by omega), add64 (by omega) (by omega)]
  rw [Int.natCast_add, h2]
/-- The column ahead of one. -/
def befQ (q col : Nat) : Nat := if col = 0 then 4 * q - 1 else col - 1
theorem befQ_lt (hq : 2 ≤ q) {col : Nat} (h : col < 4 * q) : befQ q col < 4 * q := by unfold befQ; split <;> omega
theorem p37 (hq : 2 ≤ q ∧ q ≤ 20) {col : Nat} (h : col < 4 * q) (κ : Int → Option R) :
    p_37 N ((shq a t m b z L q, (col : Int), ()), ()) κ = κ ((befQ q col : Nat) : Int) := by
  unfold p_37 Q_37 shq befQ
  dsimp only
  by_cases h0 : col = 0
  · subst h0
    rw [bif_t (by rfl), if_pos rfl, sub64 (by omega) (by omega)]
    congr 1 <;> omega
  · rw [bif_f (beq_eq_false_iff_ne.2 (by omega)), if_neg h0, sub64 (by omega) (by omega)]
    congr 1 <;> omega
/-- The word by which a block refers to another one. -/
def wordQ (l : List Bl) (pass slice lane index : Nat) : Int :=
  if freeF (shq a t m b z L q) pass slice = true then addrF a t b pass slice lane ((index / 128 + 1 : Nat) : Int) (index % 128) else (l.getD (lane * (4 * q) + befQ q (slice * q + index)) nulB) 0
theorem p65 (hN : N = 1001) (pass slice lane : Int) (index : Nat) (hi : index ≤ 1000) (c : Int) (h : Bl) (hok : c ≠ 0 → h = addrF a t b pass slice lane c) (κ) :
    p_65 (R := R) N (((), (index : Int), ()), (src (shq a t m b z L q) pass slice lane c h, ())) κ =
      κ (((wordsF (addrF a t b pass slice lane ((index / 128 + 1 : Nat) : Int) (index % 128))).1, ((wordsF (addrF a t b pass slice lane ((index / 128 + 1 : Nat) : Int) (index % 128))).2, ())), (src (shq a t m b z L q) pass slice lane ((index / 128 + 1 : Nat) : Int) (addrF a t b pass slice lane ((index / 128 + 1 : Nat) : Int)), ())) := by
  unfold p_65 Q_65 src shq
  dsimp only
  have e1 : quoA .i64 (index : Int) 128 = ((index / 128 : Nat) : Int) := by rw [quo64 (by omega) (by omega) (by omega)]; omega
  have e2 : addA .i64 ((index / 128 : Nat) : Int) 1 = ((index / 128 + 1 : Nat) : Int) := by rw [add64 (by omega) (by omega)]; simp
  have e3 : remA .i64 (index : Int) 128 = ((index % 128 : Nat) : Int) := by rw [rem64 (by omega)]; omega
  rw [bif_f (dF (by omega)), e1, e2, e3]
  by_cases hc : ((index / 128 + 1 : Nat) : Int) = c
  · rw [bif_f (by rw [hc]; simp), bif_t (dT (by omega)), bif_t (dT (by omega)), Int.toNat_natCast, p66]
    have hh := hok (by omega)
    subst hh
    rw [hc]
  · rw [bif_t (by simpa using hc)]
    rw [p90 N hN, bif_t (dT (by omega)), bif_t (dT (by omega)), Int.toNat_natCast, p66]
theorem p32 (hN : N = 1001) (hL : L ≤ 4) (hq : 2 ≤ q ∧ q ≤ 20) {pass slice lane index : Nat} (hs : slice < 4) (hla : lane < L) (hi : index < q) (ar) (l : List Bl) (hl : l.length = L * (4 * q)) (c : Int) (h : Bl) (hok : c ≠ 0 → h = addrF a t b pass slice lane c) :
    ∃ c' h', (c' ≠ 0 → h' = addrF a t b pass slice lane c') ∧ ∀ κ, p_32 (R := R) N (((), ((pass : Int), ((slice : Int), ())), (lane : Int), (index : Int), (), ()), ghs (shq a t m b z L q) ar l (src (shq a t m b z L q) pass slice lane c h)) κ =
      κ (((wordsF (wordQ a t m b z L q l pass slice lane index)).1, ((wordsF (wordQ a t m b z L q l pass slice lane index)).2, (0, ()))), ghs (shq a t m b z L q) ar l (src (shq a t m b z L q) pass slice lane c' h')) := by
  by_cases hf : freeF (shq a t m b z L q) pass slice = true
  · refine ⟨((index / 128 + 1 : Nat) : Int), addrF a t b pass slice lane ((index / 128 + 1 : Nat) : Int), fun _ => rfl, fun κ => ?_⟩
    unfold p_32 Q_32 ghs
    dsimp only
    refine (p64 N (shq a t m b z L q) pass slice _).trans ?_
    rw [hf, bif_t rfl]
    refine (p65 N a t m b z L q hN pass slice lane index (by omega) c h hok _).trans ?_
    unfold wordQ
    rw [if_pos hf]
  · refine ⟨c, h, hok, fun κ => ?_⟩
    unfold p_32 Q_32 ghs
    dsimp only
    refine (p64 N (shq a t m b z L q) pass slice _).trans ?_
    have hcol : slice * q + index < 4 * q := by
      have := Nat.mul_le_mul_right q (show slice + 1 ≤ 4 by omega)
      rw [Nat.succ_mul] at this; omega
    rw [bif_f (by simpa using hf)]
    refine (p36 N a t m b z L q hq hs hi _).trans ?_
    refine (p37 N a t m b z L q hq hcol _).trans ?_
    have hb := befQ_lt q hq.1 hcol
    have := p9 (R := R) N a t m b q z L (4 * q) hL (by omega) (lane : Int) ((befQ q (slice * q + index) : Nat) : Int) ar l hl
    rw [← shq_shn] at this
    refine (this _).trans ?_
    rw [if_pos ⟨by omega, by omega, by omega, by omega⟩]
    dsimp only
    rw [bif_f (show ((0 : Int) != 0) = false from rfl), p66, show ((lane : Int) * ((4 * q : Nat) : Int) + ((befQ q (slice * q + index) : Nat) : Int)).toNat = lane * (4 * q) + befQ q (slice * q + index) by rw [← Int.natCast_mul, ← Int.natCast_add, Int.toNat_natCast]]
    unfold wordQ
    rw [if_neg hf]
/-- What a block refers to. -/
def refL (l : List Bl) (pass slice lane index : Nat) : Int := laneOf pass slice lane (wordsF (wordQ a t m b z L q l pass slice lane index)).2 L
def refC (l : List Bl) (pass slice lane index : Nat) : Int := colOf pass slice index (wordsF (wordQ a t m b z L q l pass slice lane index)).1 q (refL a t m b z L q l pass slice lane index == lane)
theorem refL_in (hL : 1 ≤ L) (l : List Bl) (pass slice lane index : Nat) (hla : lane < L) : 0 ≤ refL a t m b z L q l pass slice lane index ∧ refL a t m b z L q l pass slice lane index < L := by
  unfold refL laneOf
  split
  · omega
  · exact ⟨Int.emod_nonneg _ (by omega), Int.emod_lt_of_pos _ (by omega)⟩
theorem refC_in (hq : 2 ≤ q) (l : List Bl) (pass slice lane index : Nat) : 0 ≤ refC a t m b z L q l pass slice lane index ∧ refC a t m b z L q l pass slice lane index < 4 * q := by
  unfold refC colOf
  exact ⟨Int.emod_nonneg _ (by omega), Int.emod_lt_of_pos _ (by omega)⟩
/-- There is such a block. -/
def ThereN (t : Int) (L q pass slice lane index : Nat) : Prop := (pass : Int) < t ∧ slice < 4 ∧ lane < L ∧ index < q ∧ (pass = 0 → slice = 0 → 2 ≤ index)
theorem there_of {pass slice lane index : Nat} (ht : ThereN t L q pass slice lane index) : There t L q pass slice lane index := by
  obtain ⟨h1, h2, h3, h4, h5⟩ := ht
  refine ⟨⟨⟨by omega, by omega⟩, by omega, by omega⟩, ⟨by omega, by omega⟩, ?_, by omega⟩
  split
  · rename_i h
    have := h5 (by omega) (by omega)
    omega
  · omega
theorem p35 (hN : N = 1001) (ht : 1 ≤ t ∧ t ≤ 3) (hL : 1 ≤ L ∧ L ≤ 4) (hq : 2 ≤ q ∧ q ≤ 20) {pass slice lane index : Nat} (hth : ThereN t L q pass slice lane index) (ar) (l : List Bl) (hl : l.length = L * (4 * q)) (c : Int) (h : Bl) (hok : c ≠ 0 → h = addrF a t b pass slice lane c) :
    ∃ c' h', (c' ≠ 0 → h' = addrF a t b pass slice lane c') ∧ ∀ κ, p_35 (R := R) N (((), ((pass : Int), ((slice : Int), ())), (lane : Int), (index : Int), (), ()), ghs (shq a t m b z L q) ar l (src (shq a t m b z L q) pass slice lane c h)) κ =
      κ (((((lane : Int), (((slice * q + index : Nat) : Int), ())), (((lane : Int), (((befQ q (slice * q + index) : Nat) : Int), ())), ((refL a t m b z L q l pass slice lane index, (refC a t m b z L q l pass slice lane index, ())), ()))), (0, ())), ghs (shq a t m b z L q) ar l (src (shq a t m b z L q) pass slice lane c' h')) := by
  obtain ⟨g1, g2, g3, g4, g5⟩ := id hth
  obtain ⟨c', h', k1, k2⟩ := p32 (R := R) N a t m b z L q hN hL.2 hq g2 g3 g4 ar l hl c h hok
  refine ⟨c', h', k1, fun κ => ?_⟩
  unfold p_35 Q_35
  dsimp only
  refine (k2 _).trans ?_
  unfold ghs src
  dsimp only
  rw [bif_f (show ((0 : Int) != 0) = false from rfl)]
  obtain ⟨⟨w1, w2⟩, w3, w4⟩ := wordsF_in (wordQ a t m b z L q l pass slice lane index)
  refine (p34 N a t (L : Int) m b (q : Int) z ⟨ht.1, by omega⟩ ⟨by omega, by omega⟩ ⟨by omega, by omega⟩ pass slice lane index _ _ w1 w2 w3 w4 _).trans ?_
  rw [if_pos (there_of t L q hth)]
  dsimp only
  rw [bif_f (show ((0 : Int) != 0) = false from rfl)]
  have hcol : slice * q + index < 4 * q := by
    have := Nat.mul_le_mul_right q (show slice + 1 ≤ 4 by omega)
    rw [Nat.succ_mul] at this; omega
  refine (p36 N a t m b z L q hq g2 g4 _).trans ?_
  refine (p37 N a t m b z L q hq hcol _).trans ?_
  rfl
/-- What a block is filled with. -/
def fillQ (pass : Int) (x y was : Bl) : Bl := xorL [mixF x y, if pass = 0 then nulB else was]
theorem p75 (hN : N = 1001) (x y w : Bl) (κ : Bl → Option R) : p_75 N ((x, y, (), ()), ([w], ())) κ = κ (xorL [mixF x y, w]) := by
  unfold p_75 Q_75
  try dsimp only
  rw [p95 N hN]
  try dsimp only
  rw [bif_t (by simp)]
  refine (p48 N (by omega) _ (by simp) _).trans ?_
  rfl
theorem p39 (hN : N = 1001) (hL : L ≤ 4) (hq : 2 ≤ q ∧ q ≤ 20) (pass slice : Int) (la co lb cb lr cr : Nat) (h1 : la < L) (h2 : co < 4 * q) (h3 : lb < L) (h4 : cb < 4 * q) (h5 : lr < L) (h6 : cr < 4 * q) (ar) (l : List Bl) (hl : l.length = L * (4 * q)) (κ) :
    p_39 (R := R) N (((), (pass, (slice, ())), (((la : Int), ((co : Int), ())), (((lb : Int), ((cb : Int), ())), (((lr : Int), ((cr : Int), ())), ()))), ()), gh (shq a t m b z L q) ar l) κ =
      κ (0, gh (shq a t m b z L q) ar (l.set (la * (4 * q) + co) (fillQ pass (l.getD (lb * (4 * q) + cb) nulB) (l.getD (lr * (4 * q) + cr) nulB) (l.getD (la * (4 * q) + co) nulB)))) := by
  unfold p_39 Q_39 gh
  try dsimp only
  have get : ∀ (x y : Nat), x < L → y < 4 * q → ∀ κ, p_9 (R := R) N (((), ((x : Int), ((y : Int), ())), ()), gh (shq a t m b z L q) ar l) κ = κ (l.getD (x * (4 * q) + y) nulB, (0, ())) := by
    intro x y hx hy κ
    rw [shq_shn]
    refine (p9 (R := R) N a t m b q z L (4 * q) hL (by omega) x y ar l hl _).trans ?_
    rw [if_pos ⟨by omega, by omega, by omega, by omega⟩, show ((x : Int) * ((4 * q : Nat) : Int) + (y : Int)).toNat = x * (4 * q) + y by rw [← Int.natCast_mul, ← Int.natCast_add, Int.toNat_natCast]]
  have put : ∀ (w : Bl) κ, p_12 (R := R) N (((), ((la : Int), ((co : Int), ())), w, ()), gh (shq a t m b z L q) ar l) κ = κ (0, gh (shq a t m b z L q) ar (l.set (la * (4 * q) + co) w)) := by
    intro w κ
    rw [shq_shn]
    refine (p12 (R := R) N a t m b q z L (4 * q) hL (by omega) la co ar l hl w _).trans ?_
    rw [if_pos ⟨by omega, by omega, by omega, by omega⟩, show ((la : Int) * ((4 * q : Nat) : Int) + (co : Int)).toNat = la * (4 * q) + co by rw [← Int.natCast_mul, ← Int.natCast_add, Int.toNat_natCast]]
  refine (get lb cb h3 h4 _).trans ?_
  dsimp only
  rw [bif_f (show ((0 : Int) != 0) = false from rfl)]
  refine (get lr cr h5 h6 _).trans ?_
  dsimp only
  rw [bif_f (show ((0 : Int) != 0) = false from rfl)]
  refine (get la co h1 h2 _).trans ?_
  dsimp only
  rw [bif_f (show ((0 : Int) != 0) = false from rfl)]
  unfold fillQ
  by_cases hp : pass = 0
  · rw [bif_t (by simpa using hp), if_pos hp]
    refine (p75 N hN _ _ _ _).trans ?_
    refine (put _ _).trans ?_
    rfl
  · rw [bif_f (by simpa using hp), if_neg hp]
    refine (p75 N hN _ _ _ _).trans ?_
    refine (put _ _).trans ?_
    rfl
end

abbrev Cell2 := Int × (Int × Unit)
abbrev Nx := Cell2 × (Cell2 × (Cell2 × Unit))
abbrev LanB := Unit × (Int × (Cell2 × (Int × (Unit × (Nx × (Bool × (Bool × (Bool × Unit))))))))
def lan (who pass slice index : Int) (nx : Nx) (hd gt dn : Bool) : LanB := ((), (who, ((pass, (slice, ())), (index, ((), (nx, (hd, (gt, (dn, ()))))))))) 
abbrev LH := LanB × (Unit × (Shp8 × Unit)) × (Unit × (Unit × (Bool × Unit))) × (Int × (Int × (Int × (Int × Unit)))) × (List Bl) × SrB × Unit
def lh (b : LanB) (s : Shp8) (ar : Int × (Int × (Int × (Int × Unit)))) (l : List Bl) (r : SrB) : LH := (b, ((), (s, ())), ((), ((), (true, ()))), ar, l, r, ())
section
variable {R : Type} (N : Nat) (a t m b z : Int) (L q : Nat)
theorem p24_v1 (who pass slice index : Int) (nx) (hd gt dn : Bool) (s ar l r) (κ) : p_24_v1 (R := R) N (((), ()), lh (lan who pass slice index nx hd gt dn) s ar l r) κ = κ dn := rfl
theorem p25 (who pass slice index : Int) (nx) (hd gt dn : Bool) (s ar l r) (κ) : p_25 (R := R) N (((), ()), lh (lan who pass slice index nx hd gt dn) s ar l r) κ = κ (gt && !dn) := by
  unfold p_25 Q_25 lh lan
  cases gt <;> rfl
theorem p30n (s : Shp8) (pass slice : Nat) (κ) : p_30 (R := R) N ((s, (pass : Int), (slice : Int), ()), ()) κ = κ (((if pass = 0 ∧ slice = 0 then 2 else 0 : Nat) : Int)) := by
  unfold p_30 Q_30
  dsimp only
  by_cases h1 : pass = 0
  · subst h1
    by_cases h2 : slice = 0
    · subst h2; rfl
    · rw [bif_t (by rfl), bif_f (beq_eq_false_iff_ne.2 (by omega)), if_neg (by omega)]; rfl
  · rw [bif_f (beq_eq_false_iff_ne.2 (by omega)), if_neg (by omega)]; rfl
theorem p61 (who pass0 slice0 index : Int) (nx hd gt dn s ar l) (who' : Int) (pass slice : Nat) (κ) :
    p_61 (R := R) N (((), ((pass : Int), ((slice : Int), ())), ()), (lan who pass0 slice0 index nx hd gt dn, ((), (s, ())), ((), ((), (true, ()))), ar, l, ())) κ =
      κ ((), lh (lan who pass slice ((if pass = 0 ∧ slice = 0 then 2 else 0 : Nat) : Int) nx false false dn) s ar l (src s pass slice who 0 nulB)) := by
  unfold p_61 Q_61 lh lan src
  dsimp only
  rw [p30n]
  rfl
theorem p61_v1 (who pass0 slice0 index : Int) (nx hd gt dn s ar l r) (pass slice : Nat) (κ) :
    p_61_v1 (R := R) N (((), ((pass : Int), ((slice : Int), ())), ()), lh (lan who pass0 slice0 index nx hd gt dn) s ar l r) κ =
      κ ((), (lan who pass slice ((if pass = 0 ∧ slice = 0 then 2 else 0 : Nat) : Int) nx false false dn, ((), (s, ())), ((), ((), (true, ()))), ar, l, r, src s pass slice who 0 nulB, ())) := by
  unfold p_61_v1 Q_61_v1 lh lan src
  dsimp only
  rw [p30n]
  rfl
/-- The steps of a lane: a round's end, a look, a fill. -/
theorem p27_arrive (who pass slice : Int) (nx) (ar l r) (κ) :
    p_27_v1 (R := R) N (((), ()), lh (lan who pass slice q nx false false false) (shq a t m b z L q) ar l r) κ =
      κ (((3, (who, ((pass, (slice, ())), ((0, (0, ())), ((0, (0, ())), ()))))), (0, ())), lh (lan who pass slice q nx false true false) (shq a t m b z L q) ar l r) := by
  unfold p_27_v1 Q_27_v1 lh lan shq
  dsimp only
  rw [bif_f rfl, bif_f rfl, bif_t (dT (by omega))]
theorem p27_look (hN : N = 1001) (ht : 1 ≤ t ∧ t ≤ 3) (hL : 1 ≤ L ∧ L ≤ 4) (hq : 2 ≤ q ∧ q ≤ 20) {pass slice lane index : Nat} (hth : ThereN t L q pass slice lane index) (ar) (l : List Bl) (hl : l.length = L * (4 * q)) (nx) (c : Int) (h : Bl) (hok : c ≠ 0 → h = addrF a t b pass slice lane c) :
    ∃ c' h', (c' ≠ 0 → h' = addrF a t b pass slice lane c') ∧ ∃ cr lr : Nat, cr < 4 * q ∧ lr < L ∧ ∀ κ,
      p_27_v1 (R := R) N (((), ()), lh (lan lane pass slice index nx false false false) (shq a t m b z L q) ar l (src (shq a t m b z L q) pass slice lane c h)) κ =
      κ (((1, ((lane : Int), (((pass : Int), ((slice : Int), ())), (((lane : Int), (((slice * q + index : Nat) : Int), ())), (((lr : Int), ((cr : Int), ())), ()))))), (0, ())),
        lh (lan lane pass slice index (((lane : Int), (((slice * q + index : Nat) : Int), ())), (((lane : Int), (((befQ q (slice * q + index) : Nat) : Int), ())), (((lr : Int), ((cr : Int), ())), ()))) true false false) (shq a t m b z L q) ar l (src (shq a t m b z L q) pass slice lane c' h')) := by
  obtain ⟨c', h', k1, k2⟩ := p35 (R := R) N a t m b z L q hN ht hL hq hth ar l hl c h hok
  obtain ⟨g1, g2, g3, g4, g5⟩ := id hth
  obtain ⟨r1, r2⟩ := refL_in a t m b z L q hL.1 l pass slice lane index g3
  obtain ⟨r3, r4⟩ := refC_in a t m b z L q hq.1 l pass slice lane index
  obtain ⟨lr, e1⟩ := Int.eq_ofNat_of_zero_le r1
  obtain ⟨cr, e2⟩ := Int.eq_ofNat_of_zero_le r3
  refine ⟨c', h', k1, cr, lr, by omega, by omega, fun κ => ?_⟩
  have i4 : ¬ (index : Int) ≥ (q : Int) := by omega
  unfold p_27_v1 Q_27_v1
  show (bif false then _ else bif false then _ else bif decide ((index : Int) ≥ (q : Int)) then _ else bif true then _ else _) = _
  rw [bif_f rfl, bif_f rfl, bif_f (dF i4), bif_t rfl]
  refine (k2 _).trans ?_
  rw [e1, e2]
  rfl
theorem p27_fill (hN : N = 1001) (hL : L ≤ 4) (hq : 2 ≤ q ∧ q ≤ 20) (pass slice : Int) (index : Nat) (hi : index < q) (la co lb cb lr cr : Nat) (h1 : la < L) (h2 : co < 4 * q) (h3 : lb < L) (h4 : cb < 4 * q) (h5 : lr < L) (h6 : cr < 4 * q) (who : Int) (ar) (l : List Bl) (hl : l.length = L * (4 * q)) (r) (κ) :
    p_27_v1 (R := R) N (((), ()), lh (lan who pass slice index (((la : Int), ((co : Int), ())), (((lb : Int), ((cb : Int), ())), (((lr : Int), ((cr : Int), ())), ()))) true false false) (shq a t m b z L q) ar l r) κ =
      κ (((2, (who, ((pass, (slice, ())), (((la : Int), ((co : Int), ())), (((lr : Int), ((cr : Int), ())), ()))))), (0, ())),
        lh (lan who pass slice ((index + 1 : Nat) : Int) (((la : Int), ((co : Int), ())), (((lb : Int), ((cb : Int), ())), (((lr : Int), ((cr : Int), ())), ()))) false false false) (shq a t m b z L q) ar (l.set (la * (4 * q) + co) (fillQ pass (l.getD (lb * (4 * q) + cb) nulB) (l.getD (lr * (4 * q) + cr) nulB) (l.getD (la * (4 * q) + co) nulB))) r) := by
  have i4 : ¬ (index : Int) ≥ (q : Int) := by omega
  unfold p_27_v1 Q_27_v1
  show (bif false then _ else bif false then _ else bif decide ((index : Int) ≥ (q : Int)) then _ else bif false then _ else _) = _
  rw [bif_f rfl, bif_f rfl, bif_f (dF i4), bif_f rfl]
  refine (p39 N a t m b z L q hN hL hq pass slice la co lb cb lr cr h1 h2 h3 h4 h5 h6 ar l hl _).trans ?_
  have e : addA .i64 (index : Int) 1 = ((index + 1 : Nat) : Int) := by rw [add64 (by omega) (by omega)]; simp
  rw [← e]
  rfl
end

theorem p88 {R : Type} (N : Nat) (a : Int) (κ) : p_88 (R := R) N ((a, ()), ()) κ = κ (decide (0 ≤ a ∧ a ≤ 4611686018427387904)) := by
  unfold p_88 Q_88
  dsimp only
  by_cases h1 : 0 ≤ a
  · by_cases h2 : a ≤ 4611686018427387904 <;> simp [h1, h2]
  · simp [h1]
/-- The product so far, times those that are left; none: it is too great. -/
def mulGo : List Int → Int → Option Int
  | [], o => some o
  | a :: l, o => if o * a ≤ 4611686018427387904 then mulGo l (o * a) else none
def hld (a : Int) : Bool := decide (0 ≤ a ∧ a ≤ 4611686018427387904)
theorem l62b {R : Type} (N : Nat) (l : List Int) (hl : l.length ≤ 1000) (hh : ∀ a ∈ l, 0 ≤ a ∧ a ≤ 4611686018427387904) (κ0 κ1) : ∀ (n i : Nat) (o : Int), i ≤ l.length → l.length - i < n → 0 ≤ o → o ≤ 4611686018427387904 →
    l_62_12 (R := R) N n ((o, (), (l.length : Int), (i : Int), ()), (l, ())) κ0 κ1 = (match mulGo (l.drop i) o with | none => κ0 ((0, 10, ()), (l, ())) | some r => κ1 ((r, ()), (l, ())))
  | 0, i, o, h1, h2, h3, h4 => by omega
  | n + 1, i, o, h1, h2, h3, h4 => by
    unfold l_62_12 B_62_12 C_62_12
    dsimp only
    by_cases hi : i < l.length
    · have hd : l.drop i = l[i] :: l.drop (i + 1) := List.drop_eq_getElem_cons hi
      have hg : List.getD l i (Sch.zero (.int .i64)) = l[i] := by simp [hi]
      obtain ⟨g1, g2⟩ := hh l[i] (List.getElem_mem hi)
      have e3 : addA .i64 (i : Int) 1 = ((i + 1 : Nat) : Int) := by rw [add64 (by omega) (by omega)]; simp
      rw [bif_t (dT (show (i : Int) < (l.length : Int) by omega)), bif_t (dT (show (0 : Int) ≤ (i : Int) by omega)), bif_t (dT (show (i : Int) < (l.length : Int) by omega)), Int.toNat_natCast, hg, e3, hd]
      rw [wrapU64, wrapU64, Int.emod_eq_of_lt h3 (by omega), Int.emod_eq_of_lt g1 (by omega), p89 N h3 (by omega) g1 (by omega)]
      have b1 : 0 ≤ o * l[i] := Int.mul_nonneg h3 g1
      have b2 : o * l[i] ≤ 4611686018427387904 * 4611686018427387904 := Int.mul_le_mul h4 g2 g1 (by decide)
      simp only [mulGo]
      generalize o * l[i] = z at *
      by_cases hz : z ≤ 4611686018427387904
      · have z1 : z / 18446744073709551616 = 0 := by omega
        have z2 : z % 18446744073709551616 = z := by omega
        simp only [z1, z2]
        rw [bif_f (dF (by omega)), bif_f (dF (by omega)), wrap64 (by omega) (by omega), if_pos hz]
        exact l62b N l hl hh κ0 κ1 n (i + 1) z (by omega) (by omega) (by omega) hz
      · rw [if_neg hz]
        by_cases hq : z / 18446744073709551616 > 0
        · rw [bif_t (dT hq)]
        · rw [bif_f (dF hq), bif_t (dT (by omega))]
    · rw [bif_f (dF (by omega)), List.drop_eq_nil_of_le (by omega)]
      rfl
theorem l62a {R : Type} (N : Nat) (l : List Int) (hl : l.length ≤ 1000) (κ0 κ1) : ∀ (n i : Nat) (o : Int) (b : Bool), i ≤ l.length → l.length - i < n →
    l_62_3 (R := R) N n (((), o, b, (), (l.length : Int), (i : Int), ()), (l, ())) κ0 κ1 = bif (l.drop i).all hld then κ1 (((), o, b || (l.drop i).any (· == 0), ()), (l, ())) else κ0 ((0, 1, ()), (l, ()))
  | 0, i, o, b, h1, h2 => by omega
  | n + 1, i, o, b, h1, h2 => by
    unfold l_62_3 B_62_3 C_62_3
    dsimp only
    by_cases hi : i < l.length
    · have hd : l.drop i = l[i] :: l.drop (i + 1) := List.drop_eq_getElem_cons hi
      have hg : List.getD l i (Sch.zero (.int .i64)) = l[i] := by simp [hi]
      have e3 : addA .i64 (i : Int) 1 = ((i + 1 : Nat) : Int) := by rw [add64 (by omega) (by omega)]; simp
      rw [bif_t (dT (show (i : Int) < (l.length : Int) by omega)), bif_t (dT (show (0 : Int) ≤ (i : Int) by omega)), bif_t (dT (show (i : Int) < (l.length : Int) by omega)), Int.toNat_natCast, hg, e3, hd, p88]
      simp only [List.all_cons, List.any_cons]
      by_cases hh : 0 ≤ l[i] ∧ l[i] ≤ 4611686018427387904
      · rw [dT hh, show hld l[i] = true from dT hh]
        simp only [Bool.not_true, cond_false, Bool.true_and]
        cases b with
        | true =>
          rw [bif_t rfl, l62a N l hl κ0 κ1 n (i + 1) o true (by omega) (by omega)]
          simp
        | false =>
          rw [bif_f rfl, l62a N l hl κ0 κ1 n (i + 1) o _ (by omega) (by omega)]
          simp
      · rw [dF hh, show hld l[i] = false from dF hh]
        simp
    · rw [bif_f (dF (by omega)), List.drop_eq_nil_of_le (by omega)]
      simp
/-- The product of all: none, and the error's number, or it. -/
def mulAll (l : List Int) : Int × Int :=
  bif l.all hld then (bif l.any (· == 0) then (0, 0) else match mulGo l 1 with | none => (0, 10) | some r => (r, 0)) else (0, 1)
theorem p62 {R : Type} (N : Nat) (l : List Int) (hl : l.length ≤ 1000) (hN : 1000 < N) (κ) : p_62 (R := R) N (((), ()), (l, ())) κ = κ (((mulAll l).1, ((mulAll l).2, ())), (l, ())) := by
  unfold p_62 Q_62
  dsimp only
  refine (l62a N l hl _ _ N 0 1 false (by omega) (by omega)).trans ?_
  simp only [List.drop_zero, Bool.false_or]
  unfold mulAll
  cases ha : l.all hld with
  | false => simp
  | true =>
    simp only [cond_true]
    cases hz : l.any (· == 0) with
    | true => simp
    | false =>
      have hh : ∀ a ∈ l, 0 ≤ a ∧ a ≤ 4611686018427387904 := fun a hm => of_decide_eq_true (List.all_eq_true.1 ha a hm)
      rw [bif_f rfl]
      refine (l62b N l hl hh _ _ N 0 1 (by omega) (by omega) (by omega) (by omega)).trans ?_
      simp only [List.drop_zero]
      cases mulGo l 1 <;> simp

section
variable {R : Type} (N : Nat) (a t m b z : Int) (L q : Nat)
theorem p41n (s : Shp8) (T : Nat) (hT : 1 ≤ T ∧ T ≤ 3) (hs : s.2.1 = (T : Int)) (n : Nat) (hn : n < 4 * T) (κ) :
    p_41 (R := R) N ((s, (((n / 4 : Nat) : Int), (((n % 4 : Nat) : Int), ())), ()), ()) κ =
      if n + 1 < 4 * T then κ (((((n + 1) / 4 : Nat) : Int), ((((n + 1) % 4 : Nat) : Int), ())), (true, ())) else κ ((0, (0, ())), (false, ())) := by
  unfold p_41 Q_41
  dsimp only
  rw [hs, add64 (by omega) (by omega), sub64 (by omega) (by omega)]
  by_cases h1 : n % 4 + 1 < 4
  · rw [bif_t (dT (by omega)), if_pos (by omega), show (n + 1) / 4 = n / 4 by omega, show (n + 1) % 4 = n % 4 + 1 by omega]
    rfl
  · rw [bif_f (dF (by omega))]
    by_cases h2 : n + 1 < 4 * T
    · rw [bif_t (dT (by omega)), if_pos h2, add64 (by omega) (by omega), show (n + 1) / 4 = n / 4 + 1 by omega, show (n + 1) % 4 = 0 by omega]
      rfl
    · rw [bif_f (dF (by omega)), if_neg h2]
abbrev AB := (Int × (Int × (Int × (Int × Unit))))
abbrev LE := ((Unit × Unit × Unit × Unit × Int × Int × Unit) × (Int × (Int × (Int × (Int × (Int × Unit))))) × (Unit × (Shp8 × Unit)) × (Unit × (Unit × (Bool × Unit))) × AB × (List Bl) × LanB × SrB × (Nat → Int) × Unit)
def les (F k : Int) (cst : Int × (Int × (Int × (Int × (Int × Unit))))) (s : Shp8) (ar : AB) (l : List Bl) (bl : LanB) (r : SrB) (v : Nat → Int) : LE := (((), (), (), (), F, k, ()), (cst, ((), (s, ())), ((), ((), (true, ()))), ar, l, bl, r, v, ()))
/-- One round with the gate shut. -/
theorem le_one (T F : Nat) (hF : F ≤ 1000) (hT : T ≤ 3) (ca cm cl cs : Int) (s : Shp8) (ar : AB) (l l' : List Bl) (who pass slice index : Int) (nx : Nx) (hd : Bool) (bl' : LanB) (r r' : SrB) (v : Nat → Int) (k : Nat) (hk : k < 4 * F + 20 * T) (kd : Nat) (h1 : 1 ≤ kd ∧ kd ≤ 3) (x : Nat) (hx : x ≤ 1000) (hv : v kd = (x : Int)) (rest : Int × (Cell2 × (Cell2 × (Cell2 × Unit))))
    (hs : ∀ κ, p_27_v1 (R := R) N (((), ()), lh (lan who pass slice index nx hd false false) s ar l r) κ = κ ((((kd : Int), rest), (0, ())), lh bl' s ar l' r')) (n : Nat) (κ0 κ1) :
    l_5_12 (R := R) N (n + 1) (les F k (ca, (T, (cm, (cl, (cs, ()))))) s ar l (lan who pass slice index nx hd false false) r v) κ0 κ1 =
      l_5_12 N n (les F ((k + 1 : Nat) : Int) (ca, (T, (cm, (cl, (cs, ()))))) s ar l' bl' r' (upd v kd ((x + 1 : Nat) : Int))) κ0 κ1 := by
  conv => lhs; unfold l_5_12 B_5_12 C_5_12
  show p_24_v1 N (((), ()), lh (lan who pass slice index nx hd false false) s ar l r) _ = _
  rw [p24_v1]
  dsimp only
  rw [bif_t nF]
  show (bif decide ((k : Int) < addA .i64 (mulA .i64 4 (F : Int)) (mulA .i64 20 (T : Int))) then p_25 N (((), ()), lh (lan who pass slice index nx hd false false) s ar l r) _ else _) = _
  rw [mul64 (by omega) (by omega), mul64 (by omega) (by omega), add64 (by omega) (by omega), bif_t (dT (by omega)), p25]
  try dsimp only
  rw [bif_f (show (false && !false) = false from rfl)]
  refine (hs _).trans ?_
  dsimp only [lh, les]
  rw [bif_f (show ((0 : Int) != 0) = false from rfl), bif_f (dF (by omega)), bif_f (dF (by omega)), bif_t (dT (by omega)), bif_t (dT (by omega)), bif_t (dT (by omega)), bif_t (dT (by omega)), Int.toNat_natCast, hv, add64 (by omega) (by omega), add64 (by omega) (by omega), show ((k + 1 : Nat) : Int) = (k : Int) + 1 by omega, show ((x + 1 : Nat) : Int) = (x : Int) + 1 by omega]
def V3 (v : Nat → Int) (x y w : Nat) : Prop := v 1 = (x : Int) ∧ v 2 = (y : Int) ∧ v 3 = (w : Int)
theorem upd_at (v : Nat → Int) (i : Nat) (x : Int) : upd v i x i = x := by rw [upd_if, if_pos rfl]
theorem upd_no (v : Nat → Int) {i j : Nat} (x : Int) (h : ¬ j = i) : upd v i x j = v j := by rw [upd_if, if_neg h]
/-- Look and fill. -/
theorem le_two (hN : N = 1001) (T F : Nat) (hF : F ≤ 1000) (hT : 1 ≤ T ∧ T ≤ 3) (hL : 1 ≤ L ∧ L ≤ 4) (hq : 2 ≤ q ∧ q ≤ 20) {pass slice lane index : Nat} (hth : ThereN T L q pass slice lane index) (ca cm cl cs : Int) (ar) (l : List Bl) (hl : l.length = L * (4 * q)) (nx) (c : Int) (h : Bl) (hok : c ≠ 0 → h = addrF a T b pass slice lane c) (v : Nat → Int) (x y w k : Nat) (hv : V3 v x y w) (hx : x ≤ 1000 ∧ y ≤ 1000) (hk : k + 2 ≤ 4 * F + 20 * T) :
    ∃ c' h' l' nx' v', (c' ≠ 0 → h' = addrF a T b pass slice lane c') ∧ l'.length = L * (4 * q) ∧ V3 v' (x + 1) (y + 1) w ∧ ∀ n κ0 κ1,
      l_5_12 (R := R) N (n + 2) (les F k (ca, (T, (cm, (cl, (cs, ()))))) (shq a T m b z L q) ar l (lan lane pass slice index nx false false false) (src (shq a T m b z L q) pass slice lane c h) v) κ0 κ1 =
      l_5_12 N n (les F ((k + 2 : Nat) : Int) (ca, (T, (cm, (cl, (cs, ()))))) (shq a T m b z L q) ar l' (lan lane pass slice ((index + 1 : Nat) : Int) nx' false false false) (src (shq a T m b z L q) pass slice lane c' h') v') κ0 κ1 := by
  obtain ⟨c', h', k1, cr, lr, k3, k4, k2⟩ := p27_look (R := R) N a T m b z L q hN ⟨by omega, by omega⟩ hL hq hth ar l hl nx c h hok
  obtain ⟨g1, g2, g3, g4, g5⟩ := id hth
  have hcol : slice * q + index < 4 * q := by
    have := Nat.mul_le_mul_right q (show slice + 1 ≤ 4 by omega)
    rw [Nat.succ_mul] at this; omega
  obtain ⟨v1, v2, v3⟩ := hv
  have hb := befQ_lt q hq.1 hcol
  refine ⟨c', h', l.set (lane * (4 * q) + (slice * q + index)) (fillQ pass (l.getD (lane * (4 * q) + befQ q (slice * q + index)) nulB) (l.getD (lr * (4 * q) + cr) nulB) (l.getD (lane * (4 * q) + (slice * q + index)) nulB)), (((lane : Int), (((slice * q + index : Nat) : Int), ())), (((lane : Int), (((befQ q (slice * q + index) : Nat) : Int), ())), (((lr : Int), ((cr : Int), ())), ()))), upd (upd v 1 ((x + 1 : Nat) : Int)) 2 ((y + 1 : Nat) : Int), k1, by rw [List.length_set]; exact hl, ?_, fun n κ0 κ1 => ?_⟩
  rotate_left 1
  · refine (le_one N T F hF hT.2 ca cm cl cs _ ar l l lane pass slice index nx false _ _ _ v k (by omega) 1 (by omega) x hx.1 v1 _ k2 (n + 1) κ0 κ1).trans ?_
    refine (le_one N T F hF hT.2 ca cm cl cs _ ar l _ lane pass slice index _ true _ _ _ _ (k + 1) (by omega) 2 (by omega) y hx.2 (by rw [upd_no _ _ (by omega)]; exact v2) _ (fun κ => p27_fill N a T m b z L q hN hL.2 hq pass slice index g4 lane (slice * q + index) lane (befQ q (slice * q + index)) lr cr g3 hcol g3 hb k4 k3 lane ar l hl _ κ) n κ0 κ1).trans ?_
    rfl
  · refine ⟨?_, upd_at _ _ _, ?_⟩
    · rw [upd_no _ _ (by omega)]; exact upd_at _ _ _
    · rw [upd_no _ _ (by omega), upd_no _ _ (by omega)]; exact v3
/-- A segment's blocks. -/
theorem le_seg (hN : N = 1001) (T F : Nat) (hF : F ≤ 1000) (hT : 1 ≤ T ∧ T ≤ 3) (hL : 1 ≤ L ∧ L ≤ 4) (hq : 2 ≤ q ∧ q ≤ 20) {pass slice lane : Nat} (hp : pass < T) (hs : slice < 4) (hla : lane < L) (ca cm cl cs : Int) (ar) : ∀ (j index : Nat) (hj : index + j = q) (hi : pass = 0 → slice = 0 → 2 ≤ index) (l : List Bl) (hl : l.length = L * (4 * q)) (nx) (c : Int) (h : Bl) (hok : c ≠ 0 → h = addrF a T b pass slice lane c) (v : Nat → Int) (x y w k : Nat) (hv : V3 v x y w) (hx : x + j ≤ 1000 ∧ y + j ≤ 1000) (hk : k + 2 * j ≤ 4 * F + 20 * T),
    ∃ c' h' l' nx' v', (c' ≠ 0 → h' = addrF a T b pass slice lane c') ∧ l'.length = L * (4 * q) ∧ V3 v' (x + j) (y + j) w ∧ ∀ n κ0 κ1,
      l_5_12 (R := R) N (n + 2 * j) (les F k (ca, (T, (cm, (cl, (cs, ()))))) (shq a T m b z L q) ar l (lan lane pass slice index nx false false false) (src (shq a T m b z L q) pass slice lane c h) v) κ0 κ1 =
      l_5_12 N n (les F ((k + 2 * j : Nat) : Int) (ca, (T, (cm, (cl, (cs, ()))))) (shq a T m b z L q) ar l' (lan lane pass slice q nx' false false false) (src (shq a T m b z L q) pass slice lane c' h') v') κ0 κ1
  | 0, index, hj, hi, l, hl, nx, c, h, hok, v, x, y, w, k, hv, hx, hk => ⟨c, h, l, nx, v, hok, hl, hv, fun n κ0 κ1 => by
      have : index = q := by omega
      subst this; rfl⟩
  | j + 1, index, hj, hi, l, hl, nx, c, h, hok, v, x, y, w, k, hv, hx, hk => by
    obtain ⟨c1, h1, l1, nx1, v1, a1, a2, a3, a4⟩ := le_two (R := R) N a m b z L q hN T F hF hT hL hq (show ThereN T L q pass slice lane index from ⟨by omega, hs, hla, by omega, hi⟩) ca cm cl cs ar l hl nx c h hok v x y w k hv (by omega) (by omega)
    obtain ⟨c2, h2, l2, nx2, v2, b1, b2, b3, b4⟩ := le_seg hN T F hF hT hL hq hp hs hla ca cm cl cs ar j (index + 1) (by omega) (fun e1 e2 => by have := hi e1 e2; omega) l1 a2 nx1 c1 h1 a1 v1 (x + 1) (y + 1) w (k + 2) a3 (by omega) (by omega)
    refine ⟨c2, h2, l2, nx2, v2, b1, b2, ?_, fun n κ0 κ1 => ?_⟩
    · rw [show x + (j + 1) = x + 1 + j by omega, show y + (j + 1) = y + 1 + j by omega]; exact b3
    · rw [show n + 2 * (j + 1) = n + 2 * j + 2 by omega, show k + 2 * (j + 1) = k + 2 + 2 * j by omega]
      exact (a4 _ κ0 κ1).trans (b4 n κ0 κ1)
theorem p26n (s : Shp8) (T : Nat) (hT : 1 ≤ T ∧ T ≤ 3) (hs : s.2.1 = (T : Int)) (n : Nat) (hn : n < 4 * T) (who idx : Int) (nx : Nx) (hd : Bool) (ar : AB) (l : List Bl) (r : SrB) (κ0 κ1) :
    p_26 (R := R) N (((), ()), lh (lan who ((n / 4 : Nat) : Int) ((n % 4 : Nat) : Int) idx nx hd true false) s ar l r) κ0 κ1 =
      if n + 1 < 4 * T then κ1 (true, (lan who (((n + 1) / 4 : Nat) : Int) (((n + 1) % 4 : Nat) : Int) 0 nx false false false, ((), (s, ())), ((), ((), (true, ()))), ar, l, r, src s (((n + 1) / 4 : Nat) : Int) (((n + 1) % 4 : Nat) : Int) who 0 nulB, ()))
      else κ0 (true, lh (lan who ((n / 4 : Nat) : Int) ((n % 4 : Nat) : Int) idx nx hd true true) s ar l r) := by
  unfold p_26 Q_26
  show p_25 N (((), ()), lh (lan who ((n / 4 : Nat) : Int) ((n % 4 : Nat) : Int) idx nx hd true false) s ar l r) _ = _
  rw [p25]
  show p_41 N ((s, (((n / 4 : Nat) : Int), (((n % 4 : Nat) : Int), ())), ()), ()) _ = _
  rw [p41n N s T hT hs n hn]
  by_cases h : n + 1 < 4 * T
  · rw [if_pos h, if_pos h]
    dsimp only
    rw [bif_f nT]
    refine (p61_v1 N who ((n / 4 : Nat) : Int) ((n % 4 : Nat) : Int) idx nx hd true false s ar l r ((n + 1) / 4) ((n + 1) % 4) _).trans ?_
    rw [if_neg (by omega)]
    rfl
  · rw [if_neg h, if_neg h]
    rfl
/-- A round with the gate open. -/
theorem le_gate (T F : Nat) (hF : F ≤ 1000) (hT : 1 ≤ T ∧ T ≤ 3) (ca cm cl cs : Int) (s : Shp8) (hs : s.2.1 = (T : Int)) (ar : AB) (l : List Bl) (who idx : Int) (nx : Nx) (hd : Bool) (r : SrB) (v : Nat → Int) (k : Nat) (hk : k < 4 * F + 20 * T) (j : Nat) (hj : j < 4 * T) (n : Nat) (κ0 κ1) :
    l_5_12 (R := R) N (n + 1) (les F k (ca, (T, (cm, (cl, (cs, ()))))) s ar l (lan who ((j / 4 : Nat) : Int) ((j % 4 : Nat) : Int) idx nx hd true false) r v) κ0 κ1 =
      if j + 1 < 4 * T then l_5_12 N n (les F ((k + 1 : Nat) : Int) (ca, (T, (cm, (cl, (cs, ()))))) s ar l (lan who (((j + 1) / 4 : Nat) : Int) (((j + 1) % 4 : Nat) : Int) 0 nx false false false) (src s (((j + 1) / 4 : Nat) : Int) (((j + 1) % 4 : Nat) : Int) who 0 nulB) v) κ0 κ1
      else l_5_12 N n (les F ((k + 1 : Nat) : Int) (ca, (T, (cm, (cl, (cs, ()))))) s ar l (lan who ((j / 4 : Nat) : Int) ((j % 4 : Nat) : Int) idx nx hd true true) r v) κ0 κ1 := by
  conv => lhs; unfold l_5_12 B_5_12 C_5_12
  show p_24_v1 N (((), ()), lh (lan who ((j / 4 : Nat) : Int) ((j % 4 : Nat) : Int) idx nx hd true false) s ar l r) _ = _
  rw [p24_v1]
  dsimp only
  rw [bif_t nF]
  show (bif decide ((k : Int) < addA .i64 (mulA .i64 4 (F : Int)) (mulA .i64 20 (T : Int))) then p_25 N (((), ()), lh (lan who ((j / 4 : Nat) : Int) ((j % 4 : Nat) : Int) idx nx hd true false) s ar l r) _ else _) = _
  rw [mul64 (by omega) (by omega), mul64 (by omega) (by omega), add64 (by omega) (by omega), bif_t (dT (by omega)), p25]
  try dsimp only
  rw [bif_t (show (true && !false) = true from rfl)]
  refine (p26n N s T hT hs j hj who idx nx hd ar l r _ _).trans ?_
  by_cases h : j + 1 < 4 * T
  · rw [if_pos h, if_pos h]
    dsimp only [les]
    rw [add64 (by omega) (by omega), show ((k + 1 : Nat) : Int) = (k : Int) + 1 by omega]
    try rfl
  · rw [if_neg h, if_neg h]
    dsimp only [les]
    rw [add64 (by omega) (by omega), show ((k + 1 : Nat) : Int) = (k : Int) + 1 by omega]
    try rfl
/-- All turns that are left. -/
theorem le_all (hN : N = 1001) (T F : Nat) (hF : F ≤ 1000) (hT : 1 ≤ T ∧ T ≤ 3) (hL : 1 ≤ L ∧ L ≤ 4) (hq : 2 ≤ q ∧ q ≤ 20) {lane : Nat} (hla : lane < L) (ca cm cl cs : Int) (ar) : ∀ (d j f : Nat) (hd : j + d + 1 = 4 * T) (hf : f = if j = 0 then 2 else 0) (l : List Bl) (hl : l.length = L * (4 * q)) (nx) (r : SrB) (hr : r = src (shq a T m b z L q) ((j / 4 : Nat) : Int) ((j % 4 : Nat) : Int) lane 0 nulB) (v : Nat → Int) (x y w k : Nat) (hv : V3 v x y w) (hx : x + (d + 1) * q ≤ 1000 ∧ y + (d + 1) * q ≤ 1000 ∧ w + (d + 1) ≤ 1000) (hk : k + (d + 1) * (2 * q + 2) ≤ 4 * F + 20 * T),
    ∃ r' l' nx' v' P S I H, l'.length = L * (4 * q) ∧ V3 v' (x + (d + 1) * q - f) (y + (d + 1) * q - f) (w + (d + 1)) ∧ ∃ k' : Nat, ∀ n κ0 κ1,
      l_5_12 (R := R) N (n + (d + 1) * (2 * q + 2)) (les F k (ca, (T, (cm, (cl, (cs, ()))))) (shq a T m b z L q) ar l (lan lane ((j / 4 : Nat) : Int) ((j % 4 : Nat) : Int) (f : Int) nx false false false) r v) κ0 κ1 =
      l_5_12 N (n + 2 * f) (les F (k' : Int) (ca, (T, (cm, (cl, (cs, ()))))) (shq a T m b z L q) ar l' (lan lane P S I nx' H true true) r' v') κ0 κ1 := by
  intro d
  induction d with
  | zero =>
    intro j f hd hf l hl nx r hr v x y w k hv hx hk
    have hf2 : f ≤ 2 := by split at hf <;> omega
    obtain ⟨c1, h1, l1, nx1, v1, a1, a2, a3, a4⟩ := le_seg (R := R) N a m b z L q hN T F hF hT hL hq (pass := j / 4) (slice := j % 4) (by omega) (by omega) hla ca cm cl cs ar (q - f) f (by omega) (fun e1 e2 => by rw [hf, if_pos (by omega)]; omega) l hl nx 0 nulB (fun h => absurd rfl h) v x y w k hv (by omega) (by omega)
    obtain ⟨v11, v12, v13⟩ := id a3
    refine ⟨src (shq a T m b z L q) ((j / 4 : Nat) : Int) ((j % 4 : Nat) : Int) lane c1 h1, l1, nx1, upd v1 3 ((w + 1 : Nat) : Int), ((j / 4 : Nat) : Int), ((j % 4 : Nat) : Int), (q : Int), false, a2, ?_, k + 2 * (q - f) + 1 + 1, fun n κ0 κ1 => ?_⟩
    rotate_left 1
    · rw [hr, show n + (0 + 1) * (2 * q + 2) = (n + 2 * f + 1 + 1) + 2 * (q - f) by omega]
      refine (a4 _ κ0 κ1).trans ?_
      refine (le_one N T F hF hT.2 ca cm cl cs _ ar l1 l1 lane _ _ q nx1 false _ _ _ v1 (k + 2 * (q - f)) (by omega) 3 (by omega) w (by omega) v13 _ (fun κ => p27_arrive N a T m b z L q lane _ _ nx1 ar l1 _ κ) _ κ0 κ1).trans ?_
      refine (le_gate N T F hF hT ca cm cl cs _ rfl ar l1 lane q nx1 false _ _ _ (by omega) j (by omega) _ κ0 κ1).trans ?_
      rw [if_neg (by omega)]
    · refine ⟨?_, ?_, ?_⟩
      · rw [upd_no _ _ (by omega), v11]; omega
      · rw [upd_no _ _ (by omega), v12]; omega
      · rw [upd_at]
  | succ d ih =>
    intro j f hd hf l hl nx r hr v x y w k hv hx hk
    have hf2 : f ≤ 2 := by split at hf <;> omega
    have hm : (d + 1 + 1) * q = (d + 1) * q + q := Nat.succ_mul _ _
    have hm2 : (d + 1 + 1) * (2 * q + 2) = (d + 1) * (2 * q + 2) + (2 * q + 2) := Nat.succ_mul _ _
    rw [hm] at hx
    rw [hm2] at hk
    obtain ⟨c1, h1, l1, nx1, v1, a1, a2, a3, a4⟩ := le_seg (R := R) N a m b z L q hN T F hF hT hL hq (pass := j / 4) (slice := j % 4) (by omega) (by omega) hla ca cm cl cs ar (q - f) f (by omega) (fun e1 e2 => by rw [hf, if_pos (by omega)]; omega) l hl nx 0 nulB (fun h => absurd rfl h) v x y w k hv (by omega) (by omega)
    obtain ⟨v11, v12, v13⟩ := id a3
    obtain ⟨r', l', nx', v', P, S, I, H, b1, b2, k', b3⟩ := ih (j + 1) 0 (by omega) (by rw [if_neg (by omega)]) l1 a2 nx1 (src (shq a T m b z L q) (((j + 1) / 4 : Nat) : Int) (((j + 1) % 4 : Nat) : Int) lane 0 nulB) rfl (upd v1 3 ((w + 1 : Nat) : Int)) (x + (q - f)) (y + (q - f)) (w + 1) (k + 2 * (q - f) + 1 + 1) ⟨by rw [upd_no _ _ (by omega), v11], by rw [upd_no _ _ (by omega), v12], by rw [upd_at]⟩ (by omega) (by omega)
    refine ⟨r', l', nx', v', P, S, I, H, b1, ?_, k', fun n κ0 κ1 => ?_⟩
    rotate_left 1
    · rw [hr, show n + (d + 1 + 1) * (2 * q + 2) = (n + 2 * f + (d + 1) * (2 * q + 2) + 1 + 1) + 2 * (q - f) by omega]
      refine (a4 _ κ0 κ1).trans ?_
      refine (le_one N T F hF hT.2 ca cm cl cs _ ar l1 l1 lane _ _ q nx1 false _ _ _ v1 (k + 2 * (q - f)) (by omega) 3 (by omega) w (by omega) v13 _ (fun κ => p27_arrive N a T m b z L q lane _ _ nx1 ar l1 _ κ) _ κ0 κ1).trans ?_
      refine (le_gate N T F hF hT ca cm cl cs _ rfl ar l1 lane q nx1 false _ _ _ (by omega) j (by omega) _ κ0 κ1).trans ?_
      rw [if_pos (by omega)]
      exact b3 (n + 2 * f) κ0 κ1
    · obtain ⟨u1, u2, u3⟩ := b2
      refine ⟨?_, ?_, ?_⟩
      · rw [u1]; congr 1; omega
      · rw [u2]; congr 1; omega
      · rw [u3]; congr 1; omega
end
/-- The loop ends. -/
theorem le_end {R : Type} (N : Nat) (F : Nat) (k : Int) (cst) (s : Shp8) (ar : AB) (l : List Bl) (who P S I : Int) (nx : Nx) (H : Bool) (r : SrB) (v : Nat → Int) (n : Nat) (κ0 κ1) :
    l_5_12 (R := R) N (n + 1) (les F k cst s ar l (lan who P S I nx H true true) r v) κ0 κ1 = κ1 (((), (), (), (), (F : Int), ()), (les F k cst s ar l (lan who P S I nx H true true) r v).2) := by
  conv => lhs; unfold l_5_12 B_5_12 C_5_12
  show p_24_v1 N (((), ()), lh (lan who P S I nx H true true) s ar l r) _ = _
  rw [p24_v1]
  dsimp only
  rw [bif_f nT]
  rfl
theorem p27_done {R : Type} (N : Nat) (who P S I : Int) (nx : Nx) (H g : Bool) (s : Shp8) (ar : AB) (l : List Bl) (r : SrB) (κ) :
    p_27_v1 (R := R) N (((), ()), lh (lan who P S I nx H g true) s ar l r) κ = κ (((0, (0, ((0, (0, ())), ((0, (0, ())), ((0, (0, ())), ()))))), (12, ())), lh (lan who P S I nx H g true) s ar l r) := rfl
theorem p23n {R : Type} (N : Nat) (hN : N = 1001) (a m z : Int) (T L q : Nat) (hT : 1 ≤ T ∧ T ≤ 3) (hL : 1 ≤ L ∧ L ≤ 4) (hq : 2 ≤ q) (hb : L * (4 * q) ≤ 80) (κ) :
    p_23 (R := R) N ((shq a T m ((L * (4 * q) : Nat) : Int) z L q, ()), ()) κ = κ (((T * (L * (4 * q)) - 2 * L : Nat) : Int), (0, ())) := by
  unfold p_23 Q_23 shq
  dsimp only
  have e1 : mulAll [(T : Int), ((L * (4 * q) : Nat) : Int)] = (((T * (L * (4 * q)) : Nat) : Int), 0) := by
    have h1 : 1 ≤ L * (4 * q) := Nat.mul_pos (by omega) (by omega)
    have h2 : T * (L * (4 * q)) ≤ 3 * 80 := Nat.mul_le_mul hT.2 hb
    have e0 : ((T * (L * (4 * q)) : Nat) : Int) = (T : Int) * ((L * (4 * q) : Nat) : Int) := Int.natCast_mul ..
    unfold mulAll
    rw [show [(T : Int), ((L * (4 * q) : Nat) : Int)].all hld = true by
      simp only [List.all_cons, List.all_nil, Bool.and_true, hld, Bool.and_eq_true, decide_eq_true_eq]; omega]
    rw [show [(T : Int), ((L * (4 * q) : Nat) : Int)].any (· == 0) = false by
      simp only [List.any_cons, List.any_nil, Bool.or_false, Bool.or_eq_false_iff, beq_eq_false_iff_ne]; omega]
    simp only [mulGo, cond_true, cond_false]
    rw [if_pos (by omega), Int.one_mul, ← e0, if_pos (by omega)]
  refine (p62 N [(T : Int), ((L * (4 * q) : Nat) : Int)] (by simp) (by omega) _).trans ?_
  rw [e1]
  dsimp only
  rw [bif_f (show ((0 : Int) != 0) = false from rfl), mul64 (by omega) (by omega)]
  have h1 : 1 ≤ L * (4 * q) := Nat.mul_pos (by omega) (by omega)
  have h2 : T * (L * (4 * q)) ≤ 3 * 80 := Nat.mul_le_mul hT.2 hb
  have h3 : 2 * L ≤ L * (4 * q) := by rw [Nat.mul_comm]; exact Nat.mul_le_mul_left _ (by omega)
  have h4 : 1 * (L * (4 * q)) ≤ T * (L * (4 * q)) := Nat.mul_le_mul_right _ hT.1
  rw [sub64 (by omega) (by omega)]
  congr 2
  omega
theorem p21 {R : Type} (N : Nat) (hN : N = 1001) (κ) : p_21 (R := R) N ((), ()) κ = κ true := by subst hN; kernel_rfl
theorem p22_v1 {R : Type} (N : Nat) (a m b z : Int) (T L q : Nat) (who : Int) (ar) (l : List Bl) (κ0 κ1) :
    p_22_v1 (R := R) N (((), who, ()), gh (shq a T m b z L q) ar l) κ0 κ1 =
      if 0 ≤ who ∧ who < L then κ1 (((), (0, ())), (((), (shq a T m b z L q, ())), ((), ((), (true, ()))), ar, l, lan who 0 0 2 ((0, (0, ())), ((0, (0, ())), ((0, (0, ())), ()))) false false false, src (shq a T m b z L q) 0 0 who 0 nulB, ()))
      else κ0 (((), (11, ())), gh (shq a T m b z L q) ar l) := by
  unfold p_22_v1 Q_22_v1 gh
  show (bif decide (who < 0) then _ else bif decide (who ≥ (L : Int)) then _ else _) = _
  by_cases h1 : who < 0
  · rw [bif_t (dT h1), if_neg (by omega)]
  rw [bif_f (dF h1)]
  by_cases h2 : who ≥ L
  · rw [bif_t (dT h2), if_neg (by omega)]
  rw [bif_f (dF h2), if_pos (by omega)]
  exact p61 N who 0 0 0 _ false false false (shq a T m b z L q) ar l who 0 0 _
theorem p5 {R : Type} (N : Nat) (hN : N = 1001) (a t m l z who : Int) (κ) : p_5 (R := R) N (((a, (t, (m, (l, (z, ()))))), who, ()), ()) κ = κ (true, ()) := by
  unfold p_5 Q_5
  dsimp only
  rw [p21 N hN, bif_f nT, p14]
  by_cases h : Fit a t m l z ∧ FewP t l (m / (4 * l))
  · rw [dif_pos h]
    obtain ⟨h, hf1, hf2, hf3⟩ := h
    obtain ⟨⟨h1, h2⟩, ⟨h3, h4⟩, ⟨h5, h6⟩, ⟨h7, h8⟩, h9, h10, h11⟩ := h
    have q2 : 2 ≤ m / (4 * l) := (Int.le_ediv_iff_mul_le (by omega)).2 (by omega)
    generalize hq : m / (4 * l) = q at *
    obtain ⟨T, rfl⟩ := Int.eq_ofNat_of_zero_le (show 0 ≤ t by omega)
    obtain ⟨L, rfl⟩ := Int.eq_ofNat_of_zero_le (show 0 ≤ l by omega)
    obtain ⟨Q, rfl⟩ := Int.eq_ofNat_of_zero_le (show 0 ≤ q by omega)
    have e1 : (4 * (L : Int) * (Q : Int)) = ((L * (4 * Q) : Nat) : Int) := by
      rw [Int.natCast_mul, Int.natCast_mul, Int.mul_comm 4 (L : Int), Int.mul_assoc]; rfl
    rw [e1] at hf3 ⊢
    have e2 : ((4 * (Q : Int)).toNat) = 4 * Q := by omega
    rw [e2, Int.toNat_natCast, ← shq_shn]
    have hb : L * (4 * Q) ≤ 80 := by omega
    have hQ : Q ≤ 20 := by
      have : 1 * (4 * Q) ≤ L * (4 * Q) := Nat.mul_le_mul_right _ (by omega)
      omega
    generalize har : ((((L * (4 * Q) : Nat) : Int), (((L * (4 * Q) : Nat) : Int), (((L * (4 * Q) : Nat) : Int), ((1 : Int), ()))))) = ar
    refine (p22_v1 N a m _ z T L Q who ar _ _ _).trans ?_
    by_cases hw : 0 ≤ who ∧ who < L
    · rw [if_pos hw]
      dsimp only
      rw [bif_f (show ((0 : Int) != 0) = false from rfl)]
      refine (p23n N hN a m z T L Q ⟨by omega, by omega⟩ ⟨by omega, by omega⟩ (by omega) hb _).trans ?_
      obtain ⟨w, rfl⟩ := Int.eq_ofNat_of_zero_le hw.1
      have hT : 1 ≤ T ∧ T ≤ 3 := ⟨by omega, by omega⟩
      have hL : 1 ≤ L ∧ L ≤ 4 := ⟨by omega, by omega⟩
      have hQ2 : 2 ≤ Q ∧ Q ≤ 20 := ⟨by omega, hQ⟩
      generalize hF : T * (L * (4 * Q)) - 2 * L = F
      have f0 : T * (L * (4 * Q)) ≤ 3 * 80 := Nat.mul_le_mul hT.2 hb
      have f1 : F = L * (4 * T * Q - 2) := by
        rw [← hF, Nat.mul_sub, Nat.mul_comm L 2]
        congr 1
        rw [Nat.mul_left_comm, Nat.mul_left_comm T 4 Q, Nat.mul_assoc]
      have f2 : 1 * Q ≤ T * Q := Nat.mul_le_mul_right _ hT.1
      have f3 : T * Q ≤ 3 * 20 := Nat.mul_le_mul hT.2 hQ
      have f4 : 4 * T * Q = 4 * (T * Q) := Nat.mul_assoc ..
      have f5 : 1 * (4 * T * Q - 2) ≤ L * (4 * T * Q - 2) := Nat.mul_le_mul_right _ hL.1
      have f6 : 4 * T * (2 * Q + 2) = 8 * (T * Q) + 8 * T := by rw [Nat.mul_add, Nat.mul_left_comm, f4]; omega
      obtain ⟨r', l', nx', v', P, S, I, H, b1, ⟨b2, b3, b4⟩, k', b5⟩ := le_all (R := R) N a m ((L * (4 * Q) : Nat) : Int) z L Q hN T F (by omega) hT hL hQ2 (lane := w) (by omega) a m L z ar (4 * T - 1) 0 2 (by omega) rfl (List.replicate (L * (4 * Q)) nulB) (by simp) ((0, (0, ())), ((0, (0, ())), ((0, (0, ())), ()))) _ rfl (Sch.zero (.arr 4 (.int .i64))) 0 0 0 0 ⟨rfl, rfl, rfl⟩ (by rw [show 4 * T - 1 + 1 = 4 * T by omega]; omega) (by rw [show 4 * T - 1 + 1 = 4 * T by omega]; omega)
      rw [show 4 * T - 1 + 1 = 4 * T by omega] at b2 b3 b4 b5
      obtain ⟨n, hn⟩ : ∃ n, N = n + 1 - 2 * 2 + 4 * T * (2 * Q + 2) ∧ 2 * 2 ≤ n + 1 := ⟨N - 4 * T * (2 * Q + 2) + 3, by omega⟩
      have key := b5 (n + 1 - 2 * 2)
      rw [← hn.1, show n + 1 - 2 * 2 + 2 * 2 = n + 1 by omega] at key
      refine (key _ _).trans ?_
      refine (le_end N F _ _ _ ar l' _ P S I nx' H r' v' n _ _).trans ?_
      refine (p27_done N w P S I nx' H true _ ar l' r' _).trans ?_
      refine (p24_v1 N w P S I nx' H true true _ ar l' r' _).trans ?_
      have hdiv : quoA .i64 (F : Int) (L : Int) = ((4 * T * Q - 2 : Nat) : Int) := by
        rw [quo64 (by omega) (by omega) (by omega), f1]
        have hl0 : (L : Int) ≠ 0 := by omega
        rw [Int.natCast_mul, Int.mul_ediv_cancel_left _ hl0]
      have hL0 : decide ((L : Int) = 0) = false := dF (by omega)
      show (bif true then (bif ((12 : Int) == 12) then (bif decide ((L : Int) = 0) then none else (bif (v' 1 == quoA .i64 (F : Int) (L : Int)) then (bif decide ((L : Int) = 0) then none else (bif (v' 2 == quoA .i64 (F : Int) (L : Int)) then κ ((v' 3 == mulA .i64 4 (T : Int)), ()) else κ (false, ()))) else κ (false, ()))) else κ (false, ())) else κ (false, ())) = κ (true, ())
      rw [bif_t rfl, bif_t (show ((12 : Int) == 12) = true from rfl), hL0, hdiv, b2, b3, b4, mul64 (by omega) (by omega)]
      rw [show 0 + 4 * T * Q - 2 = 4 * T * Q - 2 by omega, show ((0 + 4 * T : Nat) : Int) = 4 * (T : Int) by omega]
      rw [bif_f rfl, bif_t (beq_self_eq_true _), bif_t (beq_self_eq_true _), beq_self_eq_true]
      rfl
    · rw [if_neg hw]
      unfold gh
      dsimp only
      rw [bif_t (show ((11 : Int) != 0) = true from rfl)]
      by_cases g1 : who < 0
      · rw [bif_t (dT g1)]
      · rw [bif_f (dF g1)]
        show κ (decide (who ≥ (L : Int)), ()) = _
        rw [dT (by omega)]
  · rw [dif_neg h]
theorem law_all (y0 : Sch.den (.stru (.fcons (.int .i64) (.fcons (.int .i64) (.fcons (.int .i64) (.fcons (.int .i64) (.fcons (.int .i64) .fnil))))))) {P0 : Prop} (wf0 : P0) (y1 : Int) {P1 : Prop} (wf1 : P1) :
    ∃ H', ACalls Try.prog 5 [toAV (.stru (.fcons (.int .i64) (.fcons (.int .i64) (.fcons (.int .i64) (.fcons (.int .i64) (.fcons (.int .i64) .fnil)))))) y0, toAV (.int .i64) y1] [] (.bool true) H' :=
  gd_law (good_5 1001) (x := (y0, y1, ())) (by
    obtain ⟨a, t, m, l, s, u⟩ := y0
    exact p5 1001 rfl a t m l s y1 _)
end Go.Proofs.Ytfcloeflcpcheaa.Eng
