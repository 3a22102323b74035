/-
GridStores: what the mirrors come to, in plain numbers and lists: the law's mirror answers true.
Conditions: none.
-/
import Derived.Test.YtfcloeflcpcheaaMirGridStores
set_option linter.unusedVariables false
set_option linter.unusedSimpArgs false
namespace Go.Proofs.Ytfcloeflcpcheaa.Eng
/-- Parameters that may be. -/
def Fit (a t m l s : Int) : Prop := (1 ≤ a ∧ a ≤ 3) ∧ (1 ≤ t ∧ t ≤ 4294967295) ∧ (1 ≤ l ∧ l ≤ 16777215) ∧ (1 ≤ m ∧ m ≤ 4294967295) ∧ l ≤ m / 8 ∧ 4 ≤ s ∧ s ≤ 1024
instance (a t m l s : Int) : Decidable (Fit a t m l s) := by unfold Fit; exact inferInstance
theorem p63 {R : Type} (N : Nat) (a b c : Int) (κ) : p_63 (R := R) N ((a, b, c, ()), ()) κ = κ (decide (b ≤ a ∧ a ≤ c)) := by
  unfold p_63
  dsimp only
  by_cases h1 : b ≤ a
  · by_cases h2 : a ≤ c <;> simp [h1, h2]
  · simp [h1]
theorem p76 {R : Type} (N : Nat) (a b : Int) (h1 : 0 ≤ a) (h2 : a ≤ 4611686018427387904) (h3 : 1 ≤ b) (κ) : p_76 (R := R) N ((a, b, ()), ()) κ = κ (a - a % b, (0, ())) := by
  unfold p_76 p_88
  dsimp only
  have e1 : 0 ≤ a % b := Int.emod_nonneg a (by omega)
  have e2 : a % b ≤ a := mod_le h1 (by omega)
  rw [rem64 h1, sub64 (by omega) (by omega)]
  simp [h1, h2, show ¬ b < 1 by omega, show ¬ b = 0 by omega]
theorem p42 {R : Type} (N : Nat) (a t m l s : Int) (κ) : p_42 (R := R) N (((a, (t, (m, (l, (s, ()))))), ()), ()) κ =
    (bif decide (Fit a t m l s) then κ ((a, (t, (l, (m, (4 * l * (m / (4 * l)), (4 * (m / (4 * l)), (m / (4 * l), (s, ())))))))), (0, ())) else κ ((0, (0, (0, (0, (0, (0, (0, (0, ())))))))), (2, ()))) := by
  by_cases h : Fit a t m l s
  · obtain ⟨⟨h1, h2⟩, ⟨h3, h4⟩, ⟨h5, h6⟩, ⟨h7, h8⟩, h9, h10, h11⟩ := id h
    unfold p_42
    dsimp only
    have e1 : quoA .i64 m 8 = m / 8 := quo64 (by omega) (by omega) (by omega)
    have e2 : mulA .i64 4 l = 4 * l := mul64 (by omega) (by omega)
    have e3 : m - m % (4 * l) = 4 * l * (m / (4 * l)) := by have := Int.mul_ediv_add_emod m (4 * l); omega
    have q0 : 0 ≤ m / (4 * l) := Int.ediv_nonneg (by omega) (by omega)
    have q1 : 0 ≤ m % (4 * l) := Int.emod_nonneg _ (by omega)
    have e4 : quoA .i64 (4 * l * (m / (4 * l))) l = 4 * (m / (4 * l)) := by
      rw [quo64 (by rw [← e3]; have := mod_le (b := 4 * l) (show 0 ≤ m by omega) (by omega); omega) (by omega) (by omega)]
      rw [show 4 * l * (m / (4 * l)) = l * (4 * (m / (4 * l))) by rw [Int.mul_comm 4 l, Int.mul_assoc]]
      exact Int.mul_ediv_cancel_left _ (by omega)
    have q2 : m / (4 * l) ≤ m := Int.ediv_le_self _ (by omega)
    have e5 : quoA .i64 (4 * (m / (4 * l))) 4 = m / (4 * l) := by
      rw [quo64 (by omega) (by omega) (by omega)]
      exact Int.mul_ediv_cancel_left _ (by omega)
    simp only [p63, e1, e2]
    rw [p76 N m (4 * l) (by omega) (by omega) (by omega)]
    simp only [e3, e4, e5]
    simp [h, h1, h2, h3, h4, h5, h6, h7, h8, h9, h10, h11, show ¬ l = 0 by omega]
  · rw [dF h]
    unfold p_42
    dsimp only
    simp only [p63, cond_false]
    by_cases g1 : 1 ≤ a ∧ a ≤ 3
    · rw [dT g1]
      by_cases g2 : 1 ≤ t ∧ t ≤ 4294967295
      · rw [dT g2]
        by_cases g3 : 1 ≤ l ∧ l ≤ 16777215
        · rw [dT g3]
          by_cases g4 : 1 ≤ m ∧ m ≤ 4294967295
          · rw [dT g4, quo64 (by omega) (by omega) (by omega)]
            by_cases g5 : m / 8 ≥ l
            · rw [dT g5]
              by_cases g6 : 4 ≤ s ∧ s ≤ 1024
              · exact absurd ⟨g1, g2, g3, g4, g5, g6⟩ h
              · rw [dF g6]; rfl
            · rw [dF g5]; rfl
          · rw [dF g4]; rfl
        · rw [dF g3]; rfl
      · rw [dF g2]; rfl
    · rw [dF g1]; rfl

def W (x : Int) : Prop := 0 ≤ x ∧ x < 18446744073709551616
theorem W_wrap (x : Int) : W (IntKind.wrap .u64 x) := by rw [wrapU64]; unfold W; omega
theorem W_xor (a b : Int) : W (xorA .u64 a b) := W_wrap _
theorem W_or (a b : Int) : W (orA .u64 a b) := W_wrap _
theorem W_add (a b : Int) : W (addA .u64 a b) := W_wrap _
theorem W_zero : W 0 := by unfold W; omega
theorem xor_comm (a b : Int) : xorA .u64 a b = xorA .u64 b a := by unfold xorA; rw [BitVec.xor_comm]
theorem xor_assoc (a b c : Int) (ha : W a) (hb : W b) (hc : W c) : xorA .u64 (xorA .u64 a b) c = xorA .u64 a (xorA .u64 b c) := by
  have key : ∀ x : BitVec 64, BitVec.ofInt 64 (IntKind.wrap .u64 (x.toNat : Int)) = x := by
    intro x
    rw [wrapU64]
    apply BitVec.eq_of_toNat_eq
    rw [BitVec.toNat_ofInt]
    have := x.isLt
    omega
  unfold xorA
  show IntKind.wrap .u64 (((BitVec.ofInt 64 (IntKind.wrap .u64 ((BitVec.ofInt 64 a ^^^ BitVec.ofInt 64 b).toNat : Int))) ^^^ BitVec.ofInt 64 c).toNat : Int) = IntKind.wrap .u64 ((BitVec.ofInt 64 a ^^^ BitVec.ofInt 64 (IntKind.wrap .u64 ((BitVec.ofInt 64 b ^^^ BitVec.ofInt 64 c).toNat : Int))).toNat : Int)
  rw [key, key, BitVec.xor_assoc]
theorem xor_self (a : Int) : xorA .u64 a a = 0 := by
  unfold xorA
  rw [BitVec.xor_self]
  rfl
theorem zero_xor {a : Int} (h : W a) : xorA .u64 0 a = a := by
  unfold xorA
  rw [wrapU64, BitVec.toNat_xor]
  have q1 : (BitVec.ofInt IntKind.u64.bits a).toNat = a.toNat := by
    show (BitVec.ofInt 64 a).toNat = a.toNat
    rw [BitVec.toNat_ofInt]; have := h.1; have := h.2; omega
  have q2 : (BitVec.ofInt IntKind.u64.bits 0).toNat = 0 := by decide
  rw [q1, q2, Nat.zero_xor]
  have := h.1
  have := h.2
  omega
theorem upd_same {α : Type} (f : Nat → α) (i : Nat) (x : α) : upd f i x i = x := by simp [upd]
theorem upd_other {α : Type} (f : Nat → α) {i j : Nat} (x : α) (h : j ≠ i) : upd f i x j = f j := by
  show (bif Nat.beq j i then x else f j) = f j
  cases hq : Nat.beq j i with
  | false => rfl
  | true => exact absurd (Nat.eq_of_beq_eq_true hq) h
theorem upd_if {α : Type} (f : Nat → α) (i j : Nat) (x : α) : upd f i x j = if j = i then x else f j := by
  by_cases h : j = i
  · subst h; rw [upd_same, if_pos rfl]
  · rw [upd_other f x h, if_neg h]
abbrev Bl := Nat → Int
def nulB : Bl := fun _ => 0
/-- The words from k on, put together. -/
def xorFrom (k : Nat) (o b : Bl) : Bl := fun j => if k ≤ j ∧ j < 128 then xorA .u64 (o j) (b j) else o j
def xorL (l : List Bl) : Bl := l.foldl (xorFrom 0) nulB
def WB (b : Bl) : Prop := ∀ j, j < 128 → W (b j)
def OutB (b : Bl) : Prop := ∀ j, 128 ≤ j → b j = 0
theorem foldl_out : ∀ (l : List Bl) (o : Bl), OutB o → OutB (l.foldl (xorFrom 0) o)
  | [], o, h => h
  | b :: l, o, h => foldl_out l _ fun j hj => by unfold xorFrom; rw [if_neg (by omega)]; exact h j hj
theorem foldl_W : ∀ (l : List Bl) (o : Bl), (∀ j, W (o j)) → ∀ j, W (l.foldl (xorFrom 0) o j)
  | [], o, h => h
  | b :: l, o, h => foldl_W l _ fun j => by unfold xorFrom; split; exact W_xor _ _; exact h j
theorem xorL_W (l : List Bl) (j : Nat) : W (xorL l j) := foldl_W l nulB (fun _ => W_zero) j
theorem xorL_out (l : List Bl) : OutB (xorL l) := foldl_out l nulB (fun _ _ => rfl)
theorem xorL_two (x y : Bl) (j : Nat) : xorL [x, y] j = if j < 128 then xorA .u64 (xorA .u64 0 (x j)) (y j) else 0 := by
  simp only [xorL, List.foldl_cons, List.foldl_nil, xorFrom, nulB]
  by_cases h : j < 128 <;> simp [h]
theorem xorL_one (x : Bl) (h1 : ∀ j, W (x j)) (h2 : OutB x) : xorL [x] = x := by
  funext j
  simp only [xorL, List.foldl_cons, List.foldl_nil, xorFrom, nulB]
  by_cases h : j < 128
  · simp [h, zero_xor (h1 j)]
  · simp [h, h2 j (by omega)]
theorem xorL_comm (x y : Bl) (hx : WB x) (hy : WB y) : xorL [x, y] = xorL [y, x] := by
  funext j
  rw [xorL_two, xorL_two]
  by_cases h : j < 128
  · rw [if_pos h, if_pos h, zero_xor (hx j h), zero_xor (hy j h), xor_comm]
  · rw [if_neg h, if_neg h]
theorem xorL_same (x : Bl) (hx : WB x) : xorL [x, x] = nulB := by
  funext j
  rw [xorL_two]
  by_cases h : j < 128
  · rw [if_pos h, zero_xor (hx j h), xor_self]; rfl
  · rw [if_neg h]; rfl
theorem schEq128 {x y : Bl} (h : ∀ j, j < 128 → x j = y j) : schEq (.arr 128 (.int .u64)) x y = true := by
  show (List.range 128).all (fun i => x i == y i) = true
  rw [List.all_eq_true]
  intro j hj
  rw [List.mem_range] at hj
  rw [h j hj]
  exact beq_self_eq_true _
theorem zero128 : (Sch.zero (.arr 128 (.int .u64)) : Nat → Int) = nulB := rfl

def prodF (a b : Int) : Int := addA .u64 (addA .u64 a b) (mulA .u64 (mulA .u64 2 (IntKind.wrap .u64 (IntKind.wrap .u32 a))) (IntKind.wrap .u64 (IntKind.wrap .u32 b)))
def rotF (x n : Int) : Int := orA .u64 (shrA .u64 x n) (shlA .u64 x (64 - n))
abbrev Q4 := Int × (Int × (Int × (Int × Unit)))
def qF (a b c d : Int) : Q4 :=
  let a1 := prodF a b
  let d1 := rotF (xorA .u64 d a1) 32
  let c1 := prodF c d1
  let b1 := rotF (xorA .u64 b c1) 24
  let a2 := prodF a1 b1
  let d2 := rotF (xorA .u64 d1 a2) 16
  let c2 := prodF c1 d2
  let b2 := rotF (xorA .u64 b1 c2) 63
  (a2, (b2, (c2, (d2, ()))))
def stF (v : Bl) (i j k l : Nat) : Bl :=
  let q := qF (v i) (v j) (v k) (v l)
  upd (upd (upd (upd v i q.1) j q.2.1) k q.2.2.1) l q.2.2.2.1
def permF (v : Bl) : Bl := stF (stF (stF (stF (stF (stF (stF (stF v 0 4 8 12) 1 5 9 13) 2 6 10 14) 3 7 11 15) 0 5 10 15) 1 6 11 12) 2 7 8 13) 3 4 9 14
theorem qF_W (a b c d : Int) : W (qF a b c d).1 ∧ W (qF a b c d).2.1 ∧ W (qF a b c d).2.2.1 ∧ W (qF a b c d).2.2.2.1 := ⟨W_add _ _, W_or _ _, W_add _ _, W_or _ _⟩
theorem upd_W {v : Bl} (h : ∀ j, W (v j)) (i : Nat) {x : Int} (hx : W x) : ∀ j, W (upd v i x j) := fun j => by rw [upd_if]; split; exact hx; exact h j
theorem stF_W {v : Bl} (h : ∀ j, W (v j)) (i j k l : Nat) : ∀ m, W (stF v i j k l m) := by
  obtain ⟨q1, q2, q3, q4⟩ := qF_W (v i) (v j) (v k) (v l)
  exact upd_W (upd_W (upd_W (upd_W h i q1) j q2) k q3) l q4
theorem permF_W {v : Bl} (h : ∀ j, W (v j)) : ∀ m, W (permF v m) :=
  stF_W (stF_W (stF_W (stF_W (stF_W (stF_W (stF_W (stF_W h _ _ _ _) _ _ _ _) _ _ _ _) _ _ _ _) _ _ _ _) _ _ _ _) _ _ _ _) _ _ _ _

def gath (at_ b : Bl) : Nat → Nat → Bl → Bl
  | 0, _, v => v
  | n + 1, k, v => gath at_ b n (k + 1) (upd v k (b (at_ k).toNat))
def scat (at_ w : Bl) : Nat → Nat → Bl → Bl
  | 0, _, b => b
  | n + 1, k, b => scat at_ w n (k + 1) (upd b (at_ k).toNat (w k))
def chainA (f : Nat → Int) : Nat → Bl
  | 0 => nulB
  | n + 1 => upd (chainA f n) n (f n)
theorem chainA_get (f : Nat → Int) : ∀ (n k : Nat), k < n → chainA f n k = f k
  | n + 1, k, h => by
    show upd (chainA f n) n (f n) k = f k
    rw [upd_if]
    split
    · subst k; rfl
    · exact chainA_get f n k (by omega)
def atRow (i : Int) : Bl := chainA (fun k => addA .i64 (mulA .i64 16 i) (k : Int)) 16
def atCol (i : Int) : Bl := chainA (fun k => addA .i64 (addA .i64 (mulA .i64 2 i) (remA .i64 (k : Int) 2)) (mulA .i64 16 (quoA .i64 (k : Int) 2))) 16
def at_ (c : Bool) (i : Int) : Bl := bif c then atCol i else atRow i
theorem atRow_get {i : Int} (hi : 0 ≤ i ∧ i < 8) {k : Nat} (hk : k < 16) : atRow i k = 16 * i + k := by
  unfold atRow
  rw [chainA_get _ _ _ hk, mul64 (by omega) (by omega), add64 (by omega) (by omega)]
theorem atCol_get {i : Int} (hi : 0 ≤ i ∧ i < 8) {k : Nat} (hk : k < 16) : atCol i k = 2 * i + ((k % 2 : Nat) : Int) + 16 * ((k / 2 : Nat) : Int) := by
  unfold atCol
  rw [chainA_get _ _ _ hk, mul64 (a := 2) (by omega) (by omega), rem64 (by omega), quo64 (by omega) (by omega) (by omega), add64 (a := 2 * i) (by omega) (by omega), mul64 (a := 16) (by omega) (by omega), add64 (by omega) (by omega)]
  omega
theorem at_in (c : Bool) {i : Int} (hi : 0 ≤ i ∧ i < 8) {k : Nat} (hk : k < 16) : 0 ≤ at_ c i k ∧ at_ c i k < 128 := by
  cases c with
  | false => show 0 ≤ atRow i k ∧ atRow i k < 128; rw [atRow_get hi hk]; omega
  | true => show 0 ≤ atCol i k ∧ atCol i k < 128; rw [atCol_get hi hk]; omega
section
variable {R : Type} (N : Nat)
end
def wStep (c : Bool) (i : Int) (a : Bl) : Bl := scat (at_ c i) (permF (gath (at_ c i) a 16 0 nulB)) 16 0 a
def wRun (c : Bool) : Nat → Nat → Bl → Bl
  | 0, _, a => a
  | n + 1, i, a => wRun c n (i + 1) (wStep c (i : Int) a)
def wholeF (a : Bl) : Bl := wRun true 8 0 (wRun false 8 0 a)
def mixF (x y : Bl) : Bl := xorL [xorL [x, y], wholeF (xorL [x, y])]
theorem mixF_W (x y : Bl) (j : Nat) : W (mixF x y j) := xorL_W _ j
theorem mixF_out (x y : Bl) : OutB (mixF x y) := xorL_out _
theorem mixF_comm (x y : Bl) (hx : WB x) (hy : WB y) : mixF x y = mixF y x := by unfold mixF; rw [xorL_comm x y hx hy]
/-- A block without a word mixed with itself. -/
theorem whole_zero : wholeF nulB = nulB := by
  have p0 : prodF 0 0 = 0 := by decide
  have r0 : ∀ n : Int, 0 ≤ n → rotF 0 n = 0 := by
    intro n hn
    unfold rotF
    have e1 : shrA .u64 0 n = 0 := by unfold shrA; simp
    have e2 : shlA .u64 0 (64 - n) = 0 := by unfold shlA; simp; rfl
    rw [e1, e2]; rfl
  have x0 : xorA .u64 0 0 = 0 := by decide
  have q0 : qF 0 0 0 0 = (0, (0, (0, (0, ())))) := by
    unfold qF
    simp only [p0, x0, r0 32 (by omega), r0 24 (by omega), r0 16 (by omega), r0 63 (by omega)]
  have u0 : ∀ i, upd nulB i 0 = nulB := fun i => by funext j; rw [upd_if]; split <;> rfl
  have s0 : ∀ i j k l, stF nulB i j k l = nulB := by
    intro i j k l
    unfold stF
    show (let q := qF 0 0 0 0; upd (upd (upd (upd nulB i q.1) j q.2.1) k q.2.2.1) l q.2.2.2.1) = nulB
    simp only [q0, u0]
  have pm : permF nulB = nulB := by unfold permF; simp only [s0]
  have g0 : ∀ (at_ : Bl) (n k : Nat), gath at_ nulB n k nulB = nulB := by
    intro at_ n
    induction n with
    | zero => intro k; rfl
    | succ n ih => intro k; show gath at_ nulB n (k + 1) (upd nulB k 0) = nulB; rw [u0]; exact ih (k + 1)
  have c0 : ∀ (at_ : Bl) (n k : Nat), scat at_ nulB n k nulB = nulB := by
    intro at_ n
    induction n with
    | zero => intro k; rfl
    | succ n ih => intro k; show scat at_ nulB n (k + 1) (upd nulB _ 0) = nulB; rw [u0]; exact ih (k + 1)
  have w0 : ∀ c i, wStep c i nulB = nulB := fun c i => by unfold wStep; rw [g0, pm, c0]
  have t0 : ∀ (c : Bool) (n i : Nat), wRun c n i nulB = nulB := by
    intro c n
    induction n with
    | zero => intro i; rfl
    | succ n ih => intro i; show wRun c n (i + 1) (wStep c _ nulB) = nulB; rw [w0]; exact ih (i + 1)
  unfold wholeF
  rw [t0, t0]
theorem mixF_same (x : Bl) (hx : WB x) : mixF x x = nulB := by
  unfold mixF
  rw [xorL_same x hx, whole_zero, xorL_same nulB (fun _ _ => W_zero)]

theorem or_zero64 {z : Int} (h1 : 0 ≤ z) (h2 : z < 18446744073709551616) : orA .u64 0 z = z := by
  unfold orA
  rw [wrapU64, BitVec.toNat_or]
  have q1 : (BitVec.ofInt IntKind.u64.bits z).toNat = z.toNat := by
    show (BitVec.ofInt 64 z).toNat = z.toNat
    rw [BitVec.toNat_ofInt]; omega
  have q2 : (BitVec.ofInt IntKind.u64.bits 0).toNat = 0 := by decide
  rw [q1, q2, Nat.zero_or]
  omega
def pickOf (area j : Int) : Int := area - 1 - area * (j * j / 4294967296) / 4294967296
theorem pick_in {area j : Int} (h1 : 1 ≤ area) (j1 : 0 ≤ j) (j2 : j < 4294967296) : 0 ≤ pickOf area j ∧ pickOf area j ≤ area - 1 := by
  unfold pickOf
  have b1 : j * j ≤ 4294967295 * 4294967295 := Int.mul_le_mul (by omega) (by omega) j1 (by omega)
  have b0 : 0 ≤ j * j := Int.mul_nonneg j1 j1
  generalize hx : j * j / 4294967296 = x
  have x0 : 0 ≤ x ∧ x ≤ 4294967295 := by omega
  have c0 : 0 ≤ area * x := Int.mul_nonneg (by omega) x0.1
  have c1 : area * x ≤ area * 4294967295 := Int.mul_le_mul_of_nonneg_left x0.2 (by omega)
  omega
abbrev Shp8 := Int × (Int × (Int × (Int × (Int × (Int × (Int × (Int × Unit)))))))
def laneOf (pass slice lane j L : Int) : Int := if pass = 0 ∧ slice = 0 then lane else j % L
def doneOf (pass slice q : Int) : Int := if pass > 0 then 3 * q else slice * q
def areaOf (pass slice q index : Int) (own : Bool) : Int := if own = true then doneOf pass slice q + index - 1 else if index = 0 then doneOf pass slice q - 1 else doneOf pass slice q
def fromOf (pass slice q : Int) : Int := if pass = 0 ∨ slice = 3 then 0 else (slice + 1) * q
section
variable {R : Type} (N : Nat) (s0 t L s3 s4 q s7 : Int)
/-- Is there such a block that is filled? -/
def There (t L q pass slice lane index : Int) : Prop := ((0 ≤ pass ∧ pass ≤ t - 1) ∧ 0 ≤ slice ∧ slice ≤ 3) ∧ (0 ≤ lane ∧ lane ≤ L - 1) ∧ (if pass = 0 ∧ slice = 0 then 2 else 0) ≤ index ∧ index ≤ q - 1
theorem area_in (hq : 2 ≤ q) (pass slice lane index : Int) (own : Bool) (h : There t L q pass slice lane index) (ho : pass = 0 → slice = 0 → own = true) : 1 ≤ areaOf pass slice q index own ∧ areaOf pass slice q index own ≤ 4 * q := by
  obtain ⟨⟨⟨h1, h2⟩, h3, h4⟩, ⟨h5, h6⟩, h7, h8⟩ := h
  unfold areaOf doneOf
  have b1 : slice * q ≤ 3 * q := Int.mul_le_mul_of_nonneg_right h4 (by omega)
  have b0 : 0 ≤ slice * q := Int.mul_nonneg h3 (by omega)
  by_cases g1 : pass > 0
  · simp only [if_pos g1]
    rw [if_neg (by omega)] at h7
    split
    · omega
    · split <;> omega
  · simp only [if_neg g1]
    by_cases g2 : slice = 0
    · subst g2
      rw [if_pos ⟨by omega, rfl⟩] at h7
      rw [if_pos (ho (by omega) rfl)]
      omega
    · have b2 : 1 * q ≤ slice * q := Int.mul_le_mul_of_nonneg_right (by omega) (by omega)
      rw [if_neg (fun hh => g2 hh.2)] at h7
      split
      · omega
      · split <;> omega
def colOf (pass slice index j q : Int) (own : Bool) : Int := (fromOf pass slice q + pickOf (areaOf pass slice q index own) j) % (4 * q)
end
theorem pair_s (x y : Sch.den (.stru (.fcons (.int .i64) (.fcons (.int .i64) .fnil)))) : schEq (.stru (.fcons (.int .i64) (.fcons (.int .i64) .fnil))) x y = (fun (a b c d : Int) => decide (a = c ∧ b = d)) x.1 x.2.1 y.1 y.2.1 := by
  obtain ⟨a, b, _⟩ := x
  obtain ⟨c, d, _⟩ := y
  show schEq (.stru (.fcons (.int .i64) (.fcons (.int .i64) .fnil))) ((a : Int), ((b : Int), ())) ((c : Int), ((d : Int), ())) = decide ((a : Int) = c ∧ (b : Int) = d)
  by_cases h1 : (a : Int) = c
  · by_cases h2 : (b : Int) = d
    · rw [dT ⟨h1, h2⟩]; subst h1 h2; simp [schEq]
    · rw [dF (fun h => h2 h.2)]; simp [schEq]; exact fun _ => h2
  · rw [dF (fun h => h1 h.1)]; simp [schEq]; exact fun h => absurd h h1

theorem nT : (!true) = false := rfl
theorem nF : (!false) = true := rfl
theorem getD_set {α : Type} (l : List α) (i j : Nat) (x z : α) (hi : i < l.length) : (l.set i x).getD j z = if j = i then x else l.getD j z := by
  by_cases h : j = i
  · subst h; simp [List.getD_eq_getElem?_getD, hi]
  · simp [List.getD_eq_getElem?_getD, List.getElem?_set, Ne.symm h, h]
/-- Rows of blocks, told by their numbers. -/
def rowsF (f : Nat → Bl) (C L : Nat) : List (List Bl) := (List.range L).map fun la => (List.range C).map fun co => f (la * C + co)
theorem rowsF_len (f : Nat → Bl) (C L : Nat) : (rowsF f C L).length = L := by simp [rowsF]
theorem rowsF_row (f : Nat → Bl) (C L : Nat) {la : Nat} (h : la < L) : (rowsF f C L).getD la [] = (List.range C).map fun co => f (la * C + co) := by simp [rowsF, h]
theorem rowsF_rlen (f : Nat → Bl) (C L : Nat) {la : Nat} (h : la < L) : ((rowsF f C L).getD la []).length = C := by rw [rowsF_row f C L h]; simp
theorem rowsF_get (f : Nat → Bl) (C L : Nat) {la co : Nat} (h : la < L) (hc : co < C) (z : Bl) : ((rowsF f C L).getD la []).getD co z = f (la * C + co) := by rw [rowsF_row f C L h]; simp [hc]
theorem at_inj {C a b c d : Nat} (hb : b < C) (hd : d < C) (h : a * C + b = c * C + d) : a = c ∧ b = d := by
  have h1 : (a * C + b) / C = a := by rw [Nat.mul_comm, Nat.mul_add_div (by omega), Nat.div_eq_of_lt hb, Nat.add_zero]
  have h2 : (c * C + d) / C = c := by rw [Nat.mul_comm, Nat.mul_add_div (by omega), Nat.div_eq_of_lt hd, Nat.add_zero]
  have h3 : a = c := by rw [← h1, h, h2]
  subst h3; exact ⟨rfl, by omega⟩
theorem rowsF_set (f : Nat → Bl) (C L : Nat) {la co : Nat} (h : la < L) (hc : co < C) (b : Bl) : (rowsF f C L).set la (((rowsF f C L).getD la []).set co b) = rowsF (upd f (la * C + co) b) C L := by
  apply List.ext_getElem?
  intro i
  rw [List.getElem?_set, rowsF_len]
  by_cases hi : la = i
  · subst hi
    rw [if_pos rfl, if_pos h, rowsF_row f C L h]
    simp only [rowsF, List.getElem?_map, List.getElem?_range h, Option.map_some, Option.some.injEq]
    apply List.ext_getElem?
    intro j
    rw [List.getElem?_set]
    simp only [List.length_map, List.length_range, List.getElem?_map]
    by_cases hj : co = j
    · subst hj
      rw [if_pos rfl, if_pos hc, List.getElem?_range hc]
      simp [upd_same]
    · rw [if_neg hj]
      by_cases hjc : j < C
      · rw [List.getElem?_range hjc]
        simp only [Option.map_some, Option.some.injEq]
        rw [upd_other]; omega
      · rw [List.getElem?_eq_none (by simpa using hjc)]; rfl
  · rw [if_neg hi]
    simp only [rowsF, List.getElem?_map]
    by_cases hiL : i < L
    · rw [List.getElem?_range hiL]
      simp only [Option.map_some, Option.some.injEq]
      apply List.map_congr_left
      intro j hj
      rw [List.mem_range] at hj
      rw [upd_other]
      intro e
      exact hi (at_inj hj hc e).1.symm
    · rw [List.getElem?_eq_none (by simpa using hiL)]; rfl
theorem rowsF_congr {f g : Nat → Bl} {C L : Nat} (h : ∀ k, k < L * C → f k = g k) : rowsF f C L = rowsF g C L := by
  unfold rowsF
  apply List.map_congr_left
  intro la hla
  apply List.map_congr_left
  intro co hco
  rw [List.mem_range] at hla hco
  apply h
  have := Nat.mul_le_mul_right C (show la + 1 ≤ L by omega)
  rw [Nat.succ_mul] at this
  omega
abbrev GH := (Unit × (Shp8 × Unit)) × (Unit × (Unit × (Bool × Unit))) × (Int × (Int × (Int × (Int × Unit)))) × (List Bl) × Unit
def gh (s : Shp8) (ar : Int × (Int × (Int × (Int × Unit)))) (l : List Bl) : GH := (((), (s, ())), ((), ((), (true, ()))), ar, l, ())
def shn (s0 t m b q z : Int) (L C : Nat) : Shp8 := (s0, (t, ((L : Int), (m, (b, ((C : Int), (q, (z, ()))))))))
section
variable {R : Type} (N : Nat) (s0 t m b q z : Int) (L C : Nat)
theorem p46_v1 (hL : L ≤ 4) (hC : C ≤ 80) (la co : Int) (ar) (l : List Bl) (κ : Int → Option R) :
    p_46_v1 N (((), (la, (co, ())), ()), gh (shn s0 t m b q z L C) ar l) κ = κ (if 0 ≤ la ∧ la < L ∧ 0 ≤ co ∧ co < C then la * C + co else -1) := by
  unfold p_46_v1 gh shn
  dsimp only
  by_cases h1 : la < 0
  · rw [bif_t (dT h1), if_neg (by omega)]
  rw [bif_f (dF h1)]
  by_cases h2 : la ≥ L
  · rw [bif_t (dT h2), if_neg (by omega)]
  rw [bif_f (dF h2)]
  by_cases h3 : co < 0
  · rw [bif_t (dT h3), if_neg (by omega)]
  rw [bif_f (dF h3)]
  by_cases h4 : co ≥ C
  · rw [bif_t (dT h4), if_neg (by omega)]
  rw [bif_f (dF h4), if_pos ⟨by omega, by omega, by omega, by omega⟩]
  unfold p_78
  dsimp only
  have e0 : 0 ≤ la * C := Int.mul_nonneg (by omega) (by omega)
  have e1 : la * C ≤ 4 * 80 := Int.mul_le_mul (by omega) (by omega) (by omega) (by omega)
  rw [mul64 (a := la) (by omega) (by omega), add64 (by omega) (by omega)]
theorem at_lt {la co L C : Nat} (h : la < L) (hc : co < C) : la * C + co < L * C := by
  have := Nat.mul_le_mul_right C (show la + 1 ≤ L by omega)
  rw [Nat.succ_mul] at this
  omega
theorem p47 (n : Int) (ar) (l : List Bl) (h0 : 0 ≤ n) (h1 : n < l.length) (κ) :
    p_47 (R := R) N (((), n, ()), (((), ((), (true, ()))), ar, l, ())) κ = κ (l.getD n.toNat nulB, (0, ())) := by
  unfold p_47
  dsimp only
  rw [bif_f (dF (by omega)), bif_f (dF (by omega)), bif_f (show (!true) = false from rfl), bif_t (dT h0), bif_t (dT h1)]; rfl
theorem p9_v1 (hL : L ≤ 4) (hC : C ≤ 80) (la co : Int) (ar) (l : List Bl) (hl : l.length = L * C) (κ) :
    p_9_v1 (R := R) N (((), (la, (co, ())), ()), gh (shn s0 t m b q z L C) ar l) κ = if 0 ≤ la ∧ la < L ∧ 0 ≤ co ∧ co < C then κ (l.getD (la * C + co).toNat nulB, (0, ())) else κ (nulB, (11, ())) := by
  unfold p_9_v1
  dsimp only
  refine (p46_v1 N s0 t m b q z L C hL hC la co ar l _).trans ?_
  by_cases h : 0 ≤ la ∧ la < L ∧ 0 ≤ co ∧ co < C
  · rw [if_pos h, if_pos h]
    obtain ⟨h1, h2, h3, h4⟩ := h
    have e0 : 0 ≤ la * C := Int.mul_nonneg h1 (by omega)
    obtain ⟨a, rfl⟩ := Int.eq_ofNat_of_zero_le h1
    obtain ⟨c, rfl⟩ := Int.eq_ofNat_of_zero_le h3
    have hlt := at_lt (la := a) (co := c) (L := L) (C := C) (by omega) (by omega)
    rw [bif_f (dF (by omega))]
    exact p47 N _ ar l (by omega) (by rw [hl]; exact_mod_cast hlt) _
  · rw [if_neg h, if_neg h]; rfl
theorem p12_v1 (hL : L ≤ 4) (hC : C ≤ 80) (la co : Int) (ar) (l : List Bl) (hl : l.length = L * C) (x : Bl) (κ) :
    p_12_v1 (R := R) N (((), (la, (co, ())), x, ()), gh (shn s0 t m b q z L C) ar l) κ = if 0 ≤ la ∧ la < L ∧ 0 ≤ co ∧ co < C then κ (0, gh (shn s0 t m b q z L C) ar (l.set (la * C + co).toNat x)) else κ (11, gh (shn s0 t m b q z L C) ar l) := by
  unfold p_12_v1
  dsimp only
  refine (p46_v1 N s0 t m b q z L C hL hC la co ar l _).trans ?_
  by_cases h : 0 ≤ la ∧ la < L ∧ 0 ≤ co ∧ co < C
  · rw [if_pos h, if_pos h]
    obtain ⟨h1, h2, h3, h4⟩ := h
    have e0 : 0 ≤ la * C := Int.mul_nonneg h1 (by omega)
    obtain ⟨a, rfl⟩ := Int.eq_ofNat_of_zero_le h1
    obtain ⟨c, rfl⟩ := Int.eq_ofNat_of_zero_le h3
    have hlt := at_lt (la := a) (co := c) (L := L) (C := C) (by omega) (by omega)
    have hb : ((a : Int) * C + c) < (l.length : Int) := by rw [hl]; exact_mod_cast hlt
    rw [bif_f (dF (by omega))]
    unfold p_51 gh shn
    dsimp only
    refine (p47 N _ ar l (by omega) hb _).trans ?_
    dsimp only
    rw [bif_f (show ((0 : Int) != 0) = false from rfl), bif_t (dT (by omega)), bif_t (dT hb)]
  · rw [if_neg h, if_neg h]; rfl
theorem rep_succ {α : Type} (n : Nat) (x : α) : List.replicate n x ++ [x] = List.replicate (n + 1) x := by rw [List.replicate_succ']
theorem l15 (hL : L ≤ 4) (hC : C ≤ 80) (κ) : ∀ (n i : Nat), i ≤ L → L - i < n →
    l_15_3 (R := R) N n (((), (), (i : Int), ()), (shn s0 t m b q z L C, List.replicate i (List.replicate C nulB), ())) κ = κ (((), ()), (List.replicate L (List.replicate C nulB), ()))
  | 0, i, h1, h2 => by omega
  | n + 1, i, h1, h2 => by
    unfold l_15_3 B_15_3 shn
    dsimp only
    by_cases hi : i < L
    · rw [bif_t (dT (show (i : Int) < (L : Int) by omega)), bif_t (dT (by omega)), bif_t (dT (by omega)), bif_t (dT (by omega)), bif_t (dT (by omega))]
      simp only [List.length_replicate, List.length_cons, List.length_nil]
      rw [dT (by omega)]
      simp only [Bool.and_true, cond_true]
      have := l15 hL hC κ n (i + 1) (by omega) (by omega)
      unfold shn at this
      rw [← rep_succ] at this
      rw [show addA .i64 (i : Int) 1 = ((i + 1 : Nat) : Int) by rw [add64 (by omega) (by omega)]; simp]
      exact this
    · rw [bif_f (dF (show ¬ (i : Int) < (L : Int) by omega)), show i = L by omega]
theorem rowsF_zero : rowsF (fun _ => nulB) C L = List.replicate L (List.replicate C nulB) := by
  unfold rowsF
  rw [List.map_const', List.map_const']; simp
theorem p15 (hN : 10 < N) (hL : L ≤ 4) (hC : C ≤ 80) (κ) : p_15 (R := R) N ((shn s0 t m b q z L C, ()), ()) κ = κ ((), (rowsF (fun _ => nulB) C L, ())) := by
  unfold p_15
  refine (l15 N s0 t m b q z L C hL hC _ N 0 (by omega) (by omega)).trans ?_
  rw [rowsF_zero]
/-- The first n blocks. -/
def upTo (l : List Bl) (n : Nat) : Nat → Bl := fun k => if k < n then l.getD k nulB else nulB
theorem upTo_succ (l : List Bl) (n : Nat) : upd (upTo l n) n (l.getD n nulB) = upTo l (n + 1) := by
  funext k
  rw [upd_if]
  unfold upTo
  by_cases h : k = n
  · subst h; rw [if_pos rfl, if_pos (by omega)]
  · rw [if_neg h]
    by_cases h2 : k < n
    · rw [if_pos h2, if_pos (by omega)]
    · rw [if_neg h2, if_neg (by omega)]
theorem l17i (hL : L ≤ 4) (hC : C ≤ 80) (ar) (l : List Bl) (hl : l.length = L * C) (la : Nat) (hla : la < L) (u : Int) (κ) : ∀ (n c : Nat), c ≤ C → C - c < n →
    l_17_6 (R := R) N n (((), (), (la : Int), u, (la : Int), (C : Int), (c : Int), ()), (((), (shn s0 t m b q z L C, ())), ((), ((), (true, ()))), ar, l, rowsF (upTo l (la * C + c)) C L, ())) κ =
      κ (((), (), u, (la : Int), ()), (((), (shn s0 t m b q z L C, ())), ((), ((), (true, ()))), ar, l, rowsF (upTo l (la * C + C)) C L, ()))
  | 0, i, h1, h2 => by omega
  | n + 1, c, h1, h2 => by
    unfold l_17_6 B_17_6
    dsimp only
    by_cases hc : c < C
    · rw [bif_t (dT (show (c : Int) < (C : Int) by omega)), bif_t (dT (by omega)), rowsF_len, bif_t (dT (by omega))]
      refine (p9_v1 N s0 t m b q z L C hL hC la c ar l hl _).trans ?_
      rw [if_pos ⟨by omega, by omega, by omega, by omega⟩]
      dsimp only
      rw [Int.toNat_natCast la, Int.toNat_natCast c, rowsF_rlen _ C L hla, bif_t (dT (by omega)), bif_t (dT (by omega)), show ((la : Int) * C + c).toNat = la * C + c by rw [← Int.natCast_mul, ← Int.natCast_add, Int.toNat_natCast]]
      rw [rowsF_set _ C L hla hc, upTo_succ, show addA .i64 (c : Int) 1 = ((c + 1 : Nat) : Int) by rw [add64 (by omega) (by omega)]; simp]
      exact l17i hL hC ar l hl la hla u κ n (c + 1) (by omega) (by omega)
    · rw [bif_f (dF (show ¬ (c : Int) < (C : Int) by omega)), show c = C by omega]
theorem l17o (hN : 100 < N) (hL : L ≤ 4) (hC : C ≤ 80) (ar) (l : List Bl) (hl : l.length = L * C) (κ) : ∀ (n i : Nat), i ≤ L → L - i < n →
    l_17_3 (R := R) N n (((), (), (L : Int), (i : Int), ()), (((), (shn s0 t m b q z L C, ())), ((), ((), (true, ()))), ar, l, rowsF (upTo l (i * C)) C L, ())) κ =
      κ (((), ()), (((), (shn s0 t m b q z L C, ())), ((), ((), (true, ()))), ar, l, rowsF (upTo l (L * C)) C L, ()))
  | 0, i, h1, h2 => by omega
  | n + 1, i, h1, h2 => by
    unfold l_17_3 B_17_3
    dsimp only
    by_cases hi : i < L
    · rw [bif_t (dT (show (i : Int) < (L : Int) by omega)), bif_t (dT (by omega)), rowsF_len, bif_t (dT (by omega))]
      rw [Int.toNat_natCast i, rowsF_rlen _ C L hi]
      refine (l17i N s0 t m b q z L C hL hC ar l hl i hi (L : Int) _ N 0 (by omega) (by omega)).trans ?_
      dsimp only
      rw [show addA .i64 (i : Int) 1 = ((i + 1 : Nat) : Int) by rw [add64 (by omega) (by omega)]; simp, show i * C + C = (i + 1) * C by rw [Nat.succ_mul]]
      exact l17o hN hL hC ar l hl κ n (i + 1) (by omega) (by omega)
    · rw [bif_f (dF (show ¬ (i : Int) < (L : Int) by omega)), show i = L by omega]
/-- A grid's blocks, by lanes and columns. -/
def gridF (l : List Bl) (C L : Nat) : List (List Bl) := rowsF (fun k => l.getD k nulB) C L
theorem p17 (hN : 100 < N) (hL : L ≤ 4) (hC : C ≤ 80) (ar) (l : List Bl) (hl : l.length = L * C) (κ) :
    p_17 (R := R) N (((), ()), gh (shn s0 t m b q z L C) ar l) κ = κ ((), (((), (shn s0 t m b q z L C, ())), ((), ((), (true, ()))), ar, l, gridF l C L, ())) := by
  unfold p_17 gh
  dsimp only
  refine (p15 N s0 t m b q z L C (by omega) hL hC _).trans ?_
  dsimp only
  rw [rowsF_len]
  have e : rowsF (fun _ => nulB) C L = rowsF (upTo l (0 * C)) C L := by
    apply rowsF_congr; intro k _; unfold upTo; rw [if_neg (by omega)]
  rw [e]
  refine (l17o N s0 t m b q z L C hN hL hC ar l hl _ N 0 (by omega) (by omega)).trans ?_
  have e2 : rowsF (upTo l (L * C)) C L = gridF l C L := by
    apply rowsF_congr; intro k hk; unfold upTo; rw [if_pos hk]
  rw [e2]
theorem l16i (f g : Nat → Bl) (hfg : ∀ k, k < L * C → schEq (.arr 128 (.int .u64)) (f k) (g k) = true) (la : Nat) (hla : la < L) (hC : C ≤ 80) (κ0 κ1) : ∀ (n c : Nat), c ≤ C → C - c < n →
    l_16_9 (R := R) N n (((), (), (la : Int), (c : Int), ()), (rowsF f C L, rowsF g C L, ())) κ0 κ1 = κ1 (((), (), (la : Int), ()), (rowsF f C L, rowsF g C L, ()))
  | 0, c, h1, h2 => by omega
  | n + 1, c, h1, h2 => by
    unfold l_16_9 B_16_9
    dsimp only
    rw [rowsF_len, rowsF_len, bif_t (dT (by omega)), bif_t (dT (by omega))]
    rw [Int.toNat_natCast la, Int.toNat_natCast c, rowsF_rlen _ C L hla, rowsF_rlen _ C L hla]
    by_cases hc : c < C
    · rw [bif_t (dT (show (c : Int) < (C : Int) by omega)), bif_t (dT (by omega)), bif_t (dT (by omega)), bif_t (dT (by omega)), bif_t (dT (by omega)), bif_t (dT (by omega)), bif_t (dT (by omega)), bif_t (dT (by omega)), bif_t (dT (by omega))]
      rw [rowsF_get f C L hla hc, rowsF_get g C L hla hc, hfg _ (at_lt hla hc), bif_f nT, show addA .i64 (c : Int) 1 = ((c + 1 : Nat) : Int) by rw [add64 (by omega) (by omega)]; simp]
      exact l16i f g hfg la hla hC κ0 κ1 n (c + 1) (by omega) (by omega)
    · rw [bif_f (dF (show ¬ (c : Int) < (C : Int) by omega))]
theorem l16o (hN : 100 < N) (f g : Nat → Bl) (hfg : ∀ k, k < L * C → schEq (.arr 128 (.int .u64)) (f k) (g k) = true) (hL : L ≤ 4) (hC : C ≤ 80) (κ0 κ1) : ∀ (n i : Nat), i ≤ L → L - i < n →
    l_16_4 (R := R) N n (((), (), (i : Int), ()), (rowsF f C L, rowsF g C L, ())) κ0 κ1 = κ1 ((), (rowsF f C L, rowsF g C L, ()))
  | 0, i, h1, h2 => by omega
  | n + 1, i, h1, h2 => by
    unfold l_16_4 B_16_4
    dsimp only
    rw [rowsF_len, rowsF_len]
    by_cases hi : i < L
    · rw [bif_t (dT (show (i : Int) < (L : Int) by omega)), bif_t (dT (by omega)), bif_t (dT (by omega)), bif_t (dT (by omega)), bif_t (dT (by omega))]
      rw [Int.toNat_natCast i, rowsF_rlen _ C L hi, rowsF_rlen _ C L hi, bif_f (by simp)]
      refine (l16i N L C f g hfg i hi hC _ _ N 0 (by omega) (by omega)).trans ?_
      dsimp only
      rw [show addA .i64 (i : Int) 1 = ((i + 1 : Nat) : Int) by rw [add64 (by omega) (by omega)]; simp]
      exact l16o hN f g hfg hL hC κ0 κ1 n (i + 1) (by omega) (by omega)
    · rw [bif_f (dF (show ¬ (i : Int) < (L : Int) by omega))]
theorem p16 (hN : 100 < N) (f g : Nat → Bl) (hfg : ∀ k, k < L * C → schEq (.arr 128 (.int .u64)) (f k) (g k) = true) (hL : L ≤ 4) (hC : C ≤ 80) (κ) :
    p_16 (R := R) N (((), (), ()), (rowsF f C L, rowsF g C L, ())) κ = κ (true, (rowsF f C L, rowsF g C L, ())) := by
  unfold p_16
  dsimp only
  rw [rowsF_len, rowsF_len, bif_f (by simp)]
  exact l16o N L C hN f g hfg hL hC _ _ N 0 (by omega) (by omega)
end
/-- Parameters that are few. -/
def FewP (t L q : Int) : Prop := t ≤ 3 ∧ L ≤ 4 ∧ 4 * L * q ≤ 80
instance (t L q : Int) : Decidable (FewP t L q) := by unfold FewP; exact inferInstance
theorem p55 {R : Type} (N : Nat) (s0 t l m b c q z : Int) (κ) : p_55 (R := R) N (((s0, (t, (l, (m, (b, (c, (q, (z, ())))))))), ()), ()) κ = κ (decide (t ≤ 3 ∧ l ≤ 4 ∧ b ≤ 80)) := by
  unfold p_55
  dsimp only
  by_cases h1 : t ≤ 3
  · by_cases h2 : l ≤ 4
    · simp [h1, h2]
    · simp [h2]
  · simp [h1]
theorem p43 {R : Type} (N : Nat) (n : Int) (h : 0 ≤ n ∧ n ≤ 80) (κ0 κ1) : p_43 (R := R) N ((n, ()), ()) κ0 κ1 = κ1 (((), (0, ())), ((n, (0, (0, (0, ())))), ())) := by
  unfold p_43
  dsimp only
  rw [bif_f (dF (by omega)), bif_f (dF (by omega))]
theorem p44_v1 {R : Type} (N : Nat) (n : Int) (h : 0 ≤ n ∧ n ≤ 80) (κ0 κ1) : p_44_v1 (R := R) N (((), n, ()), ((n, (0, (0, (0, ())))), ())) κ0 κ1 = κ1 (((), (0, ())), ((n, (n, (n, (1, ())))), ((), ((), (true, ()))), List.replicate n.toNat nulB, ())) := by
  unfold p_44_v1
  dsimp only
  have e : maxA 0 n = n := by unfold maxA; split <;> omega
  rw [bif_f (dF (by omega)), sub64 (by omega) (by omega), Int.sub_zero, bif_f (dF (by omega)), add64 (by omega) (by omega), Int.zero_add, e, bif_t (dT (by omega)), bif_t (dT (by omega)), bif_t (dT (by omega)), bif_t (dT (by omega))]
  rfl
theorem p45_v1 {R : Type} (N : Nat) (s0 t l m b c q z : Int) (hl : 1 ≤ l) (ar) (bl : List Bl) (hb : (bl.length : Int) = b) (κ0 κ1) :
    p_45_v1 (R := R) N (((), (s0, (t, (l, (m, (b, (c, (q, (z, ())))))))), ()), (((), ((), (true, ()))), ar, bl, ())) κ0 κ1 = κ1 (((), (0, ())), (((), ((), (true, ()))), ar, bl, ((), ((s0, (t, (l, (m, (b, (c, (q, (z, ())))))))), ())), ())) := by
  unfold p_45_v1
  dsimp only
  rw [bif_f (dF (by omega))]
  unfold p_77
  dsimp only
  rw [hb, bif_f (dF (by omega))]
/-- A grid is made if its parameters may be and are few. -/
theorem p14 {R : Type} (N : Nat) (a t m l z : Int) (κ0 κ1) : p_14 (R := R) N (((a, (t, (m, (l, (z, ()))))), ()), ()) κ0 κ1 =
    if h : Fit a t m l z ∧ FewP t l (m / (4 * l)) then κ1 ((), gh (shn a t m (4 * l * (m / (4 * l))) (m / (4 * l)) z l.toNat (4 * (m / (4 * l))).toNat) (4 * l * (m / (4 * l)), (4 * l * (m / (4 * l)), (4 * l * (m / (4 * l)), (1, ())))) (List.replicate (l.toNat * (4 * (m / (4 * l))).toNat) nulB)) else κ0 ((), ()) := by
  unfold p_14
  dsimp only
  rw [p42]
  by_cases h : Fit a t m l z
  · rw [dT h]
    obtain ⟨⟨h1, h2⟩, ⟨h3, h4⟩, ⟨h5, h6⟩, ⟨h7, h8⟩, h9, h10, h11⟩ := id h
    simp only [cond_true, bne_self_eq_false, cond_false]
    rw [p55]
    have q0 : 0 ≤ m / (4 * l) := Int.ediv_nonneg (by omega) (by omega)
    generalize hq : m / (4 * l) = q at *
    have e2 : 4 * l * q = l * (4 * q) := by rw [Int.mul_comm 4 l, Int.mul_assoc]
    have e3 : 0 ≤ 4 * l * q := by rw [e2]; exact Int.mul_nonneg (by omega) (by omega)
    by_cases g : t ≤ 3 ∧ l ≤ 4 ∧ 4 * l * q ≤ 80
    · rw [dT g, bif_f nT]
      rw [p43 N _ ⟨e3, g.2.2⟩]
      dsimp only
      rw [p44_v1 N _ ⟨e3, g.2.2⟩]
      dsimp only
      rw [p45_v1 N _ _ _ _ _ _ _ _ h5 _ _ (by rw [List.length_replicate]; omega)]
      rw [dif_pos ⟨h, g⟩]
      unfold gh shn
      rw [show ((l.toNat : Nat) : Int) = l by omega, show (((4 * q).toNat : Nat) : Int) = 4 * q by omega, show (4 * l * q).toNat = l.toNat * (4 * q).toNat by
        rw [e2]
        obtain ⟨x, rfl⟩ := Int.eq_ofNat_of_zero_le (show 0 ≤ l by omega)
        obtain ⟨y, rfl⟩ := Int.eq_ofNat_of_zero_le q0
        rw [show (4 : Int) * (y : Int) = ((4 * y : Nat) : Int) by simp, ← Int.natCast_mul, Int.toNat_natCast, Int.toNat_natCast, Int.toNat_natCast]]
    · rw [dF g, bif_t nF, dif_neg (fun hh => g hh.2)]
  · rw [dF h, bif_f rfl, dif_neg (fun hh => h hh.1)]
    rfl

theorem gridF_set (l : List Bl) {C L la co : Nat} (h : la < L) (hc : co < C) (hl : l.length = L * C) (x : Bl) :
    (gridF l C L).set la (((gridF l C L).getD la []).set co x) = gridF (l.set (la * C + co) x) C L := by
  unfold gridF
  rw [rowsF_set _ C L h hc]
  apply rowsF_congr
  intro k hk
  rw [upd_if, getD_set _ _ _ _ _ (by rw [hl]; exact at_lt h hc)]
theorem gridF_len (l : List Bl) (C L : Nat) : (gridF l C L).length = L := rowsF_len _ C L
theorem gridF_rlen (l : List Bl) (C L : Nat) {la : Nat} (h : la < L) : ((gridF l C L).getD la []).length = C := rowsF_rlen _ C L h
section
variable {R : Type} (N : Nat) (s0 t m b q z : Int) (L C : Nat)
theorem l314 (hL : L ≤ 4) (hC : C ≤ 80) (ar) (acts : List (Int × (Int × (Int × Unit)))) (ha : acts.length ≤ 50) (κ0 : (Bool × Unit) × Unit → Option R) (κ1) (hk : ∀ l : List Bl, l.length = L * C → κ1 (((), (), ()), (((), (shn s0 t m b q z L C, ())), ((), ((), (true, ()))), ar, l, gridF l C L, ())) = κ0 ((true, ()), ())) : ∀ (n i : Nat) (l : List Bl), l.length = L * C → i ≤ acts.length → acts.length - i < n →
    l_3_14 (R := R) N n (((), (), acts, ((acts.length : Nat) : Int), (i : Int), ()), (((), (shn s0 t m b q z L C, ())), ((), ((), (true, ()))), ar, l, gridF l C L, ())) κ0 κ1 = κ0 ((true, ()), ())
  | 0, i, l, hl, h1, h2 => by omega
  | n + 1, i, l, hl, h1, h2 => by
    unfold l_3_14 B_3_14
    dsimp only
    by_cases hi : i < acts.length
    · rw [bif_t (dT (show (i : Int) < ((acts.length : Nat) : Int) by omega)), bif_t (dT (by omega)), bif_t (dT (by omega))]
      generalize hx : acts.getD (Int.toNat i) (Sch.zero (.stru (.fcons (.int .i64) (.fcons (.int .i64) (.fcons (.int .u64) (.fnil)))))) = x
      obtain ⟨la, co, w, u⟩ := x
      dsimp only
      refine (p12_v1 N s0 t m b q z L C hL hC la co ar l hl _ _).trans ?_
      have hs : addA .i64 (i : Int) 1 = ((i + 1 : Nat) : Int) := by rw [add64 (by omega) (by omega)]; simp
      by_cases h : 0 ≤ la ∧ la < L ∧ 0 ≤ co ∧ co < C
      · rw [if_pos h]
        obtain ⟨g1, g2, g3, g4⟩ := h
        unfold gh shn
        dsimp only
        rw [bif_f (dF (by omega)), bif_f (dF (by omega)), bif_f (dF (by omega)), bif_f (dF (by omega)), bif_t (dT g1), gridF_len, bif_t (dT g2), bif_t (dT g3)]
        obtain ⟨a, rfl⟩ := Int.eq_ofNat_of_zero_le g1
        obtain ⟨c, rfl⟩ := Int.eq_ofNat_of_zero_le g3
        rw [Int.toNat_natCast a, Int.toNat_natCast c, gridF_rlen l C L (by omega), bif_t (dT g4), bif_f (show ((0 : Int) != 0) = false from rfl), hs]
        rw [show ((a : Int) * C + c).toNat = a * C + c by rw [← Int.natCast_mul, ← Int.natCast_add, Int.toNat_natCast]]
        rw [gridF_set l (by omega) (by omega) hl]
        exact l314 hL hC ar acts ha κ0 κ1 hk n (i + 1) _ (by rw [List.length_set]; exact hl) (by omega) (by omega)
      · rw [if_neg h]
        unfold gh shn
        dsimp only
        have next := l314 hL hC ar acts ha κ0 κ1 hk n (i + 1) l hl (by omega) (by omega)
        unfold shn at next
        rw [hs, bif_f (show ((11 : Int) != 11) = false from rfl)]
        by_cases g1 : la < 0
        · rw [bif_t (dT g1)]; exact next
        rw [bif_f (dF g1)]
        by_cases g2 : la ≥ L
        · rw [bif_t (dT g2)]; exact next
        rw [bif_f (dF g2)]
        by_cases g3 : co < 0
        · rw [bif_t (dT g3)]; exact next
        rw [bif_f (dF g3)]
        by_cases g4 : co ≥ C
        · rw [bif_t (dT g4)]; exact next
        exact absurd ⟨by omega, by omega, by omega, by omega⟩ h
    · rw [bif_f (dF (show ¬ (i : Int) < ((acts.length : Nat) : Int) by omega))]
      exact hk l hl
end
theorem p8 {R : Type} (N : Nat) (hN : N = 1001) (κ) : p_8 (R := R) N ((), ()) κ = κ true := by subst hN; kernel_rfl
theorem p9n {R : Type} (N : Nat) (κ) : p_9 (R := R) N (((), (0, (0, ())), ()), ()) κ = κ (nulB, (11, ())) := by kernel_rfl
theorem p10n {R : Type} (N : Nat) (κ) : p_10 (R := R) N (((), ()), ()) κ = κ (nulB, (11, ())) := by kernel_rfl
theorem p11n {R : Type} (N : Nat) (κ) : p_11 (R := R) N (((), ()), ()) κ = κ (⟨#[]⟩, (11, ())) := by kernel_rfl
theorem p12n {R : Type} (N : Nat) (x : Bl) (κ) : p_12 (R := R) N (((), (0, (0, ())), x, ()), ()) κ = κ (11, ()) := by kernel_rfl
theorem p13n {R : Type} (N : Nat) (s : ByteArray) (κ) : p_13 (R := R) N (((), s, ()), ()) κ = κ 11 := by kernel_rfl
theorem p3 {R : Type} (N : Nat) (hN : N = 1001) (a t m l z : Int) (acts : List (Int × (Int × (Int × Unit)))) (κ) : p_3 (R := R) N (((a, (t, (m, (l, (z, ()))))), acts, ()), ()) κ = κ (true, ()) := by
  unfold p_3
  dsimp only
  rw [p8 N hN, bif_f nT, p9n, p10n, p11n]
  dsimp only
  rw [bif_f (show ((11 : Int) != 11) = false from rfl), bif_f (show ((11 : Int) != 11) = false from rfl), bif_f (show ((11 : Int) != 11) = false from rfl), p12n]
  dsimp only
  rw [bif_f (show ((11 : Int) != 11) = false from rfl), p13n, bif_f (show ((11 : Int) != 11) = false from rfl), p14]
  by_cases h : Fit a t m l z ∧ FewP t l (m / (4 * l))
  · rw [dif_pos h]
    obtain ⟨h, hf1, hf2, hf3⟩ := h
    obtain ⟨⟨h1, h2⟩, ⟨h3, h4⟩, ⟨h5, h6⟩, ⟨h7, h8⟩, h9, h10, h11⟩ := h
    have q0 : 0 ≤ m / (4 * l) := Int.ediv_nonneg (by omega) (by omega)
    generalize hq : m / (4 * l) = q at *
    have hc : 4 * q ≤ 80 := by
      have e2 : 4 * l * q = l * (4 * q) := by rw [Int.mul_comm 4 l, Int.mul_assoc]
      rw [e2] at hf3
      have := Int.mul_le_mul_of_nonneg_right (c := 4 * q) (show 1 ≤ l by omega) (by omega)
      omega
    have hL : l.toNat ≤ 4 := by omega
    have hC : (4 * q).toNat ≤ 80 := by omega
    generalize hLn : l.toNat = L at *
    generalize hCn : (4 * q).toNat = C at *
    unfold gh
    have body : ∀ ar, (bif decide (((acts.length : Nat) : Int) > 50) then κ (true, ()) else
        p_15 N ((shn a t m (4 * l * q) q z L C, ()), ()) fun y595 => l_3_14 N N (((), (), acts, ((acts.length : Nat) : Int), 0, ()), (((), (shn a t m (4 * l * q) q z L C, ())), ((), ((), (true, ()))), ar, List.replicate (L * C) nulB, y595.2.1, ())) (fun y721 => κ (y721.1.1, ())) (fun y723 =>
          p_17 N (((), ()), (((), (y723.2.1.2.1, ())), ((), ((), (y723.2.2.1.2.2.1, ()))), y723.2.2.2.1, y723.2.2.2.2.1, ())) (fun y856 => p_16 N (((), (), ()), (y856.2.2.2.2.2.1, y723.2.2.2.2.2.1, ())) fun y906 => κ (y906.1, ())))) = κ (true, ()) := by
      intro ar
      by_cases hn : ((acts.length : Nat) : Int) > 50
      · rw [bif_t (dT hn)]
      · rw [bif_f (dF hn)]
        refine (p15 N a t m (4 * l * q) q z L C (by omega) hL hC _).trans ?_
        dsimp only
        have e : rowsF (fun _ => nulB) C L = gridF (List.replicate (L * C) nulB) C L := by
          apply rowsF_congr; intro k hk; simp [List.getD_eq_getElem?_getD, hk]
        rw [e]
        refine (l314 N a t m (4 * l * q) q z L C hL hC ar acts (by omega) _ _ (fun bl hbl => ?_) N 0 _ (by simp) (by omega) (by omega)).trans rfl
        dsimp only
        refine (p17 N a t m (4 * l * q) q z L C (by omega) hL hC ar bl hbl _).trans ?_
        dsimp only
        exact p16 N L C (by omega) _ _ (fun k _ => schEq128 (fun _ _ => rfl)) hL hC _
    exact body _
  · rw [dif_neg h]
theorem law_all (y0 : Sch.den (.stru (.fcons (.int .i64) (.fcons (.int .i64) (.fcons (.int .i64) (.fcons (.int .i64) (.fcons (.int .i64) .fnil))))))) {P0 : Prop} (wf0 : P0) (y1 : Sch.den (.sl (.stru (.fcons (.int .i64) (.fcons (.int .i64) (.fcons (.int .u64) .fnil)))))) {P1 : Prop} (wf1 : P1) :
    ∃ H', ACalls Try.prog 3 [toAV (.stru (.fcons (.int .i64) (.fcons (.int .i64) (.fcons (.int .i64) (.fcons (.int .i64) (.fcons (.int .i64) .fnil)))))) y0, toAV (.sl (.stru (.fcons (.int .i64) (.fcons (.int .i64) (.fcons (.int .u64) .fnil))))) y1] [] (.bool true) H' :=
  gd_law (good_3 1001) (x := (y0, y1, ())) (by
    obtain ⟨a, t, m, l, s, u⟩ := y0
    exact p3 1001 rfl a t m l s y1 _)
end Go.Proofs.Ytfcloeflcpcheaa.Eng
