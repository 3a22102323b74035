/-
PepperWraps: what the mirrors come to, in plain numbers and lists: the law's mirror answers true.
Conditions: none.
-/
import Derived.Test.YtjehpceomlnicaaMirPepperWraps
set_option linter.unusedVariables false
set_option linter.unusedSimpArgs false
namespace Go.Proofs.Ytjehpceomlnicaa.Eng
/-! ### texts as lists of bytes -/
theorem bloop (bs : ByteArray) : ∀ (n i : Nat) (r : List UInt8), bs.size - i ≤ n → ByteArray.toList.loop bs i r = r.reverse ++ bs.data.toList.drop i
  | 0, i, r, h => by
    rw [ByteArray.toList.loop]
    have h1 : bs.data.size = bs.size := rfl
    rw [if_neg (by omega), List.drop_eq_nil_of_le (by simp; omega)]
    simp
  | n + 1, i, r, h => by
    rw [ByteArray.toList.loop]
    have h1 : bs.data.size = bs.size := rfl
    by_cases hi : i < bs.size
    · rw [if_pos hi, bloop bs n (i + 1) _ (by omega)]
      have : bs.get! i = bs.data.toList[i]'(by simp; omega) := by
        show bs.data[i]! = _
        rw [getElem!_pos bs.data i (by omega)]
        simp
      rw [this]
      rw [List.drop_eq_getElem_cons (i := i) (by simp; omega)]
      simp
    · rw [if_neg hi, List.drop_eq_nil_of_le (by simp; omega)]
      simp
theorem btoList (bs : ByteArray) : bs.toList = bs.data.toList := by
  unfold ByteArray.toList
  rw [bloop bs bs.size 0 [] (by omega)]
  simp
theorem strList_inj {a b : ByteArray} (h : strList a = strList b) : a = b := by
  unfold strList at h
  have h1 : a.data.toList = b.data.toList := by
    refine List.map_inj_right (f := fun b : UInt8 => (b.toNat : Int)) (fun x y hxy => ?_) |>.1 h
    exact UInt8.toNat_inj.1 (Int.ofNat_inj.1 hxy)
  obtain ⟨⟨l⟩⟩ := a
  obtain ⟨⟨m⟩⟩ := b
  simp at h1
  rw [h1]
theorem eqS_dec (a b : ByteArray) : eqS a b = decide (strList a = strList b) := by
  unfold eqS
  rw [btoList, btoList]
  by_cases h : strList a = strList b
  · rw [strList_inj h]; simp
  · have : ¬ a.data.toList = b.data.toList := fun e => h (by unfold strList; rw [e])
    rw [decide_eq_false h]
    exact beq_eq_false_iff_ne.2 this
theorem strList_app (a b : ByteArray) : strList (a ++ b) = strList a ++ strList b := by
  unfold strList
  simp
theorem strList_ext (s : ByteArray) (i j : Nat) : strList (s.extract i j) = ((strList s).take j).drop i := by
  unfold strList
  simp [ByteArray.data_extract]
  rw [List.drop_take]
theorem strList_get (s : ByteArray) (i : Nat) : byteAt s i = (strList s).getD i 0 := by
  unfold byteAt strList
  by_cases h : i < s.size
  · rw [getElem?_pos s i h]
    have h1 : s.data.size = s.size := rfl
    simp [h1, h]
    rfl
  · rw [getElem?_neg s i h]
    have h1 : s.data.size = s.size := rfl
    simp [h1, h]
theorem strList_size (s : ByteArray) : s.size = (strList s).length := by simp [strList]
theorem strList_mk (l : List Int) (h : ∀ x ∈ l, 0 ≤ x ∧ x < 256) : strList (listStr l) = l := by
  unfold strList listStr
  simp only [List.map_map]
  refine (List.map_congr_left (g := id) fun x hx => ?_).trans (by simp)
  have := h x hx
  simp [UInt8.toNat_ofNat']
  omega
theorem strList_rng (s : ByteArray) : ∀ x ∈ strList s, 0 ≤ x ∧ x < 256 := by
  unfold strList
  intro x hx
  simp only [List.mem_map] at hx
  obtain ⟨b, _, rfl⟩ := hx
  have := b.toNat_lt
  omega
/-! ### the plain law -/
/-- A number's digits, of one from 1 to 999. -/
def dg (n : Int) : List Int := if n < 10 then [48 + n] else if n < 100 then [48 + n / 10, 48 + n % 10] else [48 + n / 100, 48 + n / 10 % 10, 48 + n % 10]
/-- The number whose digits are read on, the error's number. -/
def rdP : List Int → Int → Bool → Int × Int
  | [], n, ov => if ov then (0, 10) else (n, 0)
  | b :: l, n, ov => if b < 48 ∨ b > 57 then (0, 7) else if ov = true ∨ n > (4611686018427387904 - (b - 48)) / 10 then rdP l n true else rdP l (10 * n + (b - 48)) false
def RD (l : List Int) : Int × Int := if l = [] ∨ (l.length > 1 ∧ l.getD 0 0 = 48) then (0, 7) else rdP l 0 false
/-- Where the first colon is, from one on; 0: nowhere. -/
def ix : List Int → Nat → Nat
  | [], _ => 0
  | b :: l, i => if b = 58 then i else ix l (i + 1)
def at_ (s : ByteArray) : Nat := ix ((strList s).drop 1) 1
def UW (s : ByteArray) : Int × ByteArray × Int :=
  if strList s = [] ∨ (strList s).getD 0 0 ≠ 107 then (0, ⟨#[]⟩, 5) else if at_ s = 0 then (0, ⟨#[]⟩, 5) else
    if (RD (strList (s.extract 1 (at_ s)))).2 ≠ 0 then (0, ⟨#[]⟩, (RD (strList (s.extract 1 (at_ s)))).2) else
    if (RD (strList (s.extract 1 (at_ s)))).1 < 1 ∨ (RD (strList (s.extract 1 (at_ s)))).1 > 999 then (0, ⟨#[]⟩, 2) else
    ((RD (strList (s.extract 1 (at_ s)))).1, s.extract (at_ s + 1) s.size, 0)
def wr (n : Int) (t : ByteArray) : ByteArray := ((⟨#[107]⟩ ++ listStr (dg n)) ++ ⟨#[58]⟩) ++ t
theorem dg_rng {n : Int} (h1 : 1 ≤ n) (h2 : n ≤ 999) : ∀ x ∈ dg n, 0 ≤ x ∧ x < 256 := by
  unfold dg
  intro x hx
  by_cases g1 : n < 10
  · rw [if_pos g1] at hx; simp at hx; omega
  rw [if_neg g1] at hx
  by_cases g2 : n < 100
  · rw [if_pos g2] at hx; simp at hx; omega
  · rw [if_neg g2] at hx; simp at hx; omega
theorem wr_list {n : Int} (h1 : 1 ≤ n) (h2 : n ≤ 999) (t : ByteArray) : strList (wr n t) = 107 :: (dg n ++ 58 :: strList t) := by
  unfold wr
  rw [strList_app, strList_app, strList_app, strList_mk _ (dg_rng h1 h2)]
  simp [strList]
theorem ix_no : ∀ (l : List Int) (i : Nat), 1 ≤ i → ix l i = 0 → ∀ x ∈ l, x ≠ 58
  | [], i, h, h2, x, hx => by simp at hx
  | b :: l, i, h, h2, x, hx => by
    unfold ix at h2
    by_cases g : b = 58
    · rw [if_pos g] at h2; omega
    · rw [if_neg g] at h2
      rcases List.mem_cons.1 hx with hx | hx
      · rw [hx]; exact g
      · exact ix_no l (i + 1) (by omega) h2 x hx
theorem ix_at : ∀ (l : List Int) (i : Nat), 1 ≤ i → ix l i ≠ 0 → i ≤ ix l i ∧ ix l i - i < l.length ∧ l = l.take (ix l i - i) ++ 58 :: l.drop (ix l i - i + 1)
  | [], i, h, h2 => by simp [ix] at h2
  | b :: l, i, h, h2 => by
    unfold ix at h2 ⊢
    by_cases g : b = 58
    · simp [g]
    · rw [if_neg g] at h2 ⊢
      obtain ⟨q1, q2, q3⟩ := ix_at l (i + 1) (by omega) h2
      refine ⟨by omega, by simp; omega, ?_⟩
      rw [show ix l (i + 1) - i = (ix l (i + 1) - (i + 1)) + 1 by omega]
      rw [List.take_succ_cons, List.drop_succ_cons, List.cons_append, ← q3]
theorem ix_mid : ∀ (a b : List Int) (i : Nat), (∀ x ∈ a, x ≠ 58) → ix (a ++ 58 :: b) i = i + a.length
  | [], b, i, h => by simp [ix]
  | x :: a, b, i, h => by
    rw [List.cons_append]
    unfold ix
    rw [if_neg (h x (by simp)), ix_mid a b (i + 1) (fun y hy => h y (by simp [hy]))]
    simp; omega
theorem rdP_over : ∀ (l : List Int) (n : Int), (∀ x ∈ l, 48 ≤ x ∧ x ≤ 57) → rdP l n true = (0, 10)
  | [], n, h => rfl
  | b :: l, n, h => by
    unfold rdP
    have := h b (by simp)
    rw [if_neg (by omega), if_pos (.inl rfl)]
    exact rdP_over l n (fun x hx => h x (by simp [hx]))
theorem rdP_long : ∀ (l : List Int) (n : Int) (k : Nat), (∀ x ∈ l, 48 ≤ x ∧ x ≤ 57) → k ≤ 18 → 19 ≤ k + l.length → (10 : Int) ^ k ≤ n → rdP l n false = (0, 10)
  | [], n, k, h, h1, h2, h3 => by simp at h2; omega
  | b :: l, n, k, h, h1, h2, h3 => by
    unfold rdP
    have hb := h b (by simp)
    have hl : ∀ x ∈ l, 48 ≤ x ∧ x ≤ 57 := fun x hx => h x (by simp [hx])
    rw [if_neg (by omega)]
    by_cases g : n > (4611686018427387904 - (b - 48)) / 10
    · rw [if_pos (.inr g)]; exact rdP_over l n hl
    · rw [if_neg (by simp; omega)]
      have hk : k < 18 := by
        rcases Nat.lt_or_ge k 18 with q | q
        · exact q
        · have : k = 18 := by omega
          subst this
          simp at h3
          omega
      refine rdP_long l _ (k + 1) hl (by omega) (by simp at h2; omega) ?_
      rw [Int.pow_succ]
      omega
theorem rdP_ge : ∀ (l : List Int) (n m : Int), 0 ≤ n → rdP l n false = (m, 0) → n ≤ m ∧ (∀ x ∈ l, 48 ≤ x ∧ x ≤ 57) ∧ (l ≠ [] → 10 * n ≤ m)
  | [], n, m, h, h2 => by
    simp [rdP] at h2; subst h2; simp
  | b :: l, n, m, h, h2 => by
    unfold rdP at h2
    by_cases g : b < 48 ∨ b > 57
    · rw [if_pos g] at h2; simp at h2
    rw [if_neg g] at h2
    by_cases g2 : n > (4611686018427387904 - (b - 48)) / 10
    · rw [if_pos (.inr g2)] at h2
      exfalso
      have : ∀ (l : List Int) (n m : Int), rdP l n true ≠ (m, 0) := by
        intro l
        induction l with
        | nil => intro n m; simp [rdP]
        | cons b l ih =>
          intro n m
          unfold rdP
          by_cases g : b < 48 ∨ b > 57
          · rw [if_pos g]; simp
          · rw [if_neg g, if_pos (.inl rfl)]; exact ih n m
      exact this _ _ _ h2
    · rw [if_neg (by simp; omega)] at h2
      obtain ⟨q1, q2, _⟩ := rdP_ge l _ m (by omega) h2
      refine ⟨by omega, fun x hx => ?_, fun _ => by omega⟩
      rcases List.mem_cons.1 hx with hx | hx
      · subst hx; omega
      · exact q2 x hx
theorem rdP_step {b : Int} {l : List Int} {n : Int} (h1 : 48 ≤ b) (h2 : b ≤ 57) (h3 : 0 ≤ n) (h4 : n ≤ 1000) : rdP (b :: l) n false = rdP l (10 * n + (b - 48)) false := by
  rw [rdP.eq_2, if_neg (by omega), if_neg (by simp; omega)]
/-- What is written is read. -/
theorem RD_dg {n : Int} (h1 : 1 ≤ n) (h2 : n ≤ 999) : RD (dg n) = (n, 0) := by
  unfold RD dg
  by_cases g1 : n < 10
  · rw [if_pos g1, if_neg (by simp), rdP_step (by omega) (by omega) (by omega) (by omega)]
    simp [rdP]; omega
  rw [if_neg g1]
  by_cases g2 : n < 100
  · rw [if_pos g2, if_neg (by simp; omega), rdP_step (by omega) (by omega) (by omega) (by omega), rdP_step (by omega) (by omega) (by omega) (by omega)]
    simp [rdP]; omega
  · rw [if_neg g2, if_neg (by simp; omega), rdP_step (by omega) (by omega) (by omega) (by omega), rdP_step (by omega) (by omega) (by omega) (by omega), rdP_step (by omega) (by omega) (by omega) (by omega)]
    simp [rdP]; omega
theorem dg_RD (l : List Int) (n : Int) (h : RD l = (n, 0)) (h1 : 1 ≤ n) (h2 : n ≤ 999) : dg n = l := by
  unfold RD at h
  by_cases g : l = [] ∨ (l.length > 1 ∧ l.getD 0 0 = 48)
  · rw [if_pos g] at h; simp at h
  rw [if_neg g] at h
  obtain ⟨_, hd, _⟩ := rdP_ge l 0 n (by omega) h
  match l, g, h, hd with
  | [], g, h, hd => simp at g
  | [a], g, h, hd =>
    have ha := hd a (by simp)
    rw [rdP_step (by omega) (by omega) (by omega) (by omega)] at h
    simp [rdP] at h
    unfold dg
    rw [if_pos (by omega)]
    simp; omega
  | [a, b], g, h, hd =>
    have ha := hd a (by simp)
    have hb := hd b (by simp)
    simp at g
    rw [rdP_step (by omega) (by omega) (by omega) (by omega), rdP_step (by omega) (by omega) (by omega) (by omega)] at h
    simp [rdP] at h
    unfold dg
    rw [if_neg (by omega), if_pos (by omega)]
    simp; omega
  | [a, b, c], g, h, hd =>
    have ha := hd a (by simp)
    have hb := hd b (by simp)
    have hc := hd c (by simp)
    simp at g
    rw [rdP_step (by omega) (by omega) (by omega) (by omega), rdP_step (by omega) (by omega) (by omega) (by omega), rdP_step (by omega) (by omega) (by omega) (by omega)] at h
    simp [rdP] at h
    unfold dg
    rw [if_neg (by omega), if_neg (by omega)]
    simp; omega
  | a :: b :: c :: d :: l, g, h, hd =>
    have ha := hd a (by simp)
    have hb := hd b (by simp)
    have hc := hd c (by simp)
    simp at g
    rw [rdP_step (by omega) (by omega) (by omega) (by omega), rdP_step (by omega) (by omega) (by omega) (by omega), rdP_step (by omega) (by omega) (by omega) (by omega)] at h
    obtain ⟨_, _, q⟩ := rdP_ge _ _ n (by omega) h
    have := q (by simp)
    omega
theorem strList_nil : strList ⟨#[]⟩ = [] := rfl
/-- What is wrapped is unwrapped. -/
theorem UW_wr {n : Int} (h1 : 1 ≤ n) (h2 : n ≤ 999) (t : ByteArray) : UW (wr n t) = (n, t, 0) := by
  have hw := wr_list h1 h2 t
  have h58 : ∀ x ∈ dg n, x ≠ 58 := by
    unfold dg
    intro x hx
    by_cases g1 : n < 10
    · rw [if_pos g1] at hx; simp at hx; omega
    rw [if_neg g1] at hx
    by_cases g2 : n < 100
    · rw [if_pos g2] at hx; simp at hx; omega
    · rw [if_neg g2] at hx; simp at hx; omega
  have ha : at_ (wr n t) = 1 + (dg n).length := by
    unfold at_
    rw [hw, List.drop_succ_cons, List.drop_zero, ix_mid _ _ _ h58]
  have he : strList ((wr n t).extract 1 (at_ (wr n t))) = dg n := by
    rw [strList_ext, hw, ha, Nat.add_comm 1, List.take_succ_cons, List.drop_succ_cons, List.drop_zero]
    simp
  unfold UW
  rw [he, RD_dg h1 h2, if_neg (by rw [hw]; simp), if_neg (by rw [ha]; omega), if_neg (by simp), if_neg (by simp; omega)]
  refine congrArg _ (congrArg (·, (0 : Int)) (strList_inj ?_))
  rw [strList_ext, ha, strList_size, List.take_length, hw, Nat.add_comm 1, List.drop_succ_cons]
  rw [show (dg n).length + 1 = (dg n).length + 1 from rfl, ← List.drop_drop]
  simp
/-- What is unwrapped is wrapped. -/
theorem wr_UW (s t : ByteArray) (n : Int) (h : UW s = (n, t, 0)) : 1 ≤ n ∧ n ≤ 999 ∧ wr n t = s := by
  unfold UW at h
  by_cases g1 : strList s = [] ∨ (strList s).getD 0 0 ≠ 107
  · rw [if_pos g1] at h; simp at h
  rw [if_neg g1] at h
  by_cases g2 : at_ s = 0
  · rw [if_pos g2] at h; simp at h
  rw [if_neg g2] at h
  by_cases g3 : (RD (strList (s.extract 1 (at_ s)))).2 ≠ 0
  · rw [if_pos g3] at h; simp at h; exact absurd h.2.2 g3
  rw [if_neg g3] at h
  by_cases g4 : (RD (strList (s.extract 1 (at_ s)))).1 < 1 ∨ (RD (strList (s.extract 1 (at_ s)))).1 > 999
  · rw [if_pos g4] at h; simp at h
  rw [if_neg g4] at h
  simp at h
  obtain ⟨e1, e2⟩ := h
  rw [e1] at g4
  refine ⟨by omega, by omega, ?_⟩
  refine strList_inj ?_
  have hr : RD (strList (s.extract 1 (at_ s))) = (n, 0) := by
    rw [← e1]; simp at g3; rw [← g3]
  rw [wr_list (by omega) (by omega), dg_RD _ n hr (by omega) (by omega), ← e2, strList_ext, strList_ext, strList_size, List.take_length]
  cases hs : strList s with
  | nil => simp [hs] at g1
  | cons a l =>
    have ha : at_ s = ix l 1 := by unfold at_; rw [hs]; rfl
    rw [hs] at g1
    simp at g1
    obtain ⟨q1, q2, q3⟩ := ix_at l 1 (by omega) (by rw [← ha]; exact g2)
    rw [ha]
    rw [show ix l 1 = (ix l 1 - 1) + 1 by omega, List.take_succ_cons, List.drop_succ_cons, List.drop_zero, List.drop_succ_cons, ← q3, g1]
section
variable {R : Type} (N : Nat)
theorem p87 (a b c : Int) (κ) : p_87 (R := R) N ((a, b, c, ()), ()) κ = κ (decide (b ≤ a ∧ a ≤ c)) := by
  unfold p_87
  try dsimp only
  by_cases h1 : b ≤ a
  · by_cases h2 : a ≤ c <;> simp [h1, h2]
  · simp [h1]
theorem l101s (n : Nat) (i : Int) (acc : List Int) (h1 : 0 ≤ i) (h2 : i ≤ 1000) (h3 : acc.length ≤ 10) (κ) :
    l_101_5 (R := R) N (n + 1) ((i, (), true, ()), (acc, ())) κ = l_101_5 N n ((i / 10, (), decide (i / 10 > 0), ()), (acc ++ [48 + i % 10], ())) κ := by
  rw [l_101_5]
  unfold B_101_5
  try dsimp only
  rw [rem64 h1, add64 (by omega) (by omega), wrapU8, Int.emod_eq_of_lt (by omega) (by omega), quo64 (by omega) (by omega) (by omega), cond_true]
  have hs : (decide ((acc.length + [48 + i % 10].length) * 1 ≤ 140737488355328) && true) = true := by
    rw [Bool.and_true]; apply dT; simp; omega
  rw [bif_t hs]
theorem l101e (n : Nat) (i : Int) (acc : List Int) (κ) : l_101_5 (R := R) N (n + 1) ((i, (), false, ()), (acc, ())) κ = κ (((), ()), (acc, ())) := rfl
theorem p101 (hN : N = 1001) (n : Int) (h1 : 1 ≤ n) (h2 : n ≤ 999) (κ : ByteArray → Option R) : p_101 N ((n, ()), ()) κ = κ (listStr (dg n)) := by
  unfold p_101
  try dsimp only
  rw [bif_f (dF (by omega))]
  have r1 : ∀ (a : Int) κ, l_101_10 (R := R) N N (((), 0, subA .i64 (([a] : List Int).length : Nat) 1, ()), ([a], ())) κ = κ (((), ()), ([a], ())) := by
    subst hN; intro a κ; kernel_rfl
  have r2 : ∀ (a b : Int) κ, l_101_10 (R := R) N N (((), 0, subA .i64 (([a, b] : List Int).length : Nat) 1, ()), ([a, b], ())) κ = κ (((), ()), ([b, a], ())) := by
    subst hN; intro a b κ; kernel_rfl
  have r3 : ∀ (a b c : Int) κ, l_101_10 (R := R) N N (((), 0, subA .i64 (([a, b, c] : List Int).length : Nat) 1, ()), ([a, b, c], ())) κ = κ (((), ()), ([c, b, a], ())) := by
    subst hN; intro a b c κ; kernel_rfl
  have s1 := fun κ => l101s (R := R) N 1000 n [] (by omega) (by omega) (by simp) κ
  have hN' : N = 1000 + 1 := hN
  unfold dg
  by_cases g1 : n < 10
  · rw [if_pos g1]
    have e : ∀ κ, l_101_5 (R := R) N N ((n, (), true, ()), ([], ())) κ = κ (((), ()), ([48 + n], ())) := by
      intro κ
      rw [show l_101_5 (R := R) N N = l_101_5 N (1000 + 1) by rw [← hN'], s1, dF (by omega), show n % 10 = n by omega]
      exact l101e N 999 _ _ _
    rw [e]
    try dsimp only
    rw [r1]
  rw [if_neg g1]
  have s2 := fun κ => l101s (R := R) N 999 (n / 10) ([] ++ [48 + n % 10]) (by omega) (by omega) (by simp) κ
  by_cases g2 : n < 100
  · rw [if_pos g2]
    have e : ∀ κ, l_101_5 (R := R) N N ((n, (), true, ()), ([], ())) κ = κ (((), ()), ([48 + n % 10, 48 + n / 10], ())) := by
      intro κ
      rw [show l_101_5 (R := R) N N = l_101_5 N (1000 + 1) by rw [← hN'], s1, dT (by omega)]
      refine (s2 κ).trans ?_
      rw [dF (by omega), show n / 10 % 10 = n / 10 by omega]
      exact l101e N 998 _ _ _
    rw [e]
    try dsimp only
    rw [r2]
  · rw [if_neg g2]
    have e : ∀ κ, l_101_5 (R := R) N N ((n, (), true, ()), ([], ())) κ = κ (((), ()), ([48 + n % 10, 48 + n / 10 % 10, 48 + n / 100], ())) := by
      intro κ
      rw [show l_101_5 (R := R) N N = l_101_5 N (1000 + 1) by rw [← hN'], s1, dT (by omega)]
      refine (s2 κ).trans ?_
      rw [dT (by omega)]
      refine (l101s (R := R) N 998 (n / 10 / 10) ([] ++ [48 + n % 10] ++ [48 + n / 10 % 10]) (by omega) (by omega) (by simp) κ).trans ?_
      rw [dF (by omega), show n / 10 / 10 % 10 = n / 100 by omega]
      exact l101e N 997 _ _ _
    rw [e]
    try dsimp only
    rw [r3]
theorem dg_len (n : Int) : (dg n).length ≤ 3 := by
  unfold dg
  by_cases g1 : n < 10
  · rw [if_pos g1]; simp
  rw [if_neg g1]
  by_cases g2 : n < 100
  · rw [if_pos g2]; simp
  · rw [if_neg g2]; simp
theorem p66 (hN : N = 1001) (n : Int) (t : ByteArray) (ht : t.size ≤ 1000) (κ) : p_66 (R := R) N ((n, t, ()), ()) κ = if 1 ≤ n ∧ n ≤ 999 then κ (wr n t, (0, ())) else κ (⟨#[]⟩, (1, ())) := by
  unfold p_66
  try dsimp only
  rw [p87]
  by_cases g : 1 ≤ n ∧ n ≤ 999
  · rw [dT g, if_pos g, Bool.not_true, cond_false, p101 N hN n g.1 g.2]
    try dsimp only
    have hz : (listStr (dg n)).size ≤ 3 := by
      have := dg_len n
      unfold listStr
      simp [ByteArray.size]; omega
    have hm : maxI64 = 9223372036854775807 := rfl
    have z1 : (⟨#[107]⟩ : ByteArray).size = 1 := rfl
    have z2 : (⟨#[58]⟩ : ByteArray).size = 1 := rfl
    rw [bif_t (dT (by omega)), bif_t (dT (by rw [ByteArray.size_append]; omega)), bif_t (dT (by rw [ByteArray.size_append, ByteArray.size_append]; omega))]
    rfl
  · rw [dF g, if_neg g]; rfl
theorem l117 (s : ByteArray) (hs : s.size ≤ 1000) (κ : Int × (Int × Unit) → Option R) : ∀ (n i : Nat) (m : Int) (ov : Bool), i ≤ s.size → s.size - i < n → 0 ≤ m → m ≤ 4611686018427387904 →
    l_117_5 N n ((s, m, ov, (s.size : Int), (i : Int), ()), ()) (fun y => κ (y.1.1, (y.1.2.1, ()))) (fun y => bif y.1.2.1 then κ (0, (10, ())) else κ (y.1.1, (0, ()))) =
      κ ((rdP ((strList s).drop i) m ov).1, ((rdP ((strList s).drop i) m ov).2, ()))
  | 0, i, m, ov, h1, h2, h3, h4 => by omega
  | n + 1, i, m, ov, h1, h2, h3, h4 => by
    unfold l_117_5 B_117_5
    try dsimp only
    have hz := strList_size s
    by_cases hi : i < s.size
    · have e3 : addA .i64 (i : Int) 1 = ((i + 1 : Nat) : Int) := by rw [add64 (by omega) (by omega)]; simp
      have q0 := dT (show (0 : Int) ≤ (i : Int) by omega)
      have q1 := dT (show (i : Int) < (s.size : Int) by omega)
      have hi' : i < (strList s).length := by omega
      have hg : byteAt s i = (strList s)[i] := by rw [strList_get]; simp [hi']
      have hb := strList_rng s (strList s)[i] (by simp)
      rw [q0, q1, e3, Int.toNat_natCast, hg, List.drop_eq_getElem_cons hi']
      simp only [cond_true]
      generalize (strList s)[i] = b at hb ⊢
      unfold rdP
      by_cases g1 : b < 48
      · rw [bif_t (dT g1), if_pos (.inl g1)]
      rw [bif_f (dF g1)]
      by_cases g2 : b > 57
      · rw [bif_t (dT g2), if_pos (.inr g2)]
      have ed : IntKind.wrap .i64 (subA .u8 b 48) = b - 48 := by
        unfold subA
        rw [wrapU8, Int.emod_eq_of_lt (by omega) (by omega), wrap64 (by omega) (by omega)]
      rw [bif_f (dF g2), if_neg (by omega), ed]
      cases ov with
      | true =>
        rw [cond_true, if_pos (.inl rfl)]
        exact l117 s hs κ n (i + 1) m true (by omega) (by omega) h3 h4
      | false =>
        have eq : quoA .i64 (subA .i64 4611686018427387904 (b - 48)) 10 = (4611686018427387904 - (b - 48)) / 10 := by
          rw [sub64 (by omega) (by omega), quo64 (by omega) (by omega) (by omega)]
        rw [cond_false, eq]
        by_cases g3 : m > (4611686018427387904 - (b - 48)) / 10
        · rw [if_pos (.inr g3), dT g3]
          exact l117 s hs κ n (i + 1) m true (by omega) (by omega) h3 h4
        · rw [if_neg (by simp; omega), dF g3]
          simp only [Bool.not_false, cond_true]
          rw [mul64 (by omega) (by omega), add64 (by omega) (by omega)]
          exact l117 s hs κ n (i + 1) _ false (by omega) (by omega) (by omega) (by omega)
    · have e : i = s.size := by omega
      rw [bif_f (dF (by omega)), List.drop_eq_nil_of_le (by omega)]
      cases ov <;> rfl
theorem eqS_nil (s : ByteArray) : eqS s ⟨#[]⟩ = decide (strList s = []) := eqS_dec _ _
theorem p117 (hN : N = 1001) (s : ByteArray) (hs : s.size ≤ 1000) (κ : Int × (Int × Unit) → Option R) : p_117 N ((s, ()), ()) κ = κ ((RD (strList s)).1, ((RD (strList s)).2, ())) := by
  unfold p_117
  try dsimp only
  unfold RD
  have hz := strList_size s
  rw [eqS_nil]
  by_cases g1 : strList s = []
  · rw [dT g1, if_pos (.inl g1)]; rfl
  rw [dF g1, cond_false]
  have hp : 0 < (strList s).length := List.length_pos_iff.2 g1
  have hl := l117 N s hs κ N 0 0 false (by omega) (by omega) (by omega) (by omega)
  rw [List.drop_zero] at hl
  by_cases g2 : (s.size : Int) > 1
  · rw [bif_t (dT g2), bif_t (dT (by omega)), strList_get]
    by_cases g3 : (strList s).getD 0 0 = 48
    · rw [bif_t (by rw [g3]; rfl), if_pos (.inr ⟨by omega, g3⟩)]
    · rw [bif_f (by simpa using g3), if_neg (by simp only [not_or]; exact ⟨g1, fun h => g3 h.2⟩)]
      exact hl
  · rw [bif_f (dF g2), if_neg (by simp only [not_or]; exact ⟨g1, fun h => by omega⟩)]
    exact hl
theorem l118 (s : ByteArray) (hs : s.size ≤ 1000) (κ : Bool → Option R) : ∀ (n i : Nat), i ≤ s.size → s.size - i < n →
    l_118_2 N n ((s, (i : Int), ()), ()) (fun y => κ y.1.1) (fun _ => κ true) = κ (((strList s).drop i).all fun b => decide (48 ≤ b ∧ b ≤ 57))
  | 0, i, h1, h2 => by omega
  | n + 1, i, h1, h2 => by
    unfold l_118_2 B_118_2
    try dsimp only
    have hz := strList_size s
    by_cases hi : i < s.size
    · have e3 : addA .i64 (i : Int) 1 = ((i + 1 : Nat) : Int) := by rw [add64 (by omega) (by omega)]; simp
      have q0 := dT (show (0 : Int) ≤ (i : Int) by omega)
      have q1 := dT (show (i : Int) < (s.size : Int) by omega)
      have hi' : i < (strList s).length := by omega
      have hg : byteAt s i = (strList s)[i] := by rw [strList_get]; simp [hi']
      rw [q0, q1, e3, Int.toNat_natCast, hg, List.drop_eq_getElem_cons hi', List.all_cons]
      simp only [cond_true]
      generalize (strList s)[i] = b
      by_cases g1 : b < 48
      · rw [bif_t (dT g1), dF (by omega), Bool.false_and]
      rw [bif_f (dF g1)]
      by_cases g2 : b > 57
      · rw [bif_t (dT g2), dF (by omega), Bool.false_and]
      rw [bif_f (dF g2), dT (show 48 ≤ b ∧ b ≤ 57 by omega), Bool.true_and]
      exact l118 s hs κ n (i + 1) (by omega) (by omega)
    · rw [bif_f (dF (by omega)), List.drop_eq_nil_of_le (by omega)]
      rfl
theorem p118 (hN : N = 1001) (s : ByteArray) (hs : s.size ≤ 1000) (κ : Bool → Option R) : p_118 N ((s, ()), ()) κ = κ ((strList s).all fun b => decide (48 ≤ b ∧ b ≤ 57)) := by
  unfold p_118
  try dsimp only
  have := l118 N s hs κ N 0 (by omega) (by omega)
  rw [List.drop_zero] at this
  exact this
theorem l103 (s : ByteArray) (hs : s.size ≤ 1000) (hd : ∀ x ∈ strList s, 48 ≤ x ∧ x ≤ 57) (κ : Int × (Int × Unit) → Option R) : ∀ (n i : Nat) (m : Int), i ≤ s.size → s.size - i < n → 0 ≤ m → m ≤ 4611686018427387904 →
    l_103_7 N n ((s, m, (i : Int), ()), ()) (fun y => κ (y.1.1, (y.1.2.1, ()))) (fun y => κ (y.1.1, (0, ()))) =
      κ ((rdP ((strList s).drop i) m false).1, ((rdP ((strList s).drop i) m false).2, ()))
  | 0, i, m, h1, h2, h3, h4 => by omega
  | n + 1, i, m, h1, h2, h3, h4 => by
    unfold l_103_7 B_103_7
    try dsimp only
    have hz := strList_size s
    by_cases hi : i < s.size
    · have e3 : addA .i64 (i : Int) 1 = ((i + 1 : Nat) : Int) := by rw [add64 (by omega) (by omega)]; simp
      have q0 := dT (show (0 : Int) ≤ (i : Int) by omega)
      have q1 := dT (show (i : Int) < (s.size : Int) by omega)
      have hi' : i < (strList s).length := by omega
      have hg : byteAt s i = (strList s)[i] := by rw [strList_get]; simp [hi']
      have hb := hd (strList s)[i] (by simp)
      have hrest : ∀ x ∈ (strList s).drop (i + 1), 48 ≤ x ∧ x ≤ 57 := fun x hx => hd x (List.mem_of_mem_drop hx)
      rw [q0, q1, e3, Int.toNat_natCast, hg, List.drop_eq_getElem_cons hi']
      simp only [cond_true]
      generalize (strList s)[i] = b at hb ⊢
      unfold rdP
      have ed : IntKind.wrap .i64 (subA .u8 b 48) = b - 48 := by
        unfold subA
        rw [wrapU8, Int.emod_eq_of_lt (by omega) (by omega), wrap64 (by omega) (by omega)]
      rw [if_neg (by omega), ed]
      by_cases g : m > (4611686018427387904 - (b - 48)) / 10
      · rw [if_pos (.inr g), rdP_over _ _ hrest]
        by_cases g1 : m > 461168601842738790
        · rw [bif_t (dT g1)]
        · rw [bif_f (dF g1), bif_t (by rw [show m = 461168601842738790 by omega]; rfl), bif_t (dT (by omega))]
      · rw [if_neg (by simp; omega)]
        have ih := l103 s hs hd κ n (i + 1) (10 * m + (b - 48)) (by omega) (by omega) (by omega) (by omega)
        rw [bif_f (dF (by omega))]
        rw [mul64 (by omega) (by omega), add64 (by omega) (by omega)]
        by_cases g1 : m = 461168601842738790
        · rw [bif_t (by rw [g1]; rfl), bif_f (dF (by omega))]
          exact ih
        · rw [bif_f (by simpa using g1)]
          exact ih
    · rw [bif_f (dF (by omega)), List.drop_eq_nil_of_le (by omega)]
      rfl
theorem rdP_bad : ∀ (l : List Int) (n : Int) (ov : Bool), (l.all fun b => decide (48 ≤ b ∧ b ≤ 57)) = false → rdP l n ov = (0, 7)
  | [], n, ov, h => by simp at h
  | b :: l, n, ov, h => by
    unfold rdP
    by_cases g : b < 48 ∨ b > 57
    · rw [if_pos g]
    · rw [if_neg g]
      rw [List.all_cons, dT (by omega), Bool.true_and] at h
      by_cases g2 : ov = true ∨ n > (4611686018427387904 - (b - 48)) / 10
      · rw [if_pos g2]; exact rdP_bad l _ _ h
      · rw [if_neg g2]; exact rdP_bad l _ _ h
theorem p103 (hN : N = 1001) (s : ByteArray) (hs : s.size ≤ 1000) (κ : Int × (Int × Unit) → Option R) : p_103 N ((s, ()), ()) κ = κ ((RD (strList s)).1, ((RD (strList s)).2, ())) := by
  unfold p_103
  try dsimp only
  have hz := strList_size s
  rw [eqS_nil]
  by_cases g1 : strList s = []
  · rw [dT g1]; unfold RD; rw [if_pos (.inl g1)]; rfl
  rw [dF g1, cond_false, p118 N hN s hs]
  have hp : 0 < (strList s).length := List.length_pos_iff.2 g1
  cases hd : (strList s).all fun b => decide (48 ≤ b ∧ b ≤ 57) with
  | false =>
    unfold RD
    rw [rdP_bad _ _ _ hd]
    by_cases g : strList s = [] ∨ ((strList s).length > 1 ∧ (strList s).getD 0 0 = 48)
    · rw [if_pos g]; rfl
    · rw [if_neg g]; rfl
  | true =>
    have hd' : ∀ x ∈ strList s, 48 ≤ x ∧ x ≤ 57 := by simpa using hd
    simp only [Bool.not_true, cond_false]
    rw [bif_t (dT (by omega)), strList_get, eqS_dec]
    have hl := l103 N s hs hd' κ N 0 0 (by omega) (by omega) (by omega) (by omega)
    rw [List.drop_zero] at hl
    have hk : strList ⟨#[48]⟩ = [48] := rfl
    rw [hk]
    by_cases g3 : (strList s).getD 0 0 = 48
    · rw [bif_t (by rw [g3]; rfl)]
      by_cases g4 : strList s = [48]
      · have : s.size = 1 := by rw [hz, g4]; rfl
        rw [dT g4, Bool.not_true, cond_false, bif_f (dF (by omega))]
        unfold RD
        rw [if_neg (by rw [g4]; simp)]
        exact hl
      · rw [dF g4, Bool.not_false, cond_true]
        unfold RD
        have h1 : (strList s).length > 1 := by
          match hh : strList s with
          | [] => exact absurd hh g1
          | [a] => rw [hh] at g3 g4; simp at g3; rw [g3] at g4; simp at g4
          | a :: b :: l => simp
        rw [if_pos (.inr ⟨h1, g3⟩)]
    · rw [bif_f (by simpa using g3)]
      unfold RD
      rw [if_neg (by simp only [not_or]; exact ⟨g1, fun h => g3 h.2⟩)]
      by_cases g5 : (s.size : Int) > 19
      · rw [bif_t (dT g5)]
        cases hh : strList s with
        | nil => exact absurd hh g1
        | cons a l =>
          rw [hh] at g3 hd' hz
          simp at g3 hz
          have ha := hd' a (by simp)
          rw [rdP_step (by omega) (by omega) (by omega) (by omega), rdP_long l _ 0 (fun x hx => hd' x (by simp [hx])) (by omega) (by omega) (by simp; omega)]
      · rw [bif_f (dF g5)]
        exact hl
theorem p102 (hN : N = 1001) (s : ByteArray) (hs : s.size ≤ 1000) (κ : Int × (Int × Unit) → Option R) : p_102 N ((s, 1, 999, ()), ()) κ =
    if (RD (strList s)).2 ≠ 0 then κ (0, ((RD (strList s)).2, ())) else if (RD (strList s)).1 < 1 ∨ (RD (strList s)).1 > 999 then κ (0, (2, ())) else κ ((RD (strList s)).1, (0, ())) := by
  unfold p_102
  try dsimp only
  rw [p117 N hN s hs]
  try dsimp only
  generalize (RD (strList s)).1 = a
  generalize (RD (strList s)).2 = b
  by_cases g : b ≠ 0
  · rw [if_pos g, bif_t (by simpa using g)]
  · rw [if_neg g, bif_f (by simpa using g)]
    by_cases g1 : a < 1
    · rw [if_pos (.inl g1), bif_t (dT g1)]
    rw [bif_f (dF g1)]
    by_cases g2 : a > 999
    · rw [if_pos (.inr g2), bif_t (dT g2)]
    · rw [if_neg (by omega), bif_f (dF g2)]
theorem ext_size (s : ByteArray) (i j : Nat) : (s.extract i j).size ≤ s.size := by
  rw [ByteArray.size_extract]; omega
theorem l67 (hN : N = 1001) (s : ByteArray) (hs : s.size ≤ 900) (κ : Int × (ByteArray × (Int × Unit)) → Option R) : ∀ (n i : Nat), 1 ≤ i → i ≤ s.size → s.size - i < n →
    l_67_4 N n ((s, (i : Int), ()), ()) (fun y => κ (y.1.1, (y.1.2.1, (y.1.2.2.1, ())))) (fun _ => κ (0, (⟨#[]⟩, (5, ())))) =
      if ix ((strList s).drop i) i = 0 then κ (0, (⟨#[]⟩, (5, ()))) else
      if (RD (strList (s.extract 1 (ix ((strList s).drop i) i)))).2 ≠ 0 then κ (0, (⟨#[]⟩, ((RD (strList (s.extract 1 (ix ((strList s).drop i) i)))).2, ()))) else
      if (RD (strList (s.extract 1 (ix ((strList s).drop i) i)))).1 < 1 ∨ (RD (strList (s.extract 1 (ix ((strList s).drop i) i)))).1 > 999 then κ (0, (⟨#[]⟩, (2, ()))) else
      κ ((RD (strList (s.extract 1 (ix ((strList s).drop i) i)))).1, (s.extract (ix ((strList s).drop i) i + 1) s.size, (0, ())))
  | 0, i, h0, h1, h2 => by omega
  | n + 1, i, h0, h1, h2 => by
    unfold l_67_4 B_67_4
    try dsimp only
    have hz := strList_size s
    by_cases hi : i < s.size
    · have e3 : addA .i64 (i : Int) 1 = ((i + 1 : Nat) : Int) := by rw [add64 (by omega) (by omega)]; simp
      have q0 := dT (show (0 : Int) ≤ (i : Int) by omega)
      have q1 := dT (show (i : Int) < (s.size : Int) by omega)
      have hi' : i < (strList s).length := by omega
      have hg : byteAt s i = (strList s)[i] := by rw [strList_get]; simp [hi']
      rw [q0, q1, e3, Int.toNat_natCast, hg, List.drop_eq_getElem_cons hi']
      unfold ix
      simp only [cond_true]
      by_cases g : (strList s)[i] = 58
      · rw [bif_f (by rw [g]; rfl), if_pos g, if_neg (by omega), bif_t (dT (by omega)), bif_t (dT (by omega)), p102 N hN _ (by have := ext_size s 1 i; omega)]
        generalize RD (strList (s.extract 1 i)) = r
        by_cases k1 : r.2 ≠ 0
        · rw [if_pos k1, if_pos k1]
          try dsimp only
          rw [bif_t (by simpa using k1)]
        · rw [if_neg k1, if_neg k1]
          by_cases k2 : r.1 < 1 ∨ r.1 > 999
          · rw [if_pos k2, if_pos k2]
            rfl
          · rw [if_neg k2, if_neg k2]
            try dsimp only
            rw [bif_f (by rfl), bif_t (dT (by omega)), bif_t (dT (by omega)), bif_t (dT (by omega)), bif_t (dT (by omega)), Int.toNat_natCast]
      · rw [bif_t (by simpa using g), if_neg g]
        exact l67 hN s hs κ n (i + 1) (by omega) (by omega) (by omega)
    · rw [bif_f (dF (by omega)), List.drop_eq_nil_of_le (by omega)]
      rfl
theorem p67 (hN : N = 1001) (s : ByteArray) (hs : s.size ≤ 900) (κ) : p_67 (R := R) N ((s, ()), ()) κ = κ ((UW s).1, ((UW s).2.1, ((UW s).2.2, ()))) := by
  unfold p_67
  try dsimp only
  have hz := strList_size s
  rw [eqS_nil]
  unfold UW
  by_cases g1 : strList s = []
  · rw [dT g1, if_pos (.inl g1)]; rfl
  have hp : 0 < (strList s).length := List.length_pos_iff.2 g1
  rw [dF g1, cond_false, bif_t (dT (by omega)), strList_get]
  by_cases g2 : (strList s).getD 0 0 = 107
  · rw [bif_f (by rw [g2]; rfl), if_neg (by simp only [not_or]; exact ⟨g1, fun h => h g2⟩)]
    refine (l67 N hN s hs κ N 1 (by omega) (by omega) (by omega)).trans ?_
    unfold at_
    generalize ix ((strList s).drop 1) 1 = j
    by_cases k0 : j = 0
    · rw [if_pos k0, if_pos k0]
    rw [if_neg k0, if_neg k0]
    generalize RD (strList (s.extract 1 j)) = r
    by_cases k1 : r.2 ≠ 0
    · rw [if_pos k1, if_pos k1]
    rw [if_neg k1, if_neg k1]
    by_cases k2 : r.1 < 1 ∨ r.1 > 999
    · rw [if_pos k2, if_pos k2]
    · rw [if_neg k2, if_neg k2]
  · rw [bif_t (by simpa using g2), if_pos (.inr g2)]
theorem l68 (s : ByteArray) (hs : s.size ≤ 900) (κ) : ∀ (n i : Nat), i + 1 ≤ s.size → i < n →
    l_68_5 (R := R) N n ((s, (ix ((strList s).drop (i + 1)) (i + 1) : Nat), (i : Int), ()), ()) κ = κ ((s, (at_ s : Nat), ()), ())
  | 0, i, h0, h1 => by omega
  | n + 1, i, h0, h1 => by
    unfold l_68_5 B_68_5
    try dsimp only
    have hz := strList_size s
    by_cases hi : 0 < i
    · have hi' : i < (strList s).length := by omega
      have hg : byteAt s i = (strList s)[i] := by rw [strList_get]; simp [hi']
      have e3 : subA .i64 (i : Int) 1 = ((i - 1 : Nat) : Int) := by rw [sub64 (by omega) (by omega)]; omega
      rw [bif_t (dT (by omega)), bif_t (dT (by omega)), bif_t (dT (by omega)), Int.toNat_natCast, hg, e3]
      have ih := l68 s hs κ n (i - 1) (by omega) (by omega)
      rw [show i - 1 + 1 = i by omega, List.drop_eq_getElem_cons hi'] at ih
      unfold ix at ih
      by_cases g : (strList s)[i] = 58
      · rw [if_pos g] at ih
        rw [bif_t (by rw [g]; rfl)]
        exact ih
      · rw [if_neg g] at ih
        rw [bif_f (by simpa using g)]
        exact ih
    · have : i = 0 := by omega
      subst this
      rw [bif_f (dF (by omega))]
      rfl
theorem p68 (hN : N = 1001) (s : ByteArray) (hs : s.size ≤ 900) (κ) : p_68 (R := R) N ((s, ()), ()) κ = κ ((UW s).1, ((UW s).2.1, ((UW s).2.2, ()))) := by
  unfold p_68
  try dsimp only
  have hz := strList_size s
  unfold UW
  by_cases g1 : strList s = []
  · rw [bif_t (by rw [hz, g1]; rfl), if_pos (.inl g1)]
  have hp : 0 < (strList s).length := List.length_pos_iff.2 g1
  rw [bif_f (by rw [hz]; simpa using g1), bif_t (dT (by omega)), strList_get]
  by_cases g2 : (strList s).getD 0 0 = 107
  · rw [bif_f (by rw [g2]; rfl), if_neg (by simp only [not_or]; exact ⟨g1, fun h => h g2⟩)]
    have hl := fun κ => l68 (R := R) N s hs κ N (s.size - 1) (by omega) (by omega)
    rw [List.drop_eq_nil_of_le (by omega)] at hl
    rw [show subA .i64 ((s.size : Nat) : Int) 1 = ((s.size - 1 : Nat) : Int) by rw [sub64 (by omega) (by omega)]; omega]
    refine (hl _).trans ?_
    try dsimp only
    by_cases k0 : at_ s = 0
    · rw [if_pos k0, bif_t (by rw [k0]; rfl)]
    have hat : at_ s < s.size := by
      have := (ix_at ((strList s).drop 1) 1 (by omega) k0)
      unfold at_
      have h2 := this.2.1
      rw [List.length_drop] at h2
      omega
    rw [if_neg k0, bif_f (by simpa using k0), bif_t (dT (by omega)), bif_t (dT (by omega)), bif_t (dT (by omega)), Int.toNat_natCast, p103 N hN _ (by have := ext_size s 1 (at_ s); omega)]
    try dsimp only
    generalize RD (strList (s.extract 1 (at_ s))) = r
    by_cases k1 : r.2 ≠ 0
    · rw [if_pos k1, bif_t (by simpa using k1)]
    rw [if_neg k1, bif_f (by simpa using k1)]
    by_cases k2 : r.1 < 1
    · rw [if_pos (.inl k2), bif_t (dT k2)]
    rw [bif_f (dF k2)]
    by_cases k3 : r.1 > 999
    · rw [if_pos (.inr k3), bif_t (dT k3)]
    rw [if_neg (by omega), bif_f (dF k3), add64 (by omega) (by omega), bif_t (dT (by omega)), bif_t (dT (by omega)), bif_t (dT (by omega)), bif_t (dT (by omega))]
    rw [show ((at_ s : Int) + 1).toNat = at_ s + 1 by omega]
  · rw [bif_t (by simpa using g2), if_pos (.inr g2)]
end
theorem UW_size (s : ByteArray) : (UW s).2.1.size ≤ s.size := by
  unfold UW
  have z0 : (⟨#[]⟩ : ByteArray).size = 0 := rfl
  by_cases g1 : strList s = [] ∨ (strList s).getD 0 0 ≠ 107
  · rw [if_pos g1]; exact Nat.zero_le _
  rw [if_neg g1]
  by_cases g2 : at_ s = 0
  · rw [if_pos g2]; exact Nat.zero_le _
  rw [if_neg g2]
  by_cases g3 : (RD (strList (s.extract 1 (at_ s)))).2 ≠ 0
  · rw [if_pos g3]; exact Nat.zero_le _
  rw [if_neg g3]
  by_cases g4 : (RD (strList (s.extract 1 (at_ s)))).1 < 1 ∨ (RD (strList (s.extract 1 (at_ s)))).1 > 999
  · rw [if_pos g4]; exact Nat.zero_le _
  rw [if_neg g4]
  exact ext_size s _ _
theorem eqS_self (s : ByteArray) : eqS s s = true := by rw [eqS_dec]; exact dT rfl
theorem p15 (N : Nat) (hN : N = 1001) (n : Int) (t s : ByteArray) (κ) : p_15 (R := AV) N ((n, t, s, ()), ()) κ = κ (true, ()) := by
  unfold p_15
  try dsimp only
  have h65 : ∀ κ' : Bool → Option AV, p_65 N ((), ()) κ' = κ' true := by subst hN; intro κ'; kernel_rfl
  rw [h65]
  simp only [Bool.not_true, cond_false]
  by_cases g1 : (t.size : Int) > 500
  · rw [bif_t (dT g1)]
  rw [bif_f (dF g1)]
  by_cases g2 : (s.size : Int) > 500
  · rw [bif_t (dT g2)]
  rw [bif_f (dF g2), p66 N hN n t (by omega)]
  have hu := UW_size s
  have hfin : (1 ≤ (UW s).1 ∧ (UW s).1 ≤ 999 ∧ wr (UW s).1 (UW s).2.1 = s) ∨ ¬ (UW s).2.2 = 0 := by
    by_cases h : (UW s).2.2 = 0
    · exact .inl (wr_UW s _ _ (by rw [← h]))
    · exact .inr h
  have tail : (bif ((UW s).2.2 != 0) then κ (true, ()) else bif ((0 : Int) == 0) then κ (eqS (wr (UW s).1 (UW s).2.1) s, ()) else κ (false, ())) = κ (true, ()) ∨ ¬ (1 ≤ (UW s).1 ∧ (UW s).1 ≤ 999) := by
    rcases hfin with h | h
    · rw [h.2.2, eqS_self]
      cases (UW s).2.2 != 0 <;> exact .inl rfl
    · rw [show ((UW s).2.2 != 0) = true by simpa using h]; exact .inl rfl
  have all : (p_66 N (((UW s).1, (UW s).2.1, ()), ()) fun y => bif ((UW s).2.2 != 0) then κ (true, ()) else bif (y.2.1 == 0) then κ (eqS y.1 s, ()) else κ (false, ())) = κ (true, ()) := by
    rw [p66 N hN _ _ (by omega)]
    by_cases h : 1 ≤ (UW s).1 ∧ (UW s).1 ≤ 999
    · rw [if_pos h]
      rcases tail with q | q
      · exact q
      · exact absurd h q
    · rw [if_neg h]
      rcases hfin with q | q
      · exact absurd ⟨q.1, q.2.1⟩ h
      · rw [show ((UW s).2.2 != 0) = true by simpa using q]; rfl
  by_cases g3 : 1 ≤ n ∧ n ≤ 999
  · rw [if_pos g3, bif_f (dF (by omega)), bif_f (dF (by omega))]
    try dsimp only
    have hw : (wr n t).size ≤ 900 := by
      rw [strList_size, wr_list g3.1 g3.2]
      have := dg_len n
      have := strList_size t
      simp; omega
    rw [p67 N hN _ hw, UW_wr g3.1 g3.2]
    simp only [bne_self_eq_false, cond_false, eqS_self, Bool.not_true]
    rw [p67 N hN s (by omega), p68 N hN s (by omega)]
    simp only [bne_self_eq_false, cond_false, eqS_self, Bool.not_true]
    exact all
  · rw [if_neg g3]
    try dsimp only
    by_cases g4 : n < 1
    · rw [bif_t (dT g4)]
      simp only [bne_self_eq_false, cond_false, eqS_self, Bool.not_true]
      rw [p67 N hN s (by omega), p68 N hN s (by omega)]
      simp only [bne_self_eq_false, cond_false, eqS_self, Bool.not_true]
      exact all
    · rw [bif_f (dF g4), bif_t (dT (by omega))]
      simp only [bne_self_eq_false, cond_false, eqS_self, Bool.not_true]
      rw [p67 N hN s (by omega), p68 N hN s (by omega)]
      simp only [bne_self_eq_false, cond_false, eqS_self, Bool.not_true]
      exact all
theorem law_all (y0 : Int) {P0 : Prop} (wf0 : P0) (y1 : ByteArray) {P1 : Prop} (wf1 : P1) (y2 : ByteArray) {P2 : Prop} (wf2 : P2) :
    ∃ H', ACalls Try.prog 15 [toAV (.int .i64) y0, toAV .str y1, toAV .str y2] [] (.bool true) H' :=
  gd_law (good_15 1001) (x := (y0, y1, y2, ())) (p15 1001 rfl y0 y1 y2 _)
end Go.Proofs.Ytjehpceomlnicaa.Eng
