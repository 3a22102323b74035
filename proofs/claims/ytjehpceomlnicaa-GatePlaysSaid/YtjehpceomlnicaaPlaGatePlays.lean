/-
GatePlays: what the mirrors come to, in plain numbers and lists: the law's mirror answers true.
Conditions: none.
-/
import Derived.Test.YtjehpceomlnicaaMirGatePlays
set_option linter.unusedVariables false
set_option linter.unusedSimpArgs false
namespace Go.Proofs.Ytjehpceomlnicaa.Eng
/-! ### the plain law -/
/-- Who comes, one by one: the error's number, or who is there then. -/
def arr (T : List Bool) : List Int → Int ⊕ List Bool
  | [] => .inr T
  | i :: l => if i < 0 ∨ i ≥ (T.length : Int) then .inl 1 else if T.getD i.toNat false then .inl 15 else arr (T.set i.toNat true) l
theorem arr_len : ∀ (l : List Int) (T U : List Bool), arr T l = .inr U → U.length = T.length
  | [], T, U, h => by unfold arr at h; injection h with h; rw [h]
  | i :: l, T, U, h => by
    unfold arr at h
    by_cases h1 : i < 0 ∨ i ≥ (T.length : Int)
    · rw [if_pos h1] at h; exact absurd h (by simp)
    rw [if_neg h1] at h
    by_cases h2 : T.getD i.toNat false = true
    · rw [if_pos h2] at h; exact absurd h (by simp)
    rw [if_neg h2] at h
    have := arr_len l _ U h
    simpa using this
/-- How many are there. -/
def cnt : List Bool → Nat
  | [] => 0
  | b :: l => (if b then 1 else 0) + cnt l
theorem cnt_le : ∀ l : List Bool, cnt l ≤ l.length
  | [] => Nat.le_refl _
  | b :: l => by unfold cnt; have := cnt_le l; cases b <;> simp <;> omega
theorem cnt_set : ∀ (l : List Bool) (i : Nat), i < l.length → l.getD i false = false → cnt (l.set i true) = cnt l + 1
  | [], i, h, _ => by simp at h
  | b :: l, 0, _, h => by
    simp at h; subst h; simp [cnt]; omega
  | b :: l, i + 1, h, h2 => by
    simp only [List.set_cons_succ, cnt]
    rw [cnt_set l i (by simpa using h) (by simpa using h2)]
    omega
theorem cnt_all : ∀ l : List Bool, cnt l = l.length ↔ ∀ i, i < l.length → l.getD i false = true
  | [] => by simp [cnt]
  | b :: l => by
    unfold cnt
    have h0 := cnt_le l
    have ih := cnt_all l
    constructor
    · intro h i hi
      cases b with
      | false => simp at h; omega
      | true =>
        simp at h
        cases i with
        | zero => simp
        | succ i => simpa using ih.1 (by omega) i (by simpa using hi)
    · intro h
      have h1 := h 0 (by simp)
      simp at h1
      subst h1
      simp
      have := ih.2 (fun i hi => by simpa using h (i + 1) (by simp; omega))
      omega
theorem cnt_rep (n : Nat) : cnt (List.replicate n false) = 0 := by
  induction n with
  | zero => rfl
  | succ n ih => simp [List.replicate_succ, cnt, ih]
theorem arr_cnt : ∀ (l : List Int) (T U : List Bool), arr T l = .inr U → cnt U = cnt T + l.length
  | [], T, U, h => by unfold arr at h; injection h with h; rw [h]; rfl
  | i :: l, T, U, h => by
    unfold arr at h
    by_cases h1 : i < 0 ∨ i ≥ (T.length : Int)
    · rw [if_pos h1] at h; exact absurd h (by simp)
    rw [if_neg h1] at h
    by_cases h2 : T.getD i.toNat false = true
    · rw [if_pos h2] at h; exact absurd h (by simp)
    rw [if_neg h2] at h
    rw [arr_cnt l _ U h, cnt_set T i.toNat (by omega) (by simpa using h2)]
    simp
    omega
theorem kvGP (a b : Int) : ∀ m : List (Int × Bool), kvGet (.int .i64) b (kvPut (.int .i64) a true m) = if b = a then some true else kvGet (.int .i64) b m
  | [] => by
    unfold kvPut kvGet
    by_cases h : b = a
    · simp [schEq, h]
    · rw [bif_f (by simp [schEq, h]), if_neg h]; rfl
  | (p, v) :: m => by
    unfold kvPut
    by_cases h : a = p
    · subst h
      rw [bif_t (by simp [schEq])]
      unfold kvGet
      by_cases h2 : b = a
      · simp [schEq, h2]
      · rw [bif_f (by simp [schEq, h2]), bif_f (by simp [schEq, h2]), if_neg h2]
    · rw [bif_f (by simp [schEq, h])]
      unfold kvGet
      by_cases h2 : b = p
      · have : b ≠ a := fun e => h (e ▸ h2)
        simp [schEq, h2]
        intro e
        exact absurd e.symm h
      · rw [bif_f (by simp [schEq, h2]), bif_f (by simp [schEq, h2])]
        exact kvGP a b m
theorem zb : (Sch.zero .bool : Bool) = false := rfl
/-- Who lacks, from one on. -/
def lack : Nat → List Bool → List Int
  | _, [] => []
  | i, b :: l => if b then lack (i + 1) l else (i : Int) :: lack (i + 1) l
theorem lack_drop (T : List Bool) (i : Nat) (h : i < T.length) : lack i (T.drop i) = if T[i] then lack (i + 1) (T.drop (i + 1)) else (i : Int) :: lack (i + 1) (T.drop (i + 1)) := by
  rw [List.drop_eq_getElem_cons h]; rfl
section
variable {R : Type} (N : Nat)
theorem l33 (c o : Int) (T : List Bool) (hT : T.length ≤ 1000) (κ) : ∀ (n i : Nat) (acc : List Int), i ≤ T.length → acc.length ≤ i → T.length - i < n →
    l_33_v1_5 (R := R) N n (((), (), (T.length : Int), (i : Int), ()), (((), (c, (o, ()))), T, acc, ())) κ = κ (((), ()), (((), (c, (o, ()))), T, acc ++ lack i (T.drop i), ()))
  | 0, i, acc, h1, h2, h3 => by omega
  | n + 1, i, acc, h1, h2, h3 => by
    unfold l_33_v1_5 B_33_v1_5
    try dsimp only
    by_cases hi : i < T.length
    · have e3 : addA .i64 (i : Int) 1 = ((i + 1 : Nat) : Int) := by rw [add64 (by omega) (by omega)]; simp
      have hg : List.getD T i (Sch.zero .bool) = T[i] := by simp [hi]
      rw [bif_t (dT (show (i : Int) < (T.length : Int) by omega)), bif_t (dT (show (0 : Int) ≤ (i : Int) by omega)), bif_t (dT (show (i : Int) < (T.length : Int) by omega)), Int.toNat_natCast, hg, e3, lack_drop T i hi]
      cases hb : T[i] with
      | false =>
        simp only [Bool.not_false, cond_true]
        have hs : (decide ((acc.length + [(i : Int)].length) * 8 ≤ 140737488355328) && true) = true := by
          rw [Bool.and_true]; apply dT; simp; omega
        rw [bif_t hs]
        refine (l33 c o T hT κ n (i + 1) (acc ++ [(i : Int)]) (by omega) (by simp; omega) (by omega)).trans ?_
        simp
      | true =>
        simp only [Bool.not_true, cond_false]
        refine (l33 c o T hT κ n (i + 1) acc (by omega) (by omega) (by omega)).trans ?_
        simp
    · have e : i = T.length := by omega
      rw [bif_f (dF (by omega)), e]
      simp [lack]
theorem p33 (hN : 1001 ≤ N) (c o : Int) (T : List Bool) (hT : T.length ≤ 1000) (κ) : p_33_v1 (R := R) N (((), ()), (((), (c, (o, ()))), T, ())) κ = κ ((), (((), (c, (o, ()))), T, lack 0 T, ())) := by
  unfold p_33_v1
  try dsimp only
  refine (l33 N c o T hT _ N 0 [] (by omega) (by simp) (by omega)).trans ?_
  simp
theorem p32 (i c o : Int) (T : List Bool) (κ : Bool → Option R) : p_32_v1 N (((), i, ()), (((), (c, (o, ()))), T, ())) κ = κ (decide (0 ≤ i ∧ i < (T.length : Int)) && T.getD i.toNat false) := by
  unfold p_32_v1
  try dsimp only
  by_cases h1 : i ≥ 0
  · rw [bif_t (dT h1)]
    by_cases h2 : i < (T.length : Int)
    · rw [bif_t (dT h2), bif_t (dT (show (0 : Int) ≤ i by omega)), bif_t (dT h2), dT (show 0 ≤ i ∧ i < (T.length : Int) from ⟨h1, h2⟩), Bool.true_and, zb]
    · rw [bif_f (dF h2), dF (show ¬ (0 ≤ i ∧ i < (T.length : Int)) by omega), Bool.false_and]
  · rw [bif_f (dF h1), dF (show ¬ (0 ≤ i ∧ i < (T.length : Int)) by omega), Bool.false_and]
theorem l31a (T : List Bool) (l : List Int) (hl : l.length ≤ 50) (c o : Int) (κ0 κ1) : ∀ (n i : Nat) (U : List Bool) (m : List (Int × Bool)), i ≤ l.length → l.length - i < n →
    U.length = T.length → (∀ j : Int, 0 ≤ j → U.getD j.toNat false = (T.getD j.toNat false || (kvGet (.int .i64) j m).getD false)) →
    l_31_v2_5 (R := R) N n (((), l, (), l, (l.length : Int), (i : Int), ()), (((), (c, (o, ()))), T, m, ())) κ0 κ1 =
      match arr U (l.drop i) with
      | .inl e => κ0 ((false, e, ()), (((), (c, (o, ()))), T, ()))
      | .inr _ => κ1 (((), l, ()), (((), (c, (o, ()))), T, ()))
  | 0, i, U, m, h1, h2, h3, h4 => by omega
  | n + 1, i, U, m, h1, h2, h3, h4 => by
    unfold l_31_v2_5 B_31_v2_5
    try dsimp only
    by_cases hi : i < l.length
    · have e3 : addA .i64 (i : Int) 1 = ((i + 1 : Nat) : Int) := by rw [add64 (by omega) (by omega)]; simp
      have hg : List.getD l i (Sch.zero (.int .i64)) = l[i] := by simp [hi]
      rw [bif_t (dT (show (i : Int) < (l.length : Int) by omega)), bif_t (dT (show (0 : Int) ≤ (i : Int) by omega)), bif_t (dT (show (i : Int) < (l.length : Int) by omega)), Int.toNat_natCast, hg, e3]
      rw [List.drop_eq_getElem_cons hi]
      unfold arr
      by_cases g1 : l[i] < 0
      · rw [bif_t (dT g1), if_pos (.inl g1)]
      rw [bif_f (dF g1)]
      by_cases g2 : l[i] ≥ (T.length : Int)
      · rw [bif_t (dT g2), if_pos (.inr (by rw [h3]; exact g2))]
      rw [bif_f (dF g2), if_neg (by rw [h3]; omega), bif_t (dT (by omega)), bif_t (dT (by omega)), zb]
      rw [h4 l[i] (by omega)]
      cases hb : T.getD l[i].toNat false with
      | true => simp
      | false =>
        simp only [cond_false, Bool.false_or]
        cases hk : (kvGet (.int .i64) l[i] m).getD false with
        | true => simp
        | false =>
          simp only [cond_false, Bool.false_eq_true, if_false]
          refine l31a T l hl c o κ0 κ1 n (i + 1) (U.set l[i].toNat true) (kvPut (.int .i64) l[i] true m) (by omega) (by omega) (by simpa using h3) (fun j hj => ?_)
          rw [kvGP]
          by_cases hji : j = l[i]
          · rw [if_pos hji, hji]
            have : l[i].toNat < U.length := by omega
            simp [this]
          · rw [if_neg hji, ← h4 j hj]
            have : l[i].toNat ≠ j.toNat := by omega
            simp [List.getD_eq_getElem?_getD, List.getElem?_set_ne this]
    · have e : i = l.length := by omega
      rw [bif_f (dF (by omega)), e]
      simp [arr]
theorem l31b (l : List Int) (hl : l.length ≤ 50) (o : Int) (V : List Bool) (κ) : ∀ (n i : Nat) (c : Nat) (U : List Bool), i ≤ l.length → l.length - i < n → c ≤ 1000 + i →
    arr U (l.drop i) = .inr V →
    l_31_v2_14 (R := R) N n (((), l, (l.length : Int), (i : Int), ()), (((), ((c : Int), (o, ()))), U, ())) κ = κ (((), ()), (((), (((c + (l.length - i) : Nat) : Int), (o, ()))), V, ()))
  | 0, i, c, U, h1, h2, h3, h4 => by omega
  | n + 1, i, c, U, h1, h2, h3, h4 => by
    unfold l_31_v2_14 B_31_v2_14
    try dsimp only
    by_cases hi : i < l.length
    · have e3 : addA .i64 (i : Int) 1 = ((i + 1 : Nat) : Int) := by rw [add64 (by omega) (by omega)]; simp
      have e4 : addA .i64 (c : Int) 1 = ((c + 1 : Nat) : Int) := by rw [add64 (by omega) (by omega)]; simp
      have hg : List.getD l i (Sch.zero (.int .i64)) = l[i] := by simp [hi]
      rw [bif_t (dT (show (i : Int) < (l.length : Int) by omega)), bif_t (dT (show (0 : Int) ≤ (i : Int) by omega)), bif_t (dT (show (i : Int) < (l.length : Int) by omega)), Int.toNat_natCast, hg, e3, e4]
      rw [List.drop_eq_getElem_cons hi] at h4
      unfold arr at h4
      by_cases g1 : l[i] < 0 ∨ l[i] ≥ (U.length : Int)
      · rw [if_pos g1] at h4; exact absurd h4 (by simp)
      rw [if_neg g1] at h4
      by_cases g2 : U.getD l[i].toNat false = true
      · rw [if_pos g2] at h4; exact absurd h4 (by simp)
      rw [if_neg g2] at h4
      rw [bif_t (dT (by omega)), bif_t (dT (by omega))]
      refine (l31b l hl o V κ n (i + 1) (c + 1) (U.set l[i].toNat true) (by omega) (by omega) (by omega) h4).trans ?_
      rw [show c + 1 + (l.length - (i + 1)) = c + (l.length - i) by omega]
    · have e : i = l.length := by omega
      subst e
      rw [bif_f (dF (by omega))]
      simp [arr] at h4
      simp [h4]
/-- What a gate comes to when some come. -/
theorem p31 (hN : 1001 ≤ N) (T : List Bool) (l : List Int) (hl : l.length ≤ 50) (hT : T.length ≤ 1000) (o : Int) (κ) :
    p_31_v2 (R := R) N (((), l, ()), (((), ((cnt T : Int), (o, ()))), T, ())) κ =
      match arr T l with
      | .inl e => κ ((false, (e, ())), (((), ((cnt T : Int), (o, ()))), T, ()))
      | .inr V => if cnt V < V.length then κ ((false, (0, ())), (((), ((cnt V : Int), (o, ()))), V, ())) else κ ((true, (0, ())), (((), (0, (addA .i64 o 1, ()))), List.replicate V.length false, ())) := by
  unfold p_31_v2
  try dsimp only
  refine (l31a N T l hl _ o _ _ N 0 T [] (by omega) (by omega) rfl (fun j hj => by simp [kvGet])).trans ?_
  rw [List.drop_zero]
  cases ha : arr T l with
  | inl e => rfl
  | inr V =>
    try dsimp only
    have hc := cnt_le T
    have h1 := arr_cnt l T V ha
    refine (l31b N l hl o V _ N 0 (cnt T) T (by omega) (by omega) (by omega) (by rw [List.drop_zero]; exact ha)).trans ?_
    try dsimp only
    rw [Nat.sub_zero, ← h1]
    by_cases g : cnt V < V.length
    · rw [if_pos g, bif_t (dT (by omega))]
    · rw [if_neg g, bif_f (dF (by omega)), zb]
theorem l36a (G T0 : List Bool) (l : List Int) (hl : l.length ≤ 50) (a b : Int) (κ0 κ1) : ∀ (n i : Nat) (U : List Bool), i ≤ l.length → l.length - i < n →
    l_36_3 (R := R) N n ((l, (), (), (), (i : Int), ()), (G, ((), (a, ())), ((), (b, ())), U, ())) κ0 κ1 =
      match arr U (l.drop i) with
      | .inl e => κ0 (((), false, e, ()), (G, ((), (a, ())), ()))
      | .inr V => κ1 (((), (), (), ()), (G, ((), (a, ())), ((), (b, ())), V, ()))
  | 0, i, U, h1, h2 => by omega
  | n + 1, i, U, h1, h2 => by
    unfold l_36_3 B_36_3
    try dsimp only
    by_cases hi : i < l.length
    · have e3 : addA .i64 (i : Int) 1 = ((i + 1 : Nat) : Int) := by rw [add64 (by omega) (by omega)]; simp
      have hg : List.getD l i (Sch.zero (.int .i64)) = l[i] := by simp [hi]
      have q0 := dT (show (0 : Int) ≤ (i : Int) by omega)
      have q1 := dT (show (i : Int) < (l.length : Int) by omega)
      rw [List.drop_eq_getElem_cons hi]
      unfold arr
      rw [Int.toNat_natCast, hg, e3, q0, q1, zb]
      simp only [cond_true]
      by_cases g1 : l[i] < 0
      · rw [bif_t (dT g1), if_pos (.inl g1)]
      rw [bif_f (dF g1)]
      by_cases g2 : l[i] ≥ (U.length : Int)
      · rw [bif_t (dT g2), if_pos (.inr g2)]
      have q2 := dT (show (0 : Int) ≤ l[i] by omega)
      have q3 := dT (show l[i] < (U.length : Int) by omega)
      rw [bif_f (dF g2), if_neg (by omega), q2, q3]
      simp only [cond_true]
      cases hb : U.getD l[i].toNat false with
      | true => simp
      | false =>
        simp only [cond_false, Bool.false_eq_true, if_false]
        exact l36a G T0 l hl a b κ0 κ1 n (i + 1) (U.set l[i].toNat true) (by omega) (by omega)
    · have e : i = l.length := by omega
      rw [bif_f (dF (by omega)), e]
      simp [arr]
theorem l36b (G V : List Bool) (hV : V.length ≤ 1000) (a b : Int) (κ0 κ1) : ∀ (n i : Nat), i ≤ V.length → V.length - i < n → (∀ j, j < i → V.getD j false = true) →
    l_36_11 (R := R) N n (((), (), (), (i : Int), ()), (G, ((), (a, ())), ((), (b, ())), V, ())) κ0 κ1 =
      if cnt V < V.length then κ0 (((), false, 0, ()), (G, ((), (a, ())), V, ())) else κ1 (((), (), (), ()), (G, ((), (a, ())), ((), (b, ())), V, ()))
  | 0, i, h1, h2, h3 => by omega
  | n + 1, i, h1, h2, h3 => by
    unfold l_36_11 B_36_11
    try dsimp only
    by_cases hi : i < V.length
    · have e3 : addA .i64 (i : Int) 1 = ((i + 1 : Nat) : Int) := by rw [add64 (by omega) (by omega)]; simp
      rw [bif_t (dT (show (i : Int) < (V.length : Int) by omega)), bif_t (dT (show (0 : Int) ≤ (i : Int) by omega)), bif_t (dT (show (i : Int) < (V.length : Int) by omega)), Int.toNat_natCast, e3, zb]
      cases hb : V.getD i false with
      | false =>
        have : cnt V < V.length := by
          rcases Nat.lt_or_ge (cnt V) V.length with h | h
          · exact h
          · have h5 := (cnt_all V).1 (Nat.le_antisymm (cnt_le V) h) i hi
            rw [hb] at h5; exact absurd h5 (by decide)
        rw [if_pos this]
        rfl
      | true =>
        simp only [Bool.not_true, cond_false]
        refine l36b G V hV a b κ0 κ1 n (i + 1) (by omega) (by omega) (fun j hj => ?_)
        rcases Nat.lt_or_ge j i with h | h
        · exact h3 j h
        · rw [show j = i by omega]; exact hb
    · have e : i = V.length := by omega
      subst e
      have : ¬ cnt V < V.length := by rw [(cnt_all V).2 h3]; omega
      rw [bif_f (dF (by omega)), if_neg this]
theorem p36 (hN : 1001 ≤ N) (T : List Bool) (l : List Int) (hl : l.length ≤ 50) (hT : T.length ≤ 1000) (o : Int) (κ0 κ1) :
    p_36 (R := R) N ((((), (o, ())), l, ()), (T, ())) κ0 κ1 =
      match arr T l with
      | .inl e => κ0 ((((), (o, ())), (false, (e, ()))), (T, ()))
      | .inr V => if cnt V < V.length then κ1 ((((), (o, ())), (false, (0, ()))), (T, V, ())) else κ1 ((((), (addA .i64 o 1, ())), (true, (0, ()))), (T, List.replicate V.length false, ())) := by
  unfold p_36
  try dsimp only
  have hs : (decide ((([] : List Bool).length + T.length) * 1 ≤ 140737488355328) && true) = true := by
    rw [Bool.and_true]; apply dT; simp; omega
  rw [bif_t hs, List.nil_append]
  refine (l36a N T T l hl o 0 _ _ N 0 T (by omega) (by omega)).trans ?_
  rw [List.drop_zero]
  cases ha : arr T l with
  | inl e => rfl
  | inr V =>
    have hV := arr_len l T V ha
    try dsimp only
    refine (l36b N T V (by omega) o 0 _ _ N 0 (by omega) (by omega) (fun j hj => by omega)).trans ?_
    by_cases g : cnt V < V.length
    · rw [if_pos g, if_pos g]
    · rw [if_neg g, if_neg g]
      try dsimp only
      rw [bif_t (dT (by omega)), bif_t (dT (by omega)), bif_t (dT (by omega)), bif_t (dT (by omega)), Int.toNat_natCast, zb]
theorem l25 (T : List Bool) (hT : T.length ≤ 1000) (a w e ll i1 i2 c o mo : _) (κ0 κ1) : ∀ (n i : Nat) (acc : List Int), i ≤ T.length → acc.length ≤ i → T.length - i < n →
    l_6_25 (R := R) N n ((a, w, (), e, (), (), ll, i1, i2, (), (T.length : Int), (i : Int), ()), (((), (c, (o, ()))), T, ((), (mo, ())), T, acc, ())) κ0 κ1 =
      κ1 ((a, w, (), e, (), (), ll, i1, i2, ()), (((), (c, (o, ()))), T, ((), (mo, ())), T, acc ++ lack i (T.drop i), ()))
  | 0, i, acc, h1, h2, h3 => by omega
  | n + 1, i, acc, h1, h2, h3 => by
    unfold l_6_25 B_6_25
    try dsimp only
    by_cases hi : i < T.length
    · have e3 : addA .i64 (i : Int) 1 = ((i + 1 : Nat) : Int) := by rw [add64 (by omega) (by omega)]; simp
      have hg : List.getD T i false = T[i] := by simp [hi]
      rw [bif_t (dT (show (i : Int) < (T.length : Int) by omega)), bif_t (dT (show (0 : Int) ≤ (i : Int) by omega)), bif_t (dT (show (i : Int) < (T.length : Int) by omega)), p32, dT (show (0 : Int) ≤ (i : Int) ∧ (i : Int) < (T.length : Int) by omega), Bool.true_and, Int.toNat_natCast, zb, hg, e3, lack_drop T i hi]
      simp only [beq_self_eq_true, Bool.not_true, cond_false]
      cases hb : T[i] with
      | false =>
        simp only [Bool.not_false, cond_true]
        have hs : (decide ((acc.length + [(i : Int)].length) * 8 ≤ 140737488355328) && true) = true := by
          rw [Bool.and_true]; apply dT; simp; omega
        rw [bif_t hs]
        refine (l25 T hT a w e ll i1 i2 c o mo κ0 κ1 n (i + 1) (acc ++ [(i : Int)]) (by omega) (by simp; omega) (by omega)).trans ?_
        simp
      | true =>
        simp only [Bool.not_true, cond_false]
        refine (l25 T hT a w e ll i1 i2 c o mo κ0 κ1 n (i + 1) acc (by omega) (by omega) (by omega)).trans ?_
        simp
    · have e : i = T.length := by omega
      rw [bif_f (dF (by omega)), e]
      simp [lack]
theorem l36c (a w e ll i1 i2 c o mo T M : _) (L : List Int) (hL : L.length ≤ 1000) (κ0 κ1) : ∀ (n i : Nat), i ≤ L.length → L.length - i < n →
    l_6_36 (R := R) N n ((a, w, (), e, (), (), (), ll, i1, i2, (L.length : Int), (i : Int), ()), (((), (c, (o, ()))), T, ((), (mo, ())), M, L, L, ())) κ0 κ1 =
      κ1 ((a, w, (), e, (), ll, i1, i2, ()), (((), (c, (o, ()))), T, ((), (mo, ())), M, ()))
  | 0, i, h1, h2 => by omega
  | n + 1, i, h1, h2 => by
    unfold l_6_36 B_6_36
    try dsimp only
    by_cases hi : i < L.length
    · have e3 : addA .i64 (i : Int) 1 = ((i + 1 : Nat) : Int) := by rw [add64 (by omega) (by omega)]; simp
      have q0 := dT (show (0 : Int) ≤ (i : Int) by omega)
      have q1 := dT (show (i : Int) < (L.length : Int) by omega)
      rw [q0, q1, e3]
      simp only [cond_true, bne_self_eq_false, cond_false]
      exact l36c a w e ll i1 i2 c o mo T M L hL κ0 κ1 n (i + 1) (by omega) (by omega)
    · rw [bif_f (dF (by omega))]
theorem lack_len : ∀ (T : List Bool) (i : Nat), (lack i T).length ≤ T.length
  | [], i => Nat.le_refl _
  | b :: T, i => by
    unfold lack
    have := lack_len T (i + 1)
    cases b <;> simp <;> omega
/-- What follows when both gates are alike. -/
theorem l14 (hN : 1001 ≤ N) (k : Nat) (hk : k ≤ 1000) (who : Int) (ll : List (List Int)) (hll : ll.length ≤ 60) (κ0 : (Bool × Unit) × Unit → Option R) (κ1 : (Int × Unit) × Unit → Option R) (hκ : κ0 ((true, ()), ()) = κ1 ((0, ()), ())) : ∀ (n i : Nat) (o : Int) (T : List Bool), i ≤ ll.length → ll.length - i < n → T.length = k →
    l_6_14 (R := R) N n (((k : Int), who, (), 0, (), ll, (ll.length : Int), (i : Int), ()), (((), ((cnt T : Int), (o, ()))), T, ((), (o, ())), T, ())) κ0 κ1 = κ1 ((0, ()), ())
  | 0, i, o, T, h1, h2, h3 => by omega
  | n + 1, i, o, T, h1, h2, h3 => by
    unfold l_6_14 B_6_14
    try dsimp only
    by_cases hi : i < ll.length
    · have e3 : addA .i64 (i : Int) 1 = ((i + 1 : Nat) : Int) := by rw [add64 (by omega) (by omega)]; simp
      have hg : List.getD ll i (Sch.zero (.sl (.int .i64))) = ll[i] := by simp [hi]
      rw [bif_t (dT (show (i : Int) < (ll.length : Int) by omega)), bif_t (dT (show (0 : Int) ≤ (i : Int) by omega)), bif_t (dT (show (i : Int) < (ll.length : Int) by omega)), Int.toNat_natCast, hg]
      by_cases g : (ll[i].length : Int) > 50
      · rw [bif_t (dT g)]; exact hκ
      rw [bif_f (dF g)]
      have hp31 := fun κ => p31 N hN T ll[i] (by omega) (by omega) o κ (R := R)
      refine (p36 N hN T ll[i] (by omega) (by omega) o _ _).trans ?_
      cases ha : arr T ll[i] with
      | inl e =>
        try dsimp only
        have hVk := h3
        · try dsimp only
          rw [hp31]
          rw [ha]
          try dsimp only
          skip
          try dsimp only
          simp only [beq_self_eq_true, Bool.not_true, cond_false, bne_self_eq_false]
          refine (l25 N T (by first | omega | (simp; omega)) _ _ _ _ _ _ _ _ _ _ _ N 0 [] (by omega) (by simp) (by first | omega | (simp; omega))).trans ?_
          rw [List.drop_zero, List.nil_append]
          try dsimp only
          rw [p33 N hN _ _ T (by first | omega | (simp; omega))]
          try dsimp only
          have h34 : ∀ κ' : Int → Option R, p_34_v1 N (((), ()), (((), ((cnt T : Int), (o, ()))), T, ())) κ' = κ' o := fun _ => rfl
          rw [h34]
          simp only [bne_self_eq_false, cond_false]
          have hL : (lack 0 T).length ≤ 1000 := by have := lack_len T 0; simp at this ⊢; omega
          have hin : ∀ (h : ¬ (0 ≤ who ∧ who < (k : Int))), (decide (0 ≤ who ∧ who < (T.length : Int)) && T.getD who.toNat false) = false := by
            intro h; rw [dF (by rw [hVk]; exact h), Bool.false_and]
          have hfin := l14 hN k hk who ll hll κ0 κ1 hκ n (i + 1) o T (by omega) (by omega) hVk
          rw [← e3] at hfin
          by_cases w1 : who < 0
          · rw [bif_t (dT w1), p32, hin (by omega)]
            simp only [cond_false]
            refine (l36c N _ _ _ _ _ _ _ _ _ _ _ _ hL _ _ N 0 (by omega) (by omega)).trans ?_
            exact hfin
          rw [bif_f (dF w1)]
          by_cases w2 : who ≥ (k : Int)
          · rw [bif_t (dT w2), p32, hin (by omega)]
            simp only [cond_false]
            refine (l36c N _ _ _ _ _ _ _ _ _ _ _ _ hL _ _ N 0 (by omega) (by omega)).trans ?_
            exact hfin
          rw [bif_f (dF w2)]
          refine (l36c N _ _ _ _ _ _ _ _ _ _ _ _ hL _ _ N 0 (by omega) (by omega)).trans ?_
          exact hfin
      | inr V =>
        have hVk : V.length = k := by rw [← h3]; exact arr_len _ T V ha
        try dsimp only
        by_cases gc : cnt V < V.length
        · rw [if_pos gc]
          · try dsimp only
            rw [hp31]
            rw [ha]
            try dsimp only
            rw [if_pos gc]
            try dsimp only
            simp only [beq_self_eq_true, Bool.not_true, cond_false, bne_self_eq_false]
            refine (l25 N V (by first | omega | (simp; omega)) _ _ _ _ _ _ _ _ _ _ _ N 0 [] (by omega) (by simp) (by first | omega | (simp; omega))).trans ?_
            rw [List.drop_zero, List.nil_append]
            try dsimp only
            rw [p33 N hN _ _ V (by first | omega | (simp; omega))]
            try dsimp only
            have h34 : ∀ κ' : Int → Option R, p_34_v1 N (((), ()), (((), ((cnt V : Int), (o, ()))), V, ())) κ' = κ' o := fun _ => rfl
            rw [h34]
            simp only [bne_self_eq_false, cond_false]
            have hL : (lack 0 V).length ≤ 1000 := by have := lack_len V 0; simp at this ⊢; omega
            have hin : ∀ (h : ¬ (0 ≤ who ∧ who < (k : Int))), (decide (0 ≤ who ∧ who < (V.length : Int)) && V.getD who.toNat false) = false := by
              intro h; rw [dF (by rw [hVk]; exact h), Bool.false_and]
            have hfin := l14 hN k hk who ll hll κ0 κ1 hκ n (i + 1) o V (by omega) (by omega) hVk
            rw [← e3] at hfin
            by_cases w1 : who < 0
            · rw [bif_t (dT w1), p32, hin (by omega)]
              simp only [cond_false]
              refine (l36c N _ _ _ _ _ _ _ _ _ _ _ _ hL _ _ N 0 (by omega) (by omega)).trans ?_
              exact hfin
            rw [bif_f (dF w1)]
            by_cases w2 : who ≥ (k : Int)
            · rw [bif_t (dT w2), p32, hin (by omega)]
              simp only [cond_false]
              refine (l36c N _ _ _ _ _ _ _ _ _ _ _ _ hL _ _ N 0 (by omega) (by omega)).trans ?_
              exact hfin
            rw [bif_f (dF w2)]
            refine (l36c N _ _ _ _ _ _ _ _ _ _ _ _ hL _ _ N 0 (by omega) (by omega)).trans ?_
            exact hfin
        · rw [if_neg gc]
          have hVk : (List.replicate V.length false).length = k := by rw [← hVk]; simp
          · try dsimp only
            rw [hp31]
            rw [ha]
            try dsimp only
            rw [if_neg gc]
            try dsimp only
            simp only [beq_self_eq_true, Bool.not_true, cond_false, bne_self_eq_false]
            refine (l25 N (List.replicate V.length false) (by first | omega | (simp; omega)) _ _ _ _ _ _ _ _ _ _ _ N 0 [] (by omega) (by simp) (by first | omega | (simp; omega))).trans ?_
            rw [List.drop_zero, List.nil_append]
            try dsimp only
            rw [p33 N hN _ _ (List.replicate V.length false) (by first | omega | (simp; omega))]
            try dsimp only
            have h34 : ∀ κ' : Int → Option R, p_34_v1 N (((), ()), (((), (0, ((addA .i64 o 1), ()))), (List.replicate V.length false), ())) κ' = κ' (addA .i64 o 1) := fun _ => rfl
            rw [h34]
            simp only [bne_self_eq_false, cond_false]
            have hL : (lack 0 (List.replicate V.length false)).length ≤ 1000 := by have := lack_len (List.replicate V.length false) 0; simp at this ⊢; omega
            have hin : ∀ (h : ¬ (0 ≤ who ∧ who < (k : Int))), (decide (0 ≤ who ∧ who < ((List.replicate V.length false).length : Int)) && (List.replicate V.length false).getD who.toNat false) = false := by
              intro h; rw [dF (by rw [hVk]; exact h), Bool.false_and]
            have hfin := l14 hN k hk who ll hll κ0 κ1 hκ n (i + 1) (addA .i64 o 1) (List.replicate V.length false) (by omega) (by omega) hVk
            rw [← e3] at hfin
            by_cases w1 : who < 0
            · rw [bif_t (dT w1), p32, hin (by omega)]
              simp only [cond_false]
              refine (l36c N _ _ _ _ _ _ _ _ _ _ _ _ hL _ _ N 0 (by omega) (by omega)).trans ?_
              rw [cnt_rep] at hfin; exact hfin
            rw [bif_f (dF w1)]
            by_cases w2 : who ≥ (k : Int)
            · rw [bif_t (dT w2), p32, hin (by omega)]
              simp only [cond_false]
              refine (l36c N _ _ _ _ _ _ _ _ _ _ _ _ hL _ _ N 0 (by omega) (by omega)).trans ?_
              rw [cnt_rep] at hfin; exact hfin
            rw [bif_f (dF w2)]
            refine (l36c N _ _ _ _ _ _ _ _ _ _ _ _ hL _ _ N 0 (by omega) (by omega)).trans ?_
            rw [cnt_rep] at hfin; exact hfin
    · rw [bif_f (dF (by omega))]
end
theorem gp (N : Nat) (hN : N = 1001) (n : Int) (hn1 : n < 9223372036854775808) (ll : List (List Int)) (who : Int) (κ) : p_6 (R := AV) N ((n, ll, who, ()), ()) κ = κ (true, ()) := by
  unfold p_6
  try dsimp only
  have h30 : ∀ κ' : Bool → Option AV, p_30 N ((), ()) κ' = κ' true := by subst hN; intro κ'; kernel_rfl
  have h31 : ∀ κ' : (Bool × (Int × Unit)) × ((List Int) × Unit) → Option AV, p_31 N (((), (), ()), ([0], ())) κ' = κ' ((false, (11, ())), ([0], ())) := fun _ => rfl
  have h32 : ∀ κ' : Bool → Option AV, p_32 N (((), 0, ()), ()) κ' = κ' false := fun _ => rfl
  have h33 : ∀ κ' : Unit × Unit → Option AV, p_33 N (((), ()), ()) κ' = κ' ((), ()) := fun _ => rfl
  have h34 : ∀ κ' : Int → Option AV, p_34 N (((), ()), ()) κ' = κ' 0 := fun _ => rfl
  rw [h30]
  simp only [Bool.not_true, cond_false]
  rw [h31]
  simp only [bne_self_eq_false, cond_false]
  rw [h32]
  simp only [cond_false]
  rw [h33]
  rw [h34]
  simp only [bne_self_eq_false, cond_false]
  have h35 : ∀ κ0 κ1, p_35 (R := AV) N ((n, ()), ()) κ0 κ1 = if n < 1 ∨ n > 1048576 then κ0 (((), (1, ())), ()) else κ1 (((), (0, ())), (((), (0, (0, ()))), List.replicate n.toNat false, ())) := by
    intro κ0 κ1
    unfold p_35
    try dsimp only
    by_cases g1 : n < 1
    · rw [bif_t (dT g1), if_pos (.inl g1)]
    rw [bif_f (dF g1)]
    by_cases g2 : n > 1048576
    · rw [bif_t (dT g2), if_pos (.inr g2)]
    rw [bif_f (dF g2), if_neg (by omega), bif_t (dT (by omega)), bif_t (dT (by omega)), bif_t (dT (by omega)), bif_t (dT (by omega)), zb]
  by_cases a1 : n > 1000
  · rw [bif_t (dT a1)]
    by_cases a2 : n ≤ 1048576
    · rw [bif_t (dT a2)]
    rw [bif_f (dF a2)]
    by_cases a3 : (ll.length : Int) > 60
    · rw [bif_t (dT a3)]
    rw [bif_f (dF a3), h35, if_pos (by omega)]
    try dsimp only
    rw [bif_f (dF (by omega)), bif_t (dT (by omega))]
    rfl
  rw [bif_f (dF a1)]
  by_cases a3 : (ll.length : Int) > 60
  · rw [bif_t (dT a3)]
  rw [bif_f (dF a3), h35]
  by_cases a4 : n < 1
  · rw [if_pos (by omega)]
    try dsimp only
    rw [bif_t (dT a4)]
    rfl
  rw [if_neg (by omega)]
  try dsimp only
  rw [bif_f (dF a4), bif_f (dF (by omega)), bif_t (dT (by omega)), bif_t (dT (by omega)), bif_t (dT (by omega)), bif_t (dT (by omega)), zb]
  have hk : ((n.toNat : Nat) : Int) = n := by omega
  have := l14 N (by omega) n.toNat (by omega) who ll (by omega) (fun y632 => κ (y632.1.1, ())) (fun y634 => κ ((y634.1.1 == 0), ())) rfl N 0 0 (List.replicate n.toNat false) (by omega) (by omega) (by simp)
  rw [cnt_rep, hk] at this
  exact this
theorem law_all (y0 : Int) (wf0 : WF (.int .i64) y0) (y1 : List (List Int)) {P1 : Prop} (wf1 : P1) (y2 : Int) {P2 : Prop} (wf2 : P2) :
    ∃ H', ACalls Try.prog 6 [toAV (.int .i64) y0, toAV (.sl (.sl (.int .i64))) y1, toAV (.int .i64) y2] [] (.bool true) H' :=
  gd_law (good_6 1001) (x := (y0, y1, y2, ())) (gp 1001 rfl y0 (wf_i64 wf0).2 y1 y2 _)
end Go.Proofs.Ytjehpceomlnicaa.Eng
