/-
GateOrders: what the mirrors come to, in plain numbers and lists: the law's mirror answers true.
Conditions: none.
-/
import Derived.Test.YtjnjhbkkalcecaaMirGateOrders
set_option linter.unusedVariables false
set_option linter.unusedSimpArgs false
namespace Go.Proofs.Ytjnjhbkkalcecaa.Eng
/-! ### the plain law -/
theorem zb : (Sch.zero .bool : Bool) = false := rfl
theorem awake35 {R : Type} (κ : Bool → Option R) : p_12 1001 ((), ()) κ = κ true := by kernel_rfl
/-- Who lacks, from one on. -/
def lack : Nat → List Bool → List Int
  | _, [] => []
  | i, b :: l => if b then lack (i + 1) l else (i : Int) :: lack (i + 1) l
theorem lack_drop (T : List Bool) (i : Nat) (h : i < T.length) : lack i (T.drop i) = if T[i] then lack (i + 1) (T.drop (i + 1)) else (i : Int) :: lack (i + 1) (T.drop (i + 1)) := by
  rw [List.drop_eq_getElem_cons h]; rfl
theorem l14 {R : Type} (c o : Int) (T : List Bool) (hT : T.length ≤ 1000) (κ) : ∀ (n i : Nat) (acc : List Int), i ≤ T.length → acc.length ≤ i → T.length - i < n →
    l_14_5 (R := R) 1001 n (((), (), (T.length : Int), (i : Int), ()), (((), (c, (o, ()))), T, acc, ())) κ = κ (((), ()), (((), (c, (o, ()))), T, acc ++ lack i (T.drop i), ()))
  | 0, i, acc, h1, h2, h3 => by omega
  | n + 1, i, acc, h1, h2, h3 => by
    show B_14_5 1001 (fun y => l_14_5 1001 n y κ) _ κ = _
    unfold B_14_5
    try dsimp only
    by_cases hi : i < T.length
    · have e3 : addA .i64 (i : Int) 1 = ((i + 1 : Nat) : Int) := by rw [add64 (by omega) (by omega)]; simp
      have hg : List.getD T i (Sch.zero .bool) = T[i] := by simp [hi]
      rw [bif_t (dT (show (i : Int) < (T.length : Int) by omega)), bif_t (dT (show (0 : Int) ≤ (i : Int) by omega)), bif_t (dT (show (i : Int) < (T.length : Int) by omega)), Int.toNat_natCast, hg, e3, lack_drop T i hi]
      cases hb : T[i] with
      | false =>
        have hs : (decide ((acc.length + [(i : Int)].length) * 8 ≤ 140737488355328) && true) = true := by
          rw [Bool.and_true]; apply dT; simp; omega
        rw [bif_t (show (!false) = true from rfl), bif_t hs]
        refine (l14 c o T hT κ n (i + 1) (acc ++ [(i : Int)]) (by omega) (by simp; omega) (by omega)).trans ?_
        simp
      | true =>
        rw [bif_f (show (!true) = false from rfl)]
        refine (l14 c o T hT κ n (i + 1) acc (by omega) (by omega) (by omega)).trans ?_
        simp
    · have e : i = T.length := by omega
      rw [bif_f (dF (by omega)), e]
      simp [lack]
theorem p14 {R : Type} (c o : Int) (T : List Bool) (hT : T.length ≤ 1000) (κ) : p_14 (R := R) 1001 (((), ()), (((), (c, (o, ()))), T, ())) κ = κ ((), (((), (c, (o, ()))), T, lack 0 T, ())) := by
  unfold p_14
  try dsimp only
  refine (l14 c o T hT _ 1001 0 [] (by omega) (by simp) (by omega)).trans ?_
  simp
/-- One comes that lacks. -/
theorem p15 {R : Type} (T : List Bool) (hT : T.length ≤ 1000) (x : Int) (h1 : 0 ≤ x) (h2 : x < (T.length : Int)) (h3 : T.getD x.toNat false = false) (c : Nat) (hc : c ≤ 1000) (o : Int) (κ) :
    p_15_v1 (R := R) 1001 (((), (), ()), (((), ((c : Int), (o, ()))), T, [x], ())) κ =
      if c + 1 < T.length then κ ((false, (0, ())), (((), (((c + 1 : Nat) : Int), (o, ()))), T.set x.toNat true, [x], ()))
      else κ ((true, (0, ())), (((), (0, (addA .i64 o 1, ()))), List.replicate T.length false, [x], ())) := by
  have a0 : addA .i64 0 1 = 1 := rfl
  have e4 : addA .i64 (c : Int) 1 = ((c + 1 : Nat) : Int) := by rw [add64 (by omega) (by omega)]; simp
  have f1 : ∀ (n : Nat) (κ0 κ1), l_15_v1_5 (R := R) 1001 (n + 2) (((), (), (), (), (([x].length : Nat) : Int), 0, ()), (((), ((c : Int), (o, ()))), T, [x], ([] : List (Int × Bool)), ())) κ0 κ1 = κ1 (((), (), ()), (((), ((c : Int), (o, ()))), T, [x], ())) := by
    intro n κ0 κ1
    show B_15_v1_5 1001 (fun y => l_15_v1_5 1001 (n + 1) y κ0 κ1) _ κ0 κ1 = _
    unfold B_15_v1_5
    try dsimp only
    rw [bif_t (dT (show (0 : Int) < (([x].length : Nat) : Int) by simp)), bif_t (dT (show (0 : Int) ≤ 0 by decide)), bif_t (dT (show (0 : Int) < (([x].length : Nat) : Int) by simp)), show List.getD [x] (Int.toNat 0) (Sch.zero (.int .i64)) = x from rfl, bif_f (dF (show ¬ x < 0 by omega)), bif_f (dF (show ¬ x ≥ (T.length : Int) by omega)), bif_t (dT h1), bif_t (dT h2), zb, h3, bif_f rfl, bif_f (show Option.getD (kvGet (.int .i64) x ([] : List (Int × Bool))) false = false from rfl), a0]
    show B_15_v1_5 1001 (fun y => l_15_v1_5 1001 n y κ0 κ1) _ κ0 κ1 = _
    unfold B_15_v1_5
    try dsimp only
    rw [bif_f (dF (show ¬ (1 : Int) < (([x].length : Nat) : Int) by simp))]
  have f2 : ∀ (n : Nat) (κ), l_15_v1_14 (R := R) 1001 (n + 2) (((), (), (([x].length : Nat) : Int), 0, ()), (((), ((c : Int), (o, ()))), T, [x], ())) κ = κ (((), ()), (((), (((c + 1 : Nat) : Int), (o, ()))), T.set x.toNat true, [x], ())) := by
    intro n κ
    show B_15_v1_14 1001 (fun y => l_15_v1_14 1001 (n + 1) y κ) _ κ = _
    unfold B_15_v1_14
    try dsimp only
    rw [bif_t (dT (show (0 : Int) < (([x].length : Nat) : Int) by simp)), bif_t (dT (show (0 : Int) ≤ 0 by decide)), bif_t (dT (show (0 : Int) < (([x].length : Nat) : Int) by simp)), show List.getD [x] (Int.toNat 0) (Sch.zero (.int .i64)) = x from rfl, bif_t (dT h1), bif_t (dT h2), a0, e4]
    show B_15_v1_14 1001 (fun y => l_15_v1_14 1001 n y κ) _ κ = _
    unfold B_15_v1_14
    try dsimp only
    rw [bif_f (dF (show ¬ (1 : Int) < (([x].length : Nat) : Int) by simp))]
  unfold p_15_v1
  try dsimp only
  refine (f1 999 _ _).trans ?_
  try dsimp only
  refine (f2 999 _).trans ?_
  try dsimp only
  rw [List.length_set]
  by_cases g : c + 1 < T.length
  · rw [if_pos g, bif_t (dT (by omega))]
  · rw [if_neg g, bif_f (dF (by omega)), zb]
/-- Those who are left: each lacks, each once. -/
def Left (T : List Bool) (L : List Int) : Prop := (∀ x ∈ L, 0 ≤ x ∧ x < (T.length : Int) ∧ T.getD x.toNat false = false) ∧ L.Pairwise (· ≠ ·)
theorem left_cut {T : List Bool} {L : List Int} (h : Left T L) {i : Nat} (hi : i < L.length) : Left (T.set L[i].toNat true) (L.take i ++ L.drop (i + 1)) := by
  obtain ⟨h1, h2⟩ := h
  have hL : L = L.take i ++ (L[i] :: L.drop (i + 1)) := by rw [← List.drop_eq_getElem_cons hi, List.take_append_drop]
  have h2' := h2
  rw [hL] at h2'
  rw [List.pairwise_append, List.pairwise_cons] at h2'
  obtain ⟨q1, ⟨q2, q3⟩, q4⟩ := h2'
  refine ⟨fun x hx => ?_, ?_⟩
  · have hxL : x ∈ L := by
      rcases List.mem_append.1 hx with hx | hx
      · exact List.mem_of_mem_take hx
      · exact List.mem_of_mem_drop hx
    have hne : x ≠ L[i] := by
      rcases List.mem_append.1 hx with hx | hx
      · exact q4 x hx _ (List.mem_cons_self ..)
      · exact fun e => q2 x hx e.symm
    obtain ⟨r1, r2, r3⟩ := h1 x hxL
    obtain ⟨s1, s2, s3⟩ := h1 L[i] (List.getElem_mem hi)
    refine ⟨r1, by rw [List.length_set]; exact r2, ?_⟩
    have : L[i].toNat ≠ x.toNat := by omega
    rw [List.getD_eq_getElem?_getD, List.getElem?_set_ne this, ← List.getD_eq_getElem?_getD]
    exact r3
  · rw [List.pairwise_append]
    exact ⟨q1, q3, fun a ha b hb => q4 a ha b (List.mem_cons_of_mem _ hb)⟩
theorem l3e {R : Type} (n turn : Int) (ord : List Int) (κ0 κ1) (m : Nat) (k c o : Int) (T : List Bool) :
    l_3_11 (R := R) 1001 (m + 1) ((n, ord, (), turn, (), k, ()), (((), (c, (o, ()))), T, [], ())) κ0 κ1 = κ1 ((n, ord, (), turn, ()), (((), (c, (o, ()))), T, ())) := by
  show B_3_11 1001 (fun y => l_3_11 1001 m y κ0 κ1) _ κ0 κ1 = _
  unfold B_3_11
  try dsimp only
  rw [bif_f (dF (show ¬ ((List.length ([] : List Int) : Nat) : Int) > 0 by simp))]
theorem l3i {R : Type} (n turn : Int) (ord : List Int) (κ0 κ1) : ∀ (f k : Nat) (c : Nat) (o : Int) (T : List Bool) (L : List Int), L.length < f → T.length ≤ 60 → c + L.length = T.length → k + L.length ≤ 100 → Left T L →
    l_3_11 (R := R) 1001 f ((n, ord, (), turn, (), (k : Int), ()), (((), ((c : Int), (o, ()))), T, L, ())) κ0 κ1 =
      if L.length = 0 then κ1 ((n, ord, (), turn, ()), (((), ((c : Int), (o, ()))), T, ())) else κ1 ((n, ord, (), turn, ()), (((), (0, (addA .i64 o 1, ()))), List.replicate T.length false, ()))
  | 0, k, c, o, T, L, h1, h2, h3, h4, h5 => by omega
  | f + 1, k, c, o, T, L, h1, h2, h3, h4, h5 => by
    have e3 : addA .i64 (k : Int) 1 = ((k + 1 : Nat) : Int) := by rw [add64 (by omega) (by omega)]; simp
    have fin : ∀ (i : Nat) (hi : i < L.length), p_15_v1 (R := R) 1001 (((), (), ()), (((), ((c : Int), (o, ()))), T, [L[i]], ())) (fun y187 =>
        bif (y187.1.2.1 != 0) then κ0 ((false, ()), ()) else (bif (!(y187.1.1 == (((L.length : Nat) : Int) == 1))) then κ0 ((false, ()), ()) else
          l_3_11 1001 f ((n, ord, (), turn, (), ((k + 1 : Nat) : Int), ()), (((), (y187.2.1.2.1, (y187.2.1.2.2.1, ()))), y187.2.2.1, L.take i ++ L.drop (i + 1), ())) κ0 κ1)) = κ1 ((n, ord, (), turn, ()), (((), (0, (addA .i64 o 1, ()))), List.replicate T.length false, ())) := by
      intro i hi
      obtain ⟨s1, s2, s3⟩ := h5.1 L[i] (List.getElem_mem hi)
      have hlen : (L.take i ++ L.drop (i + 1)).length = L.length - 1 := by rw [List.length_append, List.length_take, List.length_drop]; omega
      rw [p15 T (by omega) L[i] s1 s2 s3 c (by omega) o]
      by_cases g : c + 1 < T.length
      · rw [if_pos g]
        try dsimp only
        rw [bif_f (show ((0 : Int) != 0) = false from rfl), bif_f (show (!(false == (((L.length : Nat) : Int) == 1))) = false by
          have : (((L.length : Nat) : Int) == 1) = false := by simp; omega
          rw [this]; rfl)]
        rw [l3i n turn ord κ0 κ1 f (k + 1) (c + 1) o (T.set L[i].toNat true) (L.take i ++ L.drop (i + 1)) (by omega) (by rw [List.length_set]; exact h2) (by rw [hlen, List.length_set]; omega) (by omega) (left_cut h5 hi), if_neg (by omega), List.length_set]
      · rw [if_neg g]
        try dsimp only
        rw [bif_f (show ((0 : Int) != 0) = false from rfl), bif_f (show (!(true == (((L.length : Nat) : Int) == 1))) = false by
          have : (((L.length : Nat) : Int) == 1) = true := by simp; omega
          rw [this]; rfl)]
        have hnil : L.take i ++ L.drop (i + 1) = [] := List.eq_nil_of_length_eq_zero (by omega)
        rw [hnil]
        obtain ⟨m, rfl⟩ : ∃ m, f = m + 1 := ⟨f - 1, by omega⟩
        exact l3e n turn ord κ0 κ1 m _ _ _ _
    by_cases hz : L.length = 0
    · rw [if_pos hz]
      show B_3_11 1001 (fun y => l_3_11 1001 f y κ0 κ1) _ κ0 κ1 = _
      unfold B_3_11
      try dsimp only
      rw [bif_f (dF (show ¬ ((L.length : Nat) : Int) > 0 by omega))]
    · rw [if_neg hz]
      show B_3_11 1001 (fun y => l_3_11 1001 f y κ0 κ1) _ κ0 κ1 = _
      unfold B_3_11
      try dsimp only
      rw [bif_t (dT (show ((L.length : Nat) : Int) > 0 by omega)), e3]
      by_cases hk : (k : Int) < (ord.length : Int)
      · rw [bif_t (dT hk), bif_t (dT (show (0 : Int) ≤ (k : Int) by omega)), bif_t (dT hk), bif_f (dF (show ¬ ((L.length : Nat) : Int) = 0 by omega))]
        generalize List.getD ord (Int.toNat (k : Int)) (Sch.zero (.int .i64)) = p
        have r1 : remA .i64 p (L.length : Int) = Int.tmod p (L.length : Int) := rfl
        have r2 := Int.tmod_lt_of_pos p (show (0 : Int) < (L.length : Int) by omega)
        have r3 : -(L.length : Int) < Int.tmod p (L.length : Int) := by
          have := Int.lt_tmod_of_pos p (show (0 : Int) < (L.length : Int) by omega)
          exact this
        rw [r1, add64 (by omega) (by omega), bif_f (dF (show ¬ ((L.length : Nat) : Int) = 0 by omega)), rem64 (by omega)]
        have m1 := Int.emod_nonneg (Int.tmod p (L.length : Int) + (L.length : Int)) (show (L.length : Int) ≠ 0 by omega)
        have m2 := Int.emod_lt_of_pos (Int.tmod p (L.length : Int) + (L.length : Int)) (show (0 : Int) < (L.length : Int) by omega)
        obtain ⟨i, hi⟩ := Int.eq_ofNat_of_zero_le m1
        rw [hi] at m2 ⊢
        have hi2 : i < L.length := by omega
        have e5 : addA .i64 (i : Int) 1 = ((i + 1 : Nat) : Int) := by rw [add64 (by omega) (by omega)]; simp
        have hg : List.getD L i (Sch.zero (.int .i64)) = L[i] := by simp [hi2]
        rw [bif_t (dT (show (0 : Int) ≤ (i : Int) by omega)), bif_t (dT (show (i : Int) < ((L.length : Nat) : Int) by omega)), Int.toNat_natCast, hg, e5, Int.toNat_natCast]
        refine Eq.trans ?_ (fin i hi2)
        congr 1
        funext y
        have t1 : List.take (i - 0) (List.drop 0 L) = L.take i := rfl
        have t2 : List.take (L.length - (i + 1)) (List.drop (i + 1) L) = L.drop (i + 1) := List.take_of_length_le (by simp)
        rw [t1, t2, bif_t (dT (show (0 : Int) ≤ (i : Int) by omega)), bif_t (dT (show (i : Int) ≤ ((L.length : Nat) : Int) by omega)), bif_t (dT (show (0 : Int) ≤ (i : Int) by omega)), bif_t (show (decide ((List.length ([] : List Int) + (L.take i).length) * 8 ≤ 140737488355328) && true) = true by simp; omega), bif_t (dT (show (0 : Int) ≤ ((L.length : Nat) : Int) by omega)), bif_t (dT (show ((L.length : Nat) : Int) ≤ ((L.length : Nat) : Int) by omega)), bif_t (dT (show (0 : Int) ≤ ((i + 1 : Nat) : Int) by omega)), bif_t (dT (show ((i + 1 : Nat) : Int) ≤ ((L.length : Nat) : Int) by omega)), List.nil_append, bif_t (show (decide (((L.take i).length + (L.drop (i + 1)).length) * 8 ≤ 140737488355328) && true) = true by simp; omega)]
      · rw [bif_f (dF hk)]
        have hi2 : 0 < L.length := by omega
        have a0 : addA .i64 0 1 = ((0 + 1 : Nat) : Int) := rfl
        have hg : List.getD L 0 (Sch.zero (.int .i64)) = L[0] := by simp [hi2]
        rw [bif_t (dT (show (0 : Int) < ((L.length : Nat) : Int) by omega)), hg, a0, Int.toNat_natCast]
        refine Eq.trans ?_ (fin 0 hi2)
        congr 1
        funext y
        have t1 : List.take (0 - 0) (List.drop 0 L) = L.take 0 := rfl
        have t2 : List.take (L.length - (0 + 1)) (List.drop (0 + 1) L) = L.drop (0 + 1) := List.take_of_length_le (by simp)
        rw [t1, t2, bif_t (dT (show (0 : Int) ≤ ((L.length : Nat) : Int) by omega)), bif_t (show (decide ((List.length ([] : List Int) + (L.take 0).length) * 8 ≤ 140737488355328) && true) = true by simp), bif_t (dT (show (0 : Int) ≤ ((L.length : Nat) : Int) by omega)), bif_t (dT (show ((L.length : Nat) : Int) ≤ ((L.length : Nat) : Int) by omega)), bif_t (dT (show (0 : Int) ≤ ((0 + 1 : Nat) : Int) by omega)), bif_t (dT (show ((0 + 1 : Nat) : Int) ≤ ((L.length : Nat) : Int) by omega)), List.nil_append, bif_t (show (decide (((L.take 0).length + (L.drop (0 + 1)).length) * 8 ≤ 140737488355328) && true) = true by simp; omega)]
theorem lack_rep (n : Nat) : ∀ (m i : Nat), lack i (List.replicate m false) = (List.range m).map fun j => ((i + j : Nat) : Int)
  | 0, i => rfl
  | m + 1, i => by
    rw [List.replicate_succ, List.range_succ_eq_map]
    show (i : Int) :: lack (i + 1) (List.replicate m false) = _
    rw [lack_rep n m (i + 1), List.map_cons, List.map_map]
    congr 1
    apply List.map_congr_left
    intro j _
    show ((i + 1 + j : Nat) : Int) = ((i + (j + 1) : Nat) : Int)
    omega
theorem left_rep (n : Nat) : Left (List.replicate n false) (lack 0 (List.replicate n false)) ∧ (lack 0 (List.replicate n false)).length = n := by
  rw [lack_rep n]
  refine ⟨⟨fun x hx => ?_, ?_⟩, by simp⟩
  · obtain ⟨j, hj, rfl⟩ := List.mem_map.1 hx
    have hj := List.mem_range.1 hj
    refine ⟨by omega, by simp; omega, ?_⟩
    rw [List.getD_eq_getElem?_getD, List.getElem?_replicate]
    split <;> rfl
  · rw [List.pairwise_map]
    refine List.Pairwise.imp (R := fun a b => a < b) ?_ List.pairwise_lt_range
    intro a b hab e
    omega
theorem l3o {R : Type} (n : Nat) (hn : 1 ≤ n) (hn2 : n ≤ 60) (ord : List Int) (κ0 κ1) : ∀ (m turn : Nat), turn + m = 2 → ∀ f, m < f →
    l_3_7 (R := R) 1001 f (((n : Int), ord, (), (turn : Int), ()), (((), (0, ((turn : Int), ()))), List.replicate n false, ())) κ0 κ1 = κ1 (((n : Int), (), ()), (((), (0, (2, ()))), List.replicate n false, ()))
  | 0, turn, h1, 0, h2 => by omega
  | 0, turn, h1, f + 1, h2 => by
    show B_3_7 1001 (fun y => l_3_7 1001 f y κ0 κ1) _ κ0 κ1 = _
    unfold B_3_7
    try dsimp only
    obtain rfl : turn = 2 := by omega
    rw [bif_f (dF (show ¬ ((2 : Nat) : Int) < 2 by decide))]
    rfl
  | m + 1, turn, h1, 0, h2 => by omega
  | m + 1, turn, h1, f + 1, h2 => by
    have e3 : addA .i64 (turn : Int) 1 = ((turn + 1 : Nat) : Int) := by rw [add64 (by omega) (by omega)]; simp
    obtain ⟨q1, q2⟩ := left_rep n
    show B_3_7 1001 (fun y => l_3_7 1001 f y κ0 κ1) _ κ0 κ1 = _
    unfold B_3_7
    try dsimp only
    rw [bif_t (dT (show (turn : Int) < 2 by omega)), p14 _ _ _ (by simp; omega)]
    try dsimp only
    refine (l3i (n : Int) (turn : Int) ord _ _ 1001 0 0 (turn : Int) (List.replicate n false) (lack 0 (List.replicate n false)) (by omega) (by simp; omega) (by simp; omega) (by omega) q1).trans ?_
    rw [if_neg (by omega), List.length_replicate, e3]
    try dsimp only
    exact l3o n hn hn2 ord κ0 κ1 m (turn + 1) (by omega) f (by omega)
theorem p3 (n : Int) (ord : List Int) (κ) : p_3 (R := AV) 1001 ((n, ord, ()), ()) κ = κ (true, ()) := by
  unfold p_3
  try dsimp only
  rw [awake35]
  try dsimp only
  rw [bif_f (show (!true) = false from rfl)]
  by_cases h1 : n < 1
  · rw [bif_t (dT h1)]
  rw [bif_f (dF h1)]
  by_cases h2 : n > 60
  · rw [bif_t (dT h2)]
  rw [bif_f (dF h2)]
  obtain ⟨m, rfl⟩ := Int.eq_ofNat_of_zero_le (show 0 ≤ n by omega)
  have h13 : ∀ κ0 κ1, p_13 (R := AV) 1001 (((m : Int), ()), ()) κ0 κ1 = κ1 (((), (0, ())), (((), (0, (0, ()))), List.replicate m false, ())) := by
    intro κ0 κ1
    unfold p_13
    try dsimp only
    rw [bif_f (dF h1), bif_f (dF (show ¬ (m : Int) > 1048576 by omega)), bif_t (dT (show (0 : Int) ≤ (m : Int) by omega)), bif_t (dT (show (m : Int) ≤ (m : Int) by omega)), bif_t (dT (show ((1 : Nat) : Int) * (m : Int) ≤ 281474976710656 by omega)), bif_t (dT (show (m : Int) ≤ 9223372036854775807 by omega)), zb, Int.toNat_natCast]
  rw [h13]
  try dsimp only
  refine (l3o m (by omega) (by omega) ord _ _ 2 0 rfl 1001 (by decide)).trans ?_
  unfold p_16_v1
  try dsimp only
  rw [bif_t (show ((2 : Int) == 2) = true from rfl), p14 _ _ _ (by simp; omega)]
  try dsimp only
  rw [(left_rep m).2]
  rw [show (((m : Nat) : Int) == (m : Int)) = true from beq_self_eq_true _]
theorem law_all (y0 : Int) {P0 : Prop} (wf0 : P0) (y1 : List Int) {P1 : Prop} (wf1 : P1) :
    ∃ H', ACalls Try.prog 3 [toAV (.int .i64) y0, toAV (.sl (.int .i64)) y1] [] (.bool true) H' :=
  gd_law (good_3 1001) (x := (y0, y1, ())) (p3 y0 y1 _)
end Go.Proofs.Ytjnjhbkkalcecaa.Eng
