/-
GridTags: what the mirrors come to, in plain numbers and lists: the law's mirror answers true.
Conditions: none.
-/
import Derived.Test.YtfcloeflcpcheaaMirGridTags
set_option linter.unusedVariables false
set_option linter.unusedSimpArgs false
namespace Go.Proofs.Ytfcloeflcpcheaa.Eng
namespace Bk
def W (x : Int) : Prop := 0 ≤ x ∧ x < 18446744073709551616
theorem W_wrap (x : Int) : W (IntKind.wrap .u64 x) := by rw [wrapU64]; unfold W; omega
theorem W_xor (a b : Int) : W (xorA .u64 a b) := W_wrap _
theorem W_or (a b : Int) : W (orA .u64 a b) := W_wrap _
theorem W_add (a b : Int) : W (addA .u64 a b) := W_wrap _
theorem W_zero : W 0 := by unfold W; omega
theorem xor_assoc (a b c : Int) (ha : W a) (hb : W b) (hc : W c) : xorA .u64 (xorA .u64 a b) c = xorA .u64 a (xorA .u64 b c) := by
  have key : ∀ x : BitVec 64, BitVec.ofInt 64 (IntKind.wrap .u64 (x.toNat : Int)) = x := by
    intro x
    rw [wrapU64]
    apply BitVec.eq_of_toNat_eq
    rw [BitVec.toNat_ofInt]
    have := x.isLt
    omega
  unfold xorA
  show IntKind.wrap .u64 (((BitVec.ofInt 64 (IntKind.wrap .u64 ((BitVec.ofInt 64 a ^^^ BitVec.ofInt 64 b).toNat : Int))) ^^^ BitVec.ofInt 64 c).toNat : Int) = IntKind.wrap .u64 ((BitVec.ofInt 64 a ^^^ BitVec.ofInt 64 (IntKind.wrap .u64 ((BitVec.ofInt 64 b ^^^ BitVec.ofInt 64 c).toNat : Int))).toNat : Int)
  rw [key, key, BitVec.xor_assoc]
theorem upd_same {α : Type} (f : Nat → α) (i : Nat) (x : α) : upd f i x i = x := by simp [upd]
theorem upd_other {α : Type} (f : Nat → α) {i j : Nat} (x : α) (h : j ≠ i) : upd f i x j = f j := by
  show (bif Nat.beq j i then x else f j) = f j
  cases hq : Nat.beq j i with
  | false => rfl
  | true => exact absurd (Nat.eq_of_beq_eq_true hq) h
theorem upd_if {α : Type} (f : Nat → α) (i j : Nat) (x : α) : upd f i x j = if j = i then x else f j := by
  by_cases h : j = i
  · subst h; rw [upd_same, if_pos rfl]
  · rw [upd_other f x h, if_neg h]
abbrev Bl := Nat → Int
def nulB : Bl := fun _ => 0
def rotF (x n : Int) : Int := orA .u64 (shrA .u64 x n) (shlA .u64 x (64 - n))
def roundR (x lo hi : Int) : Int := addA .u64 (quoA .u64 x lo) (mulA .u64 (remA .u64 x lo) hi)
theorem or_disj {a b : Nat} {n : Nat} (ha : a < 2 ^ n) : a ||| (b * 2 ^ n) = b * 2 ^ n + a := by
  rw [Nat.or_comm, Nat.mul_comm b, Nat.two_pow_add_eq_or_of_lt ha]
theorem nat_mod {B : Nat} (h : B < 2 ^ 64) : ((B : Nat) : Int) % 18446744073709551616 = B := by omega
theorem rot_eq {x : Int} (hx : W x) (n m : Nat) (hnm : n + m = 64) (hn : 0 < n) (hm : 0 < m) : roundR x (2 ^ n) (2 ^ m) = rotF x n := by
  obtain ⟨h1, h2⟩ := hx
  obtain ⟨y, rfl⟩ := Int.eq_ofNat_of_zero_le h1
  have hy : y < 2 ^ 64 := by omega
  unfold roundR rotF quoA remA
  have pn : ((2 : Int) ^ n) = ((2 ^ n : Nat) : Int) := by simp
  have pm : ((2 : Int) ^ m) = ((2 ^ m : Nat) : Int) := by simp
  have e64 : 2 ^ n * 2 ^ m = 2 ^ 64 := by rw [← Nat.pow_add, hnm]
  have d1 : y / 2 ^ n < 2 ^ m := by rw [Nat.div_lt_iff_lt_mul (Nat.two_pow_pos n), Nat.mul_comm, e64]; exact hy
  have m1 : y % 2 ^ n < 2 ^ n := Nat.mod_lt _ (Nat.two_pow_pos n)
  have p1 : y % 2 ^ n * 2 ^ m + y / 2 ^ n < 2 ^ 64 := by
    have : (y % 2 ^ n + 1) * 2 ^ m ≤ 2 ^ n * 2 ^ m := Nat.mul_le_mul_right _ m1
    rw [Nat.add_mul, e64] at this
    omega
  have p2 : y % 2 ^ n * 2 ^ m < 2 ^ 64 := Nat.lt_of_le_of_lt (Nat.le_add_right _ _) p1
  have p9003 : y / 2 ^ n < 2 ^ 64 := Nat.lt_of_le_of_lt (Nat.le_add_left _ _) p1
  rw [pn, pm, Int.tdiv_eq_ediv_of_nonneg (by omega), Int.tmod_eq_emod_of_nonneg (by omega)]
  have e1 : ((y : Int) / ((2 ^ n : Nat) : Int)) = ((y / 2 ^ n : Nat) : Int) := by simp
  have e2 : ((y : Int) % ((2 ^ n : Nat) : Int)) = ((y % 2 ^ n : Nat) : Int) := by simp
  rw [e1, e2]
  have w1 : IntKind.wrap .u64 ((y / 2 ^ n : Nat) : Int) = ((y / 2 ^ n : Nat) : Int) := by rw [wrapU64, nat_mod p9003]
  have q1 : mulA .u64 ((y % 2 ^ n : Nat) : Int) ((2 ^ m : Nat) : Int) = ((y % 2 ^ n * 2 ^ m : Nat) : Int) := by
    unfold mulA
    rw [wrapU64, ← Int.natCast_mul, nat_mod p2]
  rw [w1, q1]
  have l1 : addA .u64 ((y / 2 ^ n : Nat) : Int) ((y % 2 ^ n * 2 ^ m : Nat) : Int) = ((y % 2 ^ n * 2 ^ m + y / 2 ^ n : Nat) : Int) := by
    unfold addA
    rw [wrapU64, ← Int.natCast_add, Nat.add_comm, nat_mod p1]
  rw [l1]
  have s1 : shrA .u64 (y : Int) (n : Int) = ((y / 2 ^ n : Nat) : Int) := by
    rw [shrU64 (by omega) (by omega), pn, e1]
  have s2 : shlA .u64 (y : Int) (64 - (n : Int)) = ((y % 2 ^ n * 2 ^ m : Nat) : Int) := by
    unfold shlA
    have : (64 - (n : Int)).toNat = m := by omega
    rw [this, show min m IntKind.u64.bits = m from Nat.min_eq_left (by show m ≤ 64; omega), pm, wrapU64, ← Int.natCast_mul]
    have : y * 2 ^ m % 2 ^ 64 = y % 2 ^ n * 2 ^ m := by
      rw [← e64, Nat.mul_mod_mul_right]
    rw [← this]
    omega
  rw [s1, s2]
  unfold orA
  rw [wrapU64, BitVec.toNat_or]
  have b1 : (BitVec.ofInt IntKind.u64.bits ((y / 2 ^ n : Nat) : Int)).toNat = y / 2 ^ n := by
    show (BitVec.ofInt 64 _).toNat = _
    rw [BitVec.toNat_ofInt]; show (((y / 2 ^ n : Nat) : Int) % 18446744073709551616).toNat = _; rw [nat_mod p9003]; rfl
  have b2 : (BitVec.ofInt IntKind.u64.bits ((y % 2 ^ n * 2 ^ m : Nat) : Int)).toNat = y % 2 ^ n * 2 ^ m := by
    show (BitVec.ofInt 64 _).toNat = _
    rw [BitVec.toNat_ofInt]; show (((y % 2 ^ n * 2 ^ m : Nat) : Int) % 18446744073709551616).toNat = _; rw [nat_mod p2]; rfl
  rw [b1, b2, or_disj d1, nat_mod p1]
theorem W_rot (x n : Int) : W (rotF x n) := W_or _ _
theorem bloop (bs : ByteArray) : ∀ (n i : Nat) (r : List UInt8), bs.size - i ≤ n → ByteArray.toList.loop bs i r = r.reverse ++ bs.data.toList.drop i
  | 0, i, r, h => by
    rw [ByteArray.toList.loop]
    have h1 : bs.data.size = bs.size := rfl
    rw [if_neg (by omega), List.drop_eq_nil_of_le (by simp; omega)]
    simp
  | n + 1, i, r, h => by
    rw [ByteArray.toList.loop]
    have h1 : bs.data.size = bs.size := rfl
    by_cases hi : i < bs.size
    · rw [if_pos hi, bloop bs n (i + 1) _ (by omega)]
      have : bs.get! i = bs.data.toList[i]'(by simp; omega) := by
        show bs.data[i]! = _
        rw [getElem!_pos bs.data i (by omega)]
        simp
      rw [this]
      rw [List.drop_eq_getElem_cons (i := i) (by simp; omega)]
      simp
    · rw [if_neg hi, List.drop_eq_nil_of_le (by simp; omega)]
      simp
theorem btoList (bs : ByteArray) : bs.toList = bs.data.toList := by
  unfold ByteArray.toList
  rw [bloop bs bs.size 0 [] (by omega)]
  simp
theorem strList_inj {a b : ByteArray} (h : strList a = strList b) : a = b := by
  unfold strList at h
  have h1 : a.data.toList = b.data.toList := by
    refine List.map_inj_right (f := fun b : UInt8 => (b.toNat : Int)) (fun x y hxy => ?_) |>.1 h
    exact UInt8.toNat_inj.1 (Int.ofNat_inj.1 hxy)
  obtain ⟨⟨l⟩⟩ := a
  obtain ⟨⟨m⟩⟩ := b
  simp at h1
  rw [h1]
theorem eqS_dec (a b : ByteArray) : eqS a b = decide (strList a = strList b) := by
  unfold eqS
  rw [btoList, btoList]
  by_cases h : strList a = strList b
  · rw [strList_inj h]; simp
  · have : ¬ a.data.toList = b.data.toList := fun e => h (by unfold strList; rw [e])
    rw [decide_eq_false h]
    exact beq_eq_false_iff_ne.2 this
theorem strList_app (a b : ByteArray) : strList (a ++ b) = strList a ++ strList b := by
  unfold strList
  simp
theorem strList_ext (s : ByteArray) (i j : Nat) : strList (s.extract i j) = ((strList s).take j).drop i := by
  unfold strList
  simp [ByteArray.data_extract]
  rw [List.drop_take]
theorem strList_size (s : ByteArray) : s.size = (strList s).length := by simp [strList]
theorem strList_mk (l : List Int) (h : ∀ x ∈ l, 0 ≤ x ∧ x < 256) : strList (listStr l) = l := by
  unfold strList listStr
  simp only [List.map_map]
  refine (List.map_congr_left (g := id) fun x hx => ?_).trans (by simp)
  have := h x hx
  simp [UInt8.toNat_ofNat']
  omega
theorem strList_rng (s : ByteArray) : ∀ x ∈ strList s, 0 ≤ x ∧ x < 256 := by
  unfold strList
  intro x hx
  simp only [List.mem_map] at hx
  obtain ⟨b, _, rfl⟩ := hx
  have := b.toNat_lt
  omega
abbrev Q9004 := Int × (Int × (Int × (Int × Unit)))
def qF (a b c d x y : Int) : Q9004 :=
  let a1 := addA .u64 a (addA .u64 b x)
  let d1 := rotF (xorA .u64 d a1) 32
  let c1 := addA .u64 c d1
  let b1 := rotF (xorA .u64 b c1) 24
  let a2 := addA .u64 a1 (addA .u64 b1 y)
  let d2 := rotF (xorA .u64 d1 a2) 16
  let c2 := addA .u64 c1 d2
  let b2 := rotF (xorA .u64 b1 c2) 63
  (a2, (b2, (c2, (d2, ()))))
def ar4 (a b c d : Int) : Bl := upd (upd (upd (upd (Sch.zero (.arr 4 (.int .u64))) 0 a) 1 b) 2 c) 3 d
def qR (q : Bl) (x y : Int) : Bl :=
  let q := upd q 0 (addA .u64 (addA .u64 (q 0) (q 1)) x)
  let q := upd q 3 (roundR (xorA .u64 (q 3) (q 0)) 4294967296 4294967296)
  let q := upd q 2 (addA .u64 (q 2) (q 3))
  let q := upd q 1 (roundR (xorA .u64 (q 1) (q 2)) 16777216 1099511627776)
  let q := upd q 0 (addA .u64 (addA .u64 (q 0) (q 1)) y)
  let q := upd q 3 (roundR (xorA .u64 (q 3) (q 0)) 65536 281474976710656)
  let q := upd q 2 (addA .u64 (q 2) (q 3))
  upd q 1 (roundR (xorA .u64 (q 1) (q 2)) 9223372036854775808 2)
theorem addU_assoc (a b c : Int) : addA .u64 (addA .u64 a b) c = addA .u64 a (addA .u64 b c) := by
  unfold addA
  rw [wrapU64, wrapU64, wrapU64, wrapU64]
  omega
theorem roundR32 {x : Int} (h : W x) : roundR x 4294967296 4294967296 = rotF x 32 := rot_eq h 32 32 rfl (by decide) (by decide)
theorem roundR24 {x : Int} (h : W x) : roundR x 16777216 1099511627776 = rotF x 24 := rot_eq h 24 40 rfl (by decide) (by decide)
theorem roundR16 {x : Int} (h : W x) : roundR x 65536 281474976710656 = rotF x 16 := rot_eq h 16 48 rfl (by decide) (by decide)
theorem roundR63 {x : Int} (h : W x) : roundR x 9223372036854775808 2 = rotF x 63 := rot_eq h 63 1 rfl (by decide) (by decide)
theorem qR_eq (a b c d x y : Int) : qR (ar4 a b c d) x y 0 = (qF a b c d x y).1 ∧ qR (ar4 a b c d) x y 1 = (qF a b c d x y).2.1 ∧ qR (ar4 a b c d) x y 2 = (qF a b c d x y).2.2.1 ∧ qR (ar4 a b c d) x y 3 = (qF a b c d x y).2.2.2.1 := by
  have h : ∀ u v, qR (ar4 a b c d) u v =
      (let a1 := addA .u64 (addA .u64 a b) u
       let d1 := roundR (xorA .u64 d a1) 4294967296 4294967296
       let c1 := addA .u64 c d1
       let b1 := roundR (xorA .u64 b c1) 16777216 1099511627776
       let a2 := addA .u64 (addA .u64 a1 b1) v
       let d2 := roundR (xorA .u64 d1 a2) 65536 281474976710656
       let c2 := addA .u64 c1 d2
       let b2 := roundR (xorA .u64 b1 c2) 9223372036854775808 2
       upd (upd (upd (upd (upd (upd (upd (upd (ar4 a b c d) 0 a1) 3 d1) 2 c1) 1 b1) 0 a2) 3 d2) 2 c2) 1 b2) := fun u v => rfl
  rw [h x y]
  dsimp only
  rw [addU_assoc a b x, roundR32 (W_xor _ _), roundR24 (W_xor _ _), addU_assoc _ _ y, roundR16 (W_xor _ _), roundR63 (W_xor _ _)]
  exact ⟨rfl, rfl, rfl, rfl⟩
theorem qF_W (a b c d x y : Int) : W (qF a b c d x y).1 ∧ W (qF a b c d x y).2.1 ∧ W (qF a b c d x y).2.2.1 ∧ W (qF a b c d x y).2.2.2.1 := ⟨W_add _ _, W_rot _ _, W_add _ _, W_rot _ _⟩
def ordF (r : Int) : Bl := (p_108 (R := Bl) 1301 ((r, ()), ()) some).getD nulB
def ordR (r : Int) : Bl := (p_110 (R := Bl) 1301 ((r, ()), ()) some).getD nulB
def ten (P : Int → Prop) : Prop := P 0 ∧ P 1 ∧ P 2 ∧ P 3 ∧ P 4 ∧ P 5 ∧ P 6 ∧ P 7 ∧ P 8 ∧ P 9
theorem ten_mk {α : Type} {f g : Int → α} (h0 : f 0 = g 0) (h1 : f 1 = g 1) (h2 : f 2 = g 2) (h3 : f 3 = g 3) (h4 : f 4 = g 4) (h5 : f 5 = g 5) (h6 : f 6 = g 6) (h7 : f 7 = g 7) (h8 : f 8 = g 8) (h9 : f 9 = g 9) : ten fun r => f r = g r :=
  ⟨h0, h1, h2, h3, h4, h5, h6, h7, h8, h9⟩
theorem ten_all {P : Int → Prop} (h : ten P) {r : Int} (h1 : 0 ≤ r) (h2 : r < 10) : P r := by
  obtain ⟨q0, q1, q2, q3, q4, q5, q6, q7, q8, q9⟩ := h
  have : r = 0 ∨ r = 1 ∨ r = 2 ∨ r = 3 ∨ r = 4 ∨ r = 5 ∨ r = 6 ∨ r = 7 ∨ r = 8 ∨ r = 9 := by omega
  rcases this with h | h | h | h | h | h | h | h | h | h <;> subst h <;> assumption
theorem ord_eq : ten fun r => schEq (.arr 16 (.int .i64)) (ordF r) (ordR r) = true := by
  refine ten_mk ?_ ?_ ?_ ?_ ?_ ?_ ?_ ?_ ?_ ?_ <;> kernel_rfl
theorem p108 {R : Type} (κ : Bl → Option R) : ten fun r => p_108 (R := R) 1301 ((r, ()), ()) κ = κ (ordF r) := by
  refine ten_mk ?_ ?_ ?_ ?_ ?_ ?_ ?_ ?_ ?_ ?_ <;> kernel_rfl
theorem p110 {R : Type} (κ : Bl → Option R) : ten fun r => p_110 (R := R) 1301 ((r, ()), ()) κ = κ (ordR r) := by
  refine ten_mk ?_ ?_ ?_ ?_ ?_ ?_ ?_ ?_ ?_ ?_ <;> kernel_rfl
theorem schEq_arr {n : Nat} {k : IntKind} {x y : Bl} : schEq (.arr n (.int k)) x y = true ↔ ∀ j, j < n → x j = y j := by
  show (List.range n).all (fun i => x i == y i) = true ↔ _
  rw [List.all_eq_true]
  constructor
  · intro h j hj
    exact eq_of_beq (α := Int) (h j (List.mem_range.2 hj))
  · intro h j hj
    have := h j (List.mem_range.1 hj)
    rw [this]
    exact beq_self_eq_true (α := Int) _
def plF : Nat → Bl := (p_107 (R := Nat → Bl) 1301 ((), ()) some).getD (fun _ => nulB)
theorem p107 {R : Type} (κ : (Nat → Bl) → Option R) : p_107 1301 ((), ()) κ = κ plF := by kernel_rfl
def stQ (v : Bl) (i j k l : Nat) (x y : Int) : Bl :=
  let q := qF (v i) (v j) (v k) (v l) x y
  upd (upd (upd (upd v i q.1) j q.2.1) k q.2.2.1) l q.2.2.2.1
def rnd (v x : Bl) : Bl := stQ (stQ (stQ (stQ (stQ (stQ (stQ (stQ v 0 4 8 12 (x 0) (x 1)) 1 5 9 13 (x 2) (x 3)) 2 6 10 14 (x 4) (x 5)) 3 7 11 15 (x 6) (x 7)) 0 5 10 15 (x 8) (x 9)) 1 6 11 12 (x 10) (x 11)) 2 7 8 13 (x 12) (x 13)) 3 4 9 14 (x 14) (x 15)
def sel (s g : Bl) : Bl := fun j => g (Int.toNat (s j))
theorem l99i {R : Type} (g a z v : Bl) (u : Int) (κ) : ten fun r =>
    l_99_17 (R := R) 1301 1301 (((), (), (List.range 16).map g, (), (), (), u, plF, 0, ()), (a, z, v, plF, ordF r, ())) κ =
      κ (((), (), (List.range 16).map g, (), (), u, ()), (a, z, rnd v (sel (ordF r) g), plF, ())) := by
  refine ten_mk ?_ ?_ ?_ ?_ ?_ ?_ ?_ ?_ ?_ ?_ <;> kernel_rfl
def rndsF (g : Bl) : Nat → Nat → Bl → Bl
  | 0, _, v => v
  | n + 1, i, v => rndsF g n (i + 1) (rnd v (sel (ordF ((i : Int) % 10)) g))
theorem p108i {R : Type} {i : Int} (h1 : 0 ≤ i) (κ : Bl → Option R) : p_108 (R := R) 1301 ((i, ()), ()) κ = κ (ordF (i % 10)) := by
  have e : p_108 (R := R) 1301 ((i, ()), ()) κ = p_108 (R := R) 1301 ((i % 10, ()), ()) κ := by
    have m1 := Int.emod_nonneg i (show (10 : Int) ≠ 0 by decide)
    unfold p_108 Q_108
    dsimp only
    rw [bif_f (dF (show ¬ i < 0 by omega)), bif_f (dF (show ¬ i % 10 < 0 by omega)), rem64 h1, rem64 m1, Int.emod_emod]
  rw [e]
  exact ten_all (p108 κ) (Int.emod_nonneg i (by decide)) (Int.emod_lt_of_pos i (by decide))
theorem p110i {R : Type} {i : Int} (h1 : 0 ≤ i) (κ : Bl → Option R) : p_110 (R := R) 1301 ((i, ()), ()) κ = κ (ordR (i % 10)) := by
  have e : p_110 (R := R) 1301 ((i, ()), ()) κ = p_110 (R := R) 1301 ((i % 10, ()), ()) κ := by
    have m1 := Int.emod_nonneg i (show (10 : Int) ≠ 0 by decide)
    unfold p_110 Q_110
    dsimp only
    rw [bif_f (dF (show ¬ i < 0 by omega)), bif_f (dF (show ¬ i % 10 < 0 by omega)), rem64 h1, rem64 m1, Int.emod_emod]
  rw [e]
  exact ten_all (p110 κ) (Int.emod_nonneg i (by decide)) (Int.emod_lt_of_pos i (by decide))
theorem l99o {R : Type} (g a z : Bl) (κ) : ∀ (n m i : Nat) (v : Bl), i + m = 12 → m < n →
    l_99_13 (R := R) 1301 n (((), (), (List.range 16).map g, (), (), (i : Int), ()), (a, z, v, plF, ())) κ = κ (((), (), (), ()), (a, z, rndsF g m i v, ()))
  | 0, m, i, v, h1, h2 => by omega
  | n + 1, 0, i, v, h1, h2 => by
    unfold l_99_13 B_99_13 C_99_13
    try dsimp only
    rw [bif_f (dF (show ¬ (i : Int) < 12 by omega))]
    rfl
  | n + 1, m + 1, i, v, h1, h2 => by
    unfold l_99_13 B_99_13 C_99_13
    try dsimp only
    have e3 : addA .i64 (i : Int) 1 = ((i + 1 : Nat) : Int) := by rw [add64 (by omega) (by omega)]; simp
    rw [bif_t (dT (show (i : Int) < 12 by omega)), p108i (by omega)]
    try dsimp only
    rw [ten_all (l99i g a z v (i : Int) _) (Int.emod_nonneg _ (by decide)) (Int.emod_lt_of_pos _ (by decide))]
    try dsimp only
    rw [e3]
    exact l99o g a z κ n m (i + 1) _ (by omega) (by omega)
def outQ (a v : Bl) : Bl := upd (upd (upd (upd (upd (upd (upd (upd a 0 (xorA .u64 (a 0) (xorA .u64 (v 0) (v 8)))) 1 (xorA .u64 (a 1) (xorA .u64 (v 1) (v 9)))) 2 (xorA .u64 (a 2) (xorA .u64 (v 2) (v 10)))) 3 (xorA .u64 (a 3) (xorA .u64 (v 3) (v 11)))) 4 (xorA .u64 (a 4) (xorA .u64 (v 4) (v 12)))) 5 (xorA .u64 (a 5) (xorA .u64 (v 5) (v 13)))) 6 (xorA .u64 (a 6) (xorA .u64 (v 6) (v 14)))) 7 (xorA .u64 (a 7) (xorA .u64 (v 7) (v 15)))
theorem l99x {R : Type} (a z v : Bl) (κ) : l_99_24 (R := R) 1301 1301 (((), (), (), 0, ()), (a, z, v, ())) κ = κ (((), (), ()), (outQ a v, z, ())) := by kernel_rfl
def wF (f : Bl) (i : Nat) : Nat → Int
  | 0 => 0
  | k + 1 => orA .u64 (wF f i k) (shlA .u64 (IntKind.wrap .u64 (f (8 * i + k))) ((8 * k : Nat) : Int))
def wR (f : Bl) (i : Nat) : Nat → Int
  | 0 => 0
  | n + 1 => addA .u64 (mulA .u64 256 (wR f i n)) (IntKind.wrap .u64 (f (8 * i + (7 - n))))
theorem p84 {R : Type} (f : Bl) (κ) : p_84 (R := R) 1301 (((List.range 128).map f, ()), ()) κ = κ (((List.range 16).map (fun i => wF f i 8), (0, ())), ()) := by kernel_rfl
theorem p85 {R : Type} (f : Bl) (κ) : p_85 (R := R) 1301 (((), 8, ()), ((List.range 128).map f, ())) κ = κ (((List.range 16).map (fun i => wR f i 8), (true, ())), ((List.range 128).map f, ())) := by kernel_rfl
def By (f : Bl) : Prop := ∀ j, 0 ≤ f j ∧ f j < 256
theorem or_step {a b : Int} {n : Nat} (ha0 : 0 ≤ a) (ha : a < 2 ^ n) (hb0 : 0 ≤ b) (hb : b < 256) (hn : n ≤ 56) : orA .u64 a (shlA .u64 (IntKind.wrap .u64 b) (n : Int)) = b * 2 ^ n + a := by
  obtain ⟨x, rfl⟩ := Int.eq_ofNat_of_zero_le ha0
  obtain ⟨y, rfl⟩ := Int.eq_ofNat_of_zero_le hb0
  have pn : ((2 : Int) ^ n) = ((2 ^ n : Nat) : Int) := by simp
  have hx : x < 2 ^ n := by rw [pn] at ha; omega
  have hp : 2 ^ n ≤ 2 ^ 56 := Nat.pow_le_pow_right (by decide) hn
  have hy : y < 256 := by omega
  have h1 : y * 2 ^ n + x < 2 ^ 64 := by
    have : (y + 1) * 2 ^ n ≤ 256 * 2 ^ 56 := Nat.mul_le_mul (by omega) hp
    rw [Nat.add_mul] at this
    omega
  have h2 : y * 2 ^ n < 2 ^ 64 := by omega
  have h3 : x < 2 ^ 64 := by omega
  have w1 : IntKind.wrap .u64 (y : Int) = (y : Int) := by rw [wrapU64]; omega
  have s2 : shlA .u64 (y : Int) (n : Int) = ((y * 2 ^ n : Nat) : Int) := by
    unfold shlA
    rw [show ((n : Int)).toNat = n by omega, show min n IntKind.u64.bits = n from Nat.min_eq_left (by show n ≤ 64; omega), pn, wrapU64, ← Int.natCast_mul, nat_mod h2]
  rw [w1, s2]
  unfold orA
  rw [wrapU64, BitVec.toNat_or]
  have b1 : (BitVec.ofInt IntKind.u64.bits (x : Int)).toNat = x := by
    show (BitVec.ofInt 64 _).toNat = _
    rw [BitVec.toNat_ofInt]; show ((x : Int) % 18446744073709551616).toNat = _; rw [nat_mod h3]; rfl
  have b2 : (BitVec.ofInt IntKind.u64.bits ((y * 2 ^ n : Nat) : Int)).toNat = y * 2 ^ n := by
    show (BitVec.ofInt 64 _).toNat = _
    rw [BitVec.toNat_ofInt]; show (((y * 2 ^ n : Nat) : Int) % 18446744073709551616).toNat = _; rw [nat_mod h2]; rfl
  rw [b1, b2, or_disj hx, nat_mod h1, pn]
  simp
theorem add_step {w b : Int} (h0 : 0 ≤ w) (h1 : w < 72057594037927936) (hb0 : 0 ≤ b) (hb : b < 256) : addA .u64 (mulA .u64 256 w) (IntKind.wrap .u64 b) = 256 * w + b := by
  have w1 : IntKind.wrap .u64 b = b := by rw [wrapU64]; omega
  rw [w1, mulU64 (by omega) (by omega), addU64 (by omega) (by omega)]
theorem word_eq {f : Bl} (h : By f) (i : Nat) : wR f i 8 = wF f i 8 := by
  have b0 := h (8 * i); have b1 := h (8 * i + 1); have b2 := h (8 * i + 2); have b3 := h (8 * i + 3); have b4 := h (8 * i + 4); have b5 := h (8 * i + 5); have b6 := h (8 * i + 6); have b7 := h (8 * i + 7)
  have f1 : wF f i 1 = f (8 * i) := by
    show orA .u64 0 (shlA .u64 (IntKind.wrap .u64 (f (8 * i))) ((0 : Nat) : Int)) = _
    rw [or_step (by omega) (by decide) b0.1 b0.2 (by decide)]; omega
  have f2 : wF f i 2 = f (8 * i + 1) * 2 ^ 8 + wF f i 1 := or_step (a := wF f i 1) (b := f (8 * i + 1)) (n := 8) (by omega) (by omega) b1.1 b1.2 (by decide)
  have f3 : wF f i 3 = f (8 * i + 2) * 2 ^ 16 + wF f i 2 := or_step (a := wF f i 2) (b := f (8 * i + 2)) (n := 16) (by omega) (by omega) b2.1 b2.2 (by decide)
  have f4 : wF f i 4 = f (8 * i + 3) * 2 ^ 24 + wF f i 3 := or_step (a := wF f i 3) (b := f (8 * i + 3)) (n := 24) (by omega) (by omega) b3.1 b3.2 (by decide)
  have f5 : wF f i 5 = f (8 * i + 4) * 2 ^ 32 + wF f i 4 := or_step (a := wF f i 4) (b := f (8 * i + 4)) (n := 32) (by omega) (by omega) b4.1 b4.2 (by decide)
  have f6 : wF f i 6 = f (8 * i + 5) * 2 ^ 40 + wF f i 5 := or_step (a := wF f i 5) (b := f (8 * i + 5)) (n := 40) (by omega) (by omega) b5.1 b5.2 (by decide)
  have f7 : wF f i 7 = f (8 * i + 6) * 2 ^ 48 + wF f i 6 := or_step (a := wF f i 6) (b := f (8 * i + 6)) (n := 48) (by omega) (by omega) b6.1 b6.2 (by decide)
  have f8 : wF f i 8 = f (8 * i + 7) * 2 ^ 56 + wF f i 7 := or_step (a := wF f i 7) (b := f (8 * i + 7)) (n := 56) (by omega) (by omega) b7.1 b7.2 (by decide)
  have g1 : wR f i 1 = 256 * 0 + f (8 * i + 7) := add_step (w := 0) (b := f (8 * i + 7)) (by decide) (by decide) b7.1 b7.2
  have g2 : wR f i 2 = 256 * wR f i 1 + f (8 * i + 6) := add_step (w := wR f i 1) (b := f (8 * i + 6)) (by omega) (by omega) b6.1 b6.2
  have g3 : wR f i 3 = 256 * wR f i 2 + f (8 * i + 5) := add_step (w := wR f i 2) (b := f (8 * i + 5)) (by omega) (by omega) b5.1 b5.2
  have g4 : wR f i 4 = 256 * wR f i 3 + f (8 * i + 4) := add_step (w := wR f i 3) (b := f (8 * i + 4)) (by omega) (by omega) b4.1 b4.2
  have g5 : wR f i 5 = 256 * wR f i 4 + f (8 * i + 3) := add_step (w := wR f i 4) (b := f (8 * i + 3)) (by omega) (by omega) b3.1 b3.2
  have g6 : wR f i 6 = 256 * wR f i 5 + f (8 * i + 2) := add_step (w := wR f i 5) (b := f (8 * i + 2)) (by omega) (by omega) b2.1 b2.2
  have g7 : wR f i 7 = 256 * wR f i 6 + f (8 * i + 1) := add_step (w := wR f i 6) (b := f (8 * i + 1)) (by omega) (by omega) b1.1 b1.2
  have g8 : wR f i 8 = 256 * wR f i 7 + f (8 * i) := add_step (w := wR f i 7) (b := f (8 * i)) (by omega) (by omega) b0.1 b0.2
  omega
def stR (v : Bl) (i j k l : Nat) (x y : Int) : Bl :=
  let q := qR (ar4 (v i) (v j) (v k) (v l)) x y
  upd (upd (upd (upd v i (q 0)) j (q 1)) k (q 2)) l (q 3)
def rndR (v x : Bl) : Bl := stR (stR (stR (stR (stR (stR (stR (stR v 0 4 8 12 (x 0) (x 1)) 1 5 9 13 (x 2) (x 3)) 2 6 10 14 (x 4) (x 5)) 3 7 11 15 (x 6) (x 7)) 0 5 10 15 (x 8) (x 9)) 1 6 11 12 (x 10) (x 11)) 2 7 8 13 (x 12) (x 13)) 3 4 9 14 (x 14) (x 15)
theorem stR_eq (v : Bl) (i j k l : Nat) (x y : Int) : stR v i j k l x y = stQ v i j k l x y := by
  obtain ⟨h1, h2, h3, h4⟩ := qR_eq (v i) (v j) (v k) (v l) x y
  unfold stR stQ
  dsimp only
  rw [h1, h2, h3, h4]
theorem rndR_eq (v x : Bl) : rndR v x = rnd v x := by
  unfold rndR rnd
  simp only [stR_eq]
theorem l102i {R : Type} (g a z v : Bl) (u : Int) (κ) : ten fun r =>
    l_102_16 (R := R) 1301 1301 (((), (), (List.range 16).map g, (), u, (), 0, ()), (a, z, v, ordR r, ())) κ =
      κ (((), (), (List.range 16).map g, (), u, ()), (a, z, rndR v (sel (ordR r) g), ())) := by
  refine ten_mk ?_ ?_ ?_ ?_ ?_ ?_ ?_ ?_ ?_ ?_ <;> kernel_rfl
theorem rnd_ext (v : Bl) {x y : Bl} (h : ∀ j, j < 16 → x j = y j) : rnd v x = rnd v y := by
  unfold rnd
  rw [h 0 (by decide), h 1 (by decide), h 2 (by decide), h 3 (by decide), h 4 (by decide), h 5 (by decide), h 6 (by decide), h 7 (by decide), h 8 (by decide), h 9 (by decide), h 10 (by decide), h 11 (by decide), h 12 (by decide), h 13 (by decide), h 14 (by decide), h 15 (by decide)]
theorem sel_eq {r : Int} (h1 : 0 ≤ r) (h2 : r < 10) (g v : Bl) : rnd v (sel (ordR r) g) = rnd v (sel (ordF r) g) :=
  rnd_ext v fun j hj => by
    have := schEq_arr.1 (ten_all ord_eq h1 h2) j hj
    unfold sel
    rw [this]
theorem l102o {R : Type} (g a z : Bl) (κ) : ∀ (n m i : Nat) (v : Bl), i + m = 12 → m < n →
    l_102_12 (R := R) 1301 n (((), (), (List.range 16).map g, (), (i : Int), ()), (a, z, v, ())) κ = κ (((), (), (), ()), (a, z, rndsF g m i v, ()))
  | 0, m, i, v, h1, h2 => by omega
  | n + 1, 0, i, v, h1, h2 => by
    unfold l_102_12 B_102_12 C_102_12
    try dsimp only
    rw [bif_f (dF (show ¬ (i : Int) < 12 by omega))]
    rfl
  | n + 1, m + 1, i, v, h1, h2 => by
    unfold l_102_12 B_102_12 C_102_12
    try dsimp only
    have e3 : addA .i64 (i : Int) 1 = ((i + 1 : Nat) : Int) := by rw [add64 (by omega) (by omega)]; simp
    rw [bif_t (dT (show (i : Int) < 12 by omega)), p110i (by omega)]
    try dsimp only
    rw [ten_all (l102i g a z v (i : Int) _) (Int.emod_nonneg _ (by decide)) (Int.emod_lt_of_pos _ (by decide))]
    try dsimp only
    rw [e3, rndR_eq, sel_eq (Int.emod_nonneg _ (by decide)) (Int.emod_lt_of_pos _ (by decide))]
    exact l102o g a z κ n m (i + 1) _ (by omega) (by omega)
def outR (a v : Bl) : Bl := upd (upd (upd (upd (upd (upd (upd (upd a 0 (xorA .u64 (xorA .u64 (a 0) (v 0)) (v 8))) 1 (xorA .u64 (xorA .u64 (a 1) (v 1)) (v 9))) 2 (xorA .u64 (xorA .u64 (a 2) (v 2)) (v 10))) 3 (xorA .u64 (xorA .u64 (a 3) (v 3)) (v 11))) 4 (xorA .u64 (xorA .u64 (a 4) (v 4)) (v 12))) 5 (xorA .u64 (xorA .u64 (a 5) (v 5)) (v 13))) 6 (xorA .u64 (xorA .u64 (a 6) (v 6)) (v 14))) 7 (xorA .u64 (xorA .u64 (a 7) (v 7)) (v 15))
theorem l102x {R : Type} (a z v : Bl) (κ) : l_102_25 (R := R) 1301 1301 (((), (), (), 0, ()), (a, z, v, ())) κ = κ (((), (), ()), (outR a v, z, ())) := by kernel_rfl
theorem outR_eq {a v : Bl} (ha : ∀ j, j < 8 → W (a j)) (hv : ∀ j, W (v j)) : outR a v = outQ a v := by
  have h : ∀ j k m, j < 8 → xorA .u64 (xorA .u64 (a j) (v k)) (v m) = xorA .u64 (a j) (xorA .u64 (v k) (v m)) := fun j k m hj => xor_assoc _ _ _ (ha j hj) (hv k) (hv m)
  unfold outR outQ
  rw [h 0 0 8 (by decide), h 1 1 9 (by decide), h 2 2 10 (by decide), h 3 3 11 (by decide), h 4 4 12 (by decide), h 5 5 13 (by decide), h 6 6 14 (by decide), h 7 7 15 (by decide)]
theorem upd_W {v : Bl} (h : ∀ j, W (v j)) (i : Nat) {x : Int} (hx : W x) : ∀ j, W (upd v i x j) := fun j => by rw [upd_if]; split; exact hx; exact h j
theorem stQ_W {v : Bl} (h : ∀ j, W (v j)) (i j k l : Nat) (x y : Int) : ∀ m, W (stQ v i j k l x y m) := by
  obtain ⟨h1, h2, h3, h4⟩ := qF_W (v i) (v j) (v k) (v l) x y
  exact upd_W (upd_W (upd_W (upd_W h i h1) j h2) k h3) l h4
theorem rnd_W {v : Bl} (h : ∀ j, W (v j)) (x : Bl) : ∀ m, W (rnd v x m) :=
  stQ_W (stQ_W (stQ_W (stQ_W (stQ_W (stQ_W (stQ_W (stQ_W h _ _ _ _ _ _) _ _ _ _ _ _) _ _ _ _ _ _) _ _ _ _ _ _) _ _ _ _ _ _) _ _ _ _ _ _) _ _ _ _ _ _) _ _ _ _ _ _
theorem rndsF_W (g : Bl) : ∀ (n i : Nat) (v : Bl), (∀ j, W (v j)) → ∀ m, W (rndsF g n i v m)
  | 0, i, v, h => h
  | n + 1, i, v, h => rndsF_W g n (i + 1) _ (rnd_W h _)
def ivF : Bl := (p_97 (R := Bl) 1301 ((), ()) some).getD nulB
theorem p97 {R : Type} (κ : Bl → Option R) : p_97 1301 ((), ()) κ = κ ivF := by kernel_rfl
theorem ivF_W {j : Nat} (hj : j < 8) : W (ivF j) := by
  have h : (List.range 8).all (fun j => decide (0 ≤ ivF j) && decide (ivF j < 18446744073709551616)) = true := by kernel_rfl
  have := List.all_eq_true.1 h j (List.mem_range.2 hj)
  rw [Bool.and_eq_true] at this
  exact ⟨of_decide_eq_true this.1, of_decide_eq_true this.2⟩
def v0F (h : Bl) : Bl := copyF (copyF (Sch.zero (.arr 16 (.int .u64))) 0 (Nat.min 8 8) ((List.range 8).map fun j => h (0 + j)) (Sch.zero (.int .u64))) 8 (Nat.min 8 8) ((List.range 8).map fun j => ivF (0 + j)) (Sch.zero (.int .u64))
def initF (h : Bl) (n : Int) (last : Bool) : Bl :=
  let v := upd (v0F h) 12 (xorA .u64 (v0F h 12) n)
  bif last then upd v 14 (xorA .u64 18446744073709551615 (v 14)) else v
def compF (h f : Bl) (n : Int) (last : Bool) : Bl := outQ h (rndsF (fun i => wF f i 8) 12 0 (initF h n last))
theorem p99q {R : Type} (q45 : Tp_84 R) (q15 : Tp_97 R) (q46 : Tp_107 R) (q17 : Tp_109 R) (q19 : Tp_108 R) (m17 : Tl_99_17 R) (L : Tl_99_13 R) (L2 : Tl_99_24 R) (h f : Bl) (n : Int) (last : Bool) (κ : Bl × (Int × Unit) → Option R)
    (h45 : ∀ κ, q45 (((List.range 128).map f, ()), ()) κ = κ (((List.range 16).map (fun i => wF f i 8), (0, ())), ())) (h15 : q15 = fun _ κ => κ ivF) (h46 : q46 = fun _ κ => κ plF) :
    Q_99 q45 q15 q46 q17 q19 m17 L L2 ((h, (List.range 128).map f, n, last, ()), ()) κ =
      L (((), (), (List.range 16).map (fun i => wF f i 8), (), (), 0, ()), (h, Sch.zero (.arr 8 (.int .u64)), initF h n last, plF, ())) (fun y => L2 (((), (), (), 0, ()), (y.2.1, y.2.2.1, y.2.2.2.1, ())) (fun y => κ (y.2.1, (0, ())))) := by
  subst h15 h46
  unfold Q_99
  dsimp only
  rw [List.length_map, List.length_range, bif_f (show (((128 : Nat) : Int) != 128) = false from rfl), h45]
  cases last <;> kernel_rfl
theorem p99 {R : Type} (h f : Bl) (n : Int) (last : Bool) (κ) : p_99 (R := R) 1301 ((h, (List.range 128).map f, n, last, ()), ()) κ = κ (compF h f n last, (0, ())) := by
  have key := p99q (R := R) (p_84 1301) (p_97 1301) (p_107 1301) (p_109 1301) (p_108 1301) (l_99_17 1301 1301) (l_99_13 1301 1301) (l_99_24 1301 1301) h f n last κ (p84 f) (funext fun x => funext fun κ => p97 κ) (funext fun x => funext fun κ => p107 κ)
  refine Eq.trans ?_ (key.trans ?_)
  · kernel_rfl
  refine (l99o (fun i => wF f i 8) h _ _ 1301 12 0 _ rfl (by decide)).trans ?_
  dsimp only
  rw [l99x]
  rfl
def v0R (f0 h : Bl) : Bl := upd (upd (upd (upd (upd (upd (upd (upd (upd (upd (upd (upd (upd (upd (upd (upd (Sch.zero (.arr 16 (.int .u64))) 0 (h 0)) 8 (f0 0)) 1 (h 1)) 9 (f0 1)) 2 (h 2)) 10 (f0 2)) 3 (h 3)) 11 (f0 3)) 4 (h 4)) 12 (f0 4)) 5 (h 5)) 13 (f0 5)) 6 (h 6)) 14 (f0 6)) 7 (h 7)) 15 (f0 7)
theorem l102j {R : Type} (f0 h z : Bl) (m : List Int) (n : Int) (last : Bool) (κ) : l_102_4 (R := R) 1301 1301 ((n, last, (), (), (), m, (), 0, ()), (f0, h, z, Sch.zero (.arr 16 (.int .u64)), ())) κ = κ ((n, last, (), (), m, (), ()), (h, z, v0R f0 h, ())) := by kernel_rfl
theorem v0R_eq {f0 h : Bl} (hf : ∀ j, j < 8 → f0 j = ivF j) : v0R f0 h = v0F h := by
  funext j
  by_cases hj : j < 16
  · have : j = 0 ∨ j = 1 ∨ j = 2 ∨ j = 3 ∨ j = 4 ∨ j = 5 ∨ j = 6 ∨ j = 7 ∨ j = 8 ∨ j = 9 ∨ j = 10 ∨ j = 11 ∨ j = 12 ∨ j = 13 ∨ j = 14 ∨ j = 15 := by omega
    rcases this with e | e | e | e | e | e | e | e | e | e | e | e | e | e | e | e <;> subst e
    · rfl
    · rfl
    · rfl
    · rfl
    · rfl
    · rfl
    · rfl
    · rfl
    · exact hf 0 (by decide)
    · exact hf 1 (by decide)
    · exact hf 2 (by decide)
    · exact hf 3 (by decide)
    · exact hf 4 (by decide)
    · exact hf 5 (by decide)
    · exact hf 6 (by decide)
    · exact hf 7 (by decide)
  · have e1 : v0R f0 h j = 0 := by
      unfold v0R
      rw [upd_other _ _ (by omega), upd_other _ _ (by omega), upd_other _ _ (by omega), upd_other _ _ (by omega), upd_other _ _ (by omega), upd_other _ _ (by omega), upd_other _ _ (by omega), upd_other _ _ (by omega), upd_other _ _ (by omega), upd_other _ _ (by omega), upd_other _ _ (by omega), upd_other _ _ (by omega), upd_other _ _ (by omega), upd_other _ _ (by omega), upd_other _ _ (by omega), upd_other _ _ (by omega)]
      rfl
    have b1 : Nat.blt j (8 + Nat.min 8 8) = false := by
      cases hq : Nat.blt j (8 + Nat.min 8 8) with
      | false => rfl
      | true => have : j < 16 := Nat.blt_eq.mp hq; omega
    have b2 : Nat.blt j (0 + Nat.min 8 8) = false := by
      cases hq : Nat.blt j (0 + Nat.min 8 8) with
      | false => rfl
      | true => have : j < 8 := Nat.blt_eq.mp hq; omega
    rw [e1]
    unfold v0F copyF
    rw [b1, b2, Bool.and_false, Bool.and_false]
    rfl
theorem v0F_W {h : Bl} (hW : ∀ j, j < 8 → W (h j)) (j : Nat) : W (v0F h j) := by
  by_cases hj : j < 16
  · have : j = 0 ∨ j = 1 ∨ j = 2 ∨ j = 3 ∨ j = 4 ∨ j = 5 ∨ j = 6 ∨ j = 7 ∨ j = 8 ∨ j = 9 ∨ j = 10 ∨ j = 11 ∨ j = 12 ∨ j = 13 ∨ j = 14 ∨ j = 15 := by omega
    rcases this with e | e | e | e | e | e | e | e | e | e | e | e | e | e | e | e <;> subst e
    · exact hW 0 (by decide)
    · exact hW 1 (by decide)
    · exact hW 2 (by decide)
    · exact hW 3 (by decide)
    · exact hW 4 (by decide)
    · exact hW 5 (by decide)
    · exact hW 6 (by decide)
    · exact hW 7 (by decide)
    · exact ivF_W (j := 0) (by decide)
    · exact ivF_W (j := 1) (by decide)
    · exact ivF_W (j := 2) (by decide)
    · exact ivF_W (j := 3) (by decide)
    · exact ivF_W (j := 4) (by decide)
    · exact ivF_W (j := 5) (by decide)
    · exact ivF_W (j := 6) (by decide)
    · exact ivF_W (j := 7) (by decide)
  · have b1 : Nat.blt j (8 + Nat.min 8 8) = false := by
      cases hq : Nat.blt j (8 + Nat.min 8 8) with
      | false => rfl
      | true => have : j < 16 := Nat.blt_eq.mp hq; omega
    have b2 : Nat.blt j (0 + Nat.min 8 8) = false := by
      cases hq : Nat.blt j (0 + Nat.min 8 8) with
      | false => rfl
      | true => have : j < 8 := Nat.blt_eq.mp hq; omega
    unfold v0F copyF
    rw [b1, b2, Bool.and_false, Bool.and_false]
    exact W_zero
theorem initF_W {h : Bl} (hW : ∀ j, j < 8 → W (h j)) (n : Int) (last : Bool) : ∀ j, W (initF h n last j) := by
  unfold initF
  cases last with
  | false => exact upd_W (v0F_W hW) 12 (W_xor _ _)
  | true => exact upd_W (upd_W (v0F_W hW) 12 (W_xor _ _)) 14 (W_xor _ _)
theorem ones (h : Bl) (x : Int) : subA .u64 18446744073709551615 (upd (v0F h) 12 x 14) = xorA .u64 18446744073709551615 (upd (v0F h) 12 x 14) := by
  have e : upd (v0F h) 12 x 14 = 2270897969802886507 := by kernel_rfl
  rw [e]
  exact (show subA .u64 18446744073709551615 2270897969802886507 = xorA .u64 18446744073709551615 2270897969802886507 by kernel_rfl)
theorem p102 {R : Type} (f0 h f : Bl) (s : ByteArray) (n : Int) (last : Bool) (hs : strList s = (List.range 128).map f) (hf : ∀ j, j < 8 → f0 j = ivF j) (hW : ∀ j, j < 8 → W (h j)) (hB : By f) (κ) :
    p_102 (R := R) 1301 ((f0, h, s, n, last, ()), ()) κ = κ (compF h f n last) := by
  have hsz : s.size = 128 := by rw [strList_size, hs, List.length_map, List.length_range]
  have hw : (fun i => wR f i 8) = (fun i => wF f i 8) := funext fun i => word_eq hB i
  unfold p_102 Q_102
  dsimp only
  rw [hsz, bif_t (dT (show 128 ≤ maxI64 by unfold maxI64; omega)), hs, p85, hw]
  dsimp only
  rw [l102j]
  dsimp only
  rw [v0R_eq hf]
  have fin : ∀ last, l_102_12 (R := R) 1301 1301 (((), (), (List.range 16).map (fun i => wF f i 8), (), 0, ()), (h, Sch.zero (.arr 8 (.int .u64)), initF h n last, ())) (fun y => l_102_25 1301 1301 (((), (), (), 0, ()), (y.2.1, y.2.2.1, y.2.2.2.1, ())) (fun y => κ y.2.1)) = κ (compF h f n last) := by
    intro last
    refine (l102o (fun i => wF f i 8) h _ _ 1301 12 0 _ rfl (by decide)).trans ?_
    dsimp only
    rw [l102x]
    dsimp only
    rw [outR_eq hW (rndsF_W _ _ _ _ (initF_W hW n last))]
    rfl
  have i0 : initF h n false = upd (v0F h) 12 (xorA .u64 (v0F h 12) n) := rfl
  have i1 : initF h n true = upd (upd (v0F h) 12 (xorA .u64 (v0F h 12) n)) 14 (xorA .u64 18446744073709551615 (upd (v0F h) 12 (xorA .u64 (v0F h 12) n) 14)) := rfl
  cases last with
  | false =>
    have := fin false
    rw [i0] at this
    rw [bif_f rfl]
    exact this
  | true =>
    have := fin true
    rw [i1] at this
    rw [bif_t rfl, ones]
    exact this
theorem comp_W (h f : Bl) (n : Int) (last : Bool) : ∀ j, j < 8 → W (compF h f n last j) := by
  intro j hj
  unfold compF outQ
  simp only [upd_if]
  have : j = 0 ∨ j = 1 ∨ j = 2 ∨ j = 3 ∨ j = 4 ∨ j = 5 ∨ j = 6 ∨ j = 7 := by omega
  rcases this with e | e | e | e | e | e | e | e <;> subst e <;> exact W_xor _ _
theorem bytes128 {l : List Int} (h : l.length = 128) : l = (List.range 128).map fun j => l.getD j 0 := by
  apply List.ext_getElem
  · simp [h]
  · intro i h1 h2
    simp [h1]
def blk (l : List Int) : Bl := fun j => l.getD j 0
def By1 (l : List Int) : Prop := ∀ x ∈ l, 0 ≤ x ∧ x < 256
theorem blk_By {l : List Int} (h : By1 l) : By (blk l) := by
  intro j
  unfold blk
  by_cases hj : j < l.length
  · have := h l[j] (List.getElem_mem hj)
    simpa [List.getD_eq_getElem?_getD, hj] using this
  · simp [List.getD_eq_getElem?_getD, Nat.le_of_not_lt hj]
theorem p99b {R : Type} (h : Bl) (l : List Int) (hl : l.length = 128) (n : Int) (last : Bool) (κ) : p_99 (R := R) 1301 ((h, l, n, last, ()), ()) κ = κ (compF h (blk l) n last, (0, ())) := by
  have := p99 (R := R) h (blk l) n last κ
  unfold blk at this
  rwa [← bytes128 hl] at this
theorem p102b {R : Type} (f0 h : Bl) (s : ByteArray) (hs : (strList s).length = 128) (n : Int) (last : Bool) (hf : ∀ j, j < 8 → f0 j = ivF j) (hW : ∀ j, j < 8 → W (h j)) (κ) : p_102 (R := R) 1301 ((f0, h, s, n, last, ()), ()) κ = κ (compF h (blk (strList s)) n last) :=
  p102 f0 h (blk (strList s)) s n last (bytes128 hs) hf hW (blk_By (strList_rng s)) κ
def cutN : Nat → List Int → List (List Int) × List Int
  | 0, l => ([], l)
  | n + 1, l => if 128 < l.length then (l.take 128 :: (cutN n (l.drop 128)).1, (cutN n (l.drop 128)).2) else ([], l)
theorem cutN_fuel : ∀ (n m : Nat) (l : List Int), l.length ≤ 128 * n + 128 → l.length ≤ 128 * m + 128 → cutN n l = cutN m l
  | 0, 0, l, _, _ => rfl
  | 0, m + 1, l, h1, _ => by unfold cutN; rw [if_neg (by omega)]
  | n + 1, 0, l, _, h2 => by
    show (if 128 < l.length then _ else _) = _
    rw [if_neg (by omega)]
    rfl
  | n + 1, m + 1, l, h1, h2 => by
    unfold cutN
    by_cases h : 128 < l.length
    · rw [if_pos h, if_pos h, cutN_fuel n m (l.drop 128) (by simp; omega) (by simp; omega)]
    · rw [if_neg h, if_neg h]
def cut' (l : List Int) : List (List Int) × List Int := cutN l.length l
theorem cut_le {l : List Int} (h : l.length ≤ 128) : cut' l = ([], l) := cutN_fuel l.length 0 l (by omega) (by omega)
theorem cut_gt {l : List Int} (h : 128 < l.length) : cut' l = (l.take 128 :: (cut' (l.drop 128)).1, (cut' (l.drop 128)).2) := by
  unfold cut'
  rw [cutN_fuel l.length ((l.drop 128).length + 1) l (by omega) (by simp; omega)]
  show (if 128 < l.length then _ else _) = _
  rw [if_pos h]
theorem cut_app (m : List Int) : ∀ (n : Nat) (l : List Int), l.length ≤ n → cut' (l ++ m) = ((cut' l).1 ++ (cut' ((cut' l).2 ++ m)).1, (cut' ((cut' l).2 ++ m)).2)
  | n, l, hn => by
    by_cases h : 128 < l.length
    · match n, hn with
      | 0, hn => omega
      | n + 1, hn =>
        have ih := cut_app m n (l.drop 128) (by simp; omega)
        rw [cut_gt h, cut_gt (l := l ++ m) (by simp; omega), List.take_append_of_le_length (by omega), List.drop_append_of_le_length (by omega), ih]
        simp
    · rw [cut_le (l := l) (by omega)]
      simp
theorem cut_len : ∀ (n : Nat) (l : List Int), l.length ≤ n → (cut' l).1.length + (cut' l).2.length ≤ l.length ∧ (cut' l).2.length ≤ 128 ∧ 128 * (cut' l).1.length + (cut' l).2.length = l.length ∧ (∀ b ∈ (cut' l).1, b.length = 128) ∧ (128 * (cut' l).1.length ≤ l.length ∧ (cut' l).2 = l.drop (128 * (cut' l).1.length))
  | n, l, hn => by
    by_cases h : 128 < l.length
    · match n, hn with
      | 0, hn => omega
      | n + 1, hn =>
        obtain ⟨h1, h2, h3, h4, h5, h6⟩ := cut_len n (l.drop 128) (by simp; omega)
        rw [List.length_drop] at h1 h3 h5
        rw [cut_gt h]
        refine ⟨by simp; omega, h2, by simp; omega, fun b hb => ?_, by simp; omega, ?_⟩
        · rcases List.mem_cons.1 hb with rfl | hb
          · simp; omega
          · exact h4 b hb
        · show (cut' (l.drop 128)).2 = _
          rw [h6, List.drop_drop]
          congr 1
          simp; omega
    · rw [cut_le (l := l) (by omega)]
      exact ⟨by simp, by simp; omega, by simp, by simp, by simp, by simp⟩
def comps (a : Bl) (d : Int) : List (List Int) → Bl × Int
  | [] => (a, d)
  | b :: bs => comps (compF a (blk b) (addA .u64 d 128) false) (addA .u64 d 128) bs
theorem comps_W : ∀ (x : List (List Int)) (a : Bl) (d : Int), (∀ j, j < 8 → W (a j)) → ∀ j, j < 8 → W ((comps a d x).1 j)
  | [], a, d, h => h
  | b :: x, a, d, h => comps_W x _ _ (comp_W _ _ _ _)
theorem comps_d : ∀ (x : List (List Int)) (a : Bl) (d : Nat), d + 128 * x.length ≤ 1000000 → (comps a (d : Int) x).2 = ((d + 128 * x.length : Nat) : Int)
  | [], a, d, h => by simp [comps]
  | b :: x, a, d, h => by
    simp only [List.length_cons] at h
    unfold comps
    rw [addU64 (by omega) (by omega), show ((d : Int) + 128) = ((d + 128 : Nat) : Int) by simp, comps_d x _ (d + 128) (by omega)]
    simp; omega
abbrev Fd := Int × (Bool × (Unit × (Int × Unit)))
def fd (t : Int) : Fd := (128, (true, ((), (t, ()))))
theorem p106 {R : Type} (t : Int) (l : List Int) (κ) : p_106 (R := R) 1301 (((), ()), ((128, (true, ((), (t, ())))), l, ())) κ = κ (decide (128 < (l.length : Int))) := rfl
theorem l98i {R : Type} (P : List ByteArray) (u v t : Int) (κ) : ∀ (n : Nat) (l : List Int) (o : List (List Int)), l.length < 128 * n → l.length ≤ 10000 → o.length + l.length ≤ 20000 →
    l_98_v3_9 (R := R) 1301 n (((), (), P, u, v, ()), (fd t, l, o, ())) κ = κ (((), (), P, u, v, ()), (fd t, (cut' l).2, o ++ (cut' l).1, ()))
  | 0, l, o, h1, h2, h3 => by omega
  | n + 1, l, o, h1, h2, h3 => by
    unfold l_98_v3_9 B_98_v3_9 C_98_v3_9
    unfold fd
    try dsimp only
    rw [p106]
    by_cases hl : 128 < l.length
    · have t1 : List.take (Int.toNat 128 - 0) (List.drop 0 l) = l.take 128 := rfl
      have t2 : List.take (l.length - Int.toNat 128) (List.drop (Int.toNat 128) l) = l.drop 128 := by
        rw [List.take_of_length_le]; rfl
        simp
      rw [bif_t (dT (show (128 : Int) < (l.length : Int) by omega)), bif_t (dT (show (0 : Int) ≤ 128 by decide)), bif_t (dT (show (128 : Int) ≤ (l.length : Int) by omega)), bif_t (dT (show (0 : Int) ≤ 128 by decide)), t1, bif_t (dT (show (l.take 128).length * 1 ≤ 140737488355328 by simp; omega)),
        bif_t (show (decide ((o.length + [l.take 128].length) * 24 ≤ 140737488355328) && true) = true by simp; omega), bif_t (dT (show (0 : Int) ≤ (l.length : Int) by omega)), bif_t (dT (show (l.length : Int) ≤ (l.length : Int) by omega)), bif_t (dT (show (0 : Int) ≤ 128 by decide)), bif_t (dT (show (128 : Int) ≤ (l.length : Int) by omega)), t2]
      refine (l98i P u v t κ n (l.drop 128) (o ++ [l.take 128]) (by simp; omega) (by simp; omega) (by simp; omega)).trans ?_
      rw [cut_gt hl]
      unfold fd
      simp
    · rw [bif_f (dF (show ¬ (128 : Int) < (l.length : Int) by omega)), cut_le (by omega)]
      simp
def joinL (P : List ByteArray) : List Int := P.flatMap strList
theorem joinL_empty {P : List ByteArray} (h : ¬ 0 < P.length) : joinL P = [] := by
  have : P = [] := List.eq_nil_of_length_eq_zero (by omega)
  rw [this]; rfl
abbrev Hs := Unit × (Bl × (Int × (Int × Unit)))
def hs (a : Bl) (o d : Int) : Hs := ((), (a, (o, (d, ()))))
theorem l80 {R : Type} (bs : List (List Int)) (hbs : ∀ b ∈ bs, b.length = 128) (hl : bs.length ≤ 1300) (o t : Int) (r : List Int) (κ) : ∀ (n i : Nat) (a : Bl) (d : Int), i ≤ bs.length → bs.length - i < n →
    l_80_v5_4 (R := R) 1301 n (((), bs, (bs.length : Int), (i : Int), ()), (hs a o d, fd t, r, ())) κ = κ (((), ()), (hs (comps a d (bs.drop i)).1 o (comps a d (bs.drop i)).2, fd t, r, ()))
  | 0, i, a, d, h1, h2 => by omega
  | n + 1, i, a, d, h1, h2 => by
    show B_80_v5_4 1301 (fun y => l_80_v5_4 1301 n y κ) _ κ = _
    unfold B_80_v5_4 C_80_v5_4
    by_cases hi : i < bs.length
    · have hd : bs.drop i = bs[i] :: bs.drop (i + 1) := List.drop_eq_getElem_cons hi
      have hg : List.getD bs i (Sch.zero (.sl (.int .u8))) = bs[i] := by simp [hi]
      have e3 : addA .i64 (i : Int) 1 = ((i + 1 : Nat) : Int) := by rw [add64 (by omega) (by omega)]; simp
      unfold hs fd
      try dsimp only
      rw [bif_t (dT (show (i : Int) < (bs.length : Int) by omega)), bif_t (dT (show (0 : Int) ≤ (i : Int) by omega)), bif_t (dT (show (i : Int) < (bs.length : Int) by omega)), Int.toNat_natCast, hg, p99b _ _ (hbs _ (List.getElem_mem hi))]
      try dsimp only
      rw [e3, hd]
      exact l80 bs hbs hl o t r κ n (i + 1) _ _ (by omega) (by omega)
    · unfold hs fd
      try dsimp only
      rw [bif_f (dF (show ¬ (i : Int) < (bs.length : Int) by omega)), List.drop_eq_nil_of_le (by omega)]
      rfl
def addC (a : Bl) (d : Int) (l m : List Int) : Bl × Int := comps a d (cut' (l ++ m)).1
theorem put1 {R : Type} (s : ByteArray) (h : (strList s).length ≤ 128) (κ0 κ1) :
    ∃ t', p_98_v1 (R := R) 1301 (((), (), ()), (fd 0, [], [s], ())) κ0 κ1 = κ1 ([], (fd t', [s], strList s, ())) := by
  refine ⟨addA .i64 0 ((s.size : Nat) : Int), ?_⟩
  unfold p_98_v1 Q_98_v1 fd
  try dsimp only
  rw [bif_f (show ((128 : Int) == 0) = false from rfl)]
  have inner : ∀ (n : Nat) (u v t : Int) κ, l_98_v1_9 (R := R) 1301 (n + 1) (((), (), (), u, v, ()), ((128, (true, ((), (t, ())))), [s], strList s, [], ())) κ = κ (((), (), (), u, v, ()), ((128, (true, ((), (t, ())))), [s], strList s, [], ())) := by
    intro n u v t κ
    show B_98_v1_9 1301 (fun y => l_98_v1_9 1301 n y κ) _ κ = _
    unfold B_98_v1_9 C_98_v1_9
    try dsimp only
    rw [p106, bif_f (dF (show ¬ (128 : Int) < ((strList s).length : Int) by omega))]
  have step : ∀ (n : Nat) (t : Int) κ, l_98_v1_5 (R := R) 1301 (n + 2) (((), (), (), (([s].length : Nat) : Int), 0, ()), ((128, (true, ((), (t, ())))), [s], [], [], ())) κ = κ (((), (), ()), ((128, (true, ((), (addA .i64 t ((s.size : Nat) : Int), ())))), [s], strList s, [], ())) := by
    intro n t κ
    show B_98_v1_5 1301 (fun y => l_98_v1_5 1301 (n + 1) y κ) _ κ = _
    unfold B_98_v1_5 C_98_v1_5
    try dsimp only
    rw [bif_t (dT (show (0 : Int) < (([s].length : Nat) : Int) by simp)), bif_t (dT (show (0 : Int) ≤ 0 by decide)), bif_t (dT (show (0 : Int) < (([s].length : Nat) : Int) by simp)), show List.getD [s] (Int.toNat 0) (Sch.zero (.str)) = s from rfl, bif_t (show (decide ((List.length ([] : List Int) + (strList s).length) * 1 ≤ 140737488355328) && true) = true by simp; omega), List.nil_append]
    refine (inner 1300 _ _ _ _).trans ?_
    try dsimp only
    show B_98_v1_5 1301 (fun y => l_98_v1_5 1301 n y κ) _ κ = _
    unfold B_98_v1_5 C_98_v1_5
    try dsimp only
    rw [bif_f (dF (show ¬ addA .i64 0 1 < (([s].length : Nat) : Int) by rw [add64 (by decide) (by decide)]; simp))]
  refine (step 1299 0 _).trans ?_
  try dsimp only
  rw [bif_t (dT (show (strList s).length * 1 ≤ 140737488355328 by omega))]
theorem add1 {R : Type} (s : ByteArray) (h : (strList s).length ≤ 128) (a : Bl) (o d : Int) (κ) :
    ∃ t', p_80_v1 (R := R) 1301 (((), (), ()), (hs a o d, fd 0, [], [s], ())) κ = κ ((), (hs a o d, fd t', [s], strList s, ())) := by
  have le : ∀ (n : Nat) (x) κ, l_80_v1_4 (R := R) 1301 (n + 1) (((), [], (((List.length ([] : List (List Int)) : Nat) : Int)), 0, ()), x) κ = κ (((), ()), (((), (x.1.2.1, (x.1.2.2.1, (x.1.2.2.2.1, ())))), (x.2.1.1, (x.2.1.2.1, ((), (x.2.1.2.2.2.1, ())))), x.2.2.1, x.2.2.2.1, ())) := by
    intro n x κ
    show B_80_v1_4 1301 (fun y => l_80_v1_4 1301 n y κ) _ κ = _
    unfold B_80_v1_4 C_80_v1_4
    try dsimp only
    rw [bif_f (dF (show ¬ (0 : Int) < ((List.length ([] : List (List Int)) : Nat) : Int) by simp))]
  obtain ⟨t', ht⟩ := put1 (R := R) s h (fun _ => none) (fun y => l_80_v1_4 1301 1301 (((), y.1, ((y.1.length : Nat) : Int), 0, ()), (hs a o d, (y.2.1.1, (y.2.1.2.1, ((), (y.2.1.2.2.2.1, ())))), y.2.2.1, y.2.2.2.1, ())) (fun y => κ ((), (((), (y.2.1.2.1, (y.2.1.2.2.1, (y.2.1.2.2.2.1, ())))), (y.2.2.1.1, (y.2.2.1.2.1, ((), (y.2.2.1.2.2.2.1, ())))), y.2.2.2.1, y.2.2.2.2.1, ()))))
  refine ⟨t', Eq.trans ?_ (ht.trans ?_)⟩
  · unfold p_80_v1 Q_80_v1
    rfl
  · try dsimp only
    exact le 1300 _ _
def padL (r : List Int) : List Int := r ++ List.replicate (128 - r.length) 0
theorem padL_len {r : List Int} (h : r.length ≤ 128) : (padL r).length = 128 := by unfold padL; simp; omega
def leF (w : Bl) : List Int := (List.range 8).flatMap fun i => (List.range 8).map fun k => IntKind.wrap .u8 (shrA .u64 (w i) ((8 * k : Nat) : Int))
def dv (x : Int) : Nat → Int
  | 0 => x
  | k + 1 => quoA .u64 (dv x k) 256
def leR (w : Bl) : List Int := (List.range 8).flatMap fun i => (List.range 8).map fun k => IntKind.wrap .u8 (remA .u64 (dv (w i) k) 256)
theorem leF_len (w : Bl) : (leF w).length = 64 := rfl
theorem p83 {R : Type} (w : Bl) (κ) : p_83 (R := R) 1301 ((((List.range 8).map fun j => w (0 + j)), ()), ()) κ = κ ((), (leF w, ())) := by kernel_rfl
theorem l86x {R : Type} (w : Bl) (z : Int) (κ) : l_86_12 (R := R) 1301 1301 ((z, (), (), 0, ()), (w, [], ())) κ = κ ((z, (), ()), (leR w, ())) := by kernel_rfl
theorem quoU {a : Int} (h : W a) : quoA .u64 a 256 = a / 256 := by
  obtain ⟨h1, h2⟩ := h
  unfold quoA
  rw [Int.tdiv_eq_ediv_of_nonneg h1, wrapU64]
  omega
theorem quoU_W {a : Int} (h : W a) : W (a / 256) := by obtain ⟨h1, h2⟩ := h; exact ⟨by omega, by omega⟩
theorem le_byte {x : Int} (h : W x) {k : Nat} (hk : k < 8) : IntKind.wrap .u8 (remA .u64 (dv x k) 256) = IntKind.wrap .u8 (shrA .u64 x ((8 * k : Nat) : Int)) := by
  rw [shrU64 h.1 (by omega)]
  have d1 : dv x 1 = x / 256 := quoU h
  have w1 : W (x / 256) := quoU_W h
  have d2 : dv x 2 = x / 256 / 256 := by show quoA .u64 (dv x 1) 256 = _; rw [d1, quoU w1]
  have w2 := quoU_W w1
  have d3 : dv x 3 = x / 256 / 256 / 256 := by show quoA .u64 (dv x 2) 256 = _; rw [d2, quoU w2]
  have w3 := quoU_W w2
  have d4 : dv x 4 = x / 256 / 256 / 256 / 256 := by show quoA .u64 (dv x 3) 256 = _; rw [d3, quoU w3]
  have w4 := quoU_W w3
  have d5 : dv x 5 = x / 256 / 256 / 256 / 256 / 256 := by show quoA .u64 (dv x 4) 256 = _; rw [d4, quoU w4]
  have w5 := quoU_W w4
  have d6 : dv x 6 = x / 256 / 256 / 256 / 256 / 256 / 256 := by show quoA .u64 (dv x 5) 256 = _; rw [d5, quoU w5]
  have w6 := quoU_W w5
  have d7 : dv x 7 = x / 256 / 256 / 256 / 256 / 256 / 256 / 256 := by show quoA .u64 (dv x 6) 256 = _; rw [d6, quoU w6]
  have w7 := quoU_W w6
  have h0 := h.1
  have rm : ∀ y : Int, 0 ≤ y → IntKind.wrap .u8 (remA .u64 y 256) = y % 256 := fun y hy => by
    unfold remA
    rw [Int.tmod_eq_emod_of_nonneg hy, wrapU8]
    omega
  have : k = 0 ∨ k = 1 ∨ k = 2 ∨ k = 3 ∨ k = 4 ∨ k = 5 ∨ k = 6 ∨ k = 7 := by omega
  rcases this with e | e | e | e | e | e | e | e <;> subst e
  · rw [show dv x 0 = x from rfl, rm x h0, wrapU8]; show x % 256 = x / 1 % 256; omega
  · rw [d1, rm _ w1.1, wrapU8]; show x / 256 % 256 = x / 256 % 256; omega
  · rw [d2, rm _ w2.1, wrapU8]; show _ = x / 65536 % 256; omega
  · rw [d3, rm _ w3.1, wrapU8]; show _ = x / 16777216 % 256; omega
  · rw [d4, rm _ w4.1, wrapU8]; show _ = x / 4294967296 % 256; omega
  · rw [d5, rm _ w5.1, wrapU8]; show _ = x / 1099511627776 % 256; omega
  · rw [d6, rm _ w6.1, wrapU8]; show _ = x / 281474976710656 % 256; omega
  · rw [d7, rm _ w7.1, wrapU8]; show _ = x / 72057594037927936 % 256; omega
theorem leR_eq {w : Bl} (h : ∀ j, j < 8 → W (w j)) : leR w = leF w := by
  unfold leR leF
  rw [List.flatMap_def, List.flatMap_def]
  congr 1
  exact List.map_congr_left fun i hi => List.map_congr_left fun k hk => le_byte (h i (List.mem_range.1 hi)) (List.mem_range.1 hk)
def finF (a : Bl) (r : List Int) (n o : Int) : ByteArray := listStr ((leF (compF a (blk (padL r)) n true)).take o.toNat)
theorem p81 {R : Type} (a : Bl) (o d t : Int) (r : List Int) (hr : r.length ≤ 128) (h1 : 0 ≤ o) (h2 : o ≤ 64) (κ) :
    p_81_v2 (R := R) 1301 (((), ()), (hs a o d, fd t, r, ())) κ = κ (finF a r (addA .u64 d (r.length : Int)) o, (hs a o d, fd t, r, ())) := by
  have e1 : subA .i64 128 (r.length : Int) = ((128 - r.length : Nat) : Int) := by rw [sub64 (by omega) (by omega)]; omega
  have e2 : IntKind.wrap .u64 (r.length : Int) = (r.length : Int) := by rw [wrapU64]; omega
  have e3 : r ++ List.replicate (128 - r.length) (Sch.zero (.int .u8)) = padL r := rfl
  unfold p_81_v2 Q_81_v2 p_100_v1 Q_100_v1 hs fd
  try dsimp only
  rw [bif_t (dT (show r.length * 1 ≤ 140737488355328 by omega))]
  try dsimp only
  rw [e1, e2, Int.toNat_natCast, e3, bif_t (dT (show (0 : Int) ≤ ((128 - r.length : Nat) : Int) by omega)), bif_t (dT (show ((128 - r.length : Nat) : Int) ≤ 140737488355328 by omega)), bif_t (show (decide ((r.length + (List.replicate (128 - r.length) (Sch.zero (.int .u8))).length) * 1 ≤ 140737488355328) && true) = true by rw [List.length_replicate]; simp; omega), p99b _ _ (padL_len hr)]
  try dsimp only
  rw [p83]
  try dsimp only
  rw [leF_len, bif_t (dT h1), bif_t (dT (show o ≤ ((64 : Nat) : Int) by omega)), bif_t (dT h1)]
  rfl
theorem p101 : ∀ (n : Nat) (s : ByteArray), (strList s).length ≤ 128 → 128 - (strList s).length < n → ∃ s', strList s' = padL (strList s) ∧ ∀ {R : Type} (κ), l_101_1 (R := R) 1301 n ((s, 128, ()), ()) κ = κ ((s', ()), ())
  | 0, s, h1, h2 => by omega
  | n + 1, s, h1, h2 => by
    have hz := strList_size s
    by_cases h : (strList s).length < 128
    · have e0 : strList (s ++ ⟨#[0]⟩) = strList s ++ [0] := by rw [strList_app]; rfl
      obtain ⟨s', q1, q2⟩ := p101 n (s ++ ⟨#[0]⟩) (by rw [e0]; simp; omega) (by rw [e0]; simp; omega)
      refine ⟨s', ?_, fun κ => ?_⟩
      · rw [q1, e0]
        unfold padL
        rw [List.length_append, List.length_singleton, List.append_assoc]
        congr 1
        rw [show 128 - (strList s).length = (128 - ((strList s).length + 1)) + 1 by omega, List.replicate_succ]
        rfl
      · refine Eq.trans ?_ (q2 κ)
        show B_101_1 1301 (fun y => l_101_1 1301 n y κ) _ κ = _
        unfold B_101_1 C_101_1
        try dsimp only
        rw [bif_t (dT (show ((s.size : Nat) : Int) < 128 by omega)), bif_t (dT (show s.size + ByteArray.size ⟨#[0]⟩ ≤ maxI64 by show s.size + 1 ≤ maxI64; unfold maxI64; omega))]
    · refine ⟨s, ?_, fun κ => ?_⟩
      · unfold padL
        rw [show 128 - (strList s).length = 0 by omega]
        simp
      · show B_101_1 1301 (fun y => l_101_1 1301 n y κ) _ κ = _
        unfold B_101_1 C_101_1
        try dsimp only
        rw [bif_f (dF (show ¬ ((s.size : Nat) : Int) < 128 by omega))]
theorem l86 {R : Type} (T : ByteArray) (hL : (strList T).length ≤ 10000) (z : Int) (κ) : ∀ (n i : Nat) (a : Bl), (∀ j, j < 8 → W (a j)) → 128 * i ≤ (strList T).length → (strList T).length - 128 * i < 128 * n →
    l_86_6 (R := R) 1301 n ((z, T, (), (), ((128 * i : Nat) : Int), ()), (ivF, a, ())) κ =
      κ ((z, T, (), (), ((128 * (i + (cut' ((strList T).drop (128 * i))).1.length) : Nat) : Int), ()), (ivF, (comps a ((128 * i : Nat) : Int) (cut' ((strList T).drop (128 * i))).1).1, ()))
  | 0, i, a, h1, h2, h3 => by omega
  | n + 1, i, a, h1, h2, h3 => by
    have hz := strList_size T
    have e1 : subA .i64 ((T.size : Nat) : Int) ((128 * i : Nat) : Int) = (((strList T).length - 128 * i : Nat) : Int) := by rw [sub64 (by omega) (by omega)]; omega
    show B_86_6 1301 (fun y => l_86_6 1301 n y κ) _ κ = _
    unfold B_86_6 C_86_6
    try dsimp only
    rw [e1]
    by_cases h : 128 < (strList T).length - 128 * i
    · have hlen : 128 < ((strList T).drop (128 * i)).length := by rw [List.length_drop]; exact h
      have e2 : addA .i64 ((128 * i : Nat) : Int) 128 = ((128 * (i + 1) : Nat) : Int) := by rw [add64 (by omega) (by omega)]; omega
      have e3 : IntKind.wrap .u64 ((128 * (i + 1) : Nat) : Int) = ((128 * (i + 1) : Nat) : Int) := by rw [wrapU64]; omega
      have e4 : addA .u64 ((128 * i : Nat) : Int) 128 = ((128 * (i + 1) : Nat) : Int) := by rw [addU64 (by omega) (by omega)]; omega
      have e5 : strList (T.extract (128 * i) (128 * (i + 1))) = ((strList T).drop (128 * i)).take 128 := by
        rw [strList_ext, List.drop_take]
        congr 1
        omega
      rw [e2, e3, bif_t (dT (show (((strList T).length - 128 * i : Nat) : Int) > 128 by omega)), bif_t (dT (show (0 : Int) ≤ ((128 * (i + 1) : Nat) : Int) by omega)), bif_t (dT (show ((128 * (i + 1) : Nat) : Int) ≤ ((T.size : Nat) : Int) by omega)), bif_t (dT (show (0 : Int) ≤ ((128 * i : Nat) : Int) by omega)), bif_t (dT (show ((128 * i : Nat) : Int) ≤ ((128 * (i + 1) : Nat) : Int) by omega)), Int.toNat_natCast, Int.toNat_natCast,
        p102b ivF a _ (by rw [e5, List.length_take]; omega) _ _ (fun _ _ => rfl) h1, e5]
      try dsimp only
      rw [l86 T hL z κ n (i + 1) _ (comp_W _ _ _ _) (by omega) (by omega), cut_gt hlen, List.drop_drop, show 128 * i + 128 = 128 * (i + 1) by omega]
      show _ = κ ((z, T, (), (), ((128 * (i + ((cut' ((strList T).drop (128 * (i + 1)))).1.length + 1)) : Nat) : Int), ()), (ivF, (comps (compF a (blk (((strList T).drop (128 * i)).take 128)) (addA .u64 ((128 * i : Nat) : Int) 128) false) (addA .u64 ((128 * i : Nat) : Int) 128) (cut' ((strList T).drop (128 * (i + 1)))).1).1, ()))
      rw [e4, show i + ((cut' ((strList T).drop (128 * (i + 1)))).1.length + 1) = i + 1 + (cut' ((strList T).drop (128 * (i + 1)))).1.length by omega]
    · rw [bif_f (dF (show ¬ (((strList T).length - 128 * i : Nat) : Int) > 128 by omega)), cut_le (by rw [List.length_drop]; omega)]
      rfl
def keyL (k : List Int) : List Int := if k = [] then [] else padL k
def parF (n size : Int) : Int := xorA .u64 (xorA .u64 16842752 (shlA .u64 (IntKind.wrap .u64 n) 8)) (IntKind.wrap .u64 size)
def parR (n size : Int) : Int := addA .u64 (addA .u64 16842752 (mulA .u64 256 (IntKind.wrap .u64 n))) (IntKind.wrap .u64 size)
theorem par_all : (List.range 65).all (fun n => (List.range 65).all fun s => parF (n : Int) (s : Int) == parR (n : Int) (s : Int)) = true := by kernel_rfl
theorem par_eq {n : Nat} {size : Int} (hn : n ≤ 64) (h1 : 1 ≤ size) (h2 : size ≤ 64) : parF (n : Int) size = parR (n : Int) size := by
  obtain ⟨s, rfl⟩ := Int.eq_ofNat_of_zero_le (show 0 ≤ size by omega)
  have := List.all_eq_true.1 (List.all_eq_true.1 par_all n (List.mem_range.2 (by omega))) s (List.mem_range.2 (by omega))
  exact eq_of_beq (α := Int) this
def st0 (n size : Int) : Bl := upd ivF 0 (xorA .u64 (ivF 0) (parF n size))
theorem st0_W (n size : Int) : ∀ j, j < 8 → W (st0 n size j) := fun j hj => by
  unfold st0
  rw [upd_if]
  split
  · exact W_xor _ _
  · exact ivF_W hj
theorem p96 {R : Type} (κ0 κ1) : p_96 (R := R) 1301 ((128, true, ()), ()) κ0 κ1 = κ1 (((), (0, ())), (fd 0, [], ())) := by kernel_rfl
theorem eqS_nil (s : ByteArray) : eqS s ⟨#[]⟩ = decide (strList s = []) := by rw [eqS_dec]; rfl
theorem p79 {R : Type} (size : Int) (key : ByteArray) (h1 : 1 ≤ size) (h2 : size ≤ 64) (h3 : (strList key).length ≤ 64) (κ0 κ1 κ2) :
    ∃ t, p_79 (R := R) 1301 ((size, key, ()), ()) κ0 κ1 κ2 = κ2 (((), (0, ())), (hs (st0 ((key.size : Nat) : Int) size) size 0, fd t, keyL (strList key), ())) := by
  have hz := strList_size key
  by_cases hk : strList key = []
  · refine ⟨0, ?_⟩
    unfold p_79 Q_79
    try dsimp only
    rw [bif_f (dF (show ¬ size < 1 by omega)), bif_f (dF (show ¬ size > 64 by omega)), bif_f (dF (show ¬ ((key.size : Nat) : Int) > 64 by omega)), p96]
    try dsimp only
    rw [p97]
    try dsimp only
    rw [eqS_nil, bif_f (show (!decide (strList key = [])) = false by simp [hk])]
    unfold keyL
    rw [if_pos hk]
    rfl
  · have e1 : subA .i64 128 ((key.size : Nat) : Int) = ((128 - (strList key).length : Nat) : Int) := by rw [sub64 (by omega) (by omega)]; omega
    have e2 : strList (listStr (List.replicate (128 - (strList key).length) (Sch.zero (.int .u8)))) = List.replicate (128 - (strList key).length) 0 := by
      refine strList_mk _ fun x hx => ?_
      have : x = 0 := List.eq_of_mem_replicate hx
      omega
    have e3 : strList (key ++ listStr (List.replicate (128 - (strList key).length) (Sch.zero (.int .u8)))) = padL (strList key) := by rw [strList_app, e2]; rfl
    obtain ⟨t, ht⟩ := add1 (R := R) (key ++ listStr (List.replicate (128 - (strList key).length) (Sch.zero (.int .u8)))) (by rw [e3, padL_len (by omega)]; omega) (st0 ((key.size : Nat) : Int) size) size 0
      (fun y => κ2 (((), (0, ())), (((), (y.2.1.2.1, (y.2.1.2.2.1, (y.2.1.2.2.2.1, ())))), (y.2.2.1.1, (y.2.2.1.2.1, ((), (y.2.2.1.2.2.2.1, ())))), y.2.2.2.2.1, ())))
    refine ⟨t, Eq.trans ?_ (ht.trans ?_)⟩
    · unfold p_79 Q_79
      try dsimp only
      rw [bif_f (dF (show ¬ size < 1 by omega)), bif_f (dF (show ¬ size > 64 by omega)), bif_f (dF (show ¬ ((key.size : Nat) : Int) > 64 by omega)), p96]
      try dsimp only
      rw [p97]
      try dsimp only
      have hsz : (listStr (List.replicate (128 - (strList key).length) (Sch.zero (.int .u8)))).size = 128 - (strList key).length := by rw [strList_size, e2, List.length_replicate]
      rw [eqS_nil, bif_t (show (!decide (strList key = [])) = true by simp [hk]), e1, Int.toNat_natCast, bif_t (dT (show (0 : Int) ≤ ((128 - (strList key).length : Nat) : Int) by omega)), bif_t (dT (show ((128 - (strList key).length : Nat) : Int) ≤ ((128 - (strList key).length : Nat) : Int) by omega)), bif_t (dT (show ((1 : Nat) : Int) * ((128 - (strList key).length : Nat) : Int) ≤ 281474976710656 by omega)), bif_t (dT (show ((128 - (strList key).length : Nat) : Int) ≤ 9223372036854775807 by omega)), hsz, bif_t (dT (show key.size + (128 - (strList key).length) ≤ maxI64 by unfold maxI64; omega))]
      rfl
    · unfold keyL
      rw [if_neg hk, ← e3]
theorem cut_three (l : List Int) : (cut' l).2.length ≤ 128 ∧ 128 * (cut' l).1.length + (cut' l).2.length = l.length ∧ (cut' l).2 = l.drop (128 * (cut' l).1.length) := by
  obtain ⟨c1, c2, c3, c4, c5, c6⟩ := cut_len l.length l (Nat.le_refl _)
  exact ⟨c2, c3, c6⟩
def sumF (n size : Int) (l : List Int) : ByteArray := finF (comps (st0 n size) 0 (cut' l).1).1 (cut' l).2 (l.length : Int) size
theorem keyL_len {k : List Int} (h : k.length ≤ 64) : (keyL k).length ≤ 128 := by
  unfold keyL
  split
  · simp
  · rw [padL_len (by omega)]; omega
theorem p86 {R : Type} (size : Int) (key T : ByteArray) (h1 : 1 ≤ size) (h2 : size ≤ 64) (h3 : (strList key).length ≤ 64) (hb : (strList T).length ≤ 2000) (κ) :
    p_86 (R := R) 1301 ((ivF, size, key, T, ()), ()) κ = κ (sumF ((key.size : Nat) : Int) size (keyL (strList key) ++ strList T)) := by
  have hz := strList_size key
  have hzT := strList_size T
  have hst : upd ivF 0 (xorA .u64 (ivF 0) (addA .u64 (addA .u64 16842752 (mulA .u64 256 (IntKind.wrap .u64 ((key.size : Nat) : Int)))) (IntKind.wrap .u64 size))) = st0 ((key.size : Nat) : Int) size := by
    unfold st0
    rw [par_eq (by omega) h1 h2]
    rfl
  have fin : ∀ (V : ByteArray), (strList V).length ≤ 3000 → l_86_6 (R := R) 1301 1301 ((size, V, (), (), 0, ()), (ivF, st0 ((key.size : Nat) : Int) size, ())) (fun y =>
      bif decide (0 ≤ ((y.1.2.1.size : Nat) : Int)) then (bif decide (((y.1.2.1.size : Nat) : Int) ≤ ((y.1.2.1.size : Nat) : Int)) then (bif decide (0 ≤ y.1.2.2.2.2.1) then (bif decide (y.1.2.2.2.2.1 ≤ ((y.1.2.1.size : Nat) : Int)) then
        (p_101 1301 ((ByteArray.extract y.1.2.1 (Int.toNat y.1.2.2.2.2.1) y.1.2.1.size, 128, ()), ()) (fun s => p_102 1301 ((y.2.1, y.2.2.1, s, IntKind.wrap .u64 ((y.1.2.1.size : Nat) : Int), true, ()), ()) (fun w => l_86_12 1301 1301 ((y.1.1, (), (), 0, ()), (w, [], ())) (fun y =>
          bif decide (0 ≤ y.1.1) then (bif decide (y.1.1 ≤ (((List.length y.2.1) : Nat) : Int)) then (bif decide (0 ≤ y.1.1) then κ (listStr (List.take (Int.toNat y.1.1 - 0) (List.drop 0 y.2.1))) else none) else none) else none)))) else none) else none) else none) else none) = κ (sumF ((key.size : Nat) : Int) size (strList V)) := by
    intro V hV
    have hzV := strList_size V
    obtain ⟨c1, c2, c3⟩ := cut_three (strList V)
    have hWc := comps_W (cut' (strList V)).1 (st0 ((key.size : Nat) : Int) size) 0 (st0_W _ _)
    refine (l86 V (by omega) size _ 1301 0 (st0 ((key.size : Nat) : Int) size) (st0_W _ _) (by omega) (by omega)).trans ?_
    rw [Nat.mul_zero, List.drop_zero, Nat.zero_add, show ((0 : Nat) : Int) = 0 from rfl]
    try dsimp only
    have e1 : strList (V.extract (128 * (cut' (strList V)).1.length) V.size) = (cut' (strList V)).2 := by rw [strList_ext, hzV, List.take_length, ← c3]
    obtain ⟨s', q1, q2⟩ := p101 1301 (V.extract (128 * (cut' (strList V)).1.length) V.size) (by rw [e1]; exact c1) (by omega)
    rw [e1] at q1
    have e2 : p_101 (R := R) 1301 ((V.extract (128 * (cut' (strList V)).1.length) V.size, 128, ()), ()) = fun κ => κ s' := by
      funext κ
      unfold p_101 Q_101
      exact q2 _
    rw [bif_t (dT (show (0 : Int) ≤ ((V.size : Nat) : Int) by omega)), bif_t (dT (show ((V.size : Nat) : Int) ≤ ((V.size : Nat) : Int) by omega)), bif_t (dT (show (0 : Int) ≤ ((128 * (cut' (strList V)).1.length : Nat) : Int) by omega)), bif_t (dT (show ((128 * (cut' (strList V)).1.length : Nat) : Int) ≤ ((V.size : Nat) : Int) by omega)), Int.toNat_natCast, e2]
    try dsimp only
    rw [p102b ivF _ s' (by rw [q1, padL_len c1]) _ _ (fun _ _ => rfl) hWc, q1]
    try dsimp only
    rw [l86x]
    try dsimp only
    rw [leR_eq (comp_W _ _ _ _), leF_len, bif_t (dT (show 0 ≤ size by omega)), bif_t (dT (show size ≤ ((64 : Nat) : Int) by omega)), bif_t (dT (show 0 ≤ size by omega)), show IntKind.wrap .u64 ((V.size : Nat) : Int) = (((strList V).length : Nat) : Int) by rw [wrapU64]; omega]
    rfl
  unfold p_86 Q_86
  try dsimp only
  rw [hst, eqS_nil]
  by_cases hk : strList key = []
  · rw [bif_f (show (!decide (strList key = [])) = false by simp [hk])]
    have := fin T (by omega)
    rw [show keyL (strList key) ++ strList T = strList T by unfold keyL; rw [if_pos hk]; rfl]
    exact this
  · rw [bif_t (show (!decide (strList key = [])) = true by simp [hk])]
    obtain ⟨s', q1, q2⟩ := p101 1301 key (by omega) (by omega)
    have e2 : p_101 (R := R) 1301 ((key, 128, ()), ()) = fun κ => κ s' := by
      funext κ
      unfold p_101 Q_101
      exact q2 _
    have hs' := strList_size s'
    have hp := padL_len (r := strList key) (by omega)
    rw [q1] at hs'
    rw [e2]
    try dsimp only
    rw [bif_t (dT (show s'.size + T.size ≤ maxI64 by unfold maxI64; omega))]
    have := fin (s' ++ T) (by rw [strList_app, q1, List.length_append]; omega)
    rw [strList_app, q1] at this
    rw [show keyL (strList key) ++ strList T = padL (strList key) ++ strList T by unfold keyL; rw [if_neg hk]]
    exact this
theorem l98v {R : Type} (S : List ByteArray) (u v t : Int) (κ) : ∀ (n : Nat) (l : List Int) (o : List (List Int)), l.length < 128 * n → l.length ≤ 10000 → o.length + l.length ≤ 20000 →
    l_98_v1_9 (R := R) 1301 n (((), (), (), u, v, ()), (fd t, S, l, o, ())) κ = κ (((), (), (), u, v, ()), (fd t, S, (cut' l).2, o ++ (cut' l).1, ()))
  | 0, l, o, h1, h2, h3 => by omega
  | n + 1, l, o, h1, h2, h3 => by
    show B_98_v1_9 1301 (fun y => l_98_v1_9 1301 n y κ) _ κ = _
    unfold B_98_v1_9 C_98_v1_9
    unfold fd
    try dsimp only
    rw [p106]
    by_cases hl : 128 < l.length
    · have t1 : List.take (Int.toNat 128 - 0) (List.drop 0 l) = l.take 128 := rfl
      have t2 : List.take (l.length - Int.toNat 128) (List.drop (Int.toNat 128) l) = l.drop 128 := by
        rw [List.take_of_length_le]; rfl
        simp
      rw [bif_t (dT (show (128 : Int) < (l.length : Int) by omega)), bif_t (dT (show (0 : Int) ≤ 128 by decide)), bif_t (dT (show (128 : Int) ≤ (l.length : Int) by omega)), bif_t (dT (show (0 : Int) ≤ 128 by decide)), t1, bif_t (dT (show (l.take 128).length * 1 ≤ 140737488355328 by simp; omega)),
        bif_t (show (decide ((o.length + [l.take 128].length) * 24 ≤ 140737488355328) && true) = true by simp; omega), bif_t (dT (show (0 : Int) ≤ (l.length : Int) by omega)), bif_t (dT (show (l.length : Int) ≤ (l.length : Int) by omega)), bif_t (dT (show (0 : Int) ≤ 128 by decide)), bif_t (dT (show (128 : Int) ≤ (l.length : Int) by omega)), t2]
      refine (l98v S u v t κ n (l.drop 128) (o ++ [l.take 128]) (by simp; omega) (by simp; omega) (by simp; omega)).trans ?_
      rw [cut_gt hl]
      unfold fd
      simp
    · rw [bif_f (dF (show ¬ (128 : Int) < (l.length : Int) by omega)), cut_le (by omega)]
      simp
theorem put2 {R : Type} (s : ByteArray) (t : Int) (l : List Int) (h : l.length + (strList s).length ≤ 10000) (κ0 κ1) :
    ∃ t', p_98_v1 (R := R) 1301 (((), (), ()), (fd t, l, [s], ())) κ0 κ1 = κ1 ((cut' (l ++ strList s)).1, (fd t', [s], (cut' (l ++ strList s)).2, ())) := by
  obtain ⟨c1, c2, c3⟩ := cut_three (l ++ strList s)
  refine ⟨addA .i64 t ((s.size : Nat) : Int), ?_⟩
  unfold p_98_v1 Q_98_v1 fd
  try dsimp only
  rw [bif_f (show ((128 : Int) == 0) = false from rfl)]
  have step : ∀ (n : Nat) (t : Int) κ, l_98_v1_5 (R := R) 1301 (n + 2) (((), (), (), (([s].length : Nat) : Int), 0, ()), ((128, (true, ((), (t, ())))), [s], l, [], ())) κ = κ (((), (), ()), ((128, (true, ((), (addA .i64 t ((s.size : Nat) : Int), ())))), [s], (cut' (l ++ strList s)).2, [] ++ (cut' (l ++ strList s)).1, ())) := by
    intro n t κ
    show B_98_v1_5 1301 (fun y => l_98_v1_5 1301 (n + 1) y κ) _ κ = _
    unfold B_98_v1_5 C_98_v1_5
    try dsimp only
    rw [bif_t (dT (show (0 : Int) < (([s].length : Nat) : Int) by simp)), bif_t (dT (show (0 : Int) ≤ 0 by decide)), bif_t (dT (show (0 : Int) < (([s].length : Nat) : Int) by simp)), show List.getD [s] (Int.toNat 0) (Sch.zero (.str)) = s from rfl, bif_t (show (decide ((l.length + (strList s).length) * 1 ≤ 140737488355328) && true) = true by simp; omega)]
    refine (l98v [s] _ _ (addA .i64 t ((s.size : Nat) : Int)) _ 1301 (l ++ strList s) [] (by rw [List.length_append]; omega) (by rw [List.length_append]; omega) (by rw [List.length_append, List.length_nil]; omega)).trans ?_
    unfold fd
    try dsimp only
    show B_98_v1_5 1301 (fun y => l_98_v1_5 1301 n y κ) _ κ = _
    unfold B_98_v1_5 C_98_v1_5
    try dsimp only
    rw [bif_f (dF (show ¬ addA .i64 0 1 < (([s].length : Nat) : Int) by rw [add64 (by decide) (by decide)]; simp))]
  refine (step 1299 t _).trans ?_
  try dsimp only
  rw [bif_t (dT (show (cut' (l ++ strList s)).2.length * 1 ≤ 140737488355328 by omega)), List.nil_append]
theorem l80v {R : Type} (bs : List (List Int)) (hbs : ∀ b ∈ bs, b.length = 128) (hl : bs.length ≤ 1300) (o t : Int) (S : List ByteArray) (r : List Int) (κ) : ∀ (n i : Nat) (a : Bl) (d : Int), i ≤ bs.length → bs.length - i < n →
    l_80_v1_4 (R := R) 1301 n (((), bs, (bs.length : Int), (i : Int), ()), (hs a o d, fd t, S, r, ())) κ = κ (((), ()), (hs (comps a d (bs.drop i)).1 o (comps a d (bs.drop i)).2, fd t, S, r, ()))
  | 0, i, a, d, h1, h2 => by omega
  | n + 1, i, a, d, h1, h2 => by
    show B_80_v1_4 1301 (fun y => l_80_v1_4 1301 n y κ) _ κ = _
    unfold B_80_v1_4 C_80_v1_4
    by_cases hi : i < bs.length
    · have hd : bs.drop i = bs[i] :: bs.drop (i + 1) := List.drop_eq_getElem_cons hi
      have hg : List.getD bs i (Sch.zero (.sl (.int .u8))) = bs[i] := by simp [hi]
      have e3 : addA .i64 (i : Int) 1 = ((i + 1 : Nat) : Int) := by rw [add64 (by omega) (by omega)]; simp
      unfold hs fd
      try dsimp only
      rw [bif_t (dT (show (i : Int) < (bs.length : Int) by omega)), bif_t (dT (show (0 : Int) ≤ (i : Int) by omega)), bif_t (dT (show (i : Int) < (bs.length : Int) by omega)), Int.toNat_natCast, hg, p99b _ _ (hbs _ (List.getElem_mem hi))]
      try dsimp only
      rw [e3, hd]
      exact l80v bs hbs hl o t S r κ n (i + 1) _ _ (by omega) (by omega)
    · unfold hs fd
      try dsimp only
      rw [bif_f (dF (show ¬ (i : Int) < (bs.length : Int) by omega)), List.drop_eq_nil_of_le (by omega)]
      rfl
theorem add2 {R : Type} (s : ByteArray) (a : Bl) (o d t : Int) (l : List Int) (h : l.length + (strList s).length ≤ 10000) (κ) :
    ∃ t', p_80_v1 (R := R) 1301 (((), (), ()), (hs a o d, fd t, l, [s], ())) κ = κ ((), (hs (addC a d l (strList s)).1 o (addC a d l (strList s)).2, fd t', [s], (cut' (l ++ strList s)).2, ())) := by
  obtain ⟨c1, c2, c3, c4, c5, c6⟩ := cut_len (l ++ strList s).length (l ++ strList s) (Nat.le_refl _)
  rw [List.length_append] at c3
  obtain ⟨t', ht⟩ := put2 (R := R) s t l h (fun _ => none) (fun y => l_80_v1_4 1301 1301 (((), y.1, ((y.1.length : Nat) : Int), 0, ()), (hs a o d, (y.2.1.1, (y.2.1.2.1, ((), (y.2.1.2.2.2.1, ())))), y.2.2.1, y.2.2.2.1, ())) (fun y => κ ((), (((), (y.2.1.2.1, (y.2.1.2.2.1, (y.2.1.2.2.2.1, ())))), (y.2.2.1.1, (y.2.2.1.2.1, ((), (y.2.2.1.2.2.2.1, ())))), y.2.2.2.1, y.2.2.2.2.1, ()))))
  refine ⟨t', Eq.trans ?_ (ht.trans ?_)⟩
  · unfold p_80_v1 Q_80_v1
    rfl
  · try dsimp only
    refine (l80v (cut' (l ++ strList s)).1 c4 (by omega) o t' [s] _ _ 1301 0 a d (Nat.zero_le _) (by omega)).trans ?_
    rfl
theorem p82l {R : Type} (size : Int) (key : ByteArray) (h1 : 1 ≤ size) (h2 : size ≤ 64) (h3 : (strList key).length ≤ 64) (T : ByteArray) (hb : (strList T).length ≤ 2000) (κ) :
    p_82 (R := R) 1301 ((size, key, (), ()), ([T], ())) κ = κ ((sumF ((key.size : Nat) : Int) size (keyL (strList key) ++ strList T), (0, ())), ([T], ())) := by
  have hkl := keyL_len h3
  obtain ⟨c1, c2, c3⟩ := cut_three (keyL (strList key) ++ strList T)
  rw [List.length_append] at c2
  have hd := comps_d (cut' (keyL (strList key) ++ strList T)).1 (st0 ((key.size : Nat) : Int) size) 0 (by omega)
  have hd' : (comps (st0 ((key.size : Nat) : Int) size) 0 (cut' (keyL (strList key) ++ strList T)).1).2 = ((0 + 128 * (cut' (keyL (strList key) ++ strList T)).1.length : Nat) : Int) := hd
  unfold p_82 Q_82
  try dsimp only
  obtain ⟨t, ht⟩ := p79 (R := R) size key h1 h2 h3
    (fun y1003 => bif (y1003.1.2.1 != 0) then κ ((⟨#[]⟩, (y1003.1.2.1, ())), ([T], ())) else (p_80_v2 1301 (((), (), ()), ([T], ())) (fun y1006 => p_81 1301 (((), ()), ()) (fun y1008 => κ ((y1008.1, (0, ())), (y1006.2.1, ()))))))
    (fun y1010 => bif (y1010.1.2.1 != 0) then κ ((⟨#[]⟩, (y1010.1.2.1, ())), ([T], ())) else (p_80 1301 (((), (), ()), (((), (y1010.2.1.2.1, (y1010.2.1.2.2.1, (y1010.2.1.2.2.2.1, ())))), [T], ())) (fun y1015 => p_81_v1 1301 (((), ()), (((), (y1015.2.1.2.1, (y1015.2.1.2.2.1, (y1015.2.1.2.2.2.1, ())))), ())) (fun y1065 => κ ((y1065.1, (0, ())), (y1015.2.2.1, ()))))))
    (fun y => bif (y.1.2.1 != 0) then κ ((⟨#[]⟩, (y.1.2.1, ())), ([T], ())) else (p_80_v1 1301 (((), (), ()), (((), (y.2.1.2.1, (y.2.1.2.2.1, (y.2.1.2.2.2.1, ())))), (y.2.2.1.1, (y.2.2.1.2.1, ((), (y.2.2.1.2.2.2.1, ())))), y.2.2.2.1, [T], ())) (fun z => p_81_v2 1301 (((), ()), (((), (z.2.1.2.1, (z.2.1.2.2.1, (z.2.1.2.2.2.1, ())))), (z.2.2.1.1, (z.2.2.1.2.1, ((), (z.2.2.1.2.2.2.1, ())))), z.2.2.2.2.1, ())) (fun y => κ ((y.1, (0, ())), (z.2.2.2.1, ()))))))
  refine ht.trans ?_
  unfold hs fd
  try dsimp only
  rw [bif_f (show ((0 : Int) != 0) = false from rfl)]
  obtain ⟨t', ht'⟩ := add2 (R := R) T (st0 ((key.size : Nat) : Int) size) size 0 t (keyL (strList key)) (by omega) (fun z => p_81_v2 1301 (((), ()), (((), (z.2.1.2.1, (z.2.1.2.2.1, (z.2.1.2.2.2.1, ())))), (z.2.2.1.1, (z.2.2.1.2.1, ((), (z.2.2.1.2.2.2.1, ())))), z.2.2.2.2.1, ())) (fun y => κ ((y.1, (0, ())), (z.2.2.2.1, ()))))
  refine ht'.trans ?_
  try dsimp only
  refine (p81 _ size _ t' _ c1 (by omega) h2 _).trans ?_
  try dsimp only
  unfold addC hs
  try dsimp only
  rw [hd', addU64 (by omega) (by omega)]
  unfold sumF
  rw [List.length_append]
  congr 4
  omega
def totL (t : Int) (P : List ByteArray) : Int := P.foldl (fun t s => addA .i64 t ((s.size : Nat) : Int)) t
theorem put3 {R : Type} (s : ByteArray) (t : Int) (l : List Int) (h : l.length + (strList s).length ≤ 10000) (κ0 κ1) :
    p_98_v1 (R := R) 1301 (((), (), ()), (fd t, l, [s], ())) κ0 κ1 = κ1 ((cut' (l ++ strList s)).1, (fd (addA .i64 t ((s.size : Nat) : Int)), [s], (cut' (l ++ strList s)).2, ())) := by
  obtain ⟨c1, c2, c3⟩ := cut_three (l ++ strList s)
  unfold p_98_v1 Q_98_v1 fd
  try dsimp only
  rw [bif_f (show ((128 : Int) == 0) = false from rfl)]
  have step : ∀ (n : Nat) (t : Int) κ, l_98_v1_5 (R := R) 1301 (n + 2) (((), (), (), (([s].length : Nat) : Int), 0, ()), ((128, (true, ((), (t, ())))), [s], l, [], ())) κ = κ (((), (), ()), ((128, (true, ((), (addA .i64 t ((s.size : Nat) : Int), ())))), [s], (cut' (l ++ strList s)).2, [] ++ (cut' (l ++ strList s)).1, ())) := by
    intro n t κ
    show B_98_v1_5 1301 (fun y => l_98_v1_5 1301 (n + 1) y κ) _ κ = _
    unfold B_98_v1_5 C_98_v1_5
    try dsimp only
    rw [bif_t (dT (show (0 : Int) < (([s].length : Nat) : Int) by simp)), bif_t (dT (show (0 : Int) ≤ 0 by decide)), bif_t (dT (show (0 : Int) < (([s].length : Nat) : Int) by simp)), show List.getD [s] (Int.toNat 0) (Sch.zero (.str)) = s from rfl, bif_t (show (decide ((l.length + (strList s).length) * 1 ≤ 140737488355328) && true) = true by simp; omega)]
    refine (l98v [s] _ _ (addA .i64 t ((s.size : Nat) : Int)) _ 1301 (l ++ strList s) [] (by rw [List.length_append]; omega) (by rw [List.length_append]; omega) (by rw [List.length_append, List.length_nil]; omega)).trans ?_
    unfold fd
    try dsimp only
    show B_98_v1_5 1301 (fun y => l_98_v1_5 1301 n y κ) _ κ = _
    unfold B_98_v1_5 C_98_v1_5
    try dsimp only
    rw [bif_f (dF (show ¬ addA .i64 0 1 < (([s].length : Nat) : Int) by rw [add64 (by decide) (by decide)]; simp))]
  refine (step 1299 t _).trans ?_
  try dsimp only
  rw [bif_t (dT (show (cut' (l ++ strList s)).2.length * 1 ≤ 140737488355328 by omega)), List.nil_append]
theorem add3 {R : Type} (s : ByteArray) (a : Bl) (o d t : Int) (l : List Int) (h : l.length + (strList s).length ≤ 10000) (κ) :
    p_80_v1 (R := R) 1301 (((), (), ()), (hs a o d, fd t, l, [s], ())) κ = κ ((), (hs (addC a d l (strList s)).1 o (addC a d l (strList s)).2, fd (addA .i64 t ((s.size : Nat) : Int)), [s], (cut' (l ++ strList s)).2, ())) := by
  obtain ⟨c1, c2, c3, c4, c5, c6⟩ := cut_len (l ++ strList s).length (l ++ strList s) (Nat.le_refl _)
  rw [List.length_append] at c3
  have ht := put3 (R := R) s t l h (fun _ => none) (fun y => l_80_v1_4 1301 1301 (((), y.1, ((y.1.length : Nat) : Int), 0, ()), (hs a o d, (y.2.1.1, (y.2.1.2.1, ((), (y.2.1.2.2.2.1, ())))), y.2.2.1, y.2.2.2.1, ())) (fun y => κ ((), (((), (y.2.1.2.1, (y.2.1.2.2.1, (y.2.1.2.2.2.1, ())))), (y.2.2.1.1, (y.2.2.1.2.1, ((), (y.2.2.1.2.2.2.1, ())))), y.2.2.2.1, y.2.2.2.2.1, ()))))
  refine Eq.trans ?_ (ht.trans ?_)
  · unfold p_80_v1 Q_80_v1
    rfl
  · try dsimp only
    refine (l80v (cut' (l ++ strList s)).1 c4 (by omega) o (addA .i64 t ((s.size : Nat) : Int)) [s] _ _ 1301 0 a d (Nat.zero_le _) (by omega)).trans ?_
    rfl
theorem l98e {R : Type} (P : List ByteArray) (hP : P.length ≤ 1300) (κ) : ∀ (n i : Nat) (t : Int) (l : List Int) (o : List (List Int)), i ≤ P.length → P.length - i < n → o.length + l.length + (joinL (P.drop i)).length ≤ 10000 →
    l_98_v3_5 (R := R) 1301 n (((), (), P, (P.length : Int), (i : Int), ()), (fd t, l, o, ())) κ =
      κ (((), (), ()), (fd (totL t (P.drop i)), (if i < P.length then (cut' (l ++ joinL (P.drop i))).2 else l), (if i < P.length then o ++ (cut' (l ++ joinL (P.drop i))).1 else o), ()))
  | 0, i, t, l, o, h1, h2, h3 => by omega
  | n + 1, i, t, l, o, h1, h2, h3 => by
    by_cases hi : i < P.length
    · have hd : P.drop i = P[i] :: P.drop (i + 1) := List.drop_eq_getElem_cons hi
      have hg : List.getD P i (Sch.zero (.str)) = P[i] := by simp [hi]
      have hj : joinL (P.drop i) = strList P[i] ++ joinL (P.drop (i + 1)) := by rw [hd]; rfl
      have e3 : addA .i64 (i : Int) 1 = ((i + 1 : Nat) : Int) := by rw [add64 (by omega) (by omega)]; simp
      rw [hj, List.length_append] at h3
      obtain ⟨c1, c2, c3, c4, c5, c6⟩ := cut_len (l ++ strList P[i]).length (l ++ strList P[i]) (Nat.le_refl _)
      rw [List.length_append] at c1
      have ht := l98e P hP κ n (i + 1) (addA .i64 t ((P[i].size : Nat) : Int)) (cut' (l ++ strList P[i])).2 (o ++ (cut' (l ++ strList P[i])).1) (by omega) (by omega) (by rw [List.length_append]; omega)
      refine Eq.trans ?_ (ht.trans ?_)
      · show B_98_v3_5 1301 (fun y => l_98_v3_5 1301 n y κ) _ κ = _
        unfold B_98_v3_5 C_98_v3_5
        unfold fd
        try dsimp only
        rw [bif_t (dT (show (i : Int) < (P.length : Int) by omega)), bif_t (dT (show (0 : Int) ≤ (i : Int) by omega)), bif_t (dT (show (i : Int) < (P.length : Int) by omega)), Int.toNat_natCast, hg, bif_t (show (decide ((l.length + (strList P[i]).length) * 1 ≤ 140737488355328) && true) = true by simp; omega)]
        refine (l98i P (P.length : Int) (i : Int) (addA .i64 t ((P[i].size : Nat) : Int)) _ 1301 (l ++ strList P[i]) o (by rw [List.length_append]; omega) (by rw [List.length_append]; omega) (by rw [List.length_append]; omega)).trans ?_
        unfold fd
        try dsimp only
        rw [e3]
      · have ca := cut_app (joinL (P.drop (i + 1))) (l ++ strList P[i]).length (l ++ strList P[i]) (Nat.le_refl _)
        rw [if_pos hi, if_pos hi, hj, ← List.append_assoc, ca, show totL t (P.drop i) = totL (addA .i64 t ((P[i].size : Nat) : Int)) (P.drop (i + 1)) by rw [hd]; rfl]
        by_cases h4 : i + 1 < P.length
        · rw [if_pos h4, if_pos h4, List.append_assoc]
        · rw [if_neg h4, if_neg h4, show P.drop (i + 1) = [] from List.drop_eq_nil_of_le (by omega)]
          show _ = κ (_, (_, (cut' ((cut' (l ++ strList P[i])).2 ++ [])).2, o ++ ((cut' (l ++ strList P[i])).1 ++ (cut' ((cut' (l ++ strList P[i])).2 ++ [])).1), ()))
          rw [List.append_nil, cut_le c2, List.append_nil]
    · rw [if_neg hi, if_neg hi, show P.drop i = [] from List.drop_eq_nil_of_le (by omega)]
      unfold l_98_v3_5 B_98_v3_5 C_98_v3_5
      unfold fd
      try dsimp only
      rw [bif_f (dF (show ¬ (i : Int) < (P.length : Int) by omega))]
      rfl
theorem p98e {R : Type} (P : List ByteArray) (hP : P.length ≤ 1300) (t : Int) (l : List Int) (hl : l.length ≤ 128) (hb : l.length + (joinL P).length ≤ 10000) (κ0 κ1) :
    p_98_v3 (R := R) 1301 (((), P, ()), (fd t, l, ())) κ0 κ1 = κ1 ((cut' (l ++ joinL P)).1, (fd (totL t P), (cut' (l ++ joinL P)).2, ())) := by
  obtain ⟨c1, c2, c3, c4, c5, c6⟩ := cut_len (l ++ joinL P).length (l ++ joinL P) (Nat.le_refl _)
  rw [List.length_append] at c1
  have ht := l98e (R := R) P hP (fun y => bif decide (y.2.2.1.length * 1 ≤ 140737488355328) then κ1 (y.2.2.2.1, ((y.2.1.1, (y.2.1.2.1, ((), (y.2.1.2.2.2.1, ())))), y.2.2.1, ())) else none) 1301 0 t l [] (Nat.zero_le _) (by omega) (by simp only [List.length_nil, List.drop_zero]; omega)
  rw [List.drop_zero] at ht
  refine Eq.trans ?_ (ht.trans ?_)
  · unfold p_98_v3 Q_98_v3
    unfold fd
    try dsimp only
    rw [bif_f (show ((128 : Int) == 0) = false from rfl)]
    rfl
  · by_cases h0 : 0 < P.length
    · rw [if_pos h0, if_pos h0]
      try dsimp only
      rw [bif_t (dT (show (cut' (l ++ joinL P)).2.length * 1 ≤ 140737488355328 by omega))]
      rfl
    · rw [if_neg h0, if_neg h0, joinL_empty h0, List.append_nil, cut_le hl]
      try dsimp only
      rw [bif_t (dT (show l.length * 1 ≤ 140737488355328 by omega))]
theorem p80e {R : Type} (P : List ByteArray) (hP : P.length ≤ 1300) (a : Bl) (o d t : Int) (l : List Int) (hl : l.length ≤ 128) (hb : l.length + (joinL P).length ≤ 10000) (κ) :
    p_80_v5 (R := R) 1301 (((), P, ()), (hs a o d, fd t, l, ())) κ = κ ((), (hs (addC a d l (joinL P)).1 o (addC a d l (joinL P)).2, fd (totL t P), (cut' (l ++ joinL P)).2, ())) := by
  obtain ⟨c1, c2, c3, c4, c5, c6⟩ := cut_len (l ++ joinL P).length (l ++ joinL P) (Nat.le_refl _)
  rw [List.length_append] at c3
  have ht := p98e (R := R) P hP t l hl hb (fun _ => none) (fun y => l_80_v5_4 1301 1301 (((), y.1, ((y.1.length : Nat) : Int), 0, ()), (hs a o d, (y.2.1.1, (y.2.1.2.1, ((), (y.2.1.2.2.2.1, ())))), y.2.2.1, ())) (fun y => κ ((), (((), (y.2.1.2.1, (y.2.1.2.2.1, (y.2.1.2.2.2.1, ())))), (y.2.2.1.1, (y.2.2.1.2.1, ((), (y.2.2.1.2.2.2.1, ())))), y.2.2.2.1, ()))))
  refine Eq.trans ?_ (ht.trans ?_)
  · unfold p_80_v5 Q_80_v5
    rfl
  · try dsimp only
    refine (l80 (cut' (l ++ joinL P)).1 c4 (by omega) o (totL t P) _ _ 1301 0 a d (Nat.zero_le _) (by omega)).trans ?_
    rfl
def le4 (x : Int) : List Int := [IntKind.wrap .u8 x, IntKind.wrap .u8 (shrA .u32 x 8), IntKind.wrap .u8 (shrA .u32 x 16), IntKind.wrap .u8 (shrA .u32 x 24)]
theorem p53 {R : Type} (x : Int) (κ) : p_53 (R := R) 1301 (((), ()), ([x], ())) κ = κ (le4 x, ([x], ())) := by kernel_rfl
theorem le4_len (x : Int) : (le4 x).length = 4 := rfl
theorem le4_str (x : Int) : strList (listStr (le4 x)) = le4 x := by
  refine strList_mk _ fun y hy => ?_
  unfold le4 at hy
  simp only [List.mem_cons, List.not_mem_nil, or_false] at hy
  rcases hy with rfl | rfl | rfl | rfl <;> (rw [wrapU8]; omega)
theorem p79e {R : Type} (size : Int) (h1 : 1 ≤ size) (h2 : size ≤ 64) (κ0 κ1 κ2) : p_79 (R := R) 1301 ((size, ⟨#[]⟩, ()), ()) κ0 κ1 κ2 = κ2 (((), (0, ())), (hs (st0 0 size) size 0, fd 0, [], ())) := by
  unfold p_79 Q_79
  try dsimp only
  rw [bif_f (dF (show ¬ size < 1 by omega)), bif_f (dF (show ¬ size > 64 by omega)), bif_f (show decide (((ByteArray.size ⟨#[]⟩ : Nat) : Int) > 64) = false from rfl), p96]
  try dsimp only
  rw [p97]
  try dsimp only
  rw [eqS_nil, bif_f (show (!decide (strList ⟨#[]⟩ = [])) = false from rfl)]
  rfl
theorem p82e {R : Type} (size : Int) (h1 : 1 ≤ size) (h2 : size ≤ 64) (T : ByteArray) (hb : (strList T).length ≤ 2000) (κ) :
    p_82 (R := R) 1301 ((size, ⟨#[]⟩, (), ()), ([T], ())) κ = κ ((sumF 0 size (strList T), (0, ())), ([T], ())) :=
  p82l size ⟨#[]⟩ h1 h2 (by show 0 ≤ 64; omega) T hb κ
theorem sum_len (n size : Int) (l : List Int) (h1 : 1 ≤ size) (h2 : size ≤ 64) : (strList (sumF n size l)).length = size.toNat := by
  unfold sumF finF
  rw [strList_mk, List.length_take, leF_len]
  · omega
  · intro x hx
    have hx := List.mem_of_mem_take hx
    unfold leF at hx
    obtain ⟨i, _, hx⟩ := List.mem_flatMap.1 hx
    obtain ⟨k, _, rfl⟩ := List.mem_map.1 hx
    rw [wrapU8]
    omega
def longGo (size : Int) : Nat → ByteArray → List Int → ByteArray × List Int
  | 0, s, o => (s, o)
  | n + 1, s, o => if size - (o.length : Int) > 64 then longGo size n (sumF 0 64 (strList s)) (o ++ (strList (sumF 0 64 (strList s))).take 32) else (s, o)
theorem longGo_spec (size : Int) : ∀ (n : Nat) (s : ByteArray) (o : List Int), (strList s).length ≤ 64 → 33 ≤ size - (o.length : Int) → size - (o.length : Int) ≤ 64 + 32 * (n : Int) →
    (strList (longGo size n s o).1).length ≤ 64 ∧ 33 ≤ size - ((longGo size n s o).2.length : Int) ∧ size - ((longGo size n s o).2.length : Int) ≤ 64 ∧ o.length ≤ (longGo size n s o).2.length
  | 0, s, o, h1, h2, h3 => ⟨h1, h2, by show size - (o.length : Int) ≤ 64; omega, Nat.le_refl _⟩
  | n + 1, s, o, h1, h2, h3 => by
    have hl := sum_len 0 64 (strList s) (by decide) (by decide)
    have hl : (strList (sumF 0 64 (strList s))).length = 64 := hl
    unfold longGo
    by_cases h : size - (o.length : Int) > 64
    · rw [if_pos h]
      have ho : (o ++ (strList (sumF 0 64 (strList s))).take 32).length = o.length + 32 := by rw [List.length_append, List.length_take]; omega
      obtain ⟨q1, q2, q3, q4⟩ := longGo_spec size n (sumF 0 64 (strList s)) (o ++ (strList (sumF 0 64 (strList s))).take 32) (by omega) (by rw [ho]; omega) (by rw [ho]; omega)
      exact ⟨q1, q2, q3, by rw [ho] at q4; omega⟩
    · rw [if_neg h]
      exact ⟨h1, h2, by show size - (o.length : Int) ≤ 64; omega, Nat.le_refl _⟩
theorem l49 {R : Type} (size : Int) (κ) : ∀ (n : Nat) (s : ByteArray) (o : List Int), (strList s).length ≤ 64 → 33 ≤ size - (o.length : Int) → size - (o.length : Int) ≤ 32 + 32 * (n : Int) → size ≤ 70000 →
    l_49_8 (R := R) 1301 n ((size, s, (), ()), (o, ())) κ = κ ((size, (longGo size n s o).1, (), ()), ((longGo size n s o).2, ()))
  | 0, s, o, h1, h2, h3, h4 => by omega
  | n + 1, s, o, h1, h2, h3, h4 => by
    have hl : (strList (sumF 0 64 (strList s))).length = 64 := sum_len 0 64 (strList s) (by decide) (by decide)
    have hz := strList_size (sumF 0 64 (strList s))
    show B_49_8 1301 (fun y => l_49_8 1301 n y κ) _ κ = _
    unfold B_49_8 C_49_8 longGo
    try dsimp only
    rw [sub64 (by omega) (by omega)]
    by_cases h : size - (o.length : Int) > 64
    · have ex : strList ((sumF 0 64 (strList s)).extract 0 32) = (strList (sumF 0 64 (strList s))).take 32 := by rw [strList_ext]; rfl
      have ho : (o ++ (strList (sumF 0 64 (strList s))).take 32).length = o.length + 32 := by rw [List.length_append, List.length_take]; omega
      rw [if_pos h, bif_t (dT h), p82e 64 (by decide) (by decide) s (by omega)]
      try dsimp only
      rw [bif_t (dT (show (32 : Int) ≤ (((sumF 0 64 (strList s)).size : Nat) : Int) by omega)), ex, bif_t (show (decide ((o.length + ((strList (sumF 0 64 (strList s))).take 32).length) * 1 ≤ 140737488355328) && true) = true by rw [List.length_take]; simp; omega)]
      exact l49 size κ n _ _ (by omega) (by rw [ho]; omega) (by rw [ho]; omega) h4
    · rw [if_neg h, bif_f (dF h)]
def longS (size : Int) (l : List Int) : ByteArray := sumF 0 (minA size 64) (le4 (IntKind.wrap .u32 size) ++ l)
def longR (size : Int) (l : List Int) : ByteArray × List Int := longGo size 1301 (longS size l) ((strList (longS size l)).take 32)
def longF (size : Int) (l : List Int) : List Int :=
  if size ≤ 64 then strList (longS size l) else (longR size l).2 ++ strList (sumF 0 (size - ((longR size l).2.length : Int)) (strList (longR size l).1))
def longB (size : Int) (l : List Int) : ByteArray := if size ≤ 64 then longS size l else listStr (longF size l)
theorem min64 {size : Int} (h1 : 1 ≤ size) : 1 ≤ minA size 64 ∧ minA size 64 ≤ 64 ∧ (size ≤ 64 → minA size 64 = size) ∧ (64 < size → minA size 64 = 64) := by
  unfold minA
  by_cases h : (64 : Int) < size
  · rw [if_pos h]; exact ⟨by decide, by decide, fun _ => by omega, fun _ => rfl⟩
  · rw [if_neg h]; exact ⟨h1, by omega, fun _ => rfl, fun _ => by omega⟩
theorem longR_spec {size : Int} (h1 : 64 < size) (h2 : size ≤ 32032) (l : List Int) : (strList (longS size l)).length = 64 ∧ (strList (longR size l).1).length ≤ 64 ∧ 33 ≤ size - ((longR size l).2.length : Int) ∧ size - ((longR size l).2.length : Int) ≤ 64 := by
  obtain ⟨m1, m2, m3, m4⟩ := min64 (size := size) (by omega)
  have hl : (strList (longS size l)).length = 64 := by unfold longS; rw [sum_len _ _ _ m1 m2, m4 h1]; rfl
  have ht : ((strList (longS size l)).take 32).length = 32 := by rw [List.length_take]; omega
  obtain ⟨q1, q2, q3, q4⟩ := longGo_spec size 1301 (longS size l) ((strList (longS size l)).take 32) (by omega) (by rw [ht]; omega) (by rw [ht]; omega)
  exact ⟨hl, q1, q2, q3⟩
theorem longF_len {size : Int} (h1 : 1 ≤ size) (h2 : size ≤ 32032) (l : List Int) : ((longF size l).length : Int) = size := by
  obtain ⟨m1, m2, m3, m4⟩ := min64 h1
  unfold longF
  by_cases h : size ≤ 64
  · rw [if_pos h]
    unfold longS
    rw [sum_len _ _ _ m1 m2, m3 h]
    omega
  · rw [if_neg h]
    obtain ⟨q0, q1, q2, q3⟩ := longR_spec (by omega) h2 l
    rw [List.length_append, sum_len _ _ _ (by omega) q3]
    omega
theorem longB_str {size : Int} (l : List Int) : strList (longB size l) = longF size l := by
  unfold longB
  by_cases h : size ≤ 64
  · rw [if_pos h]; unfold longF; rw [if_pos h]
  · rw [if_neg h]
    refine strList_mk _ fun x hx => ?_
    unfold longF at hx
    rw [if_neg h] at hx
    have key : ∀ (n : Nat) (s : ByteArray) (o : List Int), (∀ x ∈ o, 0 ≤ x ∧ x < 256) → ∀ x ∈ (longGo size n s o).2, 0 ≤ x ∧ x < 256 := by
      intro n
      induction n with
      | zero => intro s o ho; exact ho
      | succ n ih =>
        intro s o ho
        unfold longGo
        split
        · refine ih _ _ fun x hx => ?_
          rcases List.mem_append.1 hx with hx | hx
          · exact ho x hx
          · exact strList_rng _ x (List.mem_of_mem_take hx)
        · exact ho
    rcases List.mem_append.1 hx with hx | hx
    · exact key _ _ _ (fun x hx => strList_rng _ x (List.mem_of_mem_take hx)) x hx
    · exact strList_rng _ x hx
theorem fin_sum (n size : Int) (L : List Int) (h : L.length ≤ 5000) : finF (comps (st0 n size) 0 (cut' L).1).1 (cut' L).2 (addA .u64 (comps (st0 n size) 0 (cut' L).1).2 ((cut' L).2.length : Int)) size = sumF n size L := by
  obtain ⟨c1, c2, c3⟩ := cut_three L
  have hd := comps_d (cut' L).1 (st0 n size) 0 (by omega)
  have hd' : (comps (st0 n size) 0 (cut' L).1).2 = ((0 + 128 * (cut' L).1.length : Nat) : Int) := hd
  rw [hd', addU64 (by omega) (by omega)]
  unfold sumF
  congr 1
  omega
theorem add_two (a : Bl) (d : Int) (x y : List Int) (h : x.length ≤ 128) : cut' x = ([], x) ∧ addC a d [] x = (a, d) := by
  refine ⟨cut_le h, ?_⟩
  unfold addC
  rw [List.nil_append, cut_le h]
  rfl
theorem p49 {R : Type} (size : Int) (P : List ByteArray) (h1 : 1 ≤ size) (h2 : size ≤ 32032) (hP : P.length ≤ 1300) (hb : (joinL P).length ≤ 1500) (κ) :
    p_49 (R := R) 1301 ((size, P, ()), ()) κ = κ (longB size (joinL P), (0, ())) := by
  obtain ⟨m1, m2, m3, m4⟩ := min64 h1
  have e4 := le4_len (IntKind.wrap .u32 size)
  unfold p_49 Q_49
  try dsimp only
  rw [bif_f (dF (show ¬ size < 1 by omega)), bif_f (dF (show ¬ size > 65536 by omega)), p79e _ m1 m2]
  try dsimp only
  rw [p53]
  unfold hs fd
  try dsimp only
  refine (add3 (listStr (le4 (IntKind.wrap .u32 size))) (st0 0 (minA size 64)) (minA size 64) 0 0 [] (by rw [le4_str, List.length_nil]; omega) _).trans ?_
  rw [le4_str, (add_two _ 0 _ [] (by omega)).2, List.nil_append, (add_two (st0 0 (minA size 64)) 0 _ [] (by omega)).1]
  unfold hs fd
  try dsimp only
  refine (p80e P hP (st0 0 (minA size 64)) (minA size 64) 0 _ (le4 (IntKind.wrap .u32 size)) (by omega) (by omega) _).trans ?_
  unfold hs fd
  try dsimp only
  obtain ⟨c1, c2, c3⟩ := cut_three (le4 (IntKind.wrap .u32 size) ++ joinL P)
  refine (p81 _ (minA size 64) _ _ _ c1 (by omega) m2 _).trans ?_
  try dsimp only
  unfold addC
  rw [fin_sum _ _ _ (by rw [List.length_append]; omega)]
  show (bif decide (size ≤ 64) then κ (longS size (joinL P), (0, ())) else _) = _
  by_cases h : size ≤ 64
  · rw [bif_t (dT h)]
    unfold longB
    rw [if_pos h]
  · rw [bif_f (dF h)]
    obtain ⟨q0, q1, q2, q3⟩ := longR_spec (by omega) h2 (joinL P)
    have hz := strList_size (longS size (joinL P))
    have ex : strList ((longS size (joinL P)).extract 0 32) = (strList (longS size (joinL P))).take 32 := by rw [strList_ext]; rfl
    have hzx := strList_size ((longS size (joinL P)).extract 0 32)
    have ht : ((strList (longS size (joinL P))).take 32).length = 32 := by rw [List.length_take]; omega
    rw [ex, ht] at hzx
    show (bif decide ((32 : Int) ≤ (((longS size (joinL P)).size : Nat) : Int)) then (bif decide (((longS size (joinL P)).extract 0 32).size ≤ maxI64) then l_49_8 1301 1301 ((size, longS size (joinL P), (), ()), (strList ((longS size (joinL P)).extract 0 32), ())) _ else none) else none) = _
    rw [bif_t (dT (show (32 : Int) ≤ (((longS size (joinL P)).size : Nat) : Int) by omega)), hzx, bif_t (dT (show 32 ≤ maxI64 by unfold maxI64; omega)), ex]
    refine (l49 size _ 1301 _ _ (by omega) (by rw [ht]; omega) (by rw [ht]; omega) (by omega)).trans ?_
    try dsimp only
    rw [show longGo size 1301 (longS size (joinL P)) (List.take 32 (strList (longS size (joinL P)))) = longR size (joinL P) from rfl]
    rw [sub64 (by omega) (by omega)]
    refine (p82e _ (by omega) q3 _ (by omega) _).trans ?_
    try dsimp only
    rw [bif_t (show (decide (((longR size (joinL P)).2.length + (strList (sumF 0 (size - ((longR size (joinL P)).2.length : Int)) (strList (longR size (joinL P)).1))).length) * 1 ≤ 140737488355328) && true) = true by rw [sum_len _ _ _ (by omega) q3]; simp; omega)]
    unfold longB longF
    rw [if_neg h, if_neg h]
theorem p52 {R : Type} (P : List ByteArray) (hP : P.length ≤ 1300) (hb : (joinL P).length ≤ 1500) (κ) : p_52 (R := R) 1301 (((), ()), (P, ())) κ = κ (longB 1024 (joinL P)) := by
  unfold p_52 Q_52
  try dsimp only
  rw [p49 1024 P (by omega) (by omega) hP hb]
def dw (x : Int) : Nat → Int
  | 0 => x
  | k + 1 => quoA .u32 (dw x k) 256
def le4R (x : Int) : List Int := [IntKind.wrap .u8 (remA .u32 (dw x 0) 256), IntKind.wrap .u8 (remA .u32 (dw x 1) 256), IntKind.wrap .u8 (remA .u32 (dw x 2) 256), IntKind.wrap .u8 (remA .u32 (dw x 3) 256)]
theorem p56 {R : Type} (x : Int) (κ) : p_56 (R := R) 1301 ((x, ()), ()) κ = κ (le4R x) := by kernel_rfl
theorem quo32 {a : Int} (h1 : 0 ≤ a) (h2 : a < 4294967296) : quoA .u32 a 256 = a / 256 := by
  unfold quoA
  rw [Int.tdiv_eq_ediv_of_nonneg h1, wrapU32]
  omega
theorem shr32k {x : Int} (h : 0 ≤ x) : shrA .u32 x 8 = x / 256 ∧ shrA .u32 x 16 = x / 65536 ∧ shrA .u32 x 24 = x / 16777216 := by
  refine ⟨?_, ?_, ?_⟩ <;> (unfold shrA; rw [Int.fdiv_eq_ediv_of_nonneg _ (Int.pow_nonneg (by decide))]; rfl)
theorem le4_eq (y : Int) : le4R (IntKind.wrap .u32 y) = le4 (IntKind.wrap .u32 y) := by
  rw [wrapU32]
  generalize hx : y % 4294967296 = x
  have h1 : 0 ≤ x := by omega
  have h2 : x < 4294967296 := by omega
  have d1 : dw x 1 = x / 256 := quo32 h1 h2
  have d2 : dw x 2 = x / 256 / 256 := by show quoA .u32 (dw x 1) 256 = _; rw [d1, quo32 (by omega) (by omega)]
  have d3 : dw x 3 = x / 256 / 256 / 256 := by show quoA .u32 (dw x 2) 256 = _; rw [d2, quo32 (by omega) (by omega)]
  have rm : ∀ y : Int, 0 ≤ y → IntKind.wrap .u8 (remA .u32 y 256) = y % 256 := fun y hy => by
    unfold remA
    rw [Int.tmod_eq_emod_of_nonneg hy, wrapU8]
    omega
  obtain ⟨s1, s2, s3⟩ := shr32k h1
  unfold le4R le4
  rw [d1, d2, d3, show dw x 0 = x from rfl, rm x h1, rm _ (by omega), rm _ (by omega), rm _ (by omega), s1, s2, s3, wrapU8, wrapU8, wrapU8, wrapU8]
  congr 1
  congr 1
  congr 1
  · omega
  · congr 1
    omega
theorem p86e {R : Type} (size : Int) (T : ByteArray) (h1 : 1 ≤ size) (h2 : size ≤ 64) (hb : (strList T).length ≤ 2000) (κ) :
    p_86 (R := R) 1301 ((ivF, size, ⟨#[]⟩, T, ()), ()) κ = κ (sumF 0 size (strList T)) := p86 size ⟨#[]⟩ T h1 h2 (by show 0 ≤ 64; omega) hb κ
theorem l58 (size : Int) : ∀ (n : Nat) (s : ByteArray) (o : ByteArray), (strList s).length ≤ 64 → 33 ≤ size - ((strList o).length : Int) → size - ((strList o).length : Int) ≤ 32 + 32 * (n : Int) → size ≤ 70000 →
    ∃ o', strList o' = (longGo size n s (strList o)).2 ∧ ∀ {R : Type} (κ), l_58_6 (R := R) 1301 n ((size, (), s, o, ()), (ivF, ())) κ = κ ((size, (), (longGo size n s (strList o)).1, o', ()), (ivF, ()))
  | 0, s, o, h1, h2, h3, h4 => by omega
  | n + 1, s, o, h1, h2, h3, h4 => by
    have hl : (strList (sumF 0 64 (strList s))).length = 64 := sum_len 0 64 (strList s) (by decide) (by decide)
    have hz := strList_size (sumF 0 64 (strList s))
    have hzo := strList_size o
    by_cases h : size - ((strList o).length : Int) > 64
    · have ex : strList ((sumF 0 64 (strList s)).extract 0 32) = (strList (sumF 0 64 (strList s))).take 32 := by rw [strList_ext]; rfl
      have hzx := strList_size ((sumF 0 64 (strList s)).extract 0 32)
      have eo : strList (o ++ (sumF 0 64 (strList s)).extract 0 32) = strList o ++ (strList (sumF 0 64 (strList s))).take 32 := by rw [strList_app, ex]
      have ho : (strList (o ++ (sumF 0 64 (strList s)).extract 0 32)).length = (strList o).length + 32 := by rw [eo, List.length_append, List.length_take]; omega
      rw [ex, List.length_take] at hzx
      obtain ⟨o', q1, q2⟩ := l58 size n (sumF 0 64 (strList s)) (o ++ (sumF 0 64 (strList s)).extract 0 32) (by omega) (by rw [ho]; omega) (by rw [ho]; omega) h4
      rw [eo] at q1 q2
      refine ⟨o', ?_, fun κ => ?_⟩
      · rw [q1, longGo, if_pos h]
      · rw [longGo, if_pos h]
        refine Eq.trans ?_ (q2 κ)
        show B_58_6 1301 (fun y => l_58_6 1301 n y κ) _ κ = _
        unfold B_58_6 C_58_6
        try dsimp only
        rw [hzo, sub64 (by omega) (by omega), bif_t (dT h), p86e 64 s (by decide) (by decide) (by omega)]
        try dsimp only
        rw [bif_t (dT (show (32 : Int) ≤ (((sumF 0 64 (strList s)).size : Nat) : Int) by omega)), bif_t (dT (show (strList o).length + ((sumF 0 64 (strList s)).extract 0 32).size ≤ maxI64 by unfold maxI64; omega))]
    · refine ⟨o, ?_, fun κ => ?_⟩
      · rw [longGo, if_neg h]
      · rw [longGo, if_neg h]
        show B_58_6 1301 (fun y => l_58_6 1301 n y κ) _ κ = _
        unfold B_58_6 C_58_6
        try dsimp only
        rw [hzo, sub64 (by omega) (by omega), bif_f (dF h)]
theorem p58 (size : Int) (T : ByteArray) (h1 : 1 ≤ size) (h2 : size ≤ 32032) (hb : (strList T).length ≤ 1500) :
    ∃ B, strList B = longF size (strList T) ∧ ∀ {R : Type} (κ), p_58 (R := R) 1301 ((ivF, size, T, ()), ()) κ = κ B := by
  obtain ⟨m1, m2, m3, m4⟩ := min64 h1
  have e4 := le4_len (IntKind.wrap .u32 size)
  have es : strList (listStr (le4 (IntKind.wrap .u32 size)) ++ T) = le4 (IntKind.wrap .u32 size) ++ strList T := by rw [strList_app, le4_str]
  have hz4 := strList_size (listStr (le4 (IntKind.wrap .u32 size)))
  have hzT := strList_size T
  rw [le4_str] at hz4
  by_cases h : size ≤ 64
  · refine ⟨longS size (strList T), by unfold longF; rw [if_pos h], fun κ => ?_⟩
    unfold p_58 Q_58
    try dsimp only
    rw [p56, le4_eq]
    try dsimp only
    rw [bif_t (dT (show (listStr (le4 (IntKind.wrap .u32 size))).size + T.size ≤ maxI64 by unfold maxI64; omega)), bif_t (dT h), p86e size _ h1 h (by rw [es, List.length_append]; omega), es]
    unfold longS
    rw [m3 h]
  · obtain ⟨q0, q1, q2, q3⟩ := longR_spec (size := size) (by omega) h2 (strList T)
    have eS : sumF 0 64 (le4 (IntKind.wrap .u32 size) ++ strList T) = longS size (strList T) := by unfold longS; rw [m4 (by omega)]
    have ex : strList ((longS size (strList T)).extract 0 32) = (strList (longS size (strList T))).take 32 := by rw [strList_ext]; rfl
    have ht : ((strList (longS size (strList T))).take 32).length = 32 := by rw [List.length_take]; omega
    have hz := strList_size (longS size (strList T))
    obtain ⟨o', g1, g2⟩ := l58 size 1301 (longS size (strList T)) ((longS size (strList T)).extract 0 32) (by omega) (by rw [ex, ht]; omega) (by rw [ex, ht]; omega) (by omega)
    have g1 : strList o' = (longR size (strList T)).2 := by rw [g1, ex]; rfl
    have hzo := strList_size o'
    have hsl := sum_len 0 (size - ((longR size (strList T)).2.length : Int)) (strList (longR size (strList T)).1) (by omega) q3
    have hzs := strList_size (sumF 0 (size - ((longR size (strList T)).2.length : Int)) (strList (longR size (strList T)).1))
    rw [g1] at hzo
    refine ⟨o' ++ sumF 0 (size - ((longR size (strList T)).2.length : Int)) (strList (longR size (strList T)).1), ?_, fun κ => ?_⟩
    · rw [strList_app, g1]
      unfold longF
      rw [if_neg h]
    · unfold p_58 Q_58
      try dsimp only
      rw [p56, le4_eq]
      try dsimp only
      rw [bif_t (dT (show (listStr (le4 (IntKind.wrap .u32 size))).size + T.size ≤ maxI64 by unfold maxI64; omega)), bif_f (dF h), p86e 64 _ (by decide) (by decide) (by rw [es, List.length_append]; omega), es, eS]
      try dsimp only
      rw [bif_t (dT (show (32 : Int) ≤ (((longS size (strList T)).size : Nat) : Int) by omega)), g2]
      try dsimp only
      rw [ex, show longGo size 1301 (longS size (strList T)) (List.take 32 (strList (longS size (strList T)))) = longR size (strList T) from rfl, hzo, sub64 (by omega) (by omega), p86e _ _ (by omega) q3 (by omega)]
      try dsimp only
      rw [bif_t (dT (show (longR size (strList T)).2.length + (sumF 0 (size - ((longR size (strList T)).2.length : Int)) (strList (longR size (strList T)).1)).size ≤ maxI64 by unfold maxI64; omega))]
theorem p18 {R : Type} (κ : Bl → Option R) : p_18 1301 ((), ()) κ = κ ivF := by kernel_rfl
end Bk
def Fit (a t m l s : Int) : Prop := (1 ≤ a ∧ a ≤ 3) ∧ (1 ≤ t ∧ t ≤ 4294967295) ∧ (1 ≤ l ∧ l ≤ 16777215) ∧ (1 ≤ m ∧ m ≤ 4294967295) ∧ l ≤ m / 8 ∧ 4 ≤ s ∧ s ≤ 1024
instance (a t m l s : Int) : Decidable (Fit a t m l s) := by unfold Fit; exact inferInstance
theorem p63 {R : Type} (N : Nat) (a b c : Int) (κ) : p_63 (R := R) N ((a, b, c, ()), ()) κ = κ (decide (b ≤ a ∧ a ≤ c)) := by
  unfold p_63 Q_63
  dsimp only
  by_cases h1 : b ≤ a
  · by_cases h2 : a ≤ c <;> simp [h1, h2]
  · simp [h1]
theorem p76 {R : Type} (N : Nat) (a b : Int) (h1 : 0 ≤ a) (h2 : a ≤ 4611686018427387904) (h3 : 1 ≤ b) (κ) : p_76 (R := R) N ((a, b, ()), ()) κ = κ (a - a % b, (0, ())) := by
  unfold p_76 Q_76 p_88 Q_88
  dsimp only
  have e1 : 0 ≤ a % b := Int.emod_nonneg a (by omega)
  have e2 : a % b ≤ a := mod_le h1 (by omega)
  rw [rem64 h1, sub64 (by omega) (by omega)]
  simp [h1, h2, show ¬ b < 1 by omega, show ¬ b = 0 by omega]
theorem p42 {R : Type} (N : Nat) (a t m l s : Int) (κ) : p_42 (R := R) N (((a, (t, (m, (l, (s, ()))))), ()), ()) κ =
    (bif decide (Fit a t m l s) then κ ((a, (t, (l, (m, (4 * l * (m / (4 * l)), (4 * (m / (4 * l)), (m / (4 * l), (s, ())))))))), (0, ())) else κ ((0, (0, (0, (0, (0, (0, (0, (0, ())))))))), (2, ()))) := by
  by_cases h : Fit a t m l s
  · obtain ⟨⟨h1, h2⟩, ⟨h3, h4⟩, ⟨h5, h6⟩, ⟨h7, h8⟩, h9, h10, h11⟩ := id h
    unfold p_42 Q_42
    dsimp only
    have e1 : quoA .i64 m 8 = m / 8 := quo64 (by omega) (by omega) (by omega)
    have e2 : mulA .i64 4 l = 4 * l := mul64 (by omega) (by omega)
    have e3 : m - m % (4 * l) = 4 * l * (m / (4 * l)) := by have := Int.mul_ediv_add_emod m (4 * l); omega
    have q0 : 0 ≤ m / (4 * l) := Int.ediv_nonneg (by omega) (by omega)
    have q1 : 0 ≤ m % (4 * l) := Int.emod_nonneg _ (by omega)
    have e4 : quoA .i64 (4 * l * (m / (4 * l))) l = 4 * (m / (4 * l)) := by
      rw [quo64 (by rw [← e3]; have := mod_le (b := 4 * l) (show 0 ≤ m by omega) (by omega); omega) (by omega) (by omega)]
      rw [show 4 * l * (m / (4 * l)) = l * (4 * (m / (4 * l))) by rw [Int.mul_comm 4 l, Int.mul_assoc]]
      exact Int.mul_ediv_cancel_left _ (by omega)
    have q2 : m / (4 * l) ≤ m := Int.ediv_le_self _ (by omega)
    have e5 : quoA .i64 (4 * (m / (4 * l))) 4 = m / (4 * l) := by
      rw [quo64 (by omega) (by omega) (by omega)]
      exact Int.mul_ediv_cancel_left _ (by omega)
    simp only [p63, e1, e2]
    rw [p76 N m (4 * l) (by omega) (by omega) (by omega)]
    simp only [e3, e4, e5]
    simp [h, h1, h2, h3, h4, h5, h6, h7, h8, h9, h10, h11, show ¬ l = 0 by omega]
  · rw [dF h]
    unfold p_42 Q_42
    dsimp only
    simp only [p63, cond_false]
    by_cases g1 : 1 ≤ a ∧ a ≤ 3
    · rw [dT g1]
      by_cases g2 : 1 ≤ t ∧ t ≤ 4294967295
      · rw [dT g2]
        by_cases g3 : 1 ≤ l ∧ l ≤ 16777215
        · rw [dT g3]
          by_cases g4 : 1 ≤ m ∧ m ≤ 4294967295
          · rw [dT g4, quo64 (by omega) (by omega) (by omega)]
            by_cases g5 : m / 8 ≥ l
            · rw [dT g5]
              by_cases g6 : 4 ≤ s ∧ s ≤ 1024
              · exact absurd ⟨g1, g2, g3, g4, g5, g6⟩ h
              · rw [dF g6]; rfl
            · rw [dF g5]; rfl
          · rw [dF g4]; rfl
        · rw [dF g3]; rfl
      · rw [dF g2]; rfl
    · rw [dF g1]; rfl
def W (x : Int) : Prop := 0 ≤ x ∧ x < 18446744073709551616
theorem W_wrap (x : Int) : W (IntKind.wrap .u64 x) := by rw [wrapU64]; unfold W; omega
theorem W_xor (a b : Int) : W (xorA .u64 a b) := W_wrap _
theorem W_or (a b : Int) : W (orA .u64 a b) := W_wrap _
theorem W_add (a b : Int) : W (addA .u64 a b) := W_wrap _
theorem W_zero : W 0 := by unfold W; omega
theorem xor_assoc (a b c : Int) (ha : W a) (hb : W b) (hc : W c) : xorA .u64 (xorA .u64 a b) c = xorA .u64 a (xorA .u64 b c) := by
  have key : ∀ x : BitVec 64, BitVec.ofInt 64 (IntKind.wrap .u64 (x.toNat : Int)) = x := by
    intro x
    rw [wrapU64]
    apply BitVec.eq_of_toNat_eq
    rw [BitVec.toNat_ofInt]
    have := x.isLt
    omega
  unfold xorA
  show IntKind.wrap .u64 (((BitVec.ofInt 64 (IntKind.wrap .u64 ((BitVec.ofInt 64 a ^^^ BitVec.ofInt 64 b).toNat : Int))) ^^^ BitVec.ofInt 64 c).toNat : Int) = IntKind.wrap .u64 ((BitVec.ofInt 64 a ^^^ BitVec.ofInt 64 (IntKind.wrap .u64 ((BitVec.ofInt 64 b ^^^ BitVec.ofInt 64 c).toNat : Int))).toNat : Int)
  rw [key, key, BitVec.xor_assoc]
theorem upd_same {α : Type} (f : Nat → α) (i : Nat) (x : α) : upd f i x i = x := by simp [upd]
theorem upd_other {α : Type} (f : Nat → α) {i j : Nat} (x : α) (h : j ≠ i) : upd f i x j = f j := by
  show (bif Nat.beq j i then x else f j) = f j
  cases hq : Nat.beq j i with
  | false => rfl
  | true => exact absurd (Nat.eq_of_beq_eq_true hq) h
theorem upd_if {α : Type} (f : Nat → α) (i j : Nat) (x : α) : upd f i x j = if j = i then x else f j := by
  by_cases h : j = i
  · subst h; rw [upd_same, if_pos rfl]
  · rw [upd_other f x h, if_neg h]
abbrev Bl := Nat → Int
def nulB : Bl := fun _ => 0
def xorFrom (k : Nat) (o b : Bl) : Bl := fun j => if k ≤ j ∧ j < 128 then xorA .u64 (o j) (b j) else o j
def xorL (l : List Bl) : Bl := l.foldl (xorFrom 0) nulB
theorem l48i {R : Type} (N : Nat) (l : List Bl) (u v : Int) (b z : Bl) (κ) : ∀ (n m k : Nat) (o : Bl), k + m = 128 → m < n →
    l_48_6 (R := R) N n (((), (), (), u, v, b, (k : Int), ()), (l, z, o, ())) κ = κ (((), (), (), u, v, ()), (l, z, xorFrom k o b, ()))
  | 0, m, k, o, h1, h2 => by omega
  | n + 1, m, k, o, h1, h2 => by
    unfold l_48_6 B_48_6 C_48_6
    try dsimp only
    by_cases hk : k < 128
    · have e3 : addA .i64 (k : Int) 1 = ((k + 1 : Nat) : Int) := by rw [add64 (by omega) (by omega)]; simp
      rw [bif_t (dT (show (k : Int) < 128 by omega)), bif_t (dT (show (0 : Int) ≤ (k : Int) by omega)), bif_t (dT (show (k : Int) < 128 by omega)), bif_t (dT (show (0 : Int) ≤ (k : Int) by omega)), bif_t (dT (show (k : Int) < 128 by omega)), bif_t (dT (show (0 : Int) ≤ (k : Int) by omega)), bif_t (dT (show (k : Int) < 128 by omega)), e3, Int.toNat_natCast]
      rw [l48i N l u v b z κ n (m - 1) (k + 1) _ (by omega) (by omega)]
      congr 5
      funext j
      unfold xorFrom
      by_cases hj : j = k
      · subst hj; rw [if_neg (by omega), if_pos ⟨by omega, hk⟩, upd_same]
      · rw [upd_other _ _ hj]
        by_cases h3 : k + 1 ≤ j ∧ j < 128
        · rw [if_pos h3, if_pos ⟨by omega, h3.2⟩]
        · rw [if_neg h3, if_neg (by omega)]
    · rw [bif_f (dF (show ¬ (k : Int) < 128 by omega))]
      have e : xorFrom k o b = o := by funext j; unfold xorFrom; rw [if_neg (by omega)]
      rw [e]
theorem l48o {R : Type} (N : Nat) (hN : 1300 < N) (l : List Bl) (hl : l.length ≤ 1300) (z : Bl) (κ) : ∀ (n i : Nat) (o : Bl), i ≤ l.length → l.length - i < n →
    l_48_3 (R := R) N n (((), (), (), (l.length : Int), (i : Int), ()), (l, z, o, ())) κ = κ (((), (), ()), (l, z, (l.drop i).foldl (xorFrom 0) o, ()))
  | 0, i, o, h1, h2 => by omega
  | n + 1, i, o, h1, h2 => by
    unfold l_48_3 B_48_3 C_48_3
    try dsimp only
    by_cases hi : i < l.length
    · have hd : l.drop i = l[i] :: l.drop (i + 1) := List.drop_eq_getElem_cons hi
      have hg : List.getD l i (Sch.zero (.arr 128 (.int .u64))) = l[i] := by simp [hi]
      have e3 : addA .i64 (i : Int) 1 = ((i + 1 : Nat) : Int) := by rw [add64 (by omega) (by omega)]; simp
      rw [bif_t (dT (show (i : Int) < (l.length : Int) by omega)), bif_t (dT (show (0 : Int) ≤ (i : Int) by omega)), bif_t (dT (show (i : Int) < (l.length : Int) by omega)), Int.toNat_natCast, hg, hd]
      refine (l48i N l (l.length : Int) (i : Int) l[i] z _ N 128 0 o (by omega) (by omega)).trans ?_
      try dsimp only
      rw [e3]
      exact l48o N hN l hl z κ n (i + 1) _ (by omega) (by omega)
    · rw [bif_f (dF (by omega)), List.drop_eq_nil_of_le (by omega)]
      rfl
theorem p48 {R : Type} (N : Nat) (hN : 1300 < N) (l : List Bl) (hl : l.length ≤ 1300) (κ) : p_48 (R := R) N (((), ()), (l, ())) κ = κ (xorL l, (l, ())) := by
  unfold p_48 Q_48
  try dsimp only
  refine (l48o N hN l hl _ _ N 0 _ (by omega) (by omega)).trans ?_
  rfl
def OutB (b : Bl) : Prop := ∀ j, 128 ≤ j → b j = 0
theorem foldl_out : ∀ (l : List Bl) (o : Bl), OutB o → OutB (l.foldl (xorFrom 0) o)
  | [], o, h => h
  | b :: l, o, h => foldl_out l _ fun j hj => by unfold xorFrom; rw [if_neg (by omega)]; exact h j hj
theorem foldl_W : ∀ (l : List Bl) (o : Bl), (∀ j, W (o j)) → ∀ j, W (l.foldl (xorFrom 0) o j)
  | [], o, h => h
  | b :: l, o, h => foldl_W l _ fun j => by unfold xorFrom; split; exact W_xor _ _; exact h j
theorem xorL_W (l : List Bl) (j : Nat) : W (xorL l j) := foldl_W l nulB (fun _ => W_zero) j
theorem xorL_out (l : List Bl) : OutB (xorL l) := foldl_out l nulB (fun _ _ => rfl)
theorem schEq128 {x y : Bl} (h : ∀ j, j < 128 → x j = y j) : schEq (.arr 128 (.int .u64)) x y = true := by
  show (List.range 128).all (fun i => x i == y i) = true
  rw [List.all_eq_true]
  intro j hj
  rw [List.mem_range] at hj
  rw [h j hj]
  exact beq_self_eq_true _
def prodF (a b : Int) : Int := addA .u64 (addA .u64 a b) (mulA .u64 (mulA .u64 2 (IntKind.wrap .u64 (IntKind.wrap .u32 a))) (IntKind.wrap .u64 (IntKind.wrap .u32 b)))
def rotF (x n : Int) : Int := orA .u64 (shrA .u64 x n) (shlA .u64 x (64 - n))
abbrev Q4 := Int × (Int × (Int × (Int × Unit)))
def qF (a b c d : Int) : Q4 :=
  let a1 := prodF a b
  let d1 := rotF (xorA .u64 d a1) 32
  let c1 := prodF c d1
  let b1 := rotF (xorA .u64 b c1) 24
  let a2 := prodF a1 b1
  let d2 := rotF (xorA .u64 d1 a2) 16
  let c2 := prodF c1 d2
  let b2 := rotF (xorA .u64 b1 c2) 63
  (a2, (b2, (c2, (d2, ()))))
theorem qF_W (a b c d : Int) : W (qF a b c d).1 ∧ W (qF a b c d).2.1 ∧ W (qF a b c d).2.2.1 ∧ W (qF a b c d).2.2.2.1 := ⟨W_add _ _, W_or _ _, W_add _ _, W_or _ _⟩
theorem upd_W {v : Bl} (h : ∀ j, W (v j)) (i : Nat) {x : Int} (hx : W x) : ∀ j, W (upd v i x j) := fun j => by rw [upd_if]; split; exact hx; exact h j
section
variable {R : Type} (N : Nat)
end
theorem foldl_at (j : Nat) (hj : j < 128) : ∀ (l : List Bl) (o : Bl), l.foldl (xorFrom 0) o j = l.foldl (fun a b => xorA .u64 a (b j)) (o j)
  | [], o => rfl
  | b :: l, o => by
    show l.foldl (xorFrom 0) (xorFrom 0 o b) j = l.foldl _ (xorA .u64 (o j) (b j))
    rw [foldl_at j hj l]
    congr 1
    unfold xorFrom
    rw [if_pos ⟨Nat.zero_le _, hj⟩]
theorem l60i {R : Type} (N : Nat) (l : List Bl) (hl : l.length ≤ 1300) (w : Nat) (hw : w < 128) (z : Bl) (κ) : ∀ (n i : Nat) (o : Bl), i ≤ l.length → l.length - i < n →
    l_60_6 (R := R) N n ((l, (), (), (w : Int), (i : Int), ()), (z, o, ())) κ = κ ((l, (), (), (w : Int), ()), (z, upd o w ((l.drop i).foldl (fun a b => xorA .u64 a (b w)) (o w)), ()))
  | 0, i, o, h1, h2 => by omega
  | n + 1, i, o, h1, h2 => by
    unfold l_60_6 B_60_6 C_60_6
    try dsimp only
    by_cases hi : i < l.length
    · have hd : l.drop i = l[i] :: l.drop (i + 1) := List.drop_eq_getElem_cons hi
      have hg : List.getD l i (Sch.zero (.arr 128 (.int .u64))) = l[i] := by simp [hi]
      have e3 : addA .i64 (i : Int) 1 = ((i + 1 : Nat) : Int) := by rw [add64 (by omega) (by omega)]; simp
      have w1 : decide ((0 : Int) ≤ (w : Int)) = true := dT (by omega)
      have w2 : decide ((w : Int) < 128) = true := dT (by omega)
      rw [bif_t (dT (show (i : Int) < (l.length : Int) by omega)), bif_t w1, bif_t w2, bif_t (dT (show (0 : Int) ≤ (i : Int) by omega)), bif_t (dT (show (i : Int) < (l.length : Int) by omega)), bif_t w1, bif_t w2, bif_t w1, bif_t w2, Int.toNat_natCast, Int.toNat_natCast, hg, hd, e3]
      refine (l60i N l hl w hw z κ n (i + 1) _ (by omega) (by omega)).trans ?_
      have uu : ∀ (p q : Int), upd (upd o w p) w q = upd o w q := by
        intro p q
        funext j
        by_cases hj : j = w
        · subst hj; rw [upd_same, upd_same]
        · rw [upd_other _ _ hj, upd_other _ _ hj, upd_other _ _ hj]
      rw [upd_same, uu]
      rfl
    · rw [bif_f (dF (by omega)), List.drop_eq_nil_of_le (by omega)]
      have e : upd o w ((([] : List Bl)).foldl (fun a b => xorA .u64 a (b w)) (o w)) = o := by
        funext j; rw [upd_if]; split
        · subst j; rfl
        · rfl
      rw [e]
theorem l60o {R : Type} (N : Nat) (hN : 1301 ≤ N) (l : List Bl) (hl : l.length ≤ 1300) (z : Bl) (κ) : ∀ (n m w : Nat) (o : Bl), w + m = 128 → m < n →
    l_60_3 (R := R) N n ((l, (), (), (w : Int), ()), (z, o, ())) κ = κ (((), (), ()), (z, (fun j => if w ≤ j ∧ j < 128 then l.foldl (fun a b => xorA .u64 a (b j)) (o j) else o j), ()))
  | 0, m, w, o, h1, h2 => by omega
  | n + 1, m, w, o, h1, h2 => by
    unfold l_60_3 B_60_3 C_60_3
    try dsimp only
    by_cases hw : w < 128
    · have e3 : addA .i64 (w : Int) 1 = ((w + 1 : Nat) : Int) := by rw [add64 (by omega) (by omega)]; simp
      rw [bif_t (dT (show (w : Int) < 128 by omega))]
      refine (l60i N l hl w hw z _ N 0 o (by omega) (by omega)).trans ?_
      try dsimp only
      rw [e3, l60o N hN l hl z κ n (m - 1) (w + 1) _ (by omega) (by omega), List.drop_zero]
      congr 4
      funext j
      rw [upd_if]
      by_cases hj : j = w
      · subst hj; rw [if_neg (by omega), if_pos rfl, if_pos ⟨by omega, hw⟩]
      · rw [if_neg hj]
        by_cases h3 : w + 1 ≤ j ∧ j < 128
        · rw [if_pos h3, if_pos ⟨by omega, h3.2⟩]
        · rw [if_neg h3, if_neg (by omega)]
    · rw [bif_f (dF (show ¬ (w : Int) < 128 by omega))]
      congr 4
      funext j
      rw [if_neg (by omega)]
theorem p60 {R : Type} (N : Nat) (hN : 1301 ≤ N) (l : List Bl) (hl : l.length ≤ 1300) (κ) : p_60 (R := R) N ((l, ()), ()) κ = κ (xorL l) := by
  unfold p_60 Q_60
  try dsimp only
  refine (l60o N hN l hl _ _ N 128 0 _ (by omega) (by omega)).trans ?_
  try dsimp only
  congr 1
  funext j
  by_cases hj : j < 128
  · rw [if_pos ⟨by omega, hj⟩]
    unfold xorL
    rw [foldl_at j hj]
    rfl
  · rw [if_neg (by omega), xorL_out l j (by omega)]
    rfl
section
variable {R : Type} (N : Nat)
end
abbrev Shp8 := Int × (Int × (Int × (Int × (Int × (Int × (Int × (Int × Unit)))))))
section
variable {R : Type} (N : Nat) (s0 t L s3 s4 q s7 : Int)
end
theorem nT : (!true) = false := rfl
theorem nF : (!false) = true := rfl
theorem getD_set {α : Type} (l : List α) (i j : Nat) (x z : α) (hi : i < l.length) : (l.set i x).getD j z = if j = i then x else l.getD j z := by
  by_cases h : j = i
  · subst h; simp [List.getD_eq_getElem?_getD, hi]
  · simp [List.getD_eq_getElem?_getD, List.getElem?_set, Ne.symm h, h]
def rowsF (f : Nat → Bl) (C L : Nat) : List (List Bl) := (List.range L).map fun la => (List.range C).map fun co => f (la * C + co)
theorem rowsF_len (f : Nat → Bl) (C L : Nat) : (rowsF f C L).length = L := by simp [rowsF]
theorem rowsF_row (f : Nat → Bl) (C L : Nat) {la : Nat} (h : la < L) : (rowsF f C L).getD la [] = (List.range C).map fun co => f (la * C + co) := by simp [rowsF, h]
theorem rowsF_rlen (f : Nat → Bl) (C L : Nat) {la : Nat} (h : la < L) : ((rowsF f C L).getD la []).length = C := by rw [rowsF_row f C L h]; simp
theorem rowsF_get (f : Nat → Bl) (C L : Nat) {la co : Nat} (h : la < L) (hc : co < C) (z : Bl) : ((rowsF f C L).getD la []).getD co z = f (la * C + co) := by rw [rowsF_row f C L h]; simp [hc]
theorem at_inj {C a b c d : Nat} (hb : b < C) (hd : d < C) (h : a * C + b = c * C + d) : a = c ∧ b = d := by
  have h1 : (a * C + b) / C = a := by rw [Nat.mul_comm, Nat.mul_add_div (by omega), Nat.div_eq_of_lt hb, Nat.add_zero]
  have h2 : (c * C + d) / C = c := by rw [Nat.mul_comm, Nat.mul_add_div (by omega), Nat.div_eq_of_lt hd, Nat.add_zero]
  have h3 : a = c := by rw [← h1, h, h2]
  subst h3; exact ⟨rfl, by omega⟩
theorem rowsF_set (f : Nat → Bl) (C L : Nat) {la co : Nat} (h : la < L) (hc : co < C) (b : Bl) : (rowsF f C L).set la (((rowsF f C L).getD la []).set co b) = rowsF (upd f (la * C + co) b) C L := by
  apply List.ext_getElem?
  intro i
  rw [List.getElem?_set, rowsF_len]
  by_cases hi : la = i
  · subst hi
    rw [if_pos rfl, if_pos h, rowsF_row f C L h]
    simp only [rowsF, List.getElem?_map, List.getElem?_range h, Option.map_some, Option.some.injEq]
    apply List.ext_getElem?
    intro j
    rw [List.getElem?_set]
    simp only [List.length_map, List.length_range, List.getElem?_map]
    by_cases hj : co = j
    · subst hj
      rw [if_pos rfl, if_pos hc, List.getElem?_range hc]
      simp [upd_same]
    · rw [if_neg hj]
      by_cases hjc : j < C
      · rw [List.getElem?_range hjc]
        simp only [Option.map_some, Option.some.injEq]
        rw [upd_other]; omega
      · rw [List.getElem?_eq_none (by simpa using hjc)]; rfl
  · rw [if_neg hi]
    simp only [rowsF, List.getElem?_map]
    by_cases hiL : i < L
    · rw [List.getElem?_range hiL]
      simp only [Option.map_some, Option.some.injEq]
      apply List.map_congr_left
      intro j hj
      rw [List.mem_range] at hj
      rw [upd_other]
      intro e
      exact hi (at_inj hj hc e).1.symm
    · rw [List.getElem?_eq_none (by simpa using hiL)]; rfl
theorem rowsF_congr {f g : Nat → Bl} {C L : Nat} (h : ∀ k, k < L * C → f k = g k) : rowsF f C L = rowsF g C L := by
  unfold rowsF
  apply List.map_congr_left
  intro la hla
  apply List.map_congr_left
  intro co hco
  rw [List.mem_range] at hla hco
  apply h
  have := Nat.mul_le_mul_right C (show la + 1 ≤ L by omega)
  rw [Nat.succ_mul] at this
  omega
abbrev GH := (Unit × (Shp8 × Unit)) × (Unit × (Unit × (Bool × Unit))) × (Int × (Int × (Int × (Int × Unit)))) × (List Bl) × Unit
def gh (s : Shp8) (ar : Int × (Int × (Int × (Int × Unit)))) (l : List Bl) : GH := (((), (s, ())), ((), ((), (true, ()))), ar, l, ())
def shn (s0 t m b q z : Int) (L C : Nat) : Shp8 := (s0, (t, ((L : Int), (m, (b, ((C : Int), (q, (z, ()))))))))
section
variable {R : Type} (N : Nat) (s0 t m b q z : Int) (L C : Nat)
theorem p46 (hL : L ≤ 4) (hC : C ≤ 80) (la co : Int) (ar) (l : List Bl) (κ : Int → Option R) :
    p_46 N (((), (la, (co, ())), ()), gh (shn s0 t m b q z L C) ar l) κ = κ (if 0 ≤ la ∧ la < L ∧ 0 ≤ co ∧ co < C then la * C + co else -1) := by
  unfold p_46 Q_46 gh shn
  dsimp only
  by_cases h1 : la < 0
  · rw [bif_t (dT h1), if_neg (by omega)]
  rw [bif_f (dF h1)]
  by_cases h2 : la ≥ L
  · rw [bif_t (dT h2), if_neg (by omega)]
  rw [bif_f (dF h2)]
  by_cases h3 : co < 0
  · rw [bif_t (dT h3), if_neg (by omega)]
  rw [bif_f (dF h3)]
  by_cases h4 : co ≥ C
  · rw [bif_t (dT h4), if_neg (by omega)]
  rw [bif_f (dF h4), if_pos ⟨by omega, by omega, by omega, by omega⟩]
  unfold p_78 Q_78
  dsimp only
  have e0 : 0 ≤ la * C := Int.mul_nonneg (by omega) (by omega)
  have e1 : la * C ≤ 4 * 80 := Int.mul_le_mul (by omega) (by omega) (by omega) (by omega)
  rw [mul64 (a := la) (by omega) (by omega), add64 (by omega) (by omega)]
theorem at_lt {la co L C : Nat} (h : la < L) (hc : co < C) : la * C + co < L * C := by
  have := Nat.mul_le_mul_right C (show la + 1 ≤ L by omega)
  rw [Nat.succ_mul] at this
  omega
theorem p47 (n : Int) (ar) (l : List Bl) (h0 : 0 ≤ n) (h1 : n < l.length) (κ) :
    p_47 (R := R) N (((), n, ()), (((), ((), (true, ()))), ar, l, ())) κ = κ (l.getD n.toNat nulB, (0, ())) := by
  unfold p_47 Q_47
  dsimp only
  rw [bif_f (dF (by omega)), bif_f (dF (by omega)), bif_f (show (!true) = false from rfl), bif_t (dT h0), bif_t (dT h1)]; rfl
theorem p9 (hL : L ≤ 4) (hC : C ≤ 80) (la co : Int) (ar) (l : List Bl) (hl : l.length = L * C) (κ) :
    p_9 (R := R) N (((), (la, (co, ())), ()), gh (shn s0 t m b q z L C) ar l) κ = if 0 ≤ la ∧ la < L ∧ 0 ≤ co ∧ co < C then κ (l.getD (la * C + co).toNat nulB, (0, ())) else κ (nulB, (11, ())) := by
  unfold p_9 Q_9
  dsimp only
  refine (p46 N s0 t m b q z L C hL hC la co ar l _).trans ?_
  by_cases h : 0 ≤ la ∧ la < L ∧ 0 ≤ co ∧ co < C
  · rw [if_pos h, if_pos h]
    obtain ⟨h1, h2, h3, h4⟩ := h
    have e0 : 0 ≤ la * C := Int.mul_nonneg h1 (by omega)
    obtain ⟨a, rfl⟩ := Int.eq_ofNat_of_zero_le h1
    obtain ⟨c, rfl⟩ := Int.eq_ofNat_of_zero_le h3
    have hlt := at_lt (la := a) (co := c) (L := L) (C := C) (by omega) (by omega)
    rw [bif_f (dF (by omega))]
    exact p47 N _ ar l (by omega) (by rw [hl]; exact_mod_cast hlt) _
  · rw [if_neg h, if_neg h]; rfl
theorem p12 (hL : L ≤ 4) (hC : C ≤ 80) (la co : Int) (ar) (l : List Bl) (hl : l.length = L * C) (x : Bl) (κ) :
    p_12 (R := R) N (((), (la, (co, ())), x, ()), gh (shn s0 t m b q z L C) ar l) κ = if 0 ≤ la ∧ la < L ∧ 0 ≤ co ∧ co < C then κ (0, gh (shn s0 t m b q z L C) ar (l.set (la * C + co).toNat x)) else κ (11, gh (shn s0 t m b q z L C) ar l) := by
  unfold p_12 Q_12
  dsimp only
  refine (p46 N s0 t m b q z L C hL hC la co ar l _).trans ?_
  by_cases h : 0 ≤ la ∧ la < L ∧ 0 ≤ co ∧ co < C
  · rw [if_pos h, if_pos h]
    obtain ⟨h1, h2, h3, h4⟩ := h
    have e0 : 0 ≤ la * C := Int.mul_nonneg h1 (by omega)
    obtain ⟨a, rfl⟩ := Int.eq_ofNat_of_zero_le h1
    obtain ⟨c, rfl⟩ := Int.eq_ofNat_of_zero_le h3
    have hlt := at_lt (la := a) (co := c) (L := L) (C := C) (by omega) (by omega)
    have hb : ((a : Int) * C + c) < (l.length : Int) := by rw [hl]; exact_mod_cast hlt
    rw [bif_f (dF (by omega))]
    unfold p_51 Q_51 gh shn
    dsimp only
    refine (p47 N _ ar l (by omega) hb _).trans ?_
    dsimp only
    rw [bif_f (show ((0 : Int) != 0) = false from rfl), bif_t (dT (by omega)), bif_t (dT hb)]
  · rw [if_neg h, if_neg h]; rfl
theorem rep_succ {α : Type} (n : Nat) (x : α) : List.replicate n x ++ [x] = List.replicate (n + 1) x := by rw [List.replicate_succ']
theorem l15 (hL : L ≤ 4) (hC : C ≤ 80) (κ) : ∀ (n i : Nat), i ≤ L → L - i < n →
    l_15_3 (R := R) N n (((), (), (i : Int), ()), (shn s0 t m b q z L C, List.replicate i (List.replicate C nulB), ())) κ = κ (((), ()), (List.replicate L (List.replicate C nulB), ()))
  | 0, i, h1, h2 => by omega
  | n + 1, i, h1, h2 => by
    unfold l_15_3 B_15_3 C_15_3 shn
    dsimp only
    by_cases hi : i < L
    · rw [bif_t (dT (show (i : Int) < (L : Int) by omega)), bif_t (dT (by omega)), bif_t (dT (by omega)), bif_t (dT (by omega)), bif_t (dT (by omega))]
      simp only [List.length_replicate, List.length_cons, List.length_nil]
      rw [dT (by omega)]
      simp only [Bool.and_true, cond_true]
      have := l15 hL hC κ n (i + 1) (by omega) (by omega)
      unfold shn at this
      rw [← rep_succ] at this
      rw [show addA .i64 (i : Int) 1 = ((i + 1 : Nat) : Int) by rw [add64 (by omega) (by omega)]; simp]
      exact this
    · rw [bif_f (dF (show ¬ (i : Int) < (L : Int) by omega)), show i = L by omega]
theorem rowsF_zero : rowsF (fun _ => nulB) C L = List.replicate L (List.replicate C nulB) := by
  unfold rowsF
  rw [List.map_const', List.map_const']; simp
theorem p15 (hN : 10 < N) (hL : L ≤ 4) (hC : C ≤ 80) (κ) : p_15 (R := R) N ((shn s0 t m b q z L C, ()), ()) κ = κ ((), (rowsF (fun _ => nulB) C L, ())) := by
  unfold p_15 Q_15
  refine (l15 N s0 t m b q z L C hL hC _ N 0 (by omega) (by omega)).trans ?_
  rw [rowsF_zero]
def upTo (l : List Bl) (n : Nat) : Nat → Bl := fun k => if k < n then l.getD k nulB else nulB
theorem upTo_succ (l : List Bl) (n : Nat) : upd (upTo l n) n (l.getD n nulB) = upTo l (n + 1) := by
  funext k
  rw [upd_if]
  unfold upTo
  by_cases h : k = n
  · subst h; rw [if_pos rfl, if_pos (by omega)]
  · rw [if_neg h]
    by_cases h2 : k < n
    · rw [if_pos h2, if_pos (by omega)]
    · rw [if_neg h2, if_neg (by omega)]
theorem l17i (hL : L ≤ 4) (hC : C ≤ 80) (ar) (l : List Bl) (hl : l.length = L * C) (la : Nat) (hla : la < L) (u : Int) (κ) : ∀ (n c : Nat), c ≤ C → C - c < n →
    l_17_6 (R := R) N n (((), (), (la : Int), u, (la : Int), (C : Int), (c : Int), ()), (((), (shn s0 t m b q z L C, ())), ((), ((), (true, ()))), ar, l, rowsF (upTo l (la * C + c)) C L, ())) κ =
      κ (((), (), u, (la : Int), ()), (((), (shn s0 t m b q z L C, ())), ((), ((), (true, ()))), ar, l, rowsF (upTo l (la * C + C)) C L, ()))
  | 0, i, h1, h2 => by omega
  | n + 1, c, h1, h2 => by
    unfold l_17_6 B_17_6 C_17_6
    dsimp only
    by_cases hc : c < C
    · rw [bif_t (dT (show (c : Int) < (C : Int) by omega)), bif_t (dT (by omega)), rowsF_len, bif_t (dT (by omega))]
      refine (p9 N s0 t m b q z L C hL hC la c ar l hl _).trans ?_
      rw [if_pos ⟨by omega, by omega, by omega, by omega⟩]
      dsimp only
      rw [Int.toNat_natCast la, Int.toNat_natCast c, rowsF_rlen _ C L hla, bif_t (dT (by omega)), bif_t (dT (by omega)), show ((la : Int) * C + c).toNat = la * C + c by rw [← Int.natCast_mul, ← Int.natCast_add, Int.toNat_natCast]]
      rw [rowsF_set _ C L hla hc, upTo_succ, show addA .i64 (c : Int) 1 = ((c + 1 : Nat) : Int) by rw [add64 (by omega) (by omega)]; simp]
      exact l17i hL hC ar l hl la hla u κ n (c + 1) (by omega) (by omega)
    · rw [bif_f (dF (show ¬ (c : Int) < (C : Int) by omega)), show c = C by omega]
theorem l17o (hN : 100 < N) (hL : L ≤ 4) (hC : C ≤ 80) (ar) (l : List Bl) (hl : l.length = L * C) (κ) : ∀ (n i : Nat), i ≤ L → L - i < n →
    l_17_3 (R := R) N n (((), (), (L : Int), (i : Int), ()), (((), (shn s0 t m b q z L C, ())), ((), ((), (true, ()))), ar, l, rowsF (upTo l (i * C)) C L, ())) κ =
      κ (((), ()), (((), (shn s0 t m b q z L C, ())), ((), ((), (true, ()))), ar, l, rowsF (upTo l (L * C)) C L, ()))
  | 0, i, h1, h2 => by omega
  | n + 1, i, h1, h2 => by
    unfold l_17_3 B_17_3 C_17_3
    dsimp only
    by_cases hi : i < L
    · rw [bif_t (dT (show (i : Int) < (L : Int) by omega)), bif_t (dT (by omega)), rowsF_len, bif_t (dT (by omega))]
      rw [Int.toNat_natCast i, rowsF_rlen _ C L hi]
      refine (l17i N s0 t m b q z L C hL hC ar l hl i hi (L : Int) _ N 0 (by omega) (by omega)).trans ?_
      dsimp only
      rw [show addA .i64 (i : Int) 1 = ((i + 1 : Nat) : Int) by rw [add64 (by omega) (by omega)]; simp, show i * C + C = (i + 1) * C by rw [Nat.succ_mul]]
      exact l17o hN hL hC ar l hl κ n (i + 1) (by omega) (by omega)
    · rw [bif_f (dF (show ¬ (i : Int) < (L : Int) by omega)), show i = L by omega]
def gridF (l : List Bl) (C L : Nat) : List (List Bl) := rowsF (fun k => l.getD k nulB) C L
theorem p17 (hN : 100 < N) (hL : L ≤ 4) (hC : C ≤ 80) (ar) (l : List Bl) (hl : l.length = L * C) (κ) :
    p_17 (R := R) N (((), ()), gh (shn s0 t m b q z L C) ar l) κ = κ ((), (((), (shn s0 t m b q z L C, ())), ((), ((), (true, ()))), ar, l, gridF l C L, ())) := by
  unfold p_17 Q_17 gh
  dsimp only
  refine (p15 N s0 t m b q z L C (by omega) hL hC _).trans ?_
  dsimp only
  rw [rowsF_len]
  have e : rowsF (fun _ => nulB) C L = rowsF (upTo l (0 * C)) C L := by
    apply rowsF_congr; intro k _; unfold upTo; rw [if_neg (by omega)]
  rw [e]
  refine (l17o N s0 t m b q z L C hN hL hC ar l hl _ N 0 (by omega) (by omega)).trans ?_
  have e2 : rowsF (upTo l (L * C)) C L = gridF l C L := by
    apply rowsF_congr; intro k hk; unfold upTo; rw [if_pos hk]
  rw [e2]
theorem l16i (f g : Nat → Bl) (hfg : ∀ k, k < L * C → schEq (.arr 128 (.int .u64)) (f k) (g k) = true) (la : Nat) (hla : la < L) (hC : C ≤ 80) (κ0 κ1) : ∀ (n c : Nat), c ≤ C → C - c < n →
    l_16_9 (R := R) N n (((), (), (la : Int), (c : Int), ()), (rowsF f C L, rowsF g C L, ())) κ0 κ1 = κ1 (((), (), (la : Int), ()), (rowsF f C L, rowsF g C L, ()))
  | 0, c, h1, h2 => by omega
  | n + 1, c, h1, h2 => by
    unfold l_16_9 B_16_9 C_16_9
    dsimp only
    rw [rowsF_len, rowsF_len, bif_t (dT (by omega)), bif_t (dT (by omega))]
    rw [Int.toNat_natCast la, Int.toNat_natCast c, rowsF_rlen _ C L hla, rowsF_rlen _ C L hla]
    by_cases hc : c < C
    · rw [bif_t (dT (show (c : Int) < (C : Int) by omega)), bif_t (dT (by omega)), bif_t (dT (by omega)), bif_t (dT (by omega)), bif_t (dT (by omega)), bif_t (dT (by omega)), bif_t (dT (by omega)), bif_t (dT (by omega)), bif_t (dT (by omega))]
      rw [rowsF_get f C L hla hc, rowsF_get g C L hla hc, hfg _ (at_lt hla hc), bif_f nT, show addA .i64 (c : Int) 1 = ((c + 1 : Nat) : Int) by rw [add64 (by omega) (by omega)]; simp]
      exact l16i f g hfg la hla hC κ0 κ1 n (c + 1) (by omega) (by omega)
    · rw [bif_f (dF (show ¬ (c : Int) < (C : Int) by omega))]
theorem l16o (hN : 100 < N) (f g : Nat → Bl) (hfg : ∀ k, k < L * C → schEq (.arr 128 (.int .u64)) (f k) (g k) = true) (hL : L ≤ 4) (hC : C ≤ 80) (κ0 κ1) : ∀ (n i : Nat), i ≤ L → L - i < n →
    l_16_4 (R := R) N n (((), (), (i : Int), ()), (rowsF f C L, rowsF g C L, ())) κ0 κ1 = κ1 ((), (rowsF f C L, rowsF g C L, ()))
  | 0, i, h1, h2 => by omega
  | n + 1, i, h1, h2 => by
    unfold l_16_4 B_16_4 C_16_4
    dsimp only
    rw [rowsF_len, rowsF_len]
    by_cases hi : i < L
    · rw [bif_t (dT (show (i : Int) < (L : Int) by omega)), bif_t (dT (by omega)), bif_t (dT (by omega)), bif_t (dT (by omega)), bif_t (dT (by omega))]
      rw [Int.toNat_natCast i, rowsF_rlen _ C L hi, rowsF_rlen _ C L hi, bif_f (by simp)]
      refine (l16i N L C f g hfg i hi hC _ _ N 0 (by omega) (by omega)).trans ?_
      dsimp only
      rw [show addA .i64 (i : Int) 1 = ((i + 1 : Nat) : Int) by rw [add64 (by omega) (by omega)]; simp]
      exact l16o hN f g hfg hL hC κ0 κ1 n (i + 1) (by omega) (by omega)
    · rw [bif_f (dF (show ¬ (i : Int) < (L : Int) by omega))]
theorem p16 (hN : 100 < N) (f g : Nat → Bl) (hfg : ∀ k, k < L * C → schEq (.arr 128 (.int .u64)) (f k) (g k) = true) (hL : L ≤ 4) (hC : C ≤ 80) (κ) :
    p_16 (R := R) N (((), (), ()), (rowsF f C L, rowsF g C L, ())) κ = κ (true, (rowsF f C L, rowsF g C L, ())) := by
  unfold p_16 Q_16
  dsimp only
  rw [rowsF_len, rowsF_len, bif_f (by simp)]
  exact l16o N L C hN f g hfg hL hC _ _ N 0 (by omega) (by omega)
end
def FewP (t L q : Int) : Prop := t ≤ 3 ∧ L ≤ 4 ∧ 4 * L * q ≤ 80
instance (t L q : Int) : Decidable (FewP t L q) := by unfold FewP; exact inferInstance
theorem p55 {R : Type} (N : Nat) (s0 t l m b c q z : Int) (κ) : p_55 (R := R) N (((s0, (t, (l, (m, (b, (c, (q, (z, ())))))))), ()), ()) κ = κ (decide (t ≤ 3 ∧ l ≤ 4 ∧ b ≤ 80)) := by
  unfold p_55 Q_55
  dsimp only
  by_cases h1 : t ≤ 3
  · by_cases h2 : l ≤ 4
    · simp [h1, h2]
    · simp [h2]
  · simp [h1]
theorem p43 {R : Type} (N : Nat) (n : Int) (h : 0 ≤ n ∧ n ≤ 80) (κ0 κ1) : p_43 (R := R) N ((n, ()), ()) κ0 κ1 = κ1 (((), (0, ())), ((n, (0, (0, (0, ())))), ())) := by
  unfold p_43 Q_43
  dsimp only
  rw [bif_f (dF (by omega)), bif_f (dF (by omega))]
theorem p44_v1 {R : Type} (N : Nat) (n : Int) (h : 0 ≤ n ∧ n ≤ 80) (κ0 κ1) : p_44_v1 (R := R) N (((), n, ()), ((n, (0, (0, (0, ())))), ())) κ0 κ1 = κ1 (((), (0, ())), ((n, (n, (n, (1, ())))), ((), ((), (true, ()))), List.replicate n.toNat nulB, ())) := by
  unfold p_44_v1 Q_44_v1
  dsimp only
  have e : maxA 0 n = n := by unfold maxA; split <;> omega
  rw [bif_f (dF (by omega)), sub64 (by omega) (by omega), Int.sub_zero, bif_f (dF (by omega)), add64 (by omega) (by omega), Int.zero_add, e, bif_t (dT (by omega)), bif_t (dT (by omega)), bif_t (dT (by omega)), bif_t (dT (by omega))]
  rfl
theorem p45_v1 {R : Type} (N : Nat) (s0 t l m b c q z : Int) (hl : 1 ≤ l) (ar) (bl : List Bl) (hb : (bl.length : Int) = b) (κ0 κ1) :
    p_45_v1 (R := R) N (((), (s0, (t, (l, (m, (b, (c, (q, (z, ())))))))), ()), (((), ((), (true, ()))), ar, bl, ())) κ0 κ1 = κ1 (((), (0, ())), (((), ((), (true, ()))), ar, bl, ((), ((s0, (t, (l, (m, (b, (c, (q, (z, ())))))))), ())), ())) := by
  unfold p_45_v1 Q_45_v1
  dsimp only
  rw [bif_f (dF (by omega))]
  unfold p_77 Q_77
  dsimp only
  rw [hb, bif_f (dF (by omega))]
theorem p14 {R : Type} (N : Nat) (a t m l z : Int) (κ0 κ1) : p_14 (R := R) N (((a, (t, (m, (l, (z, ()))))), ()), ()) κ0 κ1 =
    if h : Fit a t m l z ∧ FewP t l (m / (4 * l)) then κ1 ((), gh (shn a t m (4 * l * (m / (4 * l))) (m / (4 * l)) z l.toNat (4 * (m / (4 * l))).toNat) (4 * l * (m / (4 * l)), (4 * l * (m / (4 * l)), (4 * l * (m / (4 * l)), (1, ())))) (List.replicate (l.toNat * (4 * (m / (4 * l))).toNat) nulB)) else κ0 ((), ()) := by
  unfold p_14 Q_14
  dsimp only
  rw [p42]
  by_cases h : Fit a t m l z
  · rw [dT h]
    obtain ⟨⟨h1, h2⟩, ⟨h3, h4⟩, ⟨h5, h6⟩, ⟨h7, h8⟩, h9, h10, h11⟩ := id h
    simp only [cond_true, bne_self_eq_false, cond_false]
    rw [p55]
    have q0 : 0 ≤ m / (4 * l) := Int.ediv_nonneg (by omega) (by omega)
    generalize hq : m / (4 * l) = q at *
    have e2 : 4 * l * q = l * (4 * q) := by rw [Int.mul_comm 4 l, Int.mul_assoc]
    have e3 : 0 ≤ 4 * l * q := by rw [e2]; exact Int.mul_nonneg (by omega) (by omega)
    by_cases g : t ≤ 3 ∧ l ≤ 4 ∧ 4 * l * q ≤ 80
    · rw [dT g, bif_f nT]
      rw [p43 N _ ⟨e3, g.2.2⟩]
      dsimp only
      rw [p44_v1 N _ ⟨e3, g.2.2⟩]
      dsimp only
      rw [p45_v1 N _ _ _ _ _ _ _ _ h5 _ _ (by rw [List.length_replicate]; omega)]
      rw [dif_pos ⟨h, g⟩]
      unfold gh shn
      rw [show ((l.toNat : Nat) : Int) = l by omega, show (((4 * q).toNat : Nat) : Int) = 4 * q by omega, show (4 * l * q).toNat = l.toNat * (4 * q).toNat by
        rw [e2]
        obtain ⟨x, rfl⟩ := Int.eq_ofNat_of_zero_le (show 0 ≤ l by omega)
        obtain ⟨y, rfl⟩ := Int.eq_ofNat_of_zero_le q0
        rw [show (4 : Int) * (y : Int) = ((4 * y : Nat) : Int) by simp, ← Int.natCast_mul, Int.toNat_natCast, Int.toNat_natCast, Int.toNat_natCast]]
    · rw [dF g, bif_t nF, dif_neg (fun hh => g hh.2)]
  · rw [dF h, bif_f rfl, dif_neg (fun hh => h hh.1)]
    rfl
theorem gridF_get (l : List Bl) {C L la co : Nat} (h : la < L) (hc : co < C) (z : Bl) : ((gridF l C L).getD la []).getD co z = l.getD (la * C + co) nulB := by
  unfold gridF; exact rowsF_get _ C L h hc z
def tkF (l : List Int) : Nat → Nat → List Int → List Int
  | 0, _, o => o
  | n + 1, i, o => tkF l n (i + 1) (o.set (i / 8) (orA .u64 (o.getD (i / 8) 0) (shlA .u64 (IntKind.wrap .u64 (l.getD i 0)) ((8 * (i % 8) : Nat) : Int))))
theorem tkF_len (l : List Int) : ∀ (n i : Nat) (o : List Int), (tkF l n i o).length = o.length
  | 0, _, _ => rfl
  | n + 1, i, o => by unfold tkF; rw [tkF_len l n]; exact List.length_set ..
def fromF (l : List Int) : List Int := tkF l 1024 0 (List.replicate 128 0)
theorem fromF_len (l : List Int) : (fromF l).length = 128 := by unfold fromF; rw [tkF_len, List.length_replicate]
theorem fromF_def (l : List Int) : fromF l = tkF l 1024 0 (List.replicate 128 0) := rfl
attribute [irreducible] fromF
def fromB (s : ByteArray) : Bl := fun i => (fromF (strList s)).getD i 0
section
variable {R : Type} (N : Nat)
theorem l84_v1 (l : List Int) (hl : l.length = 1024) (κ) : ∀ (n k i : Nat) (o : List Int), i + k = 1024 → k < n → o.length = 128 →
    l_84_v1_5 (R := R) N n (((), (), 1024, (i : Int), ()), (l, o, ())) κ = κ (((), ()), (l, tkF l k i o, ()))
  | 0, k, i, o, h1, h2, h3 => by omega
  | n + 1, 0, i, o, h1, h2, h3 => by
    unfold l_84_v1_5 B_84_v1_5 C_84_v1_5
    dsimp only
    rw [bif_f (dF (by omega))]
    rfl
  | n + 1, k + 1, i, o, h1, h2, h3 => by
    conv => lhs; unfold l_84_v1_5 B_84_v1_5 C_84_v1_5
    dsimp only
    have e1 : quoA .i64 (i : Int) 8 = ((i / 8 : Nat) : Int) := by rw [quo64 (by omega) (by omega) (by omega)]; omega
    have e2 : remA .i64 (i : Int) 8 = ((i % 8 : Nat) : Int) := by rw [rem64 (by omega)]; omega
    have e3 : mulA .i64 8 ((i % 8 : Nat) : Int) = ((8 * (i % 8) : Nat) : Int) := by rw [mul64 (by omega) (by omega)]; omega
    have e4 : addA .i64 (i : Int) 1 = ((i + 1 : Nat) : Int) := by rw [add64 (by omega) (by omega)]; omega
    rw [e1, e2, e3, e4, bif_t (dT (by omega)), bif_t (dT (by omega)), bif_t (dT (by omega)), bif_t (dT (by omega)), bif_t (dT (by omega)), bif_f (dF (by omega)), bif_t (dT (by omega)), bif_t (dT (by omega)), Int.toNat_natCast, Int.toNat_natCast]
    refine (l84_v1 l hl κ n k (i + 1) _ (by omega) (by omega) (by rw [List.length_set]; exact h3)).trans ?_
    rfl
attribute [irreducible] tkF
theorem p84_v1 (hN : 1100 ≤ N) (l : List Int) (hl : l.length = 1024) (κ) : p_84_v1 (R := R) N (((), ()), (l, ())) κ = κ ((fromF l, (0, ())), (l, ())) := by
  unfold p_84_v1 Q_84_v1
  dsimp only
  rw [hl, bif_f (show (remA .i64 ((1024 : Nat) : Int) 8 != 0) = false from rfl), show quoA .i64 ((1024 : Nat) : Int) 8 = 128 from rfl, bif_t (dT (by omega)), bif_t (dT (by omega)), bif_t (dT (by omega)), bif_t (dT (by omega))]
  refine (l84_v1 N l hl _ N 1024 0 _ (by omega) (by omega) List.length_replicate).trans ?_
  rw [fromF_def]
  rfl
theorem p54 (hN : 1100 ≤ N) (s : ByteArray) (hs : (strList s).length = 1024) (κ) : p_54 (R := R) N ((s, ()), ()) κ = κ (fromB s, (0, ())) := by
  unfold p_54 Q_54
  dsimp only
  have hz := Bk.strList_size s
  rw [bif_f (by rw [hz, hs]; rfl), bif_t (dT (by unfold maxI64; omega)), p84_v1 N hN _ hs]
  dsimp only
  exact (bif_t (dT (Nat.le_of_eq (fromF_len _).symm)))
theorem p53two (hN : N = 1301) (x y : Int) (κ) : p_53 (R := R) N (((), ()), ([x, y], ())) κ = κ (Bk.le4 x ++ Bk.le4 y, ([x, y], ())) := by subst hN; kernel_rfl
end
def bgBlk (s : ByteArray) (i j : Nat) : Bl := fromB (Bk.longB 1024 (strList s ++ (Bk.le4 (IntKind.wrap .u32 (j : Int)) ++ Bk.le4 (IntKind.wrap .u32 (i : Int)))))
def begGo (s : ByteArray) (C : Nat) : Nat → Nat → List Bl → List Bl
  | 0, _, l => l
  | n + 1, i, l => begGo s C n (i + 1) ((l.set (i * C + 0) (bgBlk s i 0)).set (i * C + 1) (bgBlk s i 1))
theorem begGo_len (s : ByteArray) (C : Nat) : ∀ (n i : Nat) (l : List Bl), (begGo s C n i l).length = l.length
  | 0, _, _ => rfl
  | n + 1, i, l => by unfold begGo; rw [begGo_len]; simp
theorem listStr_le4 (x y : Int) : strList (listStr (Bk.le4 x ++ Bk.le4 y)) = Bk.le4 x ++ Bk.le4 y := by
  refine Bk.strList_mk _ fun y hy => ?_
  rw [List.mem_append] at hy
  unfold Bk.le4 at hy
  simp only [List.mem_cons, List.not_mem_nil, or_false] at hy
  rcases hy with (rfl | rfl | rfl | rfl) | (rfl | rfl | rfl | rfl) <;> (rw [wrapU8]; omega)
section
variable {R : Type} (N : Nat) (s0 t m b q z : Int) (L C : Nat)
theorem l13i (hN : N = 1301) (hL : L ≤ 4) (hC : 2 ≤ C ∧ C ≤ 80) (s : ByteArray) (hs : (strList s).length ≤ 1300) (i : Nat) (hi : i < L) (u v : Int) (ar) (κ0) (κ1) : ∀ (n j : Nat) (l : List Bl), l.length = L * C → j ≤ 2 → 2 - j < n →
    l_13_7 (R := R) N n (((), s, (i : Int), u, v, (j : Int), ()), gh (shn s0 t m b q z L C) ar l) κ0 κ1 =
      κ1 (((), s, u, v, ()), gh (shn s0 t m b q z L C) ar (if j = 0 then (l.set (i * C + 0) (bgBlk s i 0)).set (i * C + 1) (bgBlk s i 1) else if j = 1 then l.set (i * C + 1) (bgBlk s i 1) else l))
  | 0, j, l, hl, h1, h2 => by omega
  | n + 1, j, l, hl, h1, h2 => by
    conv => lhs; unfold l_13_7 B_13_7 C_13_7
    by_cases hj : j < 2
    · have hlen : (Bk.joinL [s, listStr (Bk.le4 (IntKind.wrap .u32 (j : Int)) ++ Bk.le4 (IntKind.wrap .u32 (i : Int)))]) = strList s ++ (Bk.le4 (IntKind.wrap .u32 (j : Int)) ++ Bk.le4 (IntKind.wrap .u32 (i : Int))) := by
        show strList s ++ (strList (listStr (Bk.le4 (IntKind.wrap .u32 (j : Int)) ++ Bk.le4 (IntKind.wrap .u32 (i : Int)))) ++ []) = _
        rw [List.append_nil, listStr_le4]
      have h8 : (Bk.le4 (IntKind.wrap .u32 (j : Int)) ++ Bk.le4 (IntKind.wrap .u32 (i : Int))).length = 8 := rfl
      have e4 : addA .i64 (j : Int) 1 = ((j + 1 : Nat) : Int) := by rw [add64 (by omega) (by omega)]; omega
      refine (bif_t (dT (show (j : Int) < 2 by omega))).trans ?_
      refine (p53two N hN _ _ _).trans ?_
      dsimp only
      have key := Bk.p52 (R := R) [s, listStr (Bk.le4 (IntKind.wrap .u32 (j : Int)) ++ Bk.le4 (IntKind.wrap .u32 (i : Int)))] (by simp) (by rw [hlen, List.length_append, h8]; omega)
      rw [← hN] at key
      refine (key _).trans ?_
      rw [hlen]
      try dsimp only
      have hsz : (strList (Bk.longB 1024 (strList s ++ (Bk.le4 (IntKind.wrap .u32 (j : Int)) ++ Bk.le4 (IntKind.wrap .u32 (i : Int)))))).length = 1024 := by
        have := Bk.longF_len (size := 1024) (by omega) (by omega) (strList s ++ (Bk.le4 (IntKind.wrap .u32 (j : Int)) ++ Bk.le4 (IntKind.wrap .u32 (i : Int))))
        rw [Bk.longB_str]; omega
      have key2 : ∀ κ, p_54 (R := R) N ((Bk.longB 1024 (strList s ++ (Bk.le4 (IntKind.wrap .u32 (j : Int)) ++ Bk.le4 (IntKind.wrap .u32 (i : Int)))), ()), ()) κ = κ (bgBlk s i j, (0, ())) := p54 N (by omega) _ hsz
      refine (key2 _).trans ?_
      dsimp only
      refine (p12 N s0 t m b q z L C hL hC.2 i j ar l hl _ _).trans ?_
      rw [if_pos ⟨by omega, by omega, by omega, by omega⟩, show ((i : Int) * (C : Int) + (j : Int)).toNat = i * C + j by rw [← Int.natCast_mul, ← Int.natCast_add, Int.toNat_natCast]]
      dsimp only [gh]
      rw [bif_f (show ((0 : Int) != 0) = false from rfl), e4]
      refine (l13i hN hL hC s hs i hi u v ar κ0 κ1 n (j + 1) _ (by rw [List.length_set]; exact hl) (by omega) (by omega)).trans ?_
      rcases (show j = 0 ∨ j = 1 by omega) with e | e
      · subst e
        rw [if_neg (show ¬ 0 + 1 = 0 by omega), if_pos (show 0 + 1 = 1 by omega), if_pos (show 0 = 0 by omega)]
        rfl
      · subst e
        rw [if_neg (show ¬ 1 + 1 = 0 by omega), if_neg (show ¬ 1 + 1 = 1 by omega), if_neg (show ¬ 1 = 0 by omega), if_pos (show 1 = 1 by omega)]
        rfl
    · refine (bif_f (dF (show ¬ (j : Int) < 2 by omega))).trans ?_
      rw [if_neg (by omega), if_neg (by omega)]
      try rfl
theorem l13o (hN : N = 1301) (hL : L ≤ 4) (hC : 2 ≤ C ∧ C ≤ 80) (s : ByteArray) (hs : (strList s).length ≤ 1300) (ar) (κ0) (κ1) : ∀ (n k i : Nat) (l : List Bl), l.length = L * C → i + k = L → k < n →
    l_13_4 (R := R) N n (((), s, (L : Int), (i : Int), ()), gh (shn s0 t m b q z L C) ar l) κ0 κ1 = κ1 ((), gh (shn s0 t m b q z L C) ar (begGo s C k i l))
  | 0, k, i, l, hl, h1, h2 => by omega
  | n + 1, 0, i, l, hl, h1, h2 => by
    conv => lhs; unfold l_13_4 B_13_4 C_13_4
    refine (bif_f (dF (show ¬ (i : Int) < (L : Int) by omega))).trans ?_
    rfl
  | n + 1, k + 1, i, l, hl, h1, h2 => by
    conv => lhs; unfold l_13_4 B_13_4 C_13_4
    refine (bif_t (dT (show (i : Int) < (L : Int) by omega))).trans ?_
    refine (l13i N s0 t m b q z L C hN hL hC s hs i (by omega) _ _ ar _ _ N 0 l hl (by omega) (by omega)).trans ?_
    rw [if_pos rfl]
    dsimp only [gh]
    rw [add64 (by omega) (by omega)]
    refine (l13o hN hL hC s hs ar κ0 κ1 n k (i + 1) _ (by simp; exact hl) (by omega) (by omega)).trans ?_
    rfl
theorem p13 (hN : N = 1301) (hL : L ≤ 4) (hC : 2 ≤ C ∧ C ≤ 80) (s : ByteArray) (hs : (strList s).length ≤ 1300) (ar) (l : List Bl) (hl : l.length = L * C) (κ) :
    p_13 (R := R) N (((), s, ()), gh (shn s0 t m b q z L C) ar l) κ = κ (0, gh (shn s0 t m b q z L C) ar (begGo s C L 0 l)) := by
  unfold p_13 Q_13
  refine (l13o N s0 t m b q z L C hN hL hC s hs ar _ _ N L 0 l hl (by omega) (by omega)).trans ?_
  rfl
end
abbrev gl (l : List Int) : Bl := fun j => l.getD j 0
theorem gl_By (s : ByteArray) : Bk.By (gl (strList s)) := Bk.blk_By (Bk.strList_rng s)
attribute [local semireducible] tkF fromF
theorem tkF_word (l : List Int) : ∀ (n p : Nat) (o : List Int) (hp : p + n = 1024) (ho : o.length = 128) (h : ∀ j, j < 128 → o.getD j 0 = Bk.wF (gl l) j (min 8 (p - 8 * j))), ∀ j, j < 128 → (tkF l n p o).getD j 0 = Bk.wF (gl l) j 8
  | 0, p, o, hp, ho, h => fun j hj => by
    have e : tkF l 0 p o = o := rfl
    rw [e, h j hj, show min 8 (p - 8 * j) = 8 by omega]
  | n + 1, p, o, hp, ho, h => by
    have e : tkF l (n + 1) p o = tkF l n (p + 1) (o.set (p / 8) (orA .u64 (o.getD (p / 8) 0) (shlA .u64 (IntKind.wrap .u64 (l.getD p 0)) ((8 * (p % 8) : Nat) : Int)))) := rfl
    rw [e]
    refine tkF_word l n (p + 1) _ (by omega) (by rw [List.length_set]; exact ho) fun j hj => ?_
    rw [getD_set _ _ _ _ _ (by omega)]
    by_cases hjp : j = p / 8
    · rw [if_pos hjp, ← hjp, h j hj, show min 8 (p - 8 * j) = p % 8 by omega, show min 8 (p + 1 - 8 * j) = p % 8 + 1 by omega]
      show orA .u64 (Bk.wF (gl l) j (p % 8)) (shlA .u64 (IntKind.wrap .u64 (l.getD p 0)) _) = orA .u64 (Bk.wF (gl l) j (p % 8)) (shlA .u64 (IntKind.wrap .u64 (l.getD (8 * j + p % 8) 0)) _)
      rw [show 8 * j + p % 8 = p by omega]
    · rw [if_neg hjp, h j hj, show min 8 (p - 8 * j) = min 8 (p + 1 - 8 * j) by omega]
theorem from_word (l : List Int) (j : Nat) (hj : j < 128) : (fromF l).getD j 0 = Bk.wF (gl l) j 8 := by
  rw [fromF_def]
  exact tkF_word l 1024 0 _ (by omega) List.length_replicate (fun j hj => by
    rw [show min 8 (0 - 8 * j) = 0 by omega, List.getD_eq_getElem?_getD, List.getElem?_replicate, if_pos hj]; rfl) j hj
section
variable {R : Type} (N : Nat)
theorem l85i (l o : List Int) (hl : l.length = 1024) (w : Nat) (hw : w < 128) (κ) : ∀ (n k : Nat) (hk : k ≤ 8) (hn : k < n),
    l_85_9 (R := R) N n (((), 8, (), ((8 * w : Nat) : Int), Bk.wR (gl l) w (8 - k), ((k : Nat) : Int) - 1, ()), (l, o, ())) κ = κ (((), 8, (), ((8 * w : Nat) : Int), Bk.wR (gl l) w 8, ()), (l, o, ()))
  | 0, k, hk, hn => by omega
  | n + 1, 0, hk, hn => by
    conv => lhs; unfold l_85_9 B_85_9 C_85_9
    refine (bif_f (dF (show ¬ ((0 : Nat) : Int) - 1 ≥ 0 by omega))).trans ?_
    rfl
  | n + 1, k + 1, hk, hn => by
    conv => lhs; unfold l_85_9 B_85_9 C_85_9
    refine (bif_t (dT (show ((k + 1 : Nat) : Int) - 1 ≥ 0 by omega))).trans ?_
    have e : addA .i64 ((8 * w : Nat) : Int) (((k + 1 : Nat) : Int) - 1) = ((8 * w + k : Nat) : Int) := by rw [add64 (by omega) (by omega)]; omega
    have e2 : subA .i64 (((k + 1 : Nat) : Int) - 1) 1 = ((k : Nat) : Int) - 1 := by rw [sub64 (by omega) (by omega)]; omega
    dsimp only
    rw [e, e2, hl, bif_t (dT (by omega)), bif_t (dT (by omega)), Int.toNat_natCast]
    refine Eq.trans ?_ (l85i l o hl w hw κ n k (by omega) (by omega))
    rw [show 8 - k = 8 - (k + 1) + 1 by omega]
    show l_85_9 N n (((), 8, (), ((8 * w : Nat) : Int), addA .u64 (mulA .u64 256 (Bk.wR (gl l) w (8 - (k + 1)))) (IntKind.wrap .u64 (l.getD (8 * w + k) 0)), _, ()), _) κ = l_85_9 N n (((), 8, (), ((8 * w : Nat) : Int), addA .u64 (mulA .u64 256 (Bk.wR (gl l) w (8 - (k + 1)))) (IntKind.wrap .u64 (l.getD (8 * w + (7 - (8 - (k + 1)))) 0)), _, ()), _) κ
    rw [show 7 - (8 - (k + 1)) = k by omega]
theorem l85o (hN : 10 ≤ N) (l : List Int) (hl : l.length = 1024) (κ) : ∀ (n k w : Nat) (hk : w + k = 128) (hn : k < n),
    l_85_5 (R := R) N n (((), 8, (), ((8 * w : Nat) : Int), ()), (l, (List.range w).map (fun i => Bk.wR (gl l) i 8), ())) κ = κ (((), ()), (l, (List.range 128).map (fun i => Bk.wR (gl l) i 8), ()))
  | 0, k, w, hk, hn => by omega
  | n + 1, 0, w, hk, hn => by
    conv => lhs; unfold l_85_5 B_85_5 C_85_5
    refine (bif_f (dF (by show ¬ ((8 * w : Nat) : Int) < ((l.length : Nat) : Int); omega))).trans ?_
    rw [show w = 128 by omega]
    try rfl
  | n + 1, k + 1, w, hk, hn => by
    conv => lhs; unfold l_85_5 B_85_5 C_85_5
    refine (bif_t (dT (by show ((8 * w : Nat) : Int) < ((l.length : Nat) : Int); omega))).trans ?_
    refine (l85i N l _ hl w (by omega) _ N 8 (by omega) (by omega)).trans ?_
    dsimp only
    rw [bif_t (show (decide ((((List.range w).map (fun i => Bk.wR (gl l) i 8)).length + [Bk.wR (gl l) w 8].length) * 8 ≤ 140737488355328) && true) = true by simp; omega), add64 (by omega) (by omega)]
    refine Eq.trans ?_ (l85o hN l hl κ n k (w + 1) (by omega) (by omega))
    rw [List.range_succ, List.map_append, show ((8 * (w + 1) : Nat) : Int) = ((8 * w : Nat) : Int) + 8 by omega]
    rfl
theorem p85 (hN : 200 ≤ N) (l : List Int) (hl : l.length = 1024) (κ) : p_85 (R := R) N (((), 8, ()), (l, ())) κ = κ (((List.range 128).map (fun i => Bk.wR (gl l) i 8), (true, ())), (l, ())) := by
  unfold p_85 Q_85
  dsimp only
  rw [hl, bif_f (show decide ((8 : Int) = 0) = false from rfl), bif_f (show (remA .i64 ((1024 : Nat) : Int) 8 != 0) = false from rfl)]
  refine (l85o N (by omega) l hl _ N 128 0 (by omega) (by omega)).trans ?_
  rfl
theorem l57 (lw : List Int) (hl : lw.length = 128) (zz : Bl) (κ) : ∀ (n k i : Nat) (hk : i + k = 128) (hn : k < n) (a : Bl),
    l_57_4 (R := R) N n (((), (), lw, (i : Int), ()), (zz, a, ())) κ = κ (((), (), ()), (zz, (fun j => if i ≤ j ∧ j < 128 then lw.getD j 0 else a j), ()))
  | 0, k, i, hk, hn, a => by omega
  | n + 1, 0, i, hk, hn, a => by
    conv => lhs; unfold l_57_4 B_57_4 C_57_4
    refine (bif_f (dF (show ¬ (i : Int) < 128 by omega))).trans ?_
    have e : (fun j => if i ≤ j ∧ j < 128 then lw.getD j 0 else a j) = a := funext fun j => if_neg (by omega)
    rw [e]
  | n + 1, k + 1, i, hk, hn, a => by
    conv => lhs; unfold l_57_4 B_57_4 C_57_4
    refine (bif_t (dT (show (i : Int) < 128 by omega))).trans ?_
    refine (bif_t (dT (show (0 : Int) ≤ (i : Int) by omega))).trans ?_
    refine (bif_t (dT (by show (i : Int) < ((lw.length : Nat) : Int); omega))).trans ?_
    refine (bif_t (dT (show (0 : Int) ≤ (i : Int) by omega))).trans ?_
    refine (bif_t (dT (show (i : Int) < 128 by omega))).trans ?_
    dsimp only
    rw [add64 (by omega) (by omega), Int.toNat_natCast, show (i : Int) + 1 = ((i + 1 : Nat) : Int) by omega]
    refine (l57 lw hl zz κ n k (i + 1) (by omega) (by omega) _).trans ?_
    have e : (fun j => if i + 1 ≤ j ∧ j < 128 then lw.getD j 0 else upd a i (lw.getD i (Sch.zero (.int .u64))) j) = (fun j => if i ≤ j ∧ j < 128 then lw.getD j 0 else a j) := funext fun j => by
      by_cases h1 : j = i
      · rw [if_neg (by omega), if_pos (by omega), upd_if, if_pos h1, h1]; rfl
      · by_cases h2 : i ≤ j ∧ j < 128
        · rw [if_pos (by omega), if_pos h2]
        · rw [if_neg (by omega), if_neg h2, upd_if, if_neg h1]
    rw [e]
theorem p57 (hN : 200 ≤ N) (s : ByteArray) (hs : (strList s).length = 1024) (κ : Bl → Option R) : p_57 N ((s, ()), ()) κ = κ (fromB s) := by
  unfold p_57 Q_57
  dsimp only
  have hz := Bk.strList_size s
  rw [bif_t (dT (by unfold maxI64; omega)), p85 N hN _ hs]
  refine (l57 N _ (by simp) _ _ N 128 0 (by omega) (by omega) _).trans ?_
  have e : (fun j => if 0 ≤ j ∧ j < 128 then ((List.range 128).map (fun i => Bk.wR (gl (strList s)) i 8)).getD j 0 else (Sch.zero (.arr 128 (.int .u64)) : Bl) j) = fromB s := funext fun j => by
    unfold fromB
    by_cases h : j < 128
    · rw [if_pos ⟨by omega, h⟩, from_word _ _ h, ← Bk.word_eq (gl_By s)]
      simp [List.getD_eq_getElem?_getD, h]
    · rw [if_neg (by omega), List.getD_eq_getElem?_getD, List.getElem?_eq_none (by rw [fromF_len]; omega)]
      rfl
  exact congrArg κ e
end
theorem gridF_set (l : List Bl) {C L la co : Nat} (h : la < L) (hc : co < C) (hl : l.length = L * C) (x : Bl) :
    (gridF l C L).set la (((gridF l C L).getD la []).set co x) = gridF (l.set (la * C + co) x) C L := by
  unfold gridF
  rw [rowsF_set _ C L h hc]
  apply rowsF_congr
  intro k hk
  rw [upd_if, getD_set _ _ _ _ _ (by rw [hl]; exact at_lt h hc)]
theorem gridF_len (l : List Bl) (C L : Nat) : (gridF l C L).length = L := rowsF_len _ C L
theorem gridF_rlen (l : List Bl) (C L : Nat) {la : Nat} (h : la < L) : ((gridF l C L).getD la []).length = C := rowsF_rlen _ C L h
theorem fromB_congr {s t : ByteArray} (h : strList s = strList t) : fromB s = fromB t := by unfold fromB; rw [h]
theorem str_le4 (x : Int) : strList (listStr (Bk.le4R (IntKind.wrap .u32 x))) = Bk.le4 (IntKind.wrap .u32 x) := by rw [Bk.le4_eq, Bk.le4_str]
theorem size_le4 (x : Int) : (listStr (Bk.le4R (IntKind.wrap .u32 x))).size = 4 := by rw [Bk.strList_size, str_le4 x]; rfl
section
variable {R : Type} (N : Nat) (s0 t m b q z : Int) (L C : Nat)
theorem l19i (hN : N = 1301) (hL : L ≤ 4) (hC : 2 ≤ C ∧ C ≤ 80) (s : ByteArray) (hs : (strList s).length ≤ 1300) (i : Nat) (hi : i < L) (κ) : ∀ (n j : Nat) (l : List Bl), l.length = L * C → j ≤ 2 → 2 - j < n →
    l_19_6 (R := R) N n ((s, (), (), (), (i : Int), (j : Int), ()), (Bk.ivF, shn s0 t m b q z L C, gridF l C L, ())) κ =
      κ ((s, (), (), (), (i : Int), ()), (Bk.ivF, shn s0 t m b q z L C, gridF (if j = 0 then (l.set (i * C + 0) (bgBlk s i 0)).set (i * C + 1) (bgBlk s i 1) else if j = 1 then l.set (i * C + 1) (bgBlk s i 1) else l) C L, ()))
  | 0, j, l, hl, h1, h2 => by omega
  | n + 1, j, l, hl, h1, h2 => by
    conv => lhs; unfold l_19_6 B_19_6 C_19_6
    by_cases hj : j < 2
    · have wj : IntKind.wrap .u32 (j : Int) = (j : Int) := by rw [wrapU32]; omega
      have wi : IntKind.wrap .u32 (i : Int) = (i : Int) := by rw [wrapU32]; omega
      have rj : (0 : Int) ≤ IntKind.wrap .u32 (j : Int) ∧ IntKind.wrap .u32 (j : Int) < 4294967296 := by rw [wj]; omega
      have ri : (0 : Int) ≤ IntKind.wrap .u32 (i : Int) ∧ IntKind.wrap .u32 (i : Int) < 4294967296 := by rw [wi]; omega
      have hT : strList (s ++ (listStr (Bk.le4R (IntKind.wrap .u32 (j : Int))) ++ listStr (Bk.le4R (IntKind.wrap .u32 (i : Int))))) = strList s ++ (Bk.le4 (IntKind.wrap .u32 (j : Int)) ++ Bk.le4 (IntKind.wrap .u32 (i : Int))) := by
        rw [Bk.strList_app, Bk.strList_app, str_le4, str_le4]
      have h8 : (Bk.le4 (IntKind.wrap .u32 (j : Int)) ++ Bk.le4 (IntKind.wrap .u32 (i : Int))).length = 8 := rfl
      have hz := Bk.strList_size s
      have e4 : addA .i64 (j : Int) 1 = ((j + 1 : Nat) : Int) := by rw [add64 (by omega) (by omega)]; omega
      have z1 := size_le4 (j : Int)
      have z2 := size_le4 (i : Int)
      have z3 : (listStr (Bk.le4R (IntKind.wrap .u32 (j : Int))) ++ listStr (Bk.le4R (IntKind.wrap .u32 (i : Int)))).size = 8 := by rw [ByteArray.size_append, z1, z2]
      obtain ⟨B, b1, b2⟩ := Bk.p58 1024 (s ++ (listStr (Bk.le4R (IntKind.wrap .u32 (j : Int))) ++ listStr (Bk.le4R (IntKind.wrap .u32 (i : Int))))) (by omega) (by omega) (by rw [hT, List.length_append, h8]; omega)
      rw [hT] at b1
      have hB : (strList B).length = 1024 := by
        have := Bk.longF_len (size := 1024) (by omega) (by omega) (strList s ++ (Bk.le4 (IntKind.wrap .u32 (j : Int)) ++ Bk.le4 (IntKind.wrap .u32 (i : Int))))
        rw [b1]; omega
      have hb : fromB B = bgBlk s i j := fromB_congr (by rw [b1, Bk.longB_str])
      have p56' : ∀ (x : Int) (κ : List Int → Option R), p_56 N ((x, ()), ()) κ = κ (Bk.le4R x) := by subst hN; exact fun x κ => Bk.p56 x κ
      have b2' : ∀ (κ : ByteArray → Option R), p_58 N ((Bk.ivF, 1024, s ++ (listStr (Bk.le4R (IntKind.wrap .u32 (j : Int))) ++ listStr (Bk.le4R (IntKind.wrap .u32 (i : Int)))), ()), ()) κ = κ B := by subst hN; exact fun κ => b2 κ
      have gl2 : (gridF l C L).length = L := gridF_len l C L
      refine (bif_t (dT (show (j : Int) < 2 by omega))).trans ?_
      refine (p56' _ _).trans ?_
      refine (p56' _ _).trans ?_
      refine (bif_t (dT (by show (listStr (Bk.le4R (IntKind.wrap .u32 (j : Int)))).size + (listStr (Bk.le4R (IntKind.wrap .u32 (i : Int)))).size ≤ maxI64; unfold maxI64; omega))).trans ?_
      refine (bif_t (dT (show (0 : Int) ≤ (i : Int) by omega))).trans ?_
      refine (bif_t (dT (by show (i : Int) < ((gridF l C L).length : Int); omega))).trans ?_
      refine (bif_t (dT (by show s.size + (listStr (Bk.le4R (IntKind.wrap .u32 (j : Int))) ++ listStr (Bk.le4R (IntKind.wrap .u32 (i : Int)))).size ≤ maxI64; unfold maxI64; omega))).trans ?_
      refine (b2' _).trans ?_
      refine (p57 N (by omega) B hB _).trans ?_
      rw [hb]
      refine (bif_t (dT (show (0 : Int) ≤ (j : Int) by omega))).trans ?_
      refine (bif_t (dT (by show (j : Int) < (((gridF l C L).getD (Int.toNat (i : Int)) []).length : Int); rw [Int.toNat_natCast, gridF_rlen l C L hi]; omega))).trans ?_
      dsimp only
      rw [Int.toNat_natCast i, Int.toNat_natCast j, gridF_set l hi (by omega) hl, e4]
      refine (l19i hN hL hC s hs i hi κ n (j + 1) _ (by rw [List.length_set]; exact hl) (by omega) (by omega)).trans ?_
      rcases (show j = 0 ∨ j = 1 by omega) with e | e
      · subst e
        rw [if_neg (show ¬ 0 + 1 = 0 by omega), if_pos (show 0 + 1 = 1 by omega), if_pos (show 0 = 0 by omega)]
      · subst e
        rw [if_neg (show ¬ 1 + 1 = 0 by omega), if_neg (show ¬ 1 + 1 = 1 by omega), if_neg (show ¬ 1 = 0 by omega), if_pos (show 1 = 1 by omega)]
    · refine (bif_f (dF (show ¬ (j : Int) < 2 by omega))).trans ?_
      rw [if_neg (by omega), if_neg (by omega)]
theorem l19o (hN : N = 1301) (hL : L ≤ 4) (hC : 2 ≤ C ∧ C ≤ 80) (s : ByteArray) (hs : (strList s).length ≤ 1300) (κ) : ∀ (n k i : Nat) (l : List Bl), l.length = L * C → i + k = L → k < n →
    l_19_3 (R := R) N n ((s, (), (), (), (i : Int), ()), (Bk.ivF, shn s0 t m b q z L C, gridF l C L, ())) κ = κ (((), ()), (gridF (begGo s C k i l) C L, ()))
  | 0, k, i, l, hl, h1, h2 => by omega
  | n + 1, 0, i, l, hl, h1, h2 => by
    conv => lhs; unfold l_19_3 B_19_3 C_19_3
    refine (bif_f (dF (show ¬ (i : Int) < (L : Int) by omega))).trans ?_
    rfl
  | n + 1, k + 1, i, l, hl, h1, h2 => by
    conv => lhs; unfold l_19_3 B_19_3 C_19_3
    refine (bif_t (dT (show (i : Int) < (L : Int) by omega))).trans ?_
    refine (l19i N s0 t m b q z L C hN hL hC s hs i (by omega) _ N 0 l hl (by omega) (by omega)).trans ?_
    rw [if_pos rfl]
    dsimp only
    rw [add64 (by omega) (by omega)]
    refine (l19o hN hL hC s hs κ n k (i + 1) _ (by simp; exact hl) (by omega) (by omega)).trans ?_
    rfl
theorem p19 (hN : N = 1301) (hL : L ≤ 4) (hC : 2 ≤ C ∧ C ≤ 80) (s : ByteArray) (hs : (strList s).length ≤ 1300) (κ) :
    p_19 (R := R) N ((Bk.ivF, shn s0 t m b q z L C, s, ()), ()) κ = κ ((), (gridF (begGo s C L 0 (List.replicate (L * C) nulB)) C L, ())) := by
  unfold p_19 Q_19
  refine (p15 N s0 t m b q z L C (by omega) hL hC.2 _).trans ?_
  have e : rowsF (fun _ => nulB) C L = gridF (List.replicate (L * C) nulB) C L := by
    apply rowsF_congr; intro k hk; simp [List.getD_eq_getElem?_getD, hk]
  rw [e]
  refine (l19o N s0 t m b q z L C hN hL hC s hs _ N L 0 (List.replicate (L * C) nulB) (by simp) (by omega) (by omega)).trans ?_
  rfl
end
def byteF (x : Int) (k : Nat) : Int := IntKind.wrap .u8 (shrA .u64 x ((8 * k : Nat) : Int))
def b8 (x : Int) : List Int := (List.range' 0 8).map (byteF x)
def b8R (x : Int) : List Int := (List.range 8).map fun k => IntKind.wrap .u8 (remA .u64 (Bk.dv x k) 256)
theorem b8R_eq {x : Int} (h : W x) : b8R x = b8 x := by
  unfold b8R b8
  rw [← List.range_eq_range']
  apply List.map_congr_left
  intro k hk
  exact Bk.le_byte h (List.mem_range.1 hk)
section
variable {R : Type} (N : Nat)
theorem l83i (x : Int) (l : List Int) (c i : Int) (κ) : ∀ (n k j : Nat) (hj : j + k = 8) (hn : k < n) (o : List Int) (ho : o.length + k ≤ 3000),
    l_83_6 (R := R) N n (((), x, l, c, i, (j : Int), ()), (o, ())) κ = κ (((), l, c, i, ()), (o ++ (List.range' j k).map (byteF x), ()))
  | 0, k, j, hj, hn, o, ho => by omega
  | n + 1, 0, j, hj, hn, o, ho => by
    conv => lhs; unfold l_83_6 B_83_6 C_83_6
    refine (bif_f (dF (show ¬ (j : Int) < 8 by omega))).trans ?_
    simp
  | n + 1, k + 1, j, hj, hn, o, ho => by
    conv => lhs; unfold l_83_6 B_83_6 C_83_6
    refine (bif_t (dT (show (j : Int) < 8 by omega))).trans ?_
    dsimp only
    rw [mul64 (by omega) (by omega), bif_f (dF (show ¬ (8 * (j : Int)) < 0 by omega)), bif_t (show (decide ((o.length + [IntKind.wrap .u8 (shrA .u64 x (8 * (j : Int)))].length) * 1 ≤ 140737488355328) && true) = true by simp; omega), add64 (by omega) (by omega)]
    rw [show (j : Int) + 1 = ((j + 1 : Nat) : Int) by omega, show (8 * (j : Int)) = ((8 * j : Nat) : Int) by omega]
    refine (l83i x l c i κ n k (j + 1) (by omega) (by omega) _ (by simp; omega)).trans ?_
    rw [List.append_assoc]
    rfl
theorem l83o (hN : 10 ≤ N) (l : List Int) (hl : l.length ≤ 200) (κ) : ∀ (n k i : Nat) (hi : i + k = l.length) (hn : k < n) (o : List Int) (ho : o.length + 8 * k ≤ 2000),
    l_83_3 (R := R) N n (((), l, ((l.length : Nat) : Int), (i : Int), ()), (o, ())) κ = κ (((), ()), (o ++ (l.drop i).flatMap b8, ()))
  | 0, k, i, hi, hn, o, ho => by omega
  | n + 1, 0, i, hi, hn, o, ho => by
    conv => lhs; unfold l_83_3 B_83_3 C_83_3
    refine (bif_f (dF (show ¬ (i : Int) < ((l.length : Nat) : Int) by omega))).trans ?_
    rw [List.drop_eq_nil_of_le (by omega)]
    simp
  | n + 1, k + 1, i, hi, hn, o, ho => by
    conv => lhs; unfold l_83_3 B_83_3 C_83_3
    refine (bif_t (dT (show (i : Int) < ((l.length : Nat) : Int) by omega))).trans ?_
    refine (bif_t (dT (show (0 : Int) ≤ (i : Int) by omega))).trans ?_
    refine (bif_t (dT (show (i : Int) < ((l.length : Nat) : Int) by omega))).trans ?_
    refine (l83i N _ l _ _ _ N 8 0 (by omega) (by omega) o (by omega)).trans ?_
    dsimp only
    rw [add64 (by omega) (by omega), show (i : Int) + 1 = ((i + 1 : Nat) : Int) by omega, Int.toNat_natCast]
    refine (l83o hN l hl κ n k (i + 1) (by omega) (by omega) _ (by simp; omega)).trans ?_
    have hd : l.drop i = l[i]'(by omega) :: l.drop (i + 1) := List.drop_eq_getElem_cons (by omega)
    have hg : List.getD l i (Sch.zero (.int .u64)) = l[i]'(by omega) := by simp [List.getD_eq_getElem?_getD, show i < l.length by omega]
    rw [hd, hg, List.flatMap_cons, List.append_assoc]
    rfl
def bytesF (a : Bl) : List Int := (List.range' 0 128).flatMap fun j => b8 (a j)
theorem p50 (hN : N = 1301) (a : Bl) (κ : ByteArray → Option R) : p_50 N ((a, ()), ()) κ = κ (listStr (bytesF a)) := by
  unfold p_50 Q_50 p_83 Q_83
  dsimp only
  rw [show ((List.range 128).map fun j => a (0 + j)).length = 128 by simp, bif_t (show decide ((0 : Int) ≤ mulA .i64 8 ((128 : Nat) : Int)) = true from rfl), bif_t (show decide (((1 : Nat) : Int) * mulA .i64 8 ((128 : Nat) : Int) ≤ 281474976710656) = true from rfl), bif_t (show decide (mulA .i64 8 ((128 : Nat) : Int) ≤ 9223372036854775807) = true from rfl)]
  have := l83o (R := R) N (by omega) ((List.range 128).map fun j => a (0 + j)) (by simp) (fun y => κ (listStr y.2.1)) N 128 0 (by simp) (by omega) [] (by simp)
  rw [show ((List.range 128).map fun j => a (0 + j)).length = 128 by simp] at this
  refine this.trans ?_
  rw [List.drop_zero, List.nil_append, List.flatMap_map]
  unfold bytesF
  simp only [Nat.zero_add, List.range_eq_range']
theorem p87 (hN : N = 1301) (x : Int) (κ : List Int → Option R) : p_87 N ((x, ()), ()) κ = κ (b8R x) := by subst hN; kernel_rfl
theorem l59 (hN : N = 1301) (a : Bl) (ha : ∀ j, W (a j)) (κ) : ∀ (n k i : Nat) (hi : i + k = 128) (hn : k < n) (o : List Int) (ho : o.length + 8 * k ≤ 2000),
    l_59_3 (R := R) N n (((), (), (i : Int), ()), (a, o, ())) κ = κ (((), ()), (o ++ (List.range' i k).flatMap (fun j => b8 (a j)), ()))
  | 0, k, i, hi, hn, o, ho => by omega
  | n + 1, 0, i, hi, hn, o, ho => by
    conv => lhs; unfold l_59_3 B_59_3 C_59_3
    refine (bif_f (dF (show ¬ (i : Int) < 128 by omega))).trans ?_
    simp
  | n + 1, k + 1, i, hi, hn, o, ho => by
    conv => lhs; unfold l_59_3 B_59_3 C_59_3
    refine (bif_t (dT (show (i : Int) < 128 by omega))).trans ?_
    refine (bif_t (dT (show (0 : Int) ≤ (i : Int) by omega))).trans ?_
    refine (bif_t (dT (show (i : Int) < 128 by omega))).trans ?_
    refine (p87 N hN _ _).trans ?_
    dsimp only
    have h8 : (b8 (a i)).length = 8 := rfl
    rw [Int.toNat_natCast, b8R_eq (ha i), h8, bif_t (show (decide ((o.length + 8) * 1 ≤ 140737488355328) && true) = true by simp; omega), add64 (by omega) (by omega), show (i : Int) + 1 = ((i + 1 : Nat) : Int) by omega]
    refine (l59 hN a ha κ n k (i + 1) (by omega) (by omega) _ (by rw [List.length_append, h8]; omega)).trans ?_
    rw [List.append_assoc]
    rfl
theorem p59 (hN : N = 1301) (a : Bl) (ha : ∀ j, W (a j)) (κ : ByteArray → Option R) : p_59 N ((a, ()), ()) κ = κ (listStr (bytesF a)) := by
  unfold p_59 Q_59
  refine (l59 N hN a ha _ N 128 0 (by omega) (by omega) [] (by simp)).trans ?_
  rfl
end
section
variable {R : Type} (N : Nat) (s0 t m b q z : Int) (L C : Nat)
def lasts (l : List Bl) (i k : Nat) : List Bl := (List.range' i k).map fun la => l.getD (la * C + (C - 1)) nulB
theorem l10 (hL : L ≤ 4) (hC : 2 ≤ C ∧ C ≤ 80) (ar) (l : List Bl) (hl : l.length = L * C) (zz : Bl) (κ0 κ1) : ∀ (n k i : Nat) (hi : i + k = L) (hn : k < n) (o : List Bl) (ho : o.length = i),
    l_10_5 (R := R) N n (((), (), (), (L : Int), (i : Int), ()), (((), (shn s0 t m b q z L C, ())), ((), ((), (true, ()))), ar, l, zz, o, ())) κ0 κ1 =
      κ1 (((), (), ()), (((), (shn s0 t m b q z L C, ())), ((), ((), (true, ()))), ar, l, zz, o ++ lasts C l i k, ()))
  | 0, k, i, hi, hn, o, ho => by omega
  | n + 1, 0, i, hi, hn, o, ho => by
    conv => lhs; unfold l_10_5 B_10_5 C_10_5
    refine (bif_f (dF (show ¬ (i : Int) < (L : Int) by omega))).trans ?_
    show κ1 (((), (), ()), (((), (shn s0 t m b q z L C, ())), ((), ((), (true, ()))), ar, l, zz, o, ())) = κ1 (((), (), ()), (((), (shn s0 t m b q z L C, ())), ((), ((), (true, ()))), ar, l, zz, o ++ [], ()))
    rw [List.append_nil]
  | n + 1, k + 1, i, hi, hn, o, ho => by
    conv => lhs; unfold l_10_5 B_10_5 C_10_5
    refine (bif_t (dT (show (i : Int) < (L : Int) by omega))).trans ?_
    have e1 : subA .i64 (C : Int) 1 = ((C - 1 : Nat) : Int) := by rw [sub64 (by omega) (by omega)]; omega
    show p_9 N (((), ((i : Int), (subA .i64 (C : Int) 1, ())), ()), gh (shn s0 t m b q z L C) ar l) _ = _
    rw [e1]
    refine (p9 N s0 t m b q z L C hL hC.2 i ((C - 1 : Nat) : Int) ar l hl _).trans ?_
    rw [if_pos ⟨by omega, by omega, by omega, by omega⟩, show ((i : Int) * (C : Int) + ((C - 1 : Nat) : Int)).toNat = i * C + (C - 1) by rw [← Int.natCast_mul, ← Int.natCast_add, Int.toNat_natCast]]
    dsimp only
    rw [bif_f (show ((0 : Int) != 0) = false from rfl), bif_t (show (decide ((o.length + [l.getD (i * C + (C - 1)) nulB].length) * 1024 ≤ 140737488355328) && true) = true by simp; omega), add64 (by omega) (by omega), show (i : Int) + 1 = ((i + 1 : Nat) : Int) by omega]
    refine (l10 hL hC ar l hl zz κ0 κ1 n k (i + 1) (by omega) (by omega) _ (by simp; omega)).trans ?_
    rw [List.append_assoc]
    rfl
theorem p10 (hN : N = 1301) (hL : L ≤ 4) (hC : 2 ≤ C ∧ C ≤ 80) (ar) (l : List Bl) (hl : l.length = L * C) (κ) :
    p_10 (R := R) N (((), ()), gh (shn s0 t m b q z L C) ar l) κ = κ ((xorL (lasts C l 0 L), (0, ())), gh (shn s0 t m b q z L C) ar l) := by
  unfold p_10 Q_10
  refine (l10 N s0 t m b q z L C hL hC ar l hl _ _ _ N L 0 (by omega) (by omega) [] rfl).trans ?_
  rw [List.nil_append]
  refine (p48 N (by omega) (lasts C l 0 L) (by unfold lasts; simp; omega) _).trans ?_
  rfl
def tagF (z : Int) (l : List Bl) : ByteArray := Bk.longB z (strList (listStr (bytesF (xorL (lasts C l 0 L)))))
theorem bytes_len (a : Bl) : ∀ (k i : Nat), ((List.range' i k).flatMap fun j => b8 (a j)).length = 8 * k
  | 0, _ => rfl
  | k + 1, i => by
    rw [List.range'_succ, List.flatMap_cons, List.length_append, bytes_len a k (i + 1), show (b8 (a i)).length = 8 from rfl]
    omega
theorem bytesF_str (a : Bl) : strList (listStr (bytesF a)) = bytesF a := by
  refine Bk.strList_mk _ fun y hy => ?_
  unfold bytesF b8 byteF at hy
  obtain ⟨j, -, hj⟩ := List.mem_flatMap.1 hy
  obtain ⟨k, -, rfl⟩ := List.mem_map.1 hj
  rw [wrapU8]; omega
theorem bytesF_len (a : Bl) : (strList (listStr (bytesF a))).length = 1024 := by rw [bytesF_str]; exact bytes_len a 128 0
theorem p11 (hN : N = 1301) (hz : 4 ≤ z ∧ z ≤ 1024) (hL : L ≤ 4) (hC : 2 ≤ C ∧ C ≤ 80) (ar) (l : List Bl) (hl : l.length = L * C) (κ) :
    p_11 (R := R) N (((), ()), gh (shn s0 t m b q z L C) ar l) κ = κ ((tagF L C z l, (0, ())), gh (shn s0 t m b q z L C) ar l) := by
  unfold p_11 Q_11
  refine (p10 N s0 t m b q z L C hN hL hC ar l hl _).trans ?_
  refine (bif_f (show ((0 : Int) != 0) = false from rfl)).trans ?_
  refine (p50 N hN _ _).trans ?_
  have hj : Bk.joinL [listStr (bytesF (xorL (lasts C l 0 L)))] = strList (listStr (bytesF (xorL (lasts C l 0 L)))) := by
    show strList _ ++ [] = _
    rw [List.append_nil]
  have hlen : (strList (listStr (bytesF (xorL (lasts C l 0 L))))).length ≤ 1500 := by rw [bytesF_len]; omega
  have := Bk.p49 (R := R) z [listStr (bytesF (xorL (lasts C l 0 L)))] (by omega) (by omega) (by simp) (by rw [hj]; exact hlen)
  subst hN
  refine (this _).trans ?_
  rw [hj]
  rfl
theorem l20 (hL : L ≤ 4) (hC : 2 ≤ C ∧ C ≤ 80) (l : List Bl) (hl : l.length = L * C) (kn : Bl) (κ) : ∀ (n k i : Nat) (hi : i + k = L) (hn : k < n) (o : List Bl) (ho : o.length = i),
    l_20_3 (R := R) N n (((), (), (), (), (i : Int), ()), (gridF l C L, kn, shn s0 t m b q z L C, o, ())) κ = κ (((), (), (), ()), (gridF l C L, kn, shn s0 t m b q z L C, o ++ lasts C l i k, ()))
  | 0, k, i, hi, hn, o, ho => by omega
  | n + 1, 0, i, hi, hn, o, ho => by
    conv => lhs; unfold l_20_3 B_20_3 C_20_3
    refine (bif_f (dF (show ¬ (i : Int) < (L : Int) by omega))).trans ?_
    show κ (((), (), (), ()), (gridF l C L, kn, shn s0 t m b q z L C, o, ())) = κ (((), (), (), ()), (gridF l C L, kn, shn s0 t m b q z L C, o ++ [], ()))
    rw [List.append_nil]
  | n + 1, k + 1, i, hi, hn, o, ho => by
    conv => lhs; unfold l_20_3 B_20_3 C_20_3
    have e1 : subA .i64 (C : Int) 1 = ((C - 1 : Nat) : Int) := by rw [sub64 (by omega) (by omega)]; omega
    refine (bif_t (dT (show (i : Int) < (L : Int) by omega))).trans ?_
    refine (bif_t (dT (show (0 : Int) ≤ (i : Int) by omega))).trans ?_
    refine (bif_t (dT (by show (i : Int) < ((gridF l C L).length : Int); rw [gridF_len]; omega))).trans ?_
    refine (bif_t (dT (by show (0 : Int) ≤ subA .i64 (C : Int) 1; rw [e1]; omega))).trans ?_
    refine (bif_t (dT (by show subA .i64 (C : Int) 1 < (((gridF l C L).getD (Int.toNat (i : Int)) []).length : Int); rw [e1, Int.toNat_natCast, gridF_rlen l C L (by omega)]; omega))).trans ?_
    show (bif (decide ((o.length + [((gridF l C L).getD (Int.toNat (i : Int)) []).getD (Int.toNat (subA .i64 (C : Int) 1)) (Sch.zero (.arr 128 (.int .u64)))].length) * 1024 ≤ 140737488355328) && true) then l_20_3 N n (((), (), (), (), addA .i64 (i : Int) 1, ()), (gridF l C L, kn, shn s0 t m b q z L C, o ++ [((gridF l C L).getD (Int.toNat (i : Int)) []).getD (Int.toNat (subA .i64 (C : Int) 1)) (Sch.zero (.arr 128 (.int .u64)))], ())) κ else none) = _
    rw [e1, Int.toNat_natCast, Int.toNat_natCast, gridF_get l (show i < L by omega) (show C - 1 < C by omega), bif_t (show (decide ((o.length + [l.getD (i * C + (C - 1)) nulB].length) * 1024 ≤ 140737488355328) && true) = true by simp; omega), add64 (by omega) (by omega), show (i : Int) + 1 = ((i + 1 : Nat) : Int) by omega]
    refine (l20 hL hC l hl kn κ n k (i + 1) (by omega) (by omega) _ (by simp; omega)).trans ?_
    rw [List.append_assoc]
    rfl
theorem p20 (hN : N = 1301) (hz : 4 ≤ z ∧ z ≤ 1024) (hL : L ≤ 4) (hC : 2 ≤ C ∧ C ≤ 80) (l : List Bl) (hl : l.length = L * C) :
    ∃ B, strList B = strList (tagF L C z l) ∧ ∀ κ, p_20 (R := R) N ((Bk.ivF, shn s0 t m b q z L C, (), ()), (gridF l C L, ())) κ = κ (B, (gridF l C L, ())) := by
  have hlen : (strList (listStr (bytesF (xorL (lasts C l 0 L))))).length ≤ 1500 := by rw [bytesF_len]; omega
  obtain ⟨B, b1, b2⟩ := Bk.p58 z (listStr (bytesF (xorL (lasts C l 0 L)))) (by omega) (by omega) hlen
  refine ⟨B, by unfold tagF; rw [b1, Bk.longB_str], fun κ => ?_⟩
  unfold p_20 Q_20
  refine (l20 N s0 t m b q z L C hL hC l hl _ _ N L 0 (by omega) (by omega) [] rfl).trans ?_
  rw [List.nil_append]
  refine (p60 N (by omega) (lasts C l 0 L) (by unfold lasts; simp; omega) _).trans ?_
  refine (p59 N hN (xorL (lasts C l 0 L)) (xorL_W _) _).trans ?_
  subst hN
  refine (b2 _).trans ?_
  rfl
theorem l411 (hL : L ≤ 4) (hC : 2 ≤ C ∧ C ≤ 80) (ar) (acts : List (Int × (Int × (Int × Unit)))) (ha : acts.length ≤ 50) (kn : Bl) (κ) : ∀ (n i : Nat) (l : List Bl), l.length = L * C → i ≤ acts.length → acts.length - i < n →
    ∃ l' : List Bl, l'.length = L * C ∧ l_4_11 (R := R) N n (((), (), (), acts, ((acts.length : Nat) : Int), (i : Int), ()), (((), (shn s0 t m b q z L C, ())), ((), ((), (true, ()))), ar, l, shn s0 t m b q z L C, kn, ())) κ =
      κ (((), (), (), ()), (((), (shn s0 t m b q z L C, ())), ((), ((), (true, ()))), ar, l', shn s0 t m b q z L C, kn, ()))
  | 0, i, l, hl, h1, h2 => by omega
  | n + 1, i, l, hl, h1, h2 => by
    by_cases hi : i < acts.length
    · generalize hx : acts.getD i (Sch.zero (.stru (.fcons (.int .i64) (.fcons (.int .i64) (.fcons (.int .u64) (.fnil)))))) = x
      obtain ⟨la, co, w, u⟩ := x
      have hs : addA .i64 (i : Int) 1 = ((i + 1 : Nat) : Int) := by rw [add64 (by omega) (by omega)]; simp
      by_cases h : 0 ≤ la ∧ la < L ∧ 0 ≤ co ∧ co < C
      · obtain ⟨l', r1, r2⟩ := l411 hL hC ar acts ha kn κ n (i + 1) (l.set (la * C + co).toNat (upd (Sch.zero (.arr 128 (.int .u64))) 0 w)) (by rw [List.length_set]; exact hl) (by omega) (by omega)
        refine ⟨l', r1, ?_⟩
        rw [← r2]
        conv => lhs; unfold l_4_11 B_4_11 C_4_11
        refine (bif_t (dT (show (i : Int) < ((acts.length : Nat) : Int) by omega))).trans ?_
        refine (bif_t (dT (show (0 : Int) ≤ (i : Int) by omega))).trans ?_
        refine (bif_t (dT (show (i : Int) < ((acts.length : Nat) : Int) by omega))).trans ?_
        dsimp only
        rw [Int.toNat_natCast, hx, hs]
        refine (p12 N s0 t m b q z L C hL hC.2 la co ar l hl _ _).trans ?_
        rw [if_pos h]
        rfl
      · obtain ⟨l', r1, r2⟩ := l411 hL hC ar acts ha kn κ n (i + 1) l hl (by omega) (by omega)
        refine ⟨l', r1, ?_⟩
        rw [← r2]
        conv => lhs; unfold l_4_11 B_4_11 C_4_11
        refine (bif_t (dT (show (i : Int) < ((acts.length : Nat) : Int) by omega))).trans ?_
        refine (bif_t (dT (show (0 : Int) ≤ (i : Int) by omega))).trans ?_
        refine (bif_t (dT (show (i : Int) < ((acts.length : Nat) : Int) by omega))).trans ?_
        dsimp only
        rw [Int.toNat_natCast, hx, hs]
        refine (p12 N s0 t m b q z L C hL hC.2 la co ar l hl _ _).trans ?_
        rw [if_neg h]
        rfl
    · refine ⟨l, hl, ?_⟩
      conv => lhs; unfold l_4_11 B_4_11 C_4_11
      refine (bif_f (dF (show ¬ (i : Int) < ((acts.length : Nat) : Int) by omega))).trans ?_
      rfl
end
theorem p8 {R : Type} (N : Nat) (hN : N = 1301) (κ) : p_8 (R := R) N ((), ()) κ = κ true := by subst hN; kernel_rfl
theorem p4 {R : Type} (N : Nat) (hN : N = 1301) (a t m l z : Int) (s : ByteArray) (acts : List (Int × (Int × (Int × Unit)))) (κ) : p_4 (R := R) N (((a, (t, (m, (l, (z, ()))))), s, acts, ()), ()) κ = κ (true, ()) := by
  unfold p_4 Q_4
  dsimp only
  rw [p8 N hN, bif_f nT, p14]
  by_cases h : Fit a t m l z ∧ FewP t l (m / (4 * l))
  · rw [dif_pos h]
    obtain ⟨h, hf1, hf2, hf3⟩ := h
    obtain ⟨⟨h1, h2⟩, ⟨h3, h4⟩, ⟨h5, h6⟩, ⟨h7, h8⟩, h9, h10, h11⟩ := h
    have q2 : 2 ≤ m / (4 * l) := (Int.le_ediv_iff_mul_le (by omega)).2 (by omega)
    generalize hq : m / (4 * l) = q at *
    obtain ⟨L, rfl⟩ := Int.eq_ofNat_of_zero_le (show 0 ≤ l by omega)
    obtain ⟨Q, rfl⟩ := Int.eq_ofNat_of_zero_le (show 0 ≤ q by omega)
    have e1 : (4 * (L : Int) * (Q : Int)) = ((L * (4 * Q) : Nat) : Int) := by
      rw [Int.natCast_mul, Int.natCast_mul, Int.mul_comm 4 (L : Int), Int.mul_assoc]; rfl
    rw [e1] at hf3 ⊢
    have e2 : ((4 * (Q : Int)).toNat) = 4 * Q := by omega
    rw [e2, Int.toNat_natCast]
    have hb : L * (4 * Q) ≤ 80 := by omega
    have hQ : Q ≤ 20 := by
      have : 1 * (4 * Q) ≤ L * (4 * Q) := Nat.mul_le_mul_right _ (by omega)
      omega
    have hL : L ≤ 4 := by omega
    have hC : 2 ≤ 4 * Q ∧ 4 * Q ≤ 80 := ⟨by omega, by omega⟩
    have hz : 4 ≤ z ∧ z ≤ 1024 := ⟨h10, h11⟩
    generalize har : ((((L * (4 * Q) : Nat) : Int), (((L * (4 * Q) : Nat) : Int), (((L * (4 * Q) : Nat) : Int), ((1 : Int), ()))))) = ar
    generalize hbl : ((L * (4 * Q) : Nat) : Int) = bl
    generalize hCn : 4 * Q = C at *
    show (bif decide (((s.size : Nat) : Int) > 200) then κ (true, ()) else _) = _
    by_cases c1 : ((s.size : Nat) : Int) > 200
    · rw [bif_t (dT c1)]
    rw [bif_f (dF c1)]
    by_cases c2 : ((acts.length : Nat) : Int) > 50
    · exact bif_t (dT c2)
    refine (bif_f (dF c2)).trans ?_
    have hsz := Bk.strList_size s
    have p18' : ∀ κ : Bl → Option R, p_18 N ((), ()) κ = κ Bk.ivF := by subst hN; exact fun κ => Bk.p18 κ
    refine (p18' _).trans ?_
    refine (p13 N a t m bl Q z L C hN hL hC s (by omega) ar (List.replicate (L * C) nulB) (by rw [List.length_replicate]) _).trans ?_
    refine (bif_f (show ((0 : Int) != 0) = false from rfl)).trans ?_
    have ln1 : (begGo s C L 0 (List.replicate (L * C) nulB)).length = L * C := by rw [begGo_len, List.length_replicate]
    refine (p17 N a t m bl Q z L C (by omega) hL hC.2 ar (begGo s C L 0 (List.replicate (L * C) nulB)) ln1 _).trans ?_
    refine (p19 N a t m bl Q z L C hN hL hC s (by omega) _).trans ?_
    refine (p16 N L C (by omega) (fun k => (begGo s C L 0 (List.replicate (L * C) nulB)).getD k nulB) (fun k => (begGo s C L 0 (List.replicate (L * C) nulB)).getD k nulB) (fun k _ => schEq128 (fun _ _ => rfl)) hL hC.2 _).trans ?_
    refine (bif_f nT).trans ?_
    obtain ⟨l2, r1, r2⟩ := l411 N a t m bl Q z L C hL hC ar acts (by omega) Bk.ivF (fun y => p_11 (R := R) N (((), ()), (y.2.1, y.2.2.1, y.2.2.2.1, y.2.2.2.2.1, ())) fun w => bif (w.1.2.1 == 0) then p_17 N (((), ()), (w.2.1, w.2.2.1, w.2.2.2.1, w.2.2.2.2.1, ())) fun v => p_20 N ((y.2.2.2.2.2.2.1, y.2.2.2.2.2.1, (), ()), (v.2.2.2.2.2.1, ())) fun u => κ (eqS w.1.1 u.1, ()) else κ (false, ())) N 0 (begGo s C L 0 (List.replicate (L * C) nulB)) ln1 (by omega) (by omega)
    refine Eq.trans ?_ (r2.trans ?_)
    · rfl
    refine (p11 N a t m bl Q z L C hN hz hL hC ar l2 r1 _).trans ?_
    refine (bif_t (show ((0 : Int) == 0) = true from rfl)).trans ?_
    refine (p17 N a t m bl Q z L C (by omega) hL hC.2 ar l2 r1 _).trans ?_
    obtain ⟨B, b1, b2⟩ := p20 (R := R) N a t m bl Q z L C hN hz hL hC l2 r1
    refine (b2 _).trans ?_
    show κ (eqS (tagF L C z l2) B, ()) = _
    rw [Bk.eqS_dec, b1, dT rfl]
  · rw [dif_neg h]
theorem law_all (y0 : Sch.den (.stru (.fcons (.int .i64) (.fcons (.int .i64) (.fcons (.int .i64) (.fcons (.int .i64) (.fcons (.int .i64) .fnil))))))) {P0 : Prop} (wf0 : P0) (y1 : ByteArray) {P1 : Prop} (wf1 : P1) (y2 : Sch.den (.sl (.stru (.fcons (.int .i64) (.fcons (.int .i64) (.fcons (.int .u64) .fnil)))))) {P2 : Prop} (wf2 : P2) :
    ∃ H', ACalls Try.prog 4 [toAV (.stru (.fcons (.int .i64) (.fcons (.int .i64) (.fcons (.int .i64) (.fcons (.int .i64) (.fcons (.int .i64) .fnil)))))) y0, toAV (.str) y1, toAV (.sl (.stru (.fcons (.int .i64) (.fcons (.int .i64) (.fcons (.int .u64) .fnil))))) y2] [] (.bool true) H' :=
  gd_law (good_4 1301) (x := (y0, y1, y2, ())) (by
    obtain ⟨a, t, m, l, s, u⟩ := y0
    exact p4 1301 rfl a t m l s y1 y2 _)
end Go.Proofs.Ytfcloeflcpcheaa.Eng
