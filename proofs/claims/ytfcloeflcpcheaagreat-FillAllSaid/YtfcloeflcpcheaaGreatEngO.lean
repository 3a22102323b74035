/-
The engine, fifteenth text: names made anew: what is told of memory by one set of names is told by another one. Plain lemmas.
Conditions: none.
-/
import Derived.Test.YtfcloeflcpcheaaGreatEngNa
set_option linter.unusedVariables false
set_option linter.unusedSimpArgs false
namespace Go.Proofs.YtfcloeflcpcheaaGreat.Eng
variable {P : Program} {T : Types} {σ σ' : Sg} {R R' : Ro} {h h' : Hp} {x x' : Nat} {w w' : World} {X : Type} {r : X}
theorem memN_mem : ∀ {l : List Nat} {n : Nat}, memN l n = true ↔ n ∈ l
 | [], n => by simp [memN]
 | m :: l, n => by
  have ih := memN_mem (l := l) (n := n)
  unfold memN
  cases hq : Nat.beq m n with
  | true => simp [Nat.eq_of_beq_eq_true hq]
  | false =>
   have hne : m ≠ n := fun e => by subst e; simp at hq
   simp only [cond_false, ih, List.mem_cons]
   exact ⟨.inr, fun hh => hh.resolve_left (Ne.symm hne)⟩
theorem nthN_get : ∀ (l : List Nat) (i : Nat), nthN l i = l[i]?
 | [], _ => by simp [nthN]
 | _ :: _, 0 => by simp [nthN]
 | _ :: l, i + 1 => by simp [nthN, nthN_get l i]
theorem idxN_get : ∀ {l : List Nat} {n i j : Nat}, idxN l n i = some j → i ≤ j ∧ l[j - i]? = some n
 | [], n, i, j, hh => by simp [idxN] at hh
 | m :: l, n, i, j, hh => by
  unfold idxN at hh
  cases hq : Nat.beq m n with
  | true => rw [hq] at hh; cases hh; simp [Nat.eq_of_beq_eq_true hq]
  | false =>
   rw [hq] at hh
   obtain ⟨h1, h2⟩ := idxN_get (l := l) hh
   refine ⟨by omega, ?_⟩
   rw [show j - i = (j - (i + 1)) + 1 by omega]
   simpa using h2
theorem idx0 {l : List Nat} {n j : Nat} (hh : idxN l n 0 = some j) : nthN l j = some n := by
 rw [nthN_get]; exact (idxN_get hh).2
theorem nth_inj {l : List Nat} (hd : l.Nodup) {i j n : Nat} (hi : nthN l i = some n) (hj : nthN l j = some n) : i = j := by
 rw [nthN_get] at hi hj
 obtain ⟨a1, a2⟩ := List.getElem?_eq_some_iff.1 hi
 obtain ⟨b1, b2⟩ := List.getElem?_eq_some_iff.1 hj
 exact (List.getElem_inj hd).1 (a2.trans b2.symm)
theorem reach_spec (h : Hp) : ∀ (f : Nat) (todo seen : List Nat), seen.Nodup → (reach h f todo seen).Nodup ∧ ∃ q, reach h f todo seen = seen ++ q
 | 0, todo, seen, hd => by simp [reach, hd]
 | f + 1, [], seen, hd => by simp [reach, hd]
 | f + 1, n :: todo, seen, hd => by
  unfold reach
  cases hq : memN seen n with
  | true => exact reach_spec h f todo seen hd
  | false =>
   simp only [cond_false]
   have hn : n ∉ seen := fun hm => by rw [memN_mem.2 hm] at hq; cases hq
   split
   ·obtain ⟨h1, q, h2⟩ := reach_spec h f (_ ++ todo) (seen ++ [n]) (by
     rw [List.nodup_append]
     exact ⟨hd, by simp, fun a ha b hb e => by simp at hb; subst hb; subst e; exact hn ha⟩)
    exact ⟨h1, n :: q, by rw [h2]; simp⟩
   ·exact reach_spec h f todo seen hd
theorem news_get : ∀ (k x i : Nat), nthN (news x k) i = if i < k then some (x + i) else none
 | 0, x, i => by simp [news, nthN]
 | k + 1, x, 0 => by simp [news, nthN]
 | k + 1, x, i + 1 => by
  simp only [news, nthN, news_get k (x + 1) i]
  by_cases hi : i < k
  ·rw [if_pos hi, if_pos (by omega)]; congr 1; omega
  ·rw [if_neg hi, if_neg (by omega)]
theorem news_length : ∀ (k x : Nat), (news x k).length = k
 | 0, x => rfl
 | k + 1, x => by simp [news, news_length k]
theorem news_mem {k x n : Nat} : n ∈ news x k ↔ x ≤ n ∧ n < x + k := by
 induction k generalizing x with
 | zero => simp [news]
 | succ k ih => simp only [news, List.mem_cons, ih]; omega
theorem news_nodup : ∀ (k x : Nat), (news x k).Nodup
 | 0, x => by simp [news]
 | k + 1, x => by
  simp only [news, List.nodup_cons]
  exact ⟨fun hm => by have := news_mem.1 hm; omega, news_nodup k (x + 1)⟩
theorem reached_spec (m : Nat) (h : Hp) (vs : List Nat) : (reached m h vs).Nodup ∧ ∀ n, n < m → nthN (reached m h vs) n = some n := by
 obtain ⟨h1, q, h2⟩ := reach_spec h fuelN ((news 0 m).flatMap (fun n => match hget h n with | some b => b.c.names | none => []) ++ vs) (news 0 m) (news_nodup _ _)
 refine ⟨h1, fun n hn => ?_⟩
 have : reached m h vs = news 0 m ++ q := h2
 rw [this, nthN_get, List.getElem?_append_left (by rw [news_length]; exact hn), ← nthN_get, news_get, if_pos hn]
 simp
theorem hget_number : ∀ (H : List (Option Blk)) (i n : Nat), hget (number i H) n = if i ≤ n then (H[n - i]?).join else none
 | [], i, n => by simp [number, hget]
 | a :: l, i, n => by
  simp only [number, hget_cons, hget_number l (i + 1) n]
  by_cases e : i = n
  ·subst e; simp
  ·rw [if_neg e]
   by_cases hi : i ≤ n
   ·rw [if_pos hi, if_pos (by omega), show n - i = (n - (i + 1)) + 1 by omega]; simp
   ·rw [if_neg hi, if_neg (by omega)]
theorem hget_number0 (H : List (Option Blk)) (n : Nat) : hget (number 0 H) n = (H[n]?).join := by rw [hget_number]; simp
theorem tget_cons (i : Nat) (v : AV) (t : Tm) (j : Nat) : tget ((i, v) :: t) j = if i = j then v else tget t j := by
 show (bif Nat.beq i j then v else tget t j) = _
 cases hq : Nat.beq i j with
 | true => simp [Nat.eq_of_beq_eq_true hq]
 | false =>
  have hne : i ≠ j := fun e => by subst e; simp at hq
  simp [hne]
theorem tget_number : ∀ (l : List AV) (i n : Nat), tget (number i l) n = if i ≤ n then (l[n - i]?).getD .any else .any
 | [], i, n => by simp [number, tget]
 | a :: l, i, n => by
  simp only [number, tget_cons, tget_number l (i + 1) n]
  by_cases e : i = n
  ·subst e; simp
  ·rw [if_neg e]
   by_cases hi : i ≤ n
   ·rw [if_pos hi, if_pos (by omega), show n - i = (n - (i + 1)) + 1 by omega]; simp
   ·rw [if_neg hi, if_neg (by omega)]
def Tie (f : Nat → Option Nat) (σ σ' : Sg) : Prop := ∀ n m b, f n = some m → σ n = some b → σ' m = some b
theorem ren_shp {f : Nat → Option Nat} : ∀ {a a' : AV}, a.ren f = some a' → a'.shp = a.shp := by
 intro a
 induction a with
 | node g ih =>
  intro a' hh
  simp only [AV.ren] at hh
  split at hh
  ·cases hh; simp only [AV.shp, ih ‹_›]
  ·cases hh
 | fcons a b iha ihb =>
  intro a' hh
  simp only [AV.ren] at hh
  split at hh
  ·split at hh
   ·cases hh; simp only [AV.shp, iha ‹_›, ihb ‹_›]
   ·cases hh
  ·cases hh
 | tup g ih =>
  intro a' hh
  simp only [AV.ren] at hh
  split at hh
  ·cases hh; rfl
  ·cases hh
 | ptr n p => intro a' hh; simp only [AV.ren] at hh; split at hh <;> cases hh; rfl
 | sl n => intro a' hh; simp only [AV.ren] at hh; split at hh <;> cases hh; rfl
 | ss n p o l => intro a' hh; simp only [AV.ren] at hh; split at hh <;> cases hh; rfl
 | mp n => intro a' hh; simp only [AV.ren] at hh; split at hh <;> cases hh; rfl
 | isl n i => intro a' hh; simp only [AV.ren] at hh; split at hh <;> cases hh; rfl
 | ip n i p => intro a' hh; simp only [AV.ren] at hh; split at hh <;> cases hh; rfl
 | _ => intro a' hh; simp only [AV.ren] at hh; cases hh; rfl
theorem ren_v1 {f : Nat → Option Nat} (ht : Tie f σ σ') {a a' : AV} {v : Value} (hh : a.ren f = some a') (hv : V1 σ R a v) : V1 σ' R a' v := by
 cases a with
 | ptr n p => simp only [AV.ren] at hh; split at hh <;> cases hh; obtain ⟨b, o, h1, h2⟩ := hv; exact ⟨b, o, ht _ _ _ ‹_› h1, h2⟩
 | sl n => simp only [AV.ren] at hh; split at hh <;> cases hh; obtain ⟨b, s, len, cap, h1, h2⟩ := hv; exact ⟨b, s, len, cap, ht _ _ _ ‹_› h1, h2⟩
 | ss n p o l => simp only [AV.ren] at hh; split at hh <;> cases hh; obtain ⟨b, N, s, a, cap, o0, h1, h2⟩ := hv; exact ⟨b, N, s, a, cap, o0, ht _ _ _ ‹_› h1, h2⟩
 | mp n => simp only [AV.ren] at hh; split at hh <;> cases hh; obtain ⟨b, h1, h2⟩ := hv; exact ⟨b, ht _ _ _ ‹_› h1, h2⟩
 | isl n i => simp only [AV.ren] at hh; split at hh <;> cases hh; obtain ⟨B, b, h1, h2⟩ := hv; exact ⟨B, b, ht _ _ _ ‹_› h1, h2⟩
 | ip n i p => simp only [AV.ren] at hh; split at hh <;> cases hh; obtain ⟨B, b, h1, h2⟩ := hv; exact ⟨B, b, ht _ _ _ ‹_› h1, h2⟩
 | node g => exact hv.elim
 | fcons a b => exact hv.elim
 | tup g => exact hv.elim
 | _ => simp only [AV.ren] at hh; cases hh; exact hv
theorem ren_vc {f : Nat → Option Nat} (ht : Tie f σ σ') : ∀ {a a' : AV} {cs : List Value}, a.ren f = some a' → VC σ R a cs → VC σ' R a' cs := by
 intro a
 induction a with
 | node g ih =>
  intro a' cs hh hv
  simp only [AV.ren] at hh
  split at hh <;> cases hh
  rename_i g' hg
  exact (ih hg hv : VC σ' R g' cs)
 | fcons a b iha ihb =>
  intro a' cs hh hv
  simp only [AV.ren] at hh
  split at hh
  ·split at hh <;> cases hh
   obtain ⟨c1, c2, rfl, h1, h2⟩ := hv
   exact ⟨c1, c2, rfl, iha ‹_› h1, ihb ‹_› h2⟩
  ·cases hh
 | tup g ih => intro a' cs hh hv; obtain ⟨u, _, hu⟩ := hv; exact hu.elim
 | fnil => intro a' cs hh hv; simp only [AV.ren] at hh; cases hh; exact hv
 | vec s n g => intro a' cs hh hv; simp only [AV.ren] at hh; cases hh; exact hv
 | lst s l => intro a' cs hh hv; simp only [AV.ren] at hh; cases hh; exact hv
 | fam e s l => intro a' cs hh hv; simp only [AV.ren] at hh; cases hh; exact hv
 | ptr n p => intro a' cs hh hv; obtain ⟨u, h1, hu⟩ := hv; have := ren_v1 ht hh hu; simp only [AV.ren] at hh; split at hh <;> cases hh; exact ⟨u, h1, this⟩
 | sl n => intro a' cs hh hv; obtain ⟨u, h1, hu⟩ := hv; have := ren_v1 ht hh hu; simp only [AV.ren] at hh; split at hh <;> cases hh; exact ⟨u, h1, this⟩
 | ss n p o l => intro a' cs hh hv; obtain ⟨u, h1, hu⟩ := hv; have := ren_v1 ht hh hu; simp only [AV.ren] at hh; split at hh <;> cases hh; exact ⟨u, h1, this⟩
 | mp n => intro a' cs hh hv; obtain ⟨u, h1, hu⟩ := hv; have := ren_v1 ht hh hu; simp only [AV.ren] at hh; split at hh <;> cases hh; exact ⟨u, h1, this⟩
 | isl n i => intro a' cs hh hv; obtain ⟨u, h1, hu⟩ := hv; have := ren_v1 ht hh hu; simp only [AV.ren] at hh; split at hh <;> cases hh; exact ⟨u, h1, this⟩
 | ip n i p => intro a' cs hh hv; obtain ⟨u, h1, hu⟩ := hv; have := ren_v1 ht hh hu; simp only [AV.ren] at hh; split at hh <;> cases hh; exact ⟨u, h1, this⟩
 | _ => intro a' cs hh hv; simp only [AV.ren] at hh; cases hh; obtain ⟨u, h1, hu⟩ := hv; exact ⟨u, h1, hu⟩
theorem ren_v0 {f : Nat → Option Nat} (ht : Tie f σ σ') {a a' : AV} {v : Value} (hh : a.ren f = some a') (hv : V0 σ R a v) : V0 σ' R a' v := by
 cases a with
 | node g =>
  simp only [AV.ren] at hh
  split at hh <;> cases hh
  obtain ⟨cs, h1, h2⟩ := hv
  exact ⟨cs, h1, ren_vc ht ‹_› h2⟩
 | any => simp only [AV.ren] at hh; cases hh; trivial
 | vec s n g => simp only [AV.ren] at hh; cases hh; exact hv
 | fcons a b => exact hv.elim
 | tup g => exact hv.elim
 | ptr n p => have := ren_v1 (R := R) ht hh hv; simp only [AV.ren] at hh; split at hh <;> cases hh; exact this
 | sl n => have := ren_v1 (R := R) ht hh hv; simp only [AV.ren] at hh; split at hh <;> cases hh; exact this
 | ss n p o l => have := ren_v1 (R := R) ht hh hv; simp only [AV.ren] at hh; split at hh <;> cases hh; exact this
 | mp n => have := ren_v1 (R := R) ht hh hv; simp only [AV.ren] at hh; split at hh <;> cases hh; exact this
 | isl n i => have := ren_v1 (R := R) ht hh hv; simp only [AV.ren] at hh; split at hh <;> cases hh; exact this
 | ip n i p => have := ren_v1 (R := R) ht hh hv; simp only [AV.ren] at hh; split at hh <;> cases hh; exact this
 | _ => simp only [AV.ren] at hh; cases hh; exact hv
theorem ren_vt {f : Nat → Option Nat} (ht : Tie f σ σ') : ∀ {a a' : AV} {vs : List Value}, a.ren f = some a' → VT σ R a vs → VT σ' R a' vs := by
 intro a
 induction a with
 | fnil => intro a' vs hh hv; simp only [AV.ren] at hh; cases hh; exact hv
 | fcons a b iha ihb =>
  intro a' vs hh hv
  simp only [AV.ren] at hh
  split at hh
  ·split at hh <;> cases hh
   obtain ⟨u, vs', rfl, h1, h2⟩ := hv
   exact ⟨u, vs', rfl, ren_v0 ht ‹_› h1, ihb ‹_› h2⟩
  ·cases hh
 | _ => intro a' vs hh hv; exact hv.elim
theorem ren_vv {f : Nat → Option Nat} (ht : Tie f σ σ') {a a' : AV} {v : Value} (hh : a.ren f = some a') (hv : VV σ R a v) : VV σ' R a' v := by
 cases a with
 | tup g =>
  simp only [AV.ren] at hh
  split at hh <;> cases hh
  obtain ⟨vs, h1, h2⟩ := hv
  exact ⟨vs, h1, ren_vt ht ‹_› h2⟩
 | node g => have := ren_v0 (R := R) ht hh hv; simp only [AV.ren] at hh; split at hh <;> cases hh; exact this
 | fcons a b => exact hv.elim
 | ptr n p => have := ren_v0 (R := R) ht hh hv; simp only [AV.ren] at hh; split at hh <;> cases hh; exact this
 | sl n => have := ren_v0 (R := R) ht hh hv; simp only [AV.ren] at hh; split at hh <;> cases hh; exact this
 | ss n p o l => have := ren_v0 (R := R) ht hh hv; simp only [AV.ren] at hh; split at hh <;> cases hh; exact this
 | mp n => have := ren_v0 (R := R) ht hh hv; simp only [AV.ren] at hh; split at hh <;> cases hh; exact this
 | isl n i => have := ren_v0 (R := R) ht hh hv; simp only [AV.ren] at hh; split at hh <;> cases hh; exact this
 | ip n i p => have := ren_v0 (R := R) ht hh hv; simp only [AV.ren] at hh; split at hh <;> cases hh; exact this
 | _ => simp only [AV.ren] at hh; cases hh; exact hv
theorem renAny_vv {f : Nat → Option Nat} (ht : Tie f σ σ') {a : AV} {v : Value} (hv : VV σ R a v) : VV σ' R (a.renAny f) v := by
 unfold AV.renAny
 split
 ·exact ren_vv ht ‹_› hv
 ·trivial
end Go.Proofs.YtfcloeflcpcheaaGreat.Eng
