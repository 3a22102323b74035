/-
The engine, ninth text: structs and arrays that are compared. Plain lemmas.
Conditions: none.
-/
import Derived.Test.YtfcloeflcpcheaaGreatEngH
import Derived.ChangeKeysEq
import Derived.Laws.StructEq
set_option linter.unusedVariables false
set_option linter.unusedSimpArgs false
namespace Go.Proofs.YtfcloeflcpcheaaGreat.Eng
variable {P : Program} {T : Types} {σ σ' : Sg} {R R' : Ro} {h h' : Hp} {x x' : Nat} {w w' : World} {X : Type} {r : X}
def valOf (ag : Bool) (cs : List Value) : Value := if ag then .agg cs.toArray else cs.headD undef
theorem part_run {t : Nat} {ti : TI} {i : TypeInfo} {d : TypeDesc} (hk : TyIs P t ti i d) (xs : Array Value) (off : Nat) (hl : off + ti.size ≤ xs.size) (h1 : ti.k.agg = false → ti.size = 1) (w : World) :
  (part t xs off).run P w = .ok (valOf ti.k.agg (cut xs.toList off ti.size)) w := by
 unfold part
 rw [Sem.run_bind, hk.run_agg]
 simp only [Result.andThen_ok]
 cases hq : ti.k.agg
 ·have h2 := h1 hq
  have hlt : off < xs.size := by omega
  simp only [Bool.false_eq_true, if_false, valOf, h2, cut]
  rw [Array.getElem?_eq_getElem hlt]
  have : (xs.toList.drop off).take 1 = [xs[off]] := by
   rw [List.drop_eq_getElem_cons (by simpa using hlt)]
   simp
  rw [this]; rfl
 ·simp only [if_true, Sem.run_bind, hk.run_size, Result.andThen_ok, Sem.run_pure, valOf]
  congr 2
  apply Array.ext'
  simp [cut, List.extract]
def EqV (P : Program) (T : Types) (R : Ro) (s : Sch) : Prop := ∀ (t d : Nat) (u v : s.den) (cu cv : List Value) (w : World), s.val = true → eqTy T s t [] 0 = true → s.ht ≤ d → SC R s u cu → SC R s v cv →
 ∃ ti i de, TyIs P t ti i de ∧ ti.size = s.w ∧ (ti.k.agg = false → ti.size = 1) ∧ (Op.equalIn d t (valOf ti.k.agg cu) (valOf ti.k.agg cv)).run P w = .ok (schEq s u v) w
def EqF (P : Program) (T : Types) (R : Ro) (s : Sch) : Prop := ∀ (fs : List Field) (o d : Nat) (u v : s.den) (xs ys : Array Value) (w : World), s.val = false → eqTy T s 0 (fs.map fun f => (f.type, f.offset)) o = true → s.ht ≤ d → (∀ f ∈ fs, f.name ≠ "_") →
 SC R s u (cut xs.toList o s.w) → SC R s v (cut ys.toList o s.w) → o + s.w ≤ xs.size → o + s.w ≤ ys.size → (Op.eqFields d xs ys fs).run P w = .ok (schEq s u v) w
theorem eqTy_leaf {t : Nat} {f : TK → Bool} (hh : (match tyGet T t with | some ti => f ti.k | none => false) = true) : ∃ ti, tyGet T t = some ti ∧ f ti.k = true := by
 split at hh
 ·exact ⟨_, ‹_›, hh⟩
 ·cases hh
theorem eq_items {n d e c : Nat} {s : Sch} {u v : Nat → s.den} {xs ys : Array Value} (hp : ∀ i, i < n → ∀ w, ∃ a b, (part e xs (i * c)).run P w = .ok a w ∧ (part e ys (i * c)).run P w = .ok b w ∧ (Op.equalIn d e a b).run P w = .ok (schEq s (u i) (v i)) w) :
  ∀ (l : List Nat) (w : World), (∀ i ∈ l, i < n) → (Op.eqItems d e c xs ys l).run P w = .ok (l.all fun i => schEq s (u i) (v i)) w
 | [], w, _ => by simp [Op.eqItems]
 | i :: l, w, hl => by
  obtain ⟨a, b, h1, h2, h3⟩ := hp i (hl i (by simp)) w
  simp only [Op.eqItems, Sem.run_bind, h1, h2, h3, Result.andThen_ok, List.all_cons]
  cases hq : schEq s (u i) (v i)
  ·simp
  ·simp only [Bool.not_true, Bool.false_eq_true, if_false, Bool.true_and]
   exact eq_items hp l w fun j hj => hl j (by simp [hj])
theorem eq_sound (hT : TyOk P T) : ∀ s : Sch, EqV P T R s ∧ EqF P T R s := by
 intro s
 induction s with
 | int k =>
  refine ⟨fun t d u v cu cv w _ he hd hu hv => ?_, fun fs o d u v xs ys w h => by cases h⟩
  simp only [eqTy] at he
  split at he
  ·rename_i ti hti
   split at he
   ·rename_i k' hk
    simp only [Bool.and_eq_true] at he
    obtain ⟨i, de, hi⟩ := hT.is hti
    have hde := hi.int hk
    subst hde
    obtain ⟨d, rfl⟩ : ∃ m, d = m + 1 := ⟨d - 1, by simp [Sch.ht] at hd; omega⟩
    refine ⟨ti, i, _, hi, Nat.eq_of_beq_eq_true he.2, fun _ => Nat.eq_of_beq_eq_true he.2, ?_⟩
    obtain rfl : cu = _ := hu
    obtain rfl : cv = _ := hv
    rw [hk]
    exact run_equalIn_int w d t k k' u v hi.und
   ·cases he
  ·cases he
 | bool =>
  refine ⟨fun t d u v cu cv w _ he hd hu hv => ?_, fun fs o d u v xs ys w h => by cases h⟩
  simp only [eqTy] at he
  split at he
  ·rename_i ti hti
   split at he
   ·rename_i hk
    obtain ⟨i, de, hi⟩ := hT.is hti
    have hkd := hi.kind
    rw [hk] at hkd
    have hde : de = .bool := by cases de <;> first | rfl | (simp [kindB] at hkd)
    subst hde
    obtain ⟨d, rfl⟩ : ∃ m, d = m + 1 := ⟨d - 1, by simp [Sch.ht] at hd; omega⟩
    refine ⟨ti, i, _, hi, Nat.eq_of_beq_eq_true he, fun _ => Nat.eq_of_beq_eq_true he, ?_⟩
    obtain rfl : cu = _ := hu
    obtain rfl : cv = _ := hv
    rw [hk]
    exact run_equalIn_bool' w d t u v hi.und
   ·cases he
  ·cases he
 | str =>
  refine ⟨fun t d u v cu cv w _ he hd hu hv => ?_, fun fs o d u v xs ys w h => by cases h⟩
  simp only [eqTy] at he
  split at he
  ·rename_i ti hti
   split at he
   ·rename_i hk
    obtain ⟨i, de, hi⟩ := hT.is hti
    have hde := hi.str hk
    subst hde
    obtain ⟨d, rfl⟩ : ∃ m, d = m + 1 := ⟨d - 1, by simp [Sch.ht] at hd; omega⟩
    refine ⟨ti, i, _, hi, Nat.eq_of_beq_eq_true he, fun _ => Nat.eq_of_beq_eq_true he, ?_⟩
    obtain rfl : cu = _ := hu
    obtain rfl : cv = _ := hv
    rw [hk]
    show (Op.equalIn (d + 1) t (.string u) (.string v)).run P w = .ok (u == v) w
    rw [run_equalIn_string w d t u v hi.und, beq_toListBytes]
   ·cases he
  ·cases he
 | fnil =>
  refine ⟨fun t d u v cu cv w h => (by cases h), fun fs o d u v xs ys w _ he hd hn hu hv h1 h2 => ?_⟩
  cases fs with
  | nil => rfl
  | cons f fs => simp [eqTy] at he
 | fcons a b iha ihb =>
  refine ⟨fun t d u v cu cv w h => (by cases h), fun fs o d u v xs ys w _ he hd hn hu hv h1 h2 => ?_⟩
  cases fs with
  | nil => simp [eqTy] at he
  | cons f fs =>
   simp only [List.map_cons, eqTy, Bool.and_eq_true, Bool.not_eq_true'] at he
   obtain ⟨⟨⟨⟨e1, e2⟩, e3⟩, e4⟩, e5⟩ := he
   have e1 := Nat.eq_of_beq_eq_true e1
   obtain ⟨c1, c2, g1, g2, g3⟩ := hu
   obtain ⟨c1', c2', g1', g2', g3'⟩ := hv
   simp only [Sch.w] at h1 h2 g1 g1'
   have hl := SC.length g2
   have hl' := SC.length g2'
   have hx : (cut xs.toList o (a.w + b.w)).length = a.w + b.w := cut_length (by simpa using h1)
   have q1 : c1 = cut xs.toList o a.w := by
    have := cut_cut (l := xs.toList) (a := o) (i := a.w + b.w) (o := 0) (n := a.w) (by omega)
    rw [g1, cut_left (by omega), cut_all hl] at this
    exact this
   have q1' : c1' = cut ys.toList o a.w := by
    have := cut_cut (l := ys.toList) (a := o) (i := a.w + b.w) (o := 0) (n := a.w) (by omega)
    rw [g1', cut_left (by omega), cut_all hl'] at this
    exact this
   have l2 := SC.length g3
   have l2' := SC.length g3'
   have q2 : c2 = cut xs.toList (o + a.w) b.w := by
    have := cut_cut (l := xs.toList) (a := o) (i := a.w + b.w) (o := a.w) (n := b.w) (by omega)
    rw [g1, ← hl, show c1.length = c1.length + 0 from rfl, cut_right, cut_all l2] at this
    simpa [hl] using this
   have q2' : c2' = cut ys.toList (o + a.w) b.w := by
    have := cut_cut (l := ys.toList) (a := o) (i := a.w + b.w) (o := a.w) (n := b.w) (by omega)
    rw [g1', ← hl', show c1'.length = c1'.length + 0 from rfl, cut_right, cut_all l2'] at this
    simpa [hl'] using this
   simp only [Sch.ht] at hd
   obtain ⟨ti, i, de, k1, k2, k3, k4⟩ := iha.1 f.type d u.1 v.1 c1 c1' w e2 e3 (by omega) g2 g2'
   have p1 := part_run k1 xs f.offset (by omega) k3 w
   have p2 := part_run k1 ys f.offset (by omega) k3 w
   rw [k2, e1, ← q1] at p1
   rw [k2, e1, ← q1'] at p2
   rw [← e1] at p1 p2
   have hrest := ihb.2 fs (o + a.w) d u.2 v.2 xs ys w e4 e5 (by omega) (fun g hg => hn g (by simp [hg])) (by rw [← q2]; exact g3) (by rw [← q2']; exact g3') (by omega) (by omega)
   simp only [Op.eqFields, hn f (by simp), ne_eq, not_false_eq_true, if_true, Sem.run_bind, p1, p2, k4, Result.andThen_ok, schEq]
   cases hq : schEq a u.1 v.1
   ·simp
   ·simp only [Bool.not_true, Bool.false_eq_true, if_false, Bool.true_and]
    exact hrest
 | stru f ih =>
  refine ⟨fun t d u v cu cv w _ he hd hu hv => ?_, fun fs o d u v xs ys w h => by cases h⟩
  simp only [eqTy] at he
  split at he
  ·rename_i ti hti
   split at he
   ·rename_i fs hk
    simp only [Bool.and_eq_true, Bool.not_eq_true'] at he
    obtain ⟨⟨⟨e1, e2⟩, e3⟩, e4⟩ := he
    obtain ⟨i, de, hi⟩ := hT.is hti
    obtain ⟨fields, rfl, hfs⟩ := hi.stru hk
    obtain ⟨d, rfl⟩ : ∃ m, d = m + 1 := ⟨d - 1, by simp [Sch.ht] at hd; omega⟩
    have hag : ti.k.agg = true := by rw [hk]; rfl
    have hsz := Nat.eq_of_beq_eq_true e3
    refine ⟨ti, i, _, hi, hsz, fun h0 => (by rw [hag] at h0; cases h0), ?_⟩
    obtain ⟨hnames, hst⟩ := (hi.eq e1).2 fields rfl
    rw [hag]
    simp only [valOf, if_true]
    have hfo : P.fieldsOf t = fields := by simp [Program.fieldsOf, hi.und]
    rw [run_equalIn_struct w d t _ _ (by rw [hfo]; exact hi.und) hst, hfo]
    have hl := SC.length (s := f) hu
    have hl' := SC.length (s := f) hv
    simp only [Sch.ht] at hd
    exact ih.2 fields.toList 0 d u v cu.toArray cv.toArray w e2 (by rw [hfs]; exact e4) (by omega) hnames (by rw [cut_all hl]; exact hu) (by rw [cut_all hl']; exact hv) (by simp [hl]) (by simp [hl'])
   ·cases he
  ·cases he
 | arr n s ih =>
  refine ⟨fun t d u v cu cv w _ he hd hu hv => ?_, fun fs o d u v xs ys w h => by cases h⟩
  simp only [eqTy] at he
  split at he
  ·rename_i ti hti
   split at he
   ·rename_i m e hk
    simp only [Bool.and_eq_true] at he
    obtain ⟨⟨⟨e1, e2⟩, e3⟩, e4⟩ := he
    have e1 := Nat.eq_of_beq_eq_true e1
    subst e1
    obtain ⟨i, de, hi⟩ := hT.is hti
    have hde := hi.arr hk
    subst hde
    obtain ⟨d, rfl⟩ : ∃ m, d = m + 1 := ⟨d - 1, by simp [Sch.ht] at hd; omega⟩
    have hag : ti.k.agg = true := by rw [hk]; rfl
    have hsz := Nat.eq_of_beq_eq_true e3
    refine ⟨ti, i, _, hi, hsz, fun h0 => (by rw [hag] at h0; cases h0), ?_⟩
    rw [hag]
    simp only [valOf, if_true]
    simp only [Sch.ht] at hd
    obtain ⟨te, hte⟩ : ∃ te, tyGet T e = some te := by
     cases hq : tyGet T e with
     | some te => exact ⟨te, rfl⟩
     | none => cases s <;> simp [eqTy, hq, Sch.val] at e4 e2
    obtain ⟨i2, de2, hi2⟩ := hT.is hte
    rw [run_equalIn_array w d cu.toArray cv.toArray hi.und hi2.info]
    have hsize : m = 0 ∨ te.size = s.w := by
     rcases Nat.eq_zero_or_pos m with h0 | h0
     ·exact .inl h0
     ·right
      obtain ⟨t1, i1, d1, k1, k2, _⟩ := ih.1 e d (u 0) (v 0) _ _ w e2 e4 (by omega) (hu.2 0 h0) (hv.2 0 h0)
      have := k1.info
      rw [hi2.info] at this
      cases this
      rw [← hi2.size, k1.size, k2]
    have hlu : cu.length = m * s.w := hu.1
    have hlv : cv.length = m * s.w := hv.1
    have hc : P.cellsOf e = te.size := by simp [Program.cellsOf, hi2.info, hi2.size]
    rw [hc]
    refine eq_items (s := s) (n := m) ?_ (List.range m) w (fun j hj => List.mem_range.1 hj)
    intro j hj w
    have hsz2 : te.size = s.w := by rcases hsize with h0 | h0; (omega); exact h0
    have hb := mul_in (w := s.w) hj
    obtain ⟨t1, i1, d1, k1, k2, k3, k4⟩ := ih.1 e d (u j) (v j) _ _ w e2 e4 (by omega) (hu.2 j hj) (hv.2 j hj)
    have p1 := part_run k1 cu.toArray (j * s.w) (by simp [hlu, k2]; omega) k3 w
    have p2 := part_run k1 cv.toArray (j * s.w) (by simp [hlv, k2]; omega) k3 w
    rw [k2] at p1 p2
    rw [hsz2]
    exact ⟨_, _, p1, p2, k4⟩
   ·cases he
  ·cases he
 | sl s ih => exact ⟨fun t d u v cu cv w h => (by cases h), fun fs o d u v xs ys w _ he => by simp [eqTy] at he⟩
end Go.Proofs.YtfcloeflcpcheaaGreat.Eng
