/-
The engine, fifth text: parts of abstract values, and the cells in which they lie. Plain lemmas.
Conditions: none.
-/
import Derived.Test.YtfcloeflcpcheaaGreatEngD
set_option linter.unusedVariables false
set_option linter.unusedSimpArgs false
namespace Go.Proofs.YtfcloeflcpcheaaGreat.Eng
variable {P : Program} {σ σ' : Sg} {R R' : Ro} {h h' : Hp} {x x' : Nat} {w w' : World}
def cut {α : Type} (l : List α) (o n : Nat) : List α := (l.drop o).take n
def splice {α : Type} (l : List α) (o : Nat) (m : List α) : List α := l.take o ++ (m ++ l.drop (o + m.length))
section
variable {α : Type} {l m : List α} {o n a i j : Nat}
theorem cut_length (hh : o + n ≤ l.length) : (cut l o n).length = n := by simp [cut]; omega
theorem cut_get : (cut l o n)[j]? = if j < n then l[o + j]? else none := by
 unfold cut
 rw [List.getElem?_take]
 split <;> simp
theorem cut_cut (hh : o + n ≤ i) : cut (cut l a i) o n = cut l (a + o) n := by
 apply List.ext_getElem?
 intro j
 rw [cut_get, cut_get, cut_get]
 by_cases hj : j < n
 ·rw [if_pos hj, if_pos hj, if_pos (by omega), Nat.add_assoc]
 ·rw [if_neg hj, if_neg hj]
theorem splice_length (hh : o + m.length ≤ l.length) : (splice l o m).length = l.length := by simp [splice]; omega
theorem splice_get (hh : o + m.length ≤ l.length) : (splice l o m)[j]? = if j < o then l[j]? else if j < o + m.length then m[j - o]? else l[j]? := by
 unfold splice
 have hl : (l.take o).length = o := by simp; omega
 rw [List.getElem?_append]
 by_cases h1 : j < o
 ·rw [if_pos (by omega), if_pos h1, List.getElem?_take, if_pos h1]
 ·rw [if_neg (by omega), if_neg h1, hl, List.getElem?_append]
  by_cases h2 : j < o + m.length
  ·rw [if_pos (by omega), if_pos h2]
  ·rw [if_neg (by omega), if_neg h2, List.getElem?_drop]
   congr 1; omega
theorem cut_splice_in (hh : a + i ≤ l.length) (ho : o + m.length ≤ i) : cut (splice l (a + o) m) a i = splice (cut l a i) o m := by
 apply List.ext_getElem?
 intro j
 rw [splice_get (by rw [cut_length hh]; exact ho), cut_get, cut_get, splice_get (by omega)]
 by_cases hj : j < i
 ·rw [if_pos hj, if_pos hj]
  by_cases h1 : j < o
  ·rw [if_pos (by omega), if_pos h1]
  ·rw [if_neg (by omega), if_neg h1]
   by_cases h2 : j < o + m.length
   ·rw [if_pos (by omega), if_pos h2]; congr 1; omega
   ·rw [if_neg (by omega), if_neg h2]
 ·rw [if_neg hj, if_neg hj]
  by_cases h1 : j < o
  ·omega
  ·rw [if_neg h1]
   by_cases h2 : j < o + m.length
   ·omega
   ·rw [if_neg h2]
theorem cut_splice_out (hh : o + m.length ≤ l.length) (ho : a + i ≤ o ∨ o + m.length ≤ a) : cut (splice l o m) a i = cut l a i := by
 apply List.ext_getElem?
 intro j
 rw [cut_get, cut_get]
 by_cases hj : j < i
 ·rw [if_pos hj, if_pos hj, splice_get hh]
  by_cases h1 : a + j < o
  ·rw [if_pos h1]
  ·rw [if_neg h1, if_neg (by omega)]
 ·rw [if_neg hj, if_neg hj]
theorem cut_all (hh : l.length = n) : cut l 0 n = l := by unfold cut; simp [← hh]
theorem splice_all (hh : m.length = l.length) : splice l 0 m = m := by unfold splice; simp [hh]
theorem cut_left {l1 l2 : List α} (hh : o + n ≤ l1.length) : cut (l1 ++ l2) o n = cut l1 o n := by
 apply List.ext_getElem?
 intro j
 rw [cut_get, cut_get]
 by_cases hj : j < n
 ·rw [if_pos hj, if_pos hj, List.getElem?_append, if_pos (by omega)]
 ·rw [if_neg hj, if_neg hj]
theorem cut_right {l1 l2 : List α} : cut (l1 ++ l2) (l1.length + o) n = cut l2 o n := by
 unfold cut
 rw [List.drop_append, List.drop_of_length_le (by omega)]
 simp
theorem splice_left {l1 l2 : List α} (hh : o + m.length ≤ l1.length) : splice (l1 ++ l2) o m = splice l1 o m ++ l2 := by
 unfold splice
 rw [List.take_append_of_le_length (by omega), List.drop_append_of_le_length (by omega)]
 simp
theorem splice_right {l1 l2 : List α} : splice (l1 ++ l2) (l1.length + o) m = l1 ++ splice l2 o m := by
 unfold splice
 rw [List.take_append, List.take_of_length_le (by omega), List.drop_append, List.drop_of_length_le (by omega)]
 simp
 congr 1
 omega
end
theorem mul_in {i n w : Nat} (hi : i < n) : i * w + w ≤ n * w := by
 have := Nat.mul_le_mul_right w hi
 rw [Nat.succ_mul] at this
 exact this
theorem sget_sc : ∀ {s : Sch} {d : s.den} {p : List Nat} {cs : List Value} {v : AV} {o : Nat}, SC R s d cs → sget s d p = some v → s.shp.off p = some o →
  o + v.w ≤ cs.length ∧ VC σ R v (cut cs o v.w) := by
 intro s
 induction s with
 | fcons a b iha ihb =>
  intro d p cs v o hc hg ho
  rcases p with _ | ⟨i, p⟩
  ·simp only [sget] at hg; cases hg
   simp only [Sch.shp, Shp.off] at ho; cases ho
   have hl := VC.length (toAV_vc (σ := fun _ => none) hc)
   exact ⟨by omega, by rw [cut_all hl]; exact toAV_vc hc⟩
  ·obtain ⟨c1, c2, rfl, h1, h2⟩ := hc
   rcases i with _ | i
   ·simp only [sget] at hg
    simp only [Sch.shp, Shp.off] at ho
    obtain ⟨hl, hv⟩ := iha h1 hg ho
    exact ⟨by simp; omega, by rw [cut_left hl]; exact hv⟩
   ·simp only [sget] at hg
    simp only [Sch.shp, Shp.off] at ho
    split at ho
    ·cases ho
     rename_i o' ho'
     obtain ⟨hl, hv⟩ := ihb h2 hg ho'
     have hw : a.shp.w = c1.length := by rw [Sch.shp_w, SC.length h1]
     rw [hw]
     exact ⟨by simp; omega, by rw [cut_right]; exact hv⟩
    ·cases ho
 | stru f ih =>
  intro d p cs v o hc hg ho
  rcases p with _ | ⟨i, p⟩
  ·simp only [sget] at hg; cases hg
   simp only [Sch.shp, Shp.off] at ho; cases ho
   have hl := VC.length (toAV_vc (σ := fun _ => none) (s := .stru f) hc)
   exact ⟨by omega, by rw [cut_all hl]; exact toAV_vc hc⟩
  ·simp only [sget] at hg
   simp only [Sch.shp, Shp.off] at ho
   exact ih hc hg ho
 | arr n s ih =>
  intro d p cs v o hc hg ho
  rcases p with _ | ⟨i, p⟩
  ·simp only [sget] at hg; cases hg
   simp only [Sch.shp, Shp.off] at ho; cases ho
   have hl := VC.length (toAV_vc (σ := fun _ => none) (s := .arr n s) hc)
   exact ⟨by omega, by rw [cut_all hl]; exact toAV_vc hc⟩
  ·simp only [sget] at hg
   simp only [Sch.shp, Shp.off] at ho
   split at ho
   ·rename_i hi
    split at ho
    ·rename_i o' ho'
     cases ho
     have hce := hc.2 i hi
     obtain ⟨hl, hv⟩ := ih hce hg ho'
     have hb := mul_in (w := s.w) hi
     have hcl : cs.length = n * s.w := hc.1
     have he : ((cs.drop (i * s.w)).take s.w).length = s.w := cut_length (l := cs) (by omega)
     rw [Sch.shp_w]
     refine ⟨by omega, ?_⟩
     have : cut (cut cs (i * s.w) s.w) o' v.w = cut cs (i * s.w + o') v.w := cut_cut (by omega)
     rw [← this]; exact hv
    ·cases ho
   ·cases ho
 | _ =>
  intro d p cs v o hc hg ho
  rcases p with _ | ⟨i, p⟩
  ·simp only [sget] at hg; cases hg
   simp only [Sch.shp, Shp.off] at ho; cases ho
   have hl := VC.length (toAV_vc (σ := fun _ => none) hc)
   exact ⟨by omega, by rw [cut_all hl]; exact toAV_vc hc⟩
  ·simp only [Sch.shp, Shp.off] at ho; cases ho
theorem aget_vc : ∀ {c : AV} {p : List Nat} {cs : List Value} {v : AV} {o : Nat}, VC σ R c cs → aget c p = some v → c.shp.off p = some o →
  o + v.w ≤ cs.length ∧ VC σ R v (cut cs o v.w) := by
 intro c
 have nil : ∀ {c : AV} {cs : List Value} {v : AV} {o : Nat}, VC σ R c cs → aget c [] = some v → c.shp.off [] = some o → o + v.w ≤ cs.length ∧ VC σ R v (cut cs o v.w) := by
  intro c cs v o hc hg ho
  simp only [aget] at hg; cases hg
  have : o = 0 := by cases hs : c.shp <;> simp [hs, Shp.off] at ho <;> exact ho.symm
  subst this
  have hl := VC.length hc
  exact ⟨by omega, by rw [cut_all hl]; exact hc⟩
 induction c with
 | node f ih =>
  intro p cs v o hc hg ho
  rcases p with _ | ⟨i, p⟩
  ·exact nil hc hg ho
  ·simp only [aget] at hg; simp only [AV.shp, Shp.off] at ho; exact ih hc hg ho
 | fcons a b iha ihb =>
  intro p cs v o hc hg ho
  rcases p with _ | ⟨i, p⟩
  ·exact nil hc hg ho
  ·obtain ⟨c1, c2, rfl, h1, h2⟩ := hc
   rcases i with _ | i
   ·simp only [aget] at hg; simp only [AV.shp, Shp.off] at ho
    obtain ⟨hl, hv⟩ := iha h1 hg ho
    exact ⟨by simp; omega, by rw [cut_left hl]; exact hv⟩
   ·simp only [aget] at hg; simp only [AV.shp, Shp.off] at ho
    split at ho
    ·cases ho
     rename_i o' ho'
     obtain ⟨hl, hv⟩ := ihb h2 hg ho'
     have hw : a.shp.w = c1.length := by rw [AV.shp_w, VC.length h1]
     rw [hw]
     exact ⟨by simp; omega, by rw [cut_right]; exact hv⟩
    ·cases ho
 | vec s n f =>
  intro p cs v o hc hg ho
  rcases p with _ | ⟨i, p⟩
  ·exact nil hc hg ho
  ·exact sget_sc (s := .arr n s) (d := f) (p := i :: p) hc (by simpa only [aget, sget] using hg) ho
 | lst s l =>
  intro p cs v o hc hg ho
  rcases p with _ | ⟨i, p⟩
  ·exact nil hc hg ho
  ·exact sget_sc (s := .arr l.length s) (d := fun i => l.getD i s.zero) (p := i :: p) hc (by simpa only [aget, sget] using hg) ho
 | fam e s l =>
  intro p cs v o hc hg ho
  rcases p with _ | ⟨i, p⟩
  ·exact nil hc hg ho
  ·simp only [aget] at hg; cases hg
 | _ =>
  intro p cs v o hc hg ho
  rcases p with _ | ⟨i, p⟩
  ·exact nil hc hg ho
  ·simp only [AV.shp, Shp.off] at ho; cases ho
theorem same_shp : ∀ {u v : AV}, u.same v = true → u.shp = v.shp := by
 intro u
 have one : ∀ {u v : AV}, (u.cell && v.cell) = true → u.shp = v.shp := by
  intro u v hh
  simp only [Bool.and_eq_true] at hh
  have f : ∀ a : AV, a.cell = true → a.shp = .one := by intro a ha; cases a <;> simp_all [AV.cell, AV.shp]
  rw [f u hh.1, f v hh.2]
 induction u with
 | node f ih => intro v hh; cases v <;> simp [AV.same, AV.cell] at hh; simp [AV.shp, ih hh]
 | fnil => intro v hh; cases v <;> simp [AV.same, AV.cell] at hh; rfl
 | fcons a b iha ihb => intro v hh; cases v <;> simp [AV.same, AV.cell] at hh; simp [AV.shp, iha hh.1, ihb hh.2]
 | vec s n f => intro v hh; cases v <;> simp [AV.same, AV.cell] at hh; simp [AV.shp, hh.1, hh.2]
 | _ => intro v hh; cases v <;> first | (exact one hh) | (simp [AV.same, AV.cell] at hh)
theorem off_nil (s : Shp) : s.off [] = some 0 := by cases s <;> rfl
theorem sset_sc : ∀ {s : Sch} {d d' : s.den} {p : List Nat} {cs vs : List Value} {v : AV} {o : Nat}, SC R s d cs → sset s d p v = some d' → s.shp.off p = some o → VC σ R v vs →
  o + vs.length ≤ cs.length ∧ SC R s d' (splice cs o vs) := by
 intro s
 have nil : ∀ {s : Sch} {d d' : s.den} {cs vs : List Value} {v : AV} {o : Nat}, SC R s d cs → ofAV s v = some d' → s.shp.off [] = some o → VC σ R v vs → o + vs.length ≤ cs.length ∧ SC R s d' (splice cs o vs) := by
  intro s d d' cs vs v o hc hg ho hv
  rw [off_nil] at ho; cases ho
  have h1 := ofAV_sc hg hv
  have hl : vs.length = cs.length := by rw [SC.length h1, SC.length hc]
  exact ⟨by omega, by rw [splice_all hl]; exact h1⟩
 induction s with
 | fcons a b iha ihb =>
  intro d d' p cs vs v o hc hg ho hv
  rcases p with _ | ⟨i, p⟩
  ·exact nil hc (by simpa only [sset] using hg) ho hv
  ·obtain ⟨c1, c2, rfl, h1, h2⟩ := hc
   rcases i with _ | i
   ·simp only [sset] at hg; simp only [Sch.shp, Shp.off] at ho
    split at hg
    ·cases hg
     obtain ⟨hl, hn⟩ := iha h1 ‹_› ho hv
     exact ⟨by simp; omega, _, _, splice_left hl, hn, h2⟩
    ·cases hg
   ·simp only [sset] at hg; simp only [Sch.shp, Shp.off] at ho
    split at ho
    ·cases ho
     split at hg
     ·cases hg
      rename_i o' ho' _ u hu
      obtain ⟨hl, hn⟩ := ihb h2 hu ho' hv
      have hw : a.shp.w = c1.length := by rw [Sch.shp_w, SC.length h1]
      rw [hw]
      exact ⟨by simp; omega, _, _, splice_right, h1, hn⟩
     ·cases hg
    ·cases ho
 | stru f ih =>
  intro d d' p cs vs v o hc hg ho hv
  rcases p with _ | ⟨i, p⟩
  ·exact nil hc (by simpa only [sset] using hg) ho hv
  ·simp only [sset] at hg; simp only [Sch.shp, Shp.off] at ho; exact ih hc hg ho hv
 | arr n s ih =>
  intro d d' p cs vs v o hc hg ho hv
  rcases p with _ | ⟨i, p⟩
  ·exact nil hc (by simpa only [sset] using hg) ho hv
  ·simp only [sset] at hg; simp only [Sch.shp, Shp.off] at ho
   split at ho
   ·rename_i hi
    split at ho
    ·rename_i o' ho'
     cases ho
     split at hg
     ·cases hg
      rename_i u hu
      obtain ⟨hl, hn⟩ := ih (hc.2 i hi) hu ho' hv
      have hb := mul_in (w := s.w) hi
      have hcl : cs.length = n * s.w := hc.1
      have he : ((cs.drop (i * s.w)).take s.w).length = s.w := cut_length (l := cs) (by omega)
      rw [Sch.shp_w]
      refine ⟨by omega, by rw [splice_length (by omega)]; exact hcl, fun j hj => ?_⟩
      show SC R s (bif Nat.beq j i then u else d j) (cut (splice cs (i * s.w + o') vs) (j * s.w) s.w)
      by_cases hji : j = i
      ·subst hji
       rw [Nat.beq_refl, cut_splice_in (by omega) (by omega)]
       exact hn
      ·have : Nat.beq j i = false := by cases hq : Nat.beq j i with | false => rfl | true => exact absurd (Nat.eq_of_beq_eq_true hq) hji
       rw [this, cut_splice_out (by omega)]
       ·exact hc.2 j hj
       ·rcases Nat.lt_or_gt_of_ne hji with hlt | hgt
        ·left; have := mul_in (w := s.w) hlt; omega
        ·right; have := mul_in (w := s.w) hgt; omega
     ·cases hg
    ·cases ho
   ·cases ho
 | _ =>
  intro d d' p cs vs v o hc hg ho hv
  rcases p with _ | ⟨i, p⟩
  ·exact nil hc (by simpa only [sset] using hg) ho hv
  ·simp only [Sch.shp, Shp.off] at ho; cases ho
theorem aset_vc : ∀ {c c' : AV} {p : List Nat} {cs vs : List Value} {v : AV} {o : Nat}, VC σ R c cs → aset c p v = some c' → c.shp.off p = some o → VC σ R v vs →
  o + vs.length ≤ cs.length ∧ VC σ R c' (splice cs o vs) ∧ c'.shp = c.shp := by
 intro c
 have nil : ∀ {c c' : AV} {cs vs : List Value} {v : AV} {o : Nat}, VC σ R c cs → (bif c.same v then some v else none) = some c' → c.shp.off [] = some o → VC σ R v vs → o + vs.length ≤ cs.length ∧ VC σ R c' (splice cs o vs) ∧ c'.shp = c.shp := by
  intro c c' cs vs v o hc hg ho hv
  cases hs : c.same v with
  | false => simp [hs] at hg
  | true =>
   simp only [hs, cond_true, Option.some.injEq] at hg
   subst hg
   rw [off_nil] at ho; cases ho
   have he := same_shp hs
   have hl : vs.length = cs.length := by rw [VC.length hv, VC.length hc, ← AV.shp_w, ← AV.shp_w, he]
   exact ⟨by omega, by rw [splice_all hl]; exact hv, he.symm⟩
 induction c with
 | node f ih =>
  intro c' p cs vs v o hc hg ho hv
  rcases p with _ | ⟨i, p⟩
  ·exact nil hc (by simpa only [aset] using hg) ho hv
  ·simp only [aset] at hg; simp only [AV.shp, Shp.off] at ho
   split at hg
   ·cases hg
    obtain ⟨hl, hn, hs⟩ := ih hc ‹_› ho hv
    exact ⟨hl, hn, by simp [AV.shp, hs]⟩
   ·cases hg
 | fcons a b iha ihb =>
  intro c' p cs vs v o hc hg ho hv
  rcases p with _ | ⟨i, p⟩
  ·exact nil hc (by simpa only [aset] using hg) ho hv
  ·obtain ⟨c1, c2, rfl, h1, h2⟩ := hc
   rcases i with _ | i
   ·simp only [aset] at hg; simp only [AV.shp, Shp.off] at ho
    split at hg
    ·cases hg
     obtain ⟨hl, hn, hs⟩ := iha h1 ‹_› ho hv
     exact ⟨by simp; omega, ⟨_, _, splice_left hl, hn, h2⟩, by simp [AV.shp, hs]⟩
    ·cases hg
   ·simp only [aset] at hg; simp only [AV.shp, Shp.off] at ho
    split at ho
    ·cases ho
     split at hg
     ·cases hg
      rename_i o' ho' _ u hu
      obtain ⟨hl, hn, hs⟩ := ihb h2 hu ho' hv
      have hw : a.shp.w = c1.length := by rw [AV.shp_w, VC.length h1]
      rw [hw]
      exact ⟨by simp; omega, ⟨_, _, splice_right, h1, hn⟩, by simp [AV.shp, hs]⟩
     ·cases hg
    ·cases ho
 | vec s n f =>
  intro c' p cs vs v o hc hg ho hv
  rcases p with _ | ⟨i, p⟩
  ·exact nil hc (by simpa only [aset] using hg) ho hv
  ·simp only [aset] at hg
   split at hg
   ·cases hg
    rename_i u hu
    obtain ⟨hl, hn⟩ := sset_sc (σ := σ) (s := .arr n s) (d := f) (d' := upd f i u) (p := i :: p) hc (by simp only [sset, hu]) ho hv
    exact ⟨hl, hn, rfl⟩
   ·cases hg
 | lst s l =>
  intro c' p cs vs v o hc hg ho hv
  rcases p with _ | ⟨i, p⟩
  ·exact nil hc (by simpa only [aset] using hg) ho hv
  ·simp only [aset] at hg
   split at hg
   ·cases hg
    rename_i u hu
    have hi : i < l.length := by
     simp only [AV.shp, Shp.off] at ho
     split at ho
     ·assumption
     ·cases ho
    obtain ⟨hl, hn⟩ := sset_sc (σ := σ) (s := .arr l.length s) (d := fun i => l.getD i s.zero) (d' := upd (fun i => l.getD i s.zero) i u) (p := i :: p) hc (by simp only [sset, hu]) ho hv
    refine ⟨hl, ?_, by simp [AV.shp]⟩
    refine ⟨by rw [List.length_set]; exact hn.1, fun j hj => ?_⟩
    have h2 := hn.2 j (by rw [List.length_set] at hj; exact hj)
    have e : upd (fun i => l.getD i s.zero) i u j = (l.set i u).getD j s.zero := by
     unfold upd
     by_cases hji : j = i
     ·subst hji
      rw [Nat.beq_refl]
      simp [List.getD_eq_getElem?_getD, hi]
     ·have : Nat.beq j i = false := by cases hq : Nat.beq j i with | false => rfl | true => exact absurd (Nat.eq_of_beq_eq_true hq) hji
      rw [this]
      simp [List.getD_eq_getElem?_getD, List.getElem?_set, Ne.symm hji]
    show SC R s ((l.set i u).getD j s.zero) _
    rw [← e]; exact h2
   ·cases hg
 | fam e s l =>
  intro c' p cs vs v o hc hg ho hv
  rcases p with _ | ⟨i, p⟩
  ·exact nil hc (by simpa only [aset] using hg) ho hv
  ·simp only [aset] at hg; cases hg
 | _ =>
  intro c' p cs vs v o hc hg ho hv
  rcases p with _ | ⟨i, p⟩
  ·exact nil hc (by simpa only [aset] using hg) ho hv
  ·simp only [AV.shp, Shp.off] at ho; cases ho
end Go.Proofs.YtfcloeflcpcheaaGreat.Eng
