/-
The engine, sixth text: what the machine's own steps on memory do to what is told of it. Plain lemmas.
Conditions: none.
-/
import Derived.Test.YtfcloeflcpcheaaGreatEngE
import Derived.Lib.FrozenHead
import Derived.Laws.Rows
import Derived.Shelf.Abstract
set_option linter.unusedVariables false
set_option linter.unusedSimpArgs false
namespace Go.Proofs.YtfcloeflcpcheaaGreat.Eng
variable {P : Program} {σ σ' : Sg} {R R' : Ro} {h h' : Hp} {x x' : Nat} {w w' : World}
theorem addr_add (g o i : Nat) : (⟨g, o, none⟩ : Addr).add i = ⟨g, o + i, none⟩ := by unfold Addr.add; split <;> simp_all
theorem storeCells_run (P : Program) (g o : Nat) (t : TypeId) (fz : Nat × Nat) : ∀ (vs : List Value) (i : Nat) (cur : Array Value) (w : World), w.heap[g]? = some (.cells cur t fz) → (∀ j, j < o + i + vs.length → ¬ (fz.1 ≤ j ∧ j < fz.2)) → o + i + vs.length ≤ cur.size → (∀ v ∈ vs, v.oneCell' = true) →
  (storeCells ⟨g, o, none⟩ vs i).run P w = .ok () (w.setRow g (cur.toList.take (o + i) ++ vs ++ cur.toList.drop (o + i + vs.length)).toArray)
 | [], i, cur, w, hg, _, _, _ => by
  simp only [storeCells, List.append_nil, List.length_nil, Nat.add_zero, List.take_append_drop, Array.toArray_toList]
  rw [setRow_self w g cur t fz hg]
  rfl
 | v :: rest, i, cur, w, hg, hfz, hl, h1 => by
  have hi : o + i < cur.size := by simp at hl; omega
  have hcell : w.cell? ⟨g, o + i, none⟩ = some cur[o + i] := by simp [World.cell?, hg, hi]
  have hfro : w.frozen? ⟨g, o + i, none⟩ = false := by
   obtain ⟨lo, hi'⟩ := fz
   have := hfz (o + i) (by simp)
   simp only [World.frozen?, hg, Bool.and_eq_false_iff, decide_eq_false_iff_not]
   simp only at this
   omega
  have hst : (store ((⟨g, o, none⟩ : Addr).add i) v).run P w = .ok () (w.setRow g (cur.setIfInBounds (o + i) v)) := by
   rw [addr_add, run_store P w _ v _ (h1 v (by simp)), hcell]
   simp [hfro, setCell_eq_setRow w g (o + i) cur t fz v hg]
  have ih := storeCells_run P g o t fz rest (i + 1) (cur.setIfInBounds (o + i) v) (w.setRow g (cur.setIfInBounds (o + i) v)) (setRow_heap w g cur _ t _ hg) (fun j hj => hfz j (by simp; omega)) (by simp at hl ⊢; omega) (fun x hx => h1 x (by simp [hx]))
  simp only [storeCells, Sem.run_bind, hst, Result.andThen_ok, ih, setRow_setRow]
  congr 3
  have e := list_seg_step cur.toList (o + i) v rest (by simp at hl ⊢; omega)
  simpa [Array.toList_setIfInBounds, Nat.add_assoc] using e
theorem SC.one : ∀ {s : Sch} {d : s.den} {cs : List Value}, SC R s d cs → ∀ u ∈ cs, u.oneCell' = true := by
 intro s
 induction s with
 | int k => rintro d cs h u hu; rw [show cs = _ from h] at hu; simp at hu; rw [hu]; rfl
 | bool => rintro d cs h u hu; rw [show cs = _ from h] at hu; simp at hu; rw [hu]; rfl
 | str => rintro d cs h u hu; rw [show cs = _ from h] at hu; simp at hu; rw [hu]; rfl
 | fnil => rintro d cs h u hu; rw [show cs = _ from h] at hu; simp at hu
 | fcons a b iha ihb => rintro d cs ⟨c1, c2, rfl, h1, h2⟩ u hu; exact (List.mem_append.1 hu).elim (iha h1 u) (ihb h2 u)
 | stru f ih => intro d cs h; exact ih h
 | arr n s ih =>
  rintro d cs ⟨h1, h2⟩ u hu
  obtain ⟨j, hj, rfl⟩ := List.mem_iff_getElem.1 hu
  have hw : 0 < s.w := by rcases Nat.eq_zero_or_pos s.w with h0 | h0; (rw [h0, Nat.mul_zero] at h1; omega); exact h0
  have hi : j / s.w < n := by rw [Nat.div_lt_iff_lt_mul hw]; omega
  refine ih (h2 (j / s.w) hi) _ ?_
  refine List.mem_iff_getElem?.2 ⟨j % s.w, ?_⟩
  have := cut_get (l := cs) (o := j / s.w * s.w) (n := s.w) (j := j % s.w)
  unfold cut at this
  rw [this, if_pos (Nat.mod_lt _ hw), Nat.div_add_mod' j s.w, List.getElem?_eq_getElem hj]
 | sl s ih => rintro d cs ⟨a, cap, rfl, _⟩ u hu; simp at hu; rw [hu]; rfl
theorem V1.one {a : AV} {v : Value} (h : V1 σ R a v) : v.oneCell' = true := by
 cases a <;> simp only [V1] at h <;> first
  | (subst h; rfl)
  | (obtain ⟨b, o, _, _, _, rfl⟩ := h; rfl)
  | (obtain ⟨b, s, len, cap, _, _, rfl, _⟩ := h; rfl)
  | (obtain ⟨b, N, s, a, cap, o0, _, _, _, _, rfl, _⟩ := h; rfl)
  | (obtain ⟨b, _, rfl⟩ := h; rfl)
  | (obtain ⟨ad, c, o, _, _, _, rfl⟩ := h; rfl)
  | (obtain ⟨B, b, _, _, s, len, cap, _, rfl, _⟩ := h; rfl)
  | (obtain ⟨B, b, _, _, o, _, _, rfl⟩ := h; rfl)
  | (exact SC.one h _ (by simp))
  | exact h.elim
theorem VC.one : ∀ {a : AV} {cs : List Value}, VC σ R a cs → ∀ u ∈ cs, u.oneCell' = true := by
 intro a
 induction a with
 | node f ih => intro cs h; exact ih h
 | fnil => rintro cs h u hu; rw [show cs = _ from h] at hu; simp at hu
 | fcons a b iha ihb => rintro cs ⟨c1, c2, rfl, h1, h2⟩ u hu; exact (List.mem_append.1 hu).elim (iha h1 u) (ihb h2 u)
 | vec s n f => intro cs h; exact SC.one (s := .arr n s) h
 | lst s l => intro cs h; exact SC.one (s := .arr l.length s) h
 | fam e s l => intro cs h; exact h.2
 | _ => rintro cs ⟨u, rfl, hu⟩ v hv; simp at hv; subst hv; exact V1.one hu
theorem cells_one {v : Value} (h : v.oneCell' = true) : v.cells = #[v] := by cases v <;> first | rfl | simp [Value.oneCell'] at h
theorem V0.cells {a : AV} {v : Value} (ha : (a.cell || a.agg) = true) (hv : V0 σ R a v) : VC σ R a v.cells.toList := by
 cases a with
 | node f => obtain ⟨cs, rfl, h⟩ := hv; exact h
 | vec s n f => obtain ⟨cs, rfl, h⟩ := hv; exact h
 | any => simp [AV.cell, AV.agg] at ha
 | fnil => simp [AV.cell, AV.agg] at ha
 | fcons a b => simp [AV.cell, AV.agg] at ha
 | lst s l => simp [AV.cell, AV.agg] at ha
 | tup f => simp [AV.cell, AV.agg] at ha
 | fam e s l => simp [AV.cell, AV.agg] at ha
 | _ => simp only [V0] at hv; rw [cells_one (V1.one hv)]; exact ⟨v, rfl, hv⟩
theorem VV.v0 {a : AV} {v : Value} (ha : (a.cell || a.agg) = true) (hv : VV σ R a v) : V0 σ R a v := by
 cases a with
 | tup f => simp [AV.cell, AV.agg] at ha
 | _ => exact hv
theorem V0.vv {a : AV} {v : Value} (ha : (a.cell || a.agg) = true) (hv : V0 σ R a v) : VV σ R a v := by
 cases a with
 | tup f => simp [AV.cell, AV.agg] at ha
 | _ => exact hv
theorem VC.agg {a : AV} {cs : List Value} (ha : a.agg = true) (h : VC σ R a cs) : V0 σ R a (.agg cs.toArray) := by
 cases a <;> simp [AV.agg] at ha
 ·exact ⟨_, rfl, h⟩
 ·exact ⟨_, rfl, h⟩
theorem VC.cell {a : AV} {cs : List Value} (ha : a.cell = true) (h : VC σ R a cs) : ∃ u, cs = [u] ∧ V0 σ R a u := by
 cases a <;> simp only [AV.cell, Bool.false_eq_true] at ha <;> exact h
theorem HR.drew (hr : HR P σ R h x w) : HR P σ R h x w.drew := ⟨hr.shp, hr.mpb, hr.blk, hr.dom, hr.inj, hr.ro, hr.sep, hr.lt, fun n b k e s l h1 h2 h3 => (hr.own n b k e s l h1 h2 h3).heap fun _ _ _ => rfl⟩
theorem Ext.drew : Ext σ R h x w σ R h x w.drew := ⟨⟨rfl, rfl, rfl, Nat.le_refl _, fun _ _ _ => rfl⟩, Nat.le_refl _, fun _ _ => rfl, fun _ _ h => h, fun _ h => .inl h, fun n b hn ha hl => .inl ⟨n, b, hn, ha, hl, rfl⟩⟩
def Sg.put (σ : Sg) (x : Nat) (b : Bk) : Sg := fun n => if n = x then some b else σ n
theorem Pc.put_ne {n : Nat} {b B : Bk} (hne : n ≠ x) (hh : Pc (Sg.put σ x B) n b) : Pc σ n b := hh.mono fun B' h => by simpa only [Sg.put, if_neg hne] using h
theorem Pc.put_eq {b B : Bk} (hB : B.inn = []) (hh : Pc (Sg.put σ x B) x b) : b = B := by
 obtain ⟨B', h1, h2⟩ := hh
 simp only [Sg.put, if_true, Option.some.injEq] at h1
 subst h1
 rw [hB] at h2
 exact h2.elim id (fun h => by cases h)
theorem HR.pdom (hr : HR P σ R h x w) {n : Nat} {b : Bk} (hh : Pc σ n b) : n < x := by obtain ⟨B, h1, _⟩ := hh; exact hr.dom n B h1
theorem HR.keep (hr : HR P σ R h x w) {n : Nat} {b : Bk} {k : Blk} {e : Nat} {s : Sch} {l : List (List s.den)} (hn : σ n = some b) (hk : hget h n = some k) (hc : k.c = .fam e s l) (hh : ∀ c, Pc σ n c → c.nil = false → w'.heap[c.g]? = w.heap[c.g]?) : OwnAt w' R b e s l :=
 (hr.own n b k e s l hn hk hc).heap fun c hc => hh c ⟨b, hn, hc⟩
theorem hget_cons (n m : Nat) (k : Option Blk) (h : Hp) : hget ((n, k) :: h) m = if n = m then k else hget h m := by
 simp only [hget]
 by_cases e : n = m
 ·subst e; simp
 ·have : Nat.beq n m = false := by cases hq : Nat.beq n m with | false => rfl | true => exact absurd (Nat.eq_of_beq_eq_true hq) e
  rw [this, if_neg e]; rfl
theorem World.cell_alloc {w : World} {a : Addr} {v : Value} (o : Obj) (hc : w.cell? a = some v) : (w.alloc o).cell? a = some v := by
 have hlt := block_lt_of_cell hc
 unfold World.cell? at hc ⊢
 rw [heap_alloc_old w o a.block hlt]; exact hc
theorem alloc_size (w : World) (o : Obj) : (w.alloc o).heap.size = w.heap.size + 1 := by show (w.heap.push o).size = _; simp
theorem HR.alloc (hr : HR P σ R h x w) {c : AV} {e : Nat} {cs : Array Value} {fr : Nat × Nat} (hc : VC σ R c (cs.toList.take c.w)) (hl : c.w ≤ cs.size) (hf : ∀ j, j < cs.size → ¬ (fr.1 ≤ j ∧ j < fr.2)) (hF : ∀ e s l, c ≠ .fam e s l := by intro _ _ _ h; cases h) :
  HR P (Sg.put σ x ⟨w.heap.size, cs.size, c.shp, e, false, 0, []⟩) R ((x, some ⟨c, e⟩) :: h) (x + 1) (w.alloc (.cells cs e fr)) ∧
  Ext σ R h x w (Sg.put σ x ⟨w.heap.size, cs.size, c.shp, e, false, 0, []⟩) R ((x, some ⟨c, e⟩) :: h) (x + 1) (w.alloc (.cells cs e fr)) := by
 have hs : ∀ n b, σ n = some b → Sg.put σ x ⟨w.heap.size, cs.size, c.shp, e, false, 0, []⟩ n = some b := fun n b hn => by
  have := hr.dom n b hn
  unfold Sg.put; rw [if_neg (by omega)]; exact hn
 have hal : ∀ n, n ≠ x → (Alive ((x, some ⟨c, e⟩) :: h) n ↔ Alive h n) := fun n hn => by
  unfold Alive; rw [hget_cons, if_neg (Ne.symm hn)]
 refine ⟨⟨?_, ?_, ?_, ?_, ?_, ?_, ?_, ?_, ?_⟩, ⟨⟨rfl, rfl, rfl, by rw [alloc_size]; omega, fun i hi _ => heap_alloc_old w _ i hi⟩, by omega, fun n hn => by unfold Sg.put; rw [if_neg (by omega)], fun _ _ h => h, fun _ h => .inl h, ?_⟩⟩
 ·intro n b k hn hk
  rw [hget_cons] at hk
  by_cases e1 : n = x
  ·subst e1
   rw [if_pos rfl] at hk
   cases hk
   simp only [Sg.put, if_true, Option.some.injEq] at hn
   subst hn
   exact ⟨rfl, rfl⟩
  ·rw [if_neg (Ne.symm e1)] at hk
   simp only [Sg.put, if_neg e1] at hn
   exact hr.shp n b k hn hk
 ·intro n b k hn hk hnl hmp
  rw [hget_cons] at hk
  by_cases e1 : n = x
  ·subst e1
   rw [if_pos rfl] at hk
   cases hk
   rw [show AV.isMap c = false from vc_map hc] at hmp
   cases hmp
  ·rw [if_neg (Ne.symm e1)] at hk
   simp only [Sg.put, if_neg e1] at hn
   exact (hr.mpb n b k hn hk hnl hmp).heap (heap_alloc_old w _ _ (hr.lt n b (.of hn) hnl))
 ·intro n b k hn hk hnl hmp
  rw [hget_cons] at hk
  by_cases e1 : n = x
  ·subst e1
   rw [if_pos rfl] at hk
   cases hk
   simp only [Sg.put, if_true, Option.some.injEq] at hn
   subst hn
   exact ⟨by show 0 + c.shp.w ≤ _; rw [AV.shp_w, Nat.zero_add]; exact hl, cs, fr, heap_alloc_new w _, rfl, VC.mono hs (fun _ _ h => h) hc, hf⟩
  ·rw [if_neg (Ne.symm e1)] at hk
   simp only [Sg.put, if_neg e1] at hn
   obtain ⟨h3, cs', fr', h4, h5, h6, h7⟩ := hr.blk n b k hn hk hnl hmp
   exact ⟨h3, cs', fr', by rw [heap_alloc_old w _ _ (hr.lt n b (.of hn) hnl)]; exact h4, h5, VC.mono hs (fun _ _ h => h) h6, h7⟩
 ·intro n b hn
  by_cases e1 : n = x
  ·omega
  ·simp only [Sg.put, if_neg e1] at hn
   have := hr.dom n b hn; omega
 ·intro n m b b' hn hm ha hb hl1 hl2 hg
  by_cases e1 : n = x
  ·by_cases e2 : m = x
   ·omega
   ·subst e1
    replace hn := hn.put_eq rfl
    have := hr.lt m b' (hm.put_ne e2) hl2
    subst hn
    simp only at hg
    omega
  ·by_cases e2 : m = x
   ·subst e2
    replace hm := hm.put_eq rfl
    have := hr.lt n b (hn.put_ne e1) hl1
    subst hm
    simp only at hg
    omega
   ·replace hn := hn.put_ne e1
    replace hm := hm.put_ne e2
    exact hr.inj n m b b' hn hm ((hal n e1).1 ha) ((hal m e2).1 hb) hl1 hl2 hg
 ·intro a v ha
  exact World.cell_alloc _ (hr.ro a v ha)
 ·intro n b a hn ha hl1 hR
  by_cases e1 : n = x
  ·subst e1
   replace hn := hn.put_eq rfl
   subst hn
   obtain ⟨v, hv⟩ := Option.ne_none_iff_exists'.1 hR
   have := block_lt_of_cell (hr.ro a v hv)
   simp only; omega
  ·replace hn := hn.put_ne e1
   exact hr.sep n b a hn ((hal n e1).1 ha) hl1 hR
 ·intro n b hn hl1
  rw [alloc_size]
  by_cases e1 : n = x
  ·subst e1
   replace hn := hn.put_eq rfl
   subst hn; simp
  ·replace hn := hn.put_ne e1
   have := hr.lt n b hn hl1; omega
 ·intro n b k e' s l hn hk hc'
  rw [hget_cons] at hk
  by_cases e1 : n = x
  ·rw [if_pos e1.symm] at hk
   cases hk
   exact absurd hc' (hF _ _ _)
  ·rw [if_neg (Ne.symm e1)] at hk
   simp only [Sg.put, if_neg e1] at hn
   exact hr.keep hn hk hc' fun c h1 h2 => heap_alloc_old w _ _ (hr.lt n c h1 h2)
 ·intro n b hn ha hl1
  by_cases e1 : n = x
  ·subst e1
   replace hn := hn.put_eq rfl
   subst hn; exact .inr (Nat.le_refl _)
  ·replace hn := hn.put_ne e1
   exact .inl ⟨n, b, hn, (hal n e1).1 ha, hl1, rfl⟩
theorem setRow_size (w : World) (g : Nat) (cs : Array Value) : (w.setRow g cs).heap.size = w.heap.size := by simp [World.setRow]
theorem HR.set (hr : HR P σ R h x w) {n : Nat} {b : Bk} {k : Blk} (hn : σ n = some b) (hk : hget h n = some k) (hnl : b.nil = false) (hm0 : k.c.isMap = false) {cs cs' : Array Value} {fr : Nat × Nat} (hg : w.heap[b.g]? = some (.cells cs b.e fr))
  (hsz : cs'.size = b.sz) (hf : ∀ j, j < b.sz → ¬ (fr.1 ≤ j ∧ j < fr.2)) {c' : AV} (hsh : c'.shp = b.sh) (hc : VC σ R c' ((cs'.toList.drop b.o).take c'.w)) (hF : ∀ e s l, c' ≠ .fam e s l := by intro _ _ _ h; cases h) :
  HR P σ R ((n, some ⟨c', k.e⟩) :: h) x (w.setRow b.g cs') ∧ Ext σ R h x w σ R ((n, some ⟨c', k.e⟩) :: h) x (w.setRow b.g cs') := by
 have hal : ∀ m, (Alive ((n, some ⟨c', k.e⟩) :: h) m ↔ Alive h m) := fun m => by
  unfold Alive; rw [hget_cons]
  by_cases e : n = m
  ·subst e; simp [hk]
  ·rw [if_neg e]
 have hna : Alive h n := by unfold Alive; simp [hk]
 have h0 := hr.blk n b k hn hk hnl hm0
 refine ⟨⟨?_, ?_, ?_, hr.dom, ?_, ?_, ?_, ?_, ?_⟩, ⟨⟨rfl, rfl, rfl, by rw [setRow_size]; omega, fun i hi hne => ?_⟩, by omega, fun _ _ => rfl, fun _ _ h => h, fun _ h => .inl h, fun m b' hm ha hl1 => .inl ⟨m, b', hm, (hal m).1 ha, hl1, rfl⟩⟩⟩
 ·intro m b' k' hm hk'
  rw [hget_cons] at hk'
  by_cases e1 : n = m
  ·subst e1
   rw [if_pos rfl] at hk'
   cases hk'
   have : b' = b := by rw [hn] at hm; cases hm; rfl
   subst this
   exact ⟨hsh, (hr.shp n b' k hn hk).2⟩
  ·rw [if_neg e1] at hk'
   exact hr.shp m b' k' hm hk'
 ·intro m b' k' hm hk' hnl' hmp
  rw [hget_cons] at hk'
  by_cases e1 : n = m
  ·subst e1
   rw [if_pos rfl] at hk'
   cases hk'
   rw [show AV.isMap c' = false from vc_map hc] at hmp
   cases hmp
  ·rw [if_neg e1] at hk'
   exact (hr.mpb m b' k' hm hk' hnl' hmp).heap (setRow_other w b.g b'.g cs' (fun e => e1 (hr.inj n m b b' (.of hn) (.of hm) hna (by unfold Alive; simp [hk']) hnl hnl' e.symm)))
 ·intro m b' k' hm hk' hnl' hmp
  rw [hget_cons] at hk'
  by_cases e1 : n = m
  ·subst e1
   rw [if_pos rfl] at hk'
   cases hk'
   have : b' = b := by rw [hn] at hm; cases hm; rfl
   subst this
   exact ⟨h0.1, cs', fr, setRow_heap w b'.g cs cs' b'.e fr hg, hsz, hc, hf⟩
  ·rw [if_neg e1] at hk'
   obtain ⟨h3, cs2, fr', h4, h5, h6, h7⟩ := hr.blk m b' k' hm hk' hnl' hmp
   refine ⟨h3, cs2, fr', ?_, h5, h6, h7⟩
   rw [setRow_other w b.g b'.g cs' (fun e => e1 (hr.inj n m b b' (.of hn) (.of hm) hna (by unfold Alive; simp [hk']) hnl hnl' e.symm))]
   exact h4
 ·intro m m' b1 b2 h1 h2 h3 h4 hl1 hl2 h5
  exact hr.inj m m' b1 b2 h1 h2 ((hal m).1 h3) ((hal m').1 h4) hl1 hl2 h5
 ·intro a v ha
  have := hr.ro a v ha
  have hne := hr.sep n b a (.of hn) hna hnl (by simp [ha])
  unfold World.cell? at this ⊢
  rw [setRow_other w b.g a.block cs' hne]; exact this
 ·intro m b' a hm ha hl1 hR
  exact hr.sep m b' a hm ((hal m).1 ha) hl1 hR
 ·intro m b' hm hl1
  rw [setRow_size]; exact hr.lt m b' hm hl1
 ·intro m b' k' e' s l hm hk' hc'
  rw [hget_cons] at hk'
  by_cases e1 : n = m
  ·rw [if_pos e1] at hk'
   cases hk'
   exact absurd hc' (hF _ _ _)
  ·rw [if_neg e1] at hk'
   exact hr.keep hm hk' hc' fun c h1 h2 => setRow_other w b.g c.g cs' (fun e => e1 (hr.inj n m b c (.of hn) h1 hna (by unfold Alive; simp [hk']) hnl h2 e.symm))
 ·exact setRow_other w b.g i cs' (fun e => hne n b (.of hn) hna hnl e.symm)
def zeroB : AV → List Value → Bool
 | .node f, cs => zeroB f cs
 | .fnil, cs => cs.isEmpty
 | .fcons a b, cs => zeroB a (cs.take a.w) && zeroB b (cs.drop a.w)
 | .vec s n f, cs => schB (.arr n s) f cs
 | .int k n, [.int k' n'] => decide (k' = k) && decide (n' = n)
 | .bool b, [.bool b'] => b' == b
 | .str s, [.string s'] => decide (s'.data = s.data)
 | .nilp, [.pointer none] => true
 | .nils, [.slice none n c] => Nat.beq n 0 && Nat.beq c 0
 | .nilm, [.map none] => true
 | _, _ => false
where
 schB : (s : Sch) → s.den → List Value → Bool
  | .int k, x, [.int k' n'] => decide (k' = k) && decide (n' = x)
  | .bool, x, [.bool b] => b == x
  | .str, x, [.string s'] => decide (s'.data = x.data)
  | .fnil, _, cs => cs.isEmpty
  | .fcons a b, x, cs => schB a x.1 (cs.take a.w) && schB b x.2 (cs.drop a.w)
  | .stru f, x, cs => schB f x cs
  | .arr n s, x, cs => Nat.beq cs.length (n * s.w) && (List.range n).all fun i => schB s (x i) ((cs.drop (i * s.w)).take s.w)
  | .sl _, l, [.slice none n c] => l.isEmpty && Nat.beq n 0 && Nat.beq c 0
  | _, _, _ => false
theorem bytes_ext {a b : ByteArray} (h : a.data = b.data) : a = b := by cases a; cases b; simp_all
theorem schB_sc : ∀ {s : Sch} {d : s.den} {cs : List Value}, zeroB.schB s d cs = true → SC R s d cs := by
 intro s
 induction s with
 | int k => intro d cs hh; unfold zeroB.schB at hh; split at hh <;> simp_all [SC]
 | bool => intro d cs hh; unfold zeroB.schB at hh; split at hh <;> simp_all [SC]
 | str => intro d cs hh; unfold zeroB.schB at hh; split at hh <;> simp_all [SC]; exact bytes_ext hh
 | fnil => intro d cs hh; unfold zeroB.schB at hh; simp_all [SC]
 | fcons a b iha ihb => intro d cs hh; simp only [zeroB.schB, Bool.and_eq_true] at hh; exact ⟨_, _, (List.take_append_drop a.w cs).symm, iha hh.1, ihb hh.2⟩
 | stru f ih => intro d cs hh; exact ih (by simpa only [zeroB.schB] using hh)
 | arr n s ih =>
  intro d cs hh
  simp only [zeroB.schB, Bool.and_eq_true, List.all_eq_true, List.mem_range] at hh
  exact ⟨Nat.eq_of_beq_eq_true hh.1, fun i hi => ih (hh.2 i hi)⟩
 | sl s ih =>
  intro d cs hh
  have key : d = [] ∧ ∃ n c, cs = [.slice none n c] ∧ n = 0 ∧ c = 0 := by
   rcases cs with _ | ⟨v, _ | ⟨v', cs⟩⟩
   ·simp [zeroB.schB] at hh
   ·cases v <;> try (simp [zeroB.schB] at hh; done)
    rename_i a n c
    cases a with
    | none => simp [zeroB.schB] at hh; exact ⟨hh.1.1, n, c, rfl, hh.1.2, hh.2⟩
    | some a => simp [zeroB.schB] at hh
   ·cases v <;> simp [zeroB.schB] at hh
  obtain ⟨rfl, n, c, rfl, rfl, rfl⟩ := key
  exact ⟨none, 0, rfl, Nat.le_refl _, by simp [maxLen], fun hp => absurd hp (by simp)⟩
theorem zeroB_vc : ∀ {a : AV} {cs : List Value}, zeroB a cs = true → VC σ R a cs := by
 intro a
 induction a with
 | node f ih => intro cs hh; exact ih (by simpa only [zeroB] using hh)
 | fnil => intro cs hh; simp_all [zeroB, VC]
 | fcons a b iha ihb => intro cs hh; simp only [zeroB, Bool.and_eq_true] at hh; exact ⟨_, _, (List.take_append_drop a.w cs).symm, iha hh.1, ihb hh.2⟩
 | vec s n f => intro cs hh; exact schB_sc (s := .arr n s) (by simpa only [zeroB] using hh)
 | int k n => intro cs hh; unfold zeroB at hh; split at hh <;> simp_all [VC, V1]
 | bool b => intro cs hh; unfold zeroB at hh; split at hh <;> simp_all [VC, V1]
 | str s => intro cs hh; unfold zeroB at hh; split at hh <;> simp_all [VC, V1]; exact bytes_ext hh
 | nilp => intro cs hh; unfold zeroB at hh; split at hh <;> simp_all [VC, V1]
 | nils => intro cs hh; unfold zeroB at hh; split at hh <;> simp_all [VC, V1]
 | nilm => intro cs hh; unfold zeroB at hh; split at hh <;> simp_all [VC, V1]
 | _ => intro cs hh; simp [zeroB] at hh
def kindB (d : TypeDesc) : TK → Bool
 | .int k => match d with | .int k' => decide (k' = k) | _ => false
 | .bool => match d with | .bool => true | _ => false
 | .str => match d with | .string => true | _ => false
 | .ptr e => match d with | .pointer e' => Nat.beq e' e | _ => false
 | .slice e => match d with | .slice e' => Nat.beq e' e | _ => false
 | .stru fs => match d with | .struct fs' => decide (fs'.toList.map (fun f => (f.type, f.offset)) = fs) | _ => false
 | .arr n e => match d with | .array n' e' => Nat.beq n' n && Nat.beq e' e | _ => false
 | .map k e => match d with | .map k' e' => Nat.beq k' k && Nat.beq e' e | _ => false
 | .other => match d with | .struct _ => false | .array _ _ => false | _ => true
def tiB (P : Program) (t : Nat) (ti : TI) : Bool :=
 match P.info? t, P.underlying t with
 | some i, some d => Nat.beq i.size ti.size && Nat.beq i.bytes ti.bytes && kindB d ti.k &&
  (match ti.zero with | .any => true | z => (z.cell || z.agg) && Nat.beq z.w ti.size && (match i.zero with | some v => zeroB z v.cells.toList && (if z.agg then ti.k.agg else !ti.k.agg) | none => false)) &&
  (match d with | .struct fs => fs.toList.all (fun f => (P.info? f.type).isSome) | .array _ e => (P.info? e).isSome | _ => true) &&
  (!ti.eq || (!P.eqGuardType P.depth t && (match d with | .struct fs => fs.toList.all (fun f => f.name != "_") && !P.stoodInHeld t | _ => true))) &&
  (match i.zero with | some (.agg _) => ti.k.agg | _ => true) &&
  (match ti.sch with | none => true | some s => Nat.beq s.w ti.size && (match i.zero with | some v => zeroB.schB s s.zero v.cells.toList | none => false))
 | _, _ => false
def typesB (P : Program) : Types → Bool
 | [] => true
 | (t, ti) :: l => tiB P t ti && typesB P l
structure TyOk (P : Program) (T : Types) : Prop where
 ok : ∀ t ti, tyGet T t = some ti → tiB P t ti = true
theorem TyOk.of {T : Types} (hh : typesB P T = true) : TyOk P T := by
 refine ⟨?_⟩
 induction T with
 | nil => intro t ti ht; simp [tyGet] at ht
 | cons q l ih =>
  obtain ⟨i, y⟩ := q
  simp only [typesB, Bool.and_eq_true] at hh
  intro t ti ht
  simp only [tyGet] at ht
  cases hb : Nat.beq i t with
  | true => rw [hb] at ht; simp at ht; subst ht; rw [← Nat.eq_of_beq_eq_true hb]; exact hh.1
  | false => rw [hb] at ht; exact ih hh.2 t ti (by simpa using ht)
end Go.Proofs.YtfcloeflcpcheaaGreat.Eng
