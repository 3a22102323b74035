/-
The engine, a text beside the fourteenth: rows of rows of one's own, made and put behind others. Plain lemmas.
Conditions: none.
-/
import Derived.Test.YtfcloeflcpcheaaGreatEngN
set_option linter.unusedVariables false
set_option linter.unusedSimpArgs false
namespace Go.Proofs.YtfcloeflcpcheaaGreat.Eng
variable {P : Program} {T : Types} {σ σ' : Sg} {R R' : Ro} {h h' : Hp} {x x' : Nat} {w w' : World} {X : Type} {r : X}
structure RowsAt (w : World) (R : Ro) (inn : List Bk) (e : Nat) (s : Sch) (l : List (List s.den)) : Prop where
 len : inn.length = l.length
 row : ∀ (i : Nat) (b : Bk), inn[i]? = some b → RowAt w R b e s (l.getD i [])
 in1 : ∀ (i j : Nat) (b c : Bk), inn[i]? = some b → inn[j]? = some c → b.nil = false → c.nil = false → b.g = c.g → i = j
def Heads (inn : List Bk) (cells : List Value) : Prop := ∀ (i : Nat) (b : Bk), inn[i]? = some b → ∃ u, cells[i]? = some u ∧ VS0 b u
theorem OwnAt.rows {B : Bk} {e : Nat} {s : Sch} {l : List (List s.den)} (ho : OwnAt w R B e s l) : RowsAt w R B.inn e s l := ⟨ho.len, ho.row, ho.in1⟩
theorem RowsAt.own {B : Bk} {e : Nat} {s : Sch} {l : List (List s.den)} (ho : RowsAt w R B.inn e s l) {cs : Array Value} {t : TypeId} {fr : Nat × Nat} (hg : B.nil = false → w.heap[B.g]? = some (.cells cs t fr)) (hh : B.nil = false → Heads B.inn (cs.toList.drop B.o))
  (hout : ∀ b ∈ B.inn, b.nil = false → B.nil = false → b.g ≠ B.g) : OwnAt w R B e s l :=
 ⟨ho.len, ho.row, fun hn => ⟨cs, t, fr, hg hn, fun i b hi => by obtain ⟨u, h1, h2⟩ := hh hn i b hi; exact ⟨u, by rw [List.getElem?_drop] at h1; simpa using h1, h2⟩⟩, ho.in1, hout⟩
theorem RowsAt.heap {inn : List Bk} {e : Nat} {s : Sch} {l : List (List s.den)} (ho : RowsAt w R inn e s l) (hh : ∀ b ∈ inn, b.nil = false → w'.heap[b.g]? = w.heap[b.g]?) : RowsAt w' R inn e s l :=
 ⟨ho.len, fun i b hi => (ho.row i b hi).heap (hh b (List.mem_of_getElem? hi)), ho.in1⟩
theorem RowsAt.nil {e : Nat} {s : Sch} : RowsAt w R [] e s ([] : List (List s.den)) := ⟨rfl, (fun i b hi => by simp at hi), (fun i j b c hi => by simp at hi)⟩
theorem RowsAt.append {i1 i2 : List Bk} {e : Nat} {s : Sch} {l1 l2 : List (List s.den)} (h1 : RowsAt w R i1 e s l1) (h2 : RowsAt w R i2 e s l2) (hx : ∀ b ∈ i1, ∀ c ∈ i2, b.nil = false → c.nil = false → b.g ≠ c.g) : RowsAt w R (i1 ++ i2) e s (l1 ++ l2) := by
 refine ⟨by rw [List.length_append, List.length_append, h1.len, h2.len], fun i b hi => ?_, fun i j b c hi hj hb hc hg => ?_⟩
 ·by_cases hl : i < i1.length
  ·rw [List.getElem?_append_left hl] at hi
   have := h1.row i b hi
   rwa [List.getD_eq_getElem?_getD, List.getElem?_append_left (by rw [← h1.len]; exact hl), ← List.getD_eq_getElem?_getD]
  ·rw [List.getElem?_append_right (by omega)] at hi
   have := h2.row _ b hi
   rwa [List.getD_eq_getElem?_getD, List.getElem?_append_right (by rw [← h1.len]; omega), ← h1.len, ← List.getD_eq_getElem?_getD]
 ·by_cases hl : i < i1.length
  ·rw [List.getElem?_append_left hl] at hi
   by_cases hl2 : j < i1.length
   ·rw [List.getElem?_append_left hl2] at hj
    exact h1.in1 i j b c hi hj hb hc hg
   ·rw [List.getElem?_append_right (by omega)] at hj
    exact absurd hg (hx b (List.mem_of_getElem? hi) c (List.mem_of_getElem? hj) hb hc)
  ·rw [List.getElem?_append_right (by omega)] at hi
   by_cases hl2 : j < i1.length
   ·rw [List.getElem?_append_left hl2] at hj
    exact absurd hg.symm (hx c (List.mem_of_getElem? hj) b (List.mem_of_getElem? hi) hc hb)
   ·rw [List.getElem?_append_right (by omega)] at hj
    have := h2.in1 _ _ b c hi hj hb hc hg
    omega
theorem Heads.append {i1 i2 : List Bk} {c1 c2 : List Value} (h1 : Heads i1 c1) (h2 : Heads i2 c2) (hl : c1.length = i1.length) : Heads (i1 ++ i2) (c1 ++ c2) := by
 intro i b hi
 by_cases hlt : i < i1.length
 ·rw [List.getElem?_append_left hlt] at hi
  obtain ⟨u, h3, h4⟩ := h1 i b hi
  exact ⟨u, by rw [List.getElem?_append_left (by omega)]; exact h3, h4⟩
 ·rw [List.getElem?_append_right (by omega)] at hi
  obtain ⟨u, h3, h4⟩ := h2 _ b hi
  exact ⟨u, by rw [List.getElem?_append_right (by omega), hl]; exact h3, h4⟩
theorem Heads.more {inn : List Bk} {c1 c2 : List Value} (h1 : Heads inn c1) : Heads inn (c1 ++ c2) := by
 intro i b hi
 obtain ⟨u, h3, h4⟩ := h1 i b hi
 exact ⟨u, by rw [List.getElem?_append_left (List.getElem?_eq_some_iff.1 h3).1]; exact h3, h4⟩
theorem Heads.take {inn : List Bk} {c : List Value} {n : Nat} (h1 : Heads inn c) (hn : inn.length ≤ n) : Heads inn (c.take n) := by
 intro i b hi
 obtain ⟨u, h3, h4⟩ := h1 i b hi
 have := (List.getElem?_eq_some_iff.1 hi).1
 exact ⟨u, by rw [List.getElem?_take, if_pos (by omega)]; exact h3, h4⟩
theorem OwnAt.heads {B : Bk} {e : Nat} {s : Sch} {l : List (List s.den)} (ho : OwnAt w R B e s l) (hn : B.nil = false) {cs : Array Value} {t : TypeId} {fr : Nat × Nat} (hg : w.heap[B.g]? = some (.cells cs t fr)) : Heads B.inn (cs.toList.drop B.o) := by
 intro i b hi
 obtain ⟨cs', t', fr', h1, h2⟩ := ho.cell hn
 rw [hg] at h1
 cases h1
 obtain ⟨u, h3, h4⟩ := h2 i b hi
 exact ⟨u, by rw [List.getElem?_drop]; simpa using h3, h4⟩
theorem HR.fuse (hr : HR P σ R h x w) {D : List Nat} {Bx : Bk} {kx : Blk} {fe : Nat} {s : Sch} {l : List (List s.den)} (hkx : kx.c = .fam fe s l) (hsh : kx.c.shp = Bx.sh ∧ kx.e = Bx.e)
  (hx : hget h' x = some kx) (ho : ∀ m k, m ≠ x → hget h' m = some k → hget h m = some k ∧ m ∉ D)
  (hp : ∀ c, (c = Bx ∨ c ∈ Bx.inn) → c.nil = false → (∃ m b, m ∈ D ∧ Alive h m ∧ Pc σ m b ∧ b.nil = false ∧ b.g = c.g) ∨ (w.heap.size ≤ c.g ∧ c.g < w'.heap.size))
  (hown : OwnAt w' R Bx fe s l)
  (hblk : Bx.nil = false → Bx.o + Bx.sh.w ≤ Bx.sz ∧ ∃ cs fr, w'.heap[Bx.g]? = some (.cells cs Bx.e fr) ∧ cs.size = Bx.sz ∧ VC σ R kx.c ((cs.toList.drop Bx.o).take kx.c.w) ∧ ∀ j, j < Bx.sz → ¬ (fr.1 ≤ j ∧ j < fr.2))
  (hos : w'.os = w.os) (htp : w'.tape = w.tape) (hou : w'.output = w.output) (hsz : w.heap.size ≤ w'.heap.size)
  (hb : ∀ i, i < w.heap.size → (∀ m b, m ∈ D → Alive h m → Pc σ m b → b.nil = false → b.g ≠ i) → w'.heap[i]? = w.heap[i]?) :
  HR P (Sg.put σ x Bx) R h' (x + 1) w' ∧ Ext σ R h x w (Sg.put σ x Bx) R h' (x + 1) w' := by
 have hs : ∀ m b', σ m = some b' → Sg.put σ x Bx m = some b' := fun m b' hm => by
  have := hr.dom m b' hm
  unfold Sg.put; rw [if_neg (by omega)]; exact hm
 have hal : ∀ m, m ≠ x → Alive h' m → Alive h m ∧ m ∉ D := fun m hm ha => by
  obtain ⟨k, hk⟩ := Option.ne_none_iff_exists'.1 ha
  obtain ⟨q1, q2⟩ := ho m k hm hk
  exact ⟨by unfold Alive; rw [q1]; simp, q2⟩
 have hput : ∀ c, Pc (Sg.put σ x Bx) x c → c = Bx ∨ c ∈ Bx.inn := fun c hc => by
  obtain ⟨B, h1, h2⟩ := hc
  simp only [Sg.put, if_true, Option.some.injEq] at h1
  subst h1; exact h2
 -- an old piece is none of the new ones, and stays
 have hold : ∀ m b, m ∉ D → Alive h m → Pc σ m b → b.nil = false → w'.heap[b.g]? = w.heap[b.g]? := fun m b hm ha hpc hnl =>
  hb b.g (hr.lt m b hpc hnl) fun m' b' hm' ha' hpc' hnl' e => hm (by rw [← hr.inj m' m b' b hpc' hpc ha' ha hnl' hnl e]; exact hm')
 have hdif : ∀ m b c, m ∉ D → Alive h m → Pc σ m b → b.nil = false → (c = Bx ∨ c ∈ Bx.inn) → c.nil = false → b.g ≠ c.g := fun m b c hm ha hpc hnl hc hcn e => by
  rcases hp c hc hcn with ⟨m', b', q1, q2, q3, q4, q5⟩ | hge
  ·exact hm (by rw [← hr.inj m' m b' b q3 hpc q2 ha q4 hnl (q5.trans e.symm)]; exact q1)
  ·have := hr.lt m b hpc hnl; omega
 refine ⟨⟨?_, ?_, ?_, ?_, ?_, ?_, ?_, ?_, ?_⟩, ⟨⟨hos, htp, hou, hsz, fun i hi hne => hb i hi fun m b _ ha hpc hnl => hne m b hpc ha hnl⟩, by omega, fun m hm => by unfold Sg.put; rw [if_neg (by omega)], fun _ _ h => h, fun _ h => .inl h, ?_⟩⟩
 ·intro m b k hm hk
  by_cases e1 : m = x
  ·subst e1
   rw [hx] at hk; cases hk
   simp only [Sg.put, if_true, Option.some.injEq] at hm
   subst hm; exact hsh
  ·simp only [Sg.put, if_neg e1] at hm
   exact hr.shp m b k hm (ho m k e1 hk).1
 ·intro m b k hm hk hnl hmp
  by_cases e1 : m = x
  ·subst e1
   rw [hx] at hk; cases hk
   rw [hkx] at hmp; cases hmp
  ·simp only [Sg.put, if_neg e1] at hm
   obtain ⟨q1, q2⟩ := ho m k e1 hk
   exact (hr.mpb m b k hm q1 hnl hmp).heap (hold m b q2 (by unfold Alive; rw [q1]; simp) (.of hm) hnl)
 ·intro m b k hm hk hnl hmp
  by_cases e1 : m = x
  ·subst e1
   rw [hx] at hk; cases hk
   simp only [Sg.put, if_true, Option.some.injEq] at hm
   subst hm
   obtain ⟨h3, cs, fr, h4, h5, h6, h7⟩ := hblk hnl
   exact ⟨h3, cs, fr, h4, h5, VC.mono hs (fun _ _ h => h) h6, h7⟩
  ·simp only [Sg.put, if_neg e1] at hm
   obtain ⟨q1, q2⟩ := ho m k e1 hk
   obtain ⟨h3, cs, fr, h4, h5, h6, h7⟩ := hr.blk m b k hm q1 hnl hmp
   exact ⟨h3, cs, fr, by rw [hold m b q2 (by unfold Alive; rw [q1]; simp) (.of hm) hnl]; exact h4, h5, VC.mono hs (fun _ _ h => h) h6, h7⟩
 ·intro m b hm
  by_cases e1 : m = x
  ·omega
  ·simp only [Sg.put, if_neg e1] at hm
   have := hr.dom m b hm; omega
 ·intro m m' b b' h1 h2 h3 h4 hl1 hl2 h5
  by_cases e1 : m = x
  ·by_cases e2 : m' = x
   ·omega
   ·subst e1
    obtain ⟨q1, q2⟩ := hal m' e2 h4
    exact absurd h5.symm (hdif m' b' b q2 q1 (h2.put_ne e2) hl2 (hput b h1) hl1)
  ·by_cases e2 : m' = x
   ·subst e2
    obtain ⟨q1, q2⟩ := hal m e1 h3
    exact absurd h5 (hdif m b b' q2 q1 (h1.put_ne e1) hl1 (hput b' h2) hl2)
   ·exact hr.inj m m' b b' (h1.put_ne e1) (h2.put_ne e2) (hal m e1 h3).1 (hal m' e2 h4).1 hl1 hl2 h5
 ·intro a v ha
  have h1 := hr.ro a v ha
  have h2 := hb a.block (block_lt_of_cell h1) fun m b hm hal hpc hnl e => hr.sep m b a hpc hal hnl (by simp [ha]) e.symm
  unfold World.cell? at h1 ⊢
  rw [h2]; exact h1
 ·intro m b a hm ha hnl hR
  by_cases e1 : m = x
  ·subst e1
   obtain ⟨v, hv⟩ := Option.ne_none_iff_exists'.1 hR
   rcases hp b (hput b hm) hnl with ⟨m', b', q1, q2, q3, q4, q5⟩ | hge
   ·rw [← q5]; exact hr.sep m' b' a q3 q2 q4 hR
   ·have := block_lt_of_cell (hr.ro a v hv); omega
  ·exact hr.sep m b a (hm.put_ne e1) (hal m e1 ha).1 hnl hR
 ·intro m b hm hnl
  by_cases e1 : m = x
  ·subst e1
   rcases hp b (hput b hm) hnl with ⟨m', b', q1, q2, q3, q4, q5⟩ | hge
   ·rw [← q5]; exact Nat.lt_of_lt_of_le (hr.lt m' b' q3 q4) hsz
   ·exact hge.2
  ·exact Nat.lt_of_lt_of_le (hr.lt m b (hm.put_ne e1) hnl) hsz
 ·intro m b k e' s' l' hm hk hc
  by_cases e1 : m = x
  ·subst e1
   rw [hx] at hk; cases hk
   simp only [Sg.put, if_true, Option.some.injEq] at hm
   subst hm
   rw [hkx] at hc; cases hc
   exact hown
  ·simp only [Sg.put, if_neg e1] at hm
   obtain ⟨q1, q2⟩ := ho m k e1 hk
   exact hr.keep hm q1 hc fun c p1 p2 => hold m c q2 (by unfold Alive; rw [q1]; simp) p1 p2
 ·intro m b hm ha hnl
  by_cases e1 : m = x
  ·subst e1
   rcases hp b (hput b hm) hnl with ⟨m', b', q1, q2, q3, q4, q5⟩ | hge
   ·exact .inl ⟨m', b', q3, q2, q4, q5⟩
   ·exact .inr hge.1
  ·exact .inl ⟨m, b, hm.put_ne e1, (hal m e1 ha).1, hnl, rfl⟩
theorem zero_cell {t : TypeId} {ti : TI} {i : TypeInfo} {d : TypeDesc} (hi : TyIs P t ti i d) (hz : ti.zero.cell = true) : ∃ z, i.zero = some z ∧ z.cells.size = ti.size := by
 rcases hi.zero with h0 | ⟨h1, h2, h3, v, h4, h5⟩
 ·rw [h0] at hz; cases hz
 ·refine ⟨v, h4, ?_⟩
  have := VC.length (zeroB_vc (σ := fun _ => none) (R := fun _ => none) h5)
  rw [← h2, ← this]; simp
theorem rowAt_of (hr : HR P σ R h x w) {m : Nat} {B : Bk} {k : Blk} {s : Sch} {l : List s.den} (hm : σ m = some B) (hk : hget h m = some k) (hc : k.c = .lst s l) : RowAt w R B k.e s l := by
 obtain ⟨h1, h2⟩ := hr.shp m B k hm hk
 rw [hc] at h1
 refine ⟨h1.symm, h2.symm, fun hnl => ?_⟩
 obtain ⟨h3, cs, fr, h4, h5, h6, h7⟩ := hr.blk m B k hm hk hnl (by rw [hc]; rfl)
 rw [hc] at h6
 exact ⟨h3, cs, fr, h4, h5, h6, h7⟩
theorem buildFamA_sound (hT : TyOk P T) {ty len e : Nat} {s : Sch} {parts : List (Nat × AV)} {k : K3 X} (he : buildFamA T ty len e s parts h x k = some r) :
  ∃ v h' x', k v h' x' = some r ∧ x ≤ x' ∧ rowsTy T ty = true ∧ ∀ {σ R} {w : World} {m : Array (Nat × Value)}, HR P σ R h x w → VP σ R parts m.toList → Makes P (Instr.buildSlice ty len m) σ R h x w v h' x' := by
 unfold buildFamA at he
 split at he
 ·rename_i m0
  split at he
  ·rename_i bm hbm
   split at he
   ·rename_i s' l hc
    split at he
    ·rename_i q
     subst q
     split at he
     ·rename_i ti hti
      split at he
      ·rename_i et hk
       split at he
       ·rename_i te hte
        have hb := (cond_some he).1
        replace he := (cond_some he).2
        simp only [Bool.and_eq_true] at hb
        obtain ⟨⟨⟨⟨hlen, hsz⟩, hsl⟩, hzc⟩, hbe⟩ := hb
        obtain rfl := Nat.eq_of_beq_eq_true hlen
        have hsz := Nat.eq_of_beq_eq_true hsz
        have hbe := Nat.eq_of_beq_eq_true hbe
        refine ⟨_, _, _, he, by omega, by unfold rowsTy isK; simp only [hti, hk, isK, hte]; exact hsl, fun {σ R w m} hr hp => ?_⟩
        obtain ⟨i, d, hi⟩ := hT.is hti
        have hd := hi.slice hk
        subst hd
        obtain ⟨i2, d2, hi2⟩ := hT.is hte
        obtain ⟨z, hz, hzs⟩ := zero_cell hi2 hzc
        rw [hsz] at hzs
        rcases hml : m.toList with _ | ⟨⟨j, u⟩, _ | ⟨y, rest⟩⟩
        ·rw [hml] at hp; exact hp.elim
        ·rw [hml] at hp
         obtain ⟨hj, hv, _⟩ := hp
         subst hj
         obtain ⟨B, s2, n2, cap, q1, q2, q3, q4, q5, q6, q7⟩ := hv
         have hu : u.cells = #[u] := by rw [q3]; rfl
         have hzr : (zeroValue et).run P w = .ok z w := by simp [zeroValue, typeInfo, hi2.info, hz]
         have hrow := rowAt_of hr q1 hbm hc
         rw [hbe] at hrow
         have hal : Alive h m0 := by unfold Alive; rw [hbm]; simp
         have hfz : Instr.fill (fun i => some (i, 1)) #[z.cells[0]!] m.toList = some #[u] := by
          rw [hml]
          simp [Instr.fill, hu]
         have hrun : (Instr.buildSlice ty 1 m).run P w = .ok (.slice (some ⟨w.heap.size, 0, none⟩) 1 1) (w.alloc (.cells #[u] et)) := by
          have hr1 : (Array.range 1) = #[0] := by decide
          simp [Instr.buildSlice, hi.run_und, hi2.run_size, hsz, hzr, newRow, hr1, hfz]
         have hmlt : B.nil = false → B.g < w.heap.size := fun hnl => hr.lt m0 B (.of q1) hnl
         obtain ⟨r1, r2⟩ := hr.fuse (D := [m0]) (Bx := ⟨w.heap.size, 1, .arr 1 .one, et, false, 0, [B]⟩) (kx := ⟨.fam e s' [l], et⟩) (fe := e) (s := s') (l := [l]) (h' := (x, some ⟨.fam e s' [l], et⟩) :: (m0, none) :: h) (w' := w.alloc (.cells #[u] et)) rfl ⟨rfl, rfl⟩
          (by rw [hget_cons, if_pos rfl]) (fun m1 k1 hne hk1 => by
           rw [hget_cons, if_neg (Ne.symm hne), hget_cons] at hk1
           by_cases e1 : m0 = m1
           ·rw [if_pos e1] at hk1; cases hk1
           ·rw [if_neg e1] at hk1; exact ⟨hk1, by simp; exact Ne.symm e1⟩)
          (fun c hc1 hcn => by
           rcases hc1 with rfl | hc1
           ·exact .inr ⟨Nat.le_refl _, by rw [alloc_size]; exact Nat.lt_succ_self _⟩
           ·simp only [List.mem_singleton] at hc1
            subst hc1
            exact .inl ⟨m0, c, by simp, hal, .of q1, hcn, rfl⟩)
          (RowsAt.own (cs := #[u]) (t := et) (fr := (0, 0)) ⟨rfl, fun i b hi => by
            cases i with
            | zero =>
             simp at hi; subst hi
             exact hrow.heap fun hnl => heap_alloc_old w _ _ (hmlt hnl)
            | succ i => simp at hi, fun i j b c hi hj _ _ _ => by
            cases i with
            | zero => cases j with
             | zero => rfl
             | succ j => simp at hj
            | succ i => simp at hi⟩ (fun _ => heap_alloc_new w _) (fun _ i b hi => by
            cases i with
            | zero => simp at hi; subst hi; exact ⟨u, by simp, s2, n2, cap, q2, q3, q4, q5, q6, q7⟩
            | succ i => simp at hi) (fun b hb hnl _ => by
             simp only [List.mem_singleton] at hb
             subst hb
             have := hmlt hnl
             simp only; omega))
          (fun _ => ⟨by simp [Shp.w], #[u], (0, 0), heap_alloc_new w _, rfl, ⟨by simp [AV.w], fun u' hu' => by simp [AV.w] at hu'; subst hu'; rw [q3]; rfl⟩, fun j hj => by simp⟩)
          rfl rfl rfl (by rw [alloc_size]; omega) (fun i hi _ => heap_alloc_old w _ i hi)
         exact ⟨_, _, _, R, hrun, ⟨⟨w.heap.size, 1, .arr 1 .one, et, false, 0, [B]⟩, .one, 1, 1, by simp [Sg.put], rfl, rfl, Nat.le_refl _, fun _ => by simp [Shp.w], by simp [maxLen], by simp⟩, r1, r2⟩
        ·rw [hml] at hp; exact hp.2.2.elim
       ·cases he
      ·cases he
     ·cases he
    ·cases he
   ·cases he
  ·cases he
 ·cases he
theorem fam_news (hr : HR P σ R h x w) {m : Nat} {bm : Blk} {e : Nat} {s : Sch} {l : List (List s.den)} {cb : Value} (hk : hget h m = some bm) (hc : bm.c = .fam e s l) (hb : V1 σ R (.sl m) cb) :
  ∃ B A cap news, σ m = some B ∧ OwnAt w R B e s l ∧ B.sh = .arr l.length .one ∧ cb = .slice A l.length cap ∧ l.length ≤ cap ∧ (B.nil = false → B.o + cap ≤ B.sz) ∧ cap ≤ maxLen ∧ (B.nil = true → cap = 0) ∧ A = (if B.nil then none else some ⟨B.g, B.o, none⟩) ∧ news.length = l.length ∧ (∀ u ∈ news, u.oneCell' = true) ∧ Heads B.inn news ∧
   (B.nil = false → ∃ cs fr, w.heap[B.g]? = some (.cells cs B.e fr) ∧ cs.size = B.sz ∧ news = (cs.toList.drop B.o).take l.length ∧ ∀ j, j < B.sz → ¬ (fr.1 ≤ j ∧ j < fr.2)) := by
 obtain ⟨B, s', len, cap, q1, q2, rfl, q3, q4, q5, q6⟩ := hb
 have ho := hr.own m B bm e s l q1 hk hc
 have hsh := (hr.shp m B bm q1 hk).1
 rw [hc, q2] at hsh
 simp only [AV.shp, Shp.arr.injEq] at hsh
 obtain ⟨rfl, rfl⟩ := hsh
 refine ⟨B, (if B.nil then none else some ⟨B.g, B.o, none⟩), cap, ?_⟩
 cases hnl : B.nil with
 | true =>
  have h0 := q6 hnl
  obtain rfl : l = [] := List.eq_nil_of_length_eq_zero (by omega)
  have hin : B.inn = [] := List.eq_nil_of_length_eq_zero (by rw [ho.len]; rfl)
  exact ⟨[], q1, ho, q2, rfl, q3, (fun hh => by cases hh), q5, fun _ => h0, rfl, rfl, (fun u hu => by cases hu), (fun i b hi => by rw [hin] at hi; simp at hi), (fun hh => by cases hh)⟩
 | false =>
  obtain ⟨hw, cs, fr, hg, hsz, hvc, hf⟩ := hr.blk m B bm q1 hk hnl (by rw [hc]; rfl)
  rw [hc] at hvc
  refine ⟨(cs.toList.drop B.o).take l.length, q1, ho, q2, rfl, q3, fun _ => by simpa [Shp.w] using q4 hnl, q5, (fun hh => by cases hh), rfl, hvc.1, hvc.2, (ho.heads hnl hg).take (by rw [ho.len]; exact Nat.le_refl _), fun _ => ⟨cs, fr, hg, hsz, rfl, hf⟩⟩
theorem fam_arg (hr : HR P σ R h x w) {t tr et : TypeId} {i : TypeInfo} {z : Value} (ht : P.underlying t = some (.slice et)) (hi : P.info? et = some i) (hz : i.zero = some z) (hsz : i.size = 1) {B : Bk} {n cap : Nat} {A : Option Addr} {news : List Value}
  (hA : A = (if B.nil then none else some ⟨B.g, B.o, none⟩)) (hn0 : B.nil = true → cap = 0) (hcap : n ≤ cap) (hl : news.length = n) (hone : ∀ u ∈ news, u.oneCell' = true) (hg : B.nil = false → ∃ cs fr, w.heap[B.g]? = some (.cells cs B.e fr) ∧ cs.size = B.sz ∧ news = (cs.toList.drop B.o).take n ∧ ∀ j, j < B.sz → ¬ (fr.1 ≤ j ∧ j < fr.2)) :
  AppArg P t t tr et i z w (.slice A n cap) n news := by
 rcases Nat.eq_zero_or_pos n with h0 | h0
 ·subst h0
  obtain rfl : news = [] := List.eq_nil_of_length_eq_zero hl
  exact ⟨fun _ base sLen sCap hroom => append_none ht hi hroom, fun hk => absurd hk (Nat.lt_irrefl 0), fun hk => absurd hk (Nat.lt_irrefl 0)⟩
 ·cases hnl : B.nil with
  | true => have := hn0 hnl; omega
  | false =>
   obtain ⟨cs, fr, g1, g2, rfl, g4⟩ := hg hnl
   rw [hnl] at hA
   subst hA
   refine AppArg.src ht hi hz (Src.ofSlice w ht ⟨B.g, B.o, none⟩ n cap _ (by rw [hsz, Nat.mul_one]; exact hl) (fun j u hj => ?_) hone)
   have := cut_cells g1 (d := B.o) (n := n) (o := 0) (m := n) (by omega) j u (by rw [cut_all hl]; exact hj)
   simpa using this
theorem fam_new (hr : HR P σ R h x w) {D : List Nat} {inn : List Bk} {e et : Nat} {s : Sch} {l : List (List s.den)} {cells : List Value} {pad : Array Value} {cap : Nat} (hrows : RowsAt w R inn e s l) (hh : Heads inn cells) (hcl : cells.length = l.length) (hone : ∀ u ∈ cells, u.oneCell' = true)
  (hp : ∀ c ∈ inn, c.nil = false → ∃ m b, m ∈ D ∧ Alive h m ∧ Pc σ m b ∧ b.nil = false ∧ b.g = c.g) (hcap : l.length + pad.size = cap) (hm : cap ≤ maxLen)
  {h' : Hp} (hx : hget h' x = some ⟨.fam e s l, et⟩) (ho : ∀ m k, m ≠ x → hget h' m = some k → hget h m = some k ∧ m ∉ D) :
  ∃ σ', V1 σ' R (.sl x) (.slice (some ⟨w.heap.size, 0, none⟩) l.length cap) ∧ HR P σ' R h' (x + 1) (w.drew.alloc (.cells (cells.toArray ++ pad) et)) ∧ Ext σ R h x w σ' R h' (x + 1) (w.drew.alloc (.cells (cells.toArray ++ pad) et)) := by
 have hsz : (cells.toArray ++ pad).size = cap := by simp; omega
 have hlt : ∀ c ∈ inn, c.nil = false → c.g < w.heap.size := fun c hc hn => by
  obtain ⟨m, b, _, _, q3, q4, q5⟩ := hp c hc hn
  rw [← q5]; exact hr.lt m b q3 q4
 obtain ⟨r1, r2⟩ := hr.fuse (D := D) (Bx := ⟨w.heap.size, cap, .arr l.length .one, et, false, 0, inn⟩) (kx := ⟨.fam e s l, et⟩) (fe := e) (s := s) (l := l) (h' := h') (w' := w.drew.alloc (.cells (cells.toArray ++ pad) et)) rfl ⟨rfl, rfl⟩ hx ho
  (fun c hc1 hcn => by
   rcases hc1 with rfl | hc1
   ·exact .inr ⟨Nat.le_refl _, by rw [alloc_size]; exact Nat.lt_succ_self _⟩
   ·exact .inl (hp c hc1 hcn))
  (RowsAt.own (cs := cells.toArray ++ pad) (t := et) (fr := (0, 0)) (hrows.heap fun b hb hn => heap_alloc_old w.drew _ _ (hlt b hb hn)) (fun _ => heap_alloc_new w.drew _) (fun _ => by
   simp only [List.drop_zero, Array.toList_append]
   exact Heads.more hh) (fun b hb hn _ => by have := hlt b hb hn; simp only; omega))
  (fun _ => ⟨by simp [Shp.w] <;> omega, cells.toArray ++ pad, (0, 0), heap_alloc_new w.drew _, hsz, (by
   have : (List.drop 0 (cells.toArray ++ pad).toList).take (AV.fam e s l).w = cells := by
    simp only [List.drop_zero, Array.toList_append, AV.w]
    rw [List.take_left' hcl]
   show VC σ R (.fam e s l) (List.take (AV.fam e s l).w (List.drop 0 (cells.toArray ++ pad).toList))
   rw [this]; exact ⟨hcl, hone⟩), fun j hj => by simp⟩)
  rfl rfl rfl (by rw [alloc_size]; exact Nat.le_succ _) (fun i hi _ => heap_alloc_old w.drew _ i hi)
 exact ⟨_, ⟨⟨w.heap.size, cap, .arr l.length .one, et, false, 0, inn⟩, .one, l.length, cap, by simp [Sg.put], rfl, rfl, by omega, fun _ => by simp [Shp.w], hm, by simp⟩, r1, r2⟩
theorem appendF_sound (hT : TyOk P T) {ty ty' tr : Nat} {a b : AV} {k : K3 X} (he : appendF T ty ty' h x a b k = some r) :
  ∃ v h' x', k v h' x' = some r ∧ x ≤ x' ∧ (∀ m, m < x → m ∉ a.names → m ∉ b.names → hget h' m = hget h m) ∧ ∀ {σ R} {w : World} {ca cb}, HR P σ R h x w → VV σ R a ca → VV σ R b cb → Makes P (Builtin.append_ #[ty, ty'] tr #[ca, cb]) σ R h x w v h' x' := by
 unfold appendF at he
 split at he
 ·rename_i m
  split at he
  ·rename_i bm hbm
   split at he
   ·rename_i e s l2 hc
    split at he
    ·rename_i ti hti
     split at he
     ·rename_i et hk
      split at he
      ·rename_i te hte
       have hb := (cond_some he).1
       replace he := (cond_some he).2
       simp only [Bool.and_eq_true, Bool.not_eq_true'] at hb
       obtain ⟨⟨⟨⟨hty, hsz⟩, hby⟩, hsl⟩, hzc⟩ := hb
       obtain rfl := Nat.eq_of_beq_eq_true hty
       have hsz := Nat.eq_of_beq_eq_true hsz
       have hb0 : te.bytes ≠ 0 := fun h0 => by rw [h0] at hby; simp at hby
       obtain ⟨i, d, hi⟩ := hT.is hti
       have hd := hi.slice hk
       subst hd
       obtain ⟨i2, d2, hi2⟩ := hT.is hte
       obtain ⟨z, hz, hzs⟩ := zero_cell hi2 hzc
       rw [hsz] at hzs
       have hisz : i2.size = 1 := by rw [hi2.size, hsz]
       split at he
       ·obtain ⟨hbd, he⟩ := cond_some he
        simp only [decide_eq_true_eq] at hbd
        refine ⟨_, _, _, he, by omega, (fun q h1 _ h2 => by rw [hget_cons, if_neg (by omega), hget_cons, if_neg (fun e => h2 (by simp [AV.names, e]))]), fun {σ R w ca cb} hr ha hb => ?_⟩
        obtain rfl := nils_v ha
        obtain ⟨B, A, cap, news, g1, ho, gsh, rfl, g3, g4, g5, g6, g7, g8, g9, g10, g11⟩ := fam_news hr hbm hc hb
        have happ := fam_arg (tr := tr) hr hi.und hi2.info hz hisz g7 g6 g3 g8 g9 g11
        have hbig : l2.length ≤ 140737488355328 := Nat.le_trans (Nat.le_mul_of_pos_right _ (by omega)) hbd
        have hal : Alive h m := by unfold Alive; rw [hbm]; simp
        have hkill := hr.kill m
        rcases Nat.eq_zero_or_pos l2.length with h0 | h0
        ·obtain rfl : l2 = [] := List.eq_nil_of_length_eq_zero h0
         obtain ⟨r1, r2⟩ := hkill.1.virtc (.fam e s []) et (fun fe s' l hh => by cases hh; rfl)
         exact ⟨_, _, _, _, happ.none rfl (Nat.le_refl _), ⟨⟨0, 0, .arr 0 .one, et, true, 0, []⟩, .one, 0, 0, by simp [Sg.put, AV.shp], rfl, rfl, Nat.le_refl _, by simp, by simp [maxLen], by simp⟩, r1, hkill.2.trans r2⟩
        ·have hrun := happ.grow h0 (base := none) (sLen := 0) (sCap := 0) (olds := []) (run_firstCells_none _ _ _ _ _) (by omega) (by rw [Nat.zero_add, hi2.bytes]; exact hbd) (by omega)
         rw [Nat.zero_add] at hrun
         have hge := grownCap_ge w l2.length 0 et
         obtain ⟨σ', q1, q2, q3⟩ := fam_new (et := et) (pad := Builtin.zeroCells z.cells (grownCap w l2.length 0 et - l2.length)) (D := [m]) (cap := grownCap w l2.length 0 et) hr ho.rows g10 g8 g9 (fun c hc1 hcn => ⟨m, c, by simp, hal, ⟨B, g1, .inr hc1⟩, hcn, rfl⟩)
          (by simp [size_zeroCells, hzs]; omega) (grownCap_le_maxLen w _ 0 et (by unfold maxLen; omega)) (h' := (x, some ⟨.fam e s l2, et⟩) :: (m, none) :: h) (by rw [hget_cons, if_pos rfl]) (fun m1 k1 hne hk1 => by
           rw [hget_cons, if_neg (Ne.symm hne), hget_cons] at hk1
           by_cases e1 : m = m1
           ·rw [if_pos e1] at hk1; cases hk1
           ·rw [if_neg e1] at hk1; exact ⟨hk1, by simp; exact Ne.symm e1⟩)
         refine ⟨_, _, σ', R, ?_, q1, q2, q3⟩
         simpa using hrun
       ·rename_i n
        split at he
        ·rename_i b0 hb0k
         split at he
         ·rename_i e' s' l0 hc0
          split at he
          ·rename_i q
           subst q
           have hbd := (cond_some he).1
           replace he := (cond_some he).2
           simp only [Bool.and_eq_true, decide_eq_true_eq, Bool.not_eq_true'] at hbd
           obtain ⟨⟨⟨hbd, hbe0⟩, hee⟩, hnm⟩ := hbd
           replace hbd : (l0.length + l2.length) * te.bytes ≤ 140737488355328 := hbd
           have hbe0 := Nat.eq_of_beq_eq_true hbe0
           obtain rfl := Nat.eq_of_beq_eq_true hee
           have hnm : n ≠ m := fun e => by subst e; simp at hnm
           replace he : k (.sl x) ((x, some ⟨.fam e' s' (l0 ++ l2), et⟩) :: (m, none) :: (n, none) :: h) (x + 1) = some r := he
           refine ⟨_, _, _, he, by omega, (fun q h1 h2 h3 => by rw [hget_cons, if_neg (by omega), hget_cons, if_neg (fun e => h3 (by simp [AV.names, e])), hget_cons, if_neg (fun e => h2 (by simp [AV.names, e]))]), fun {σ R w ca cb} hr ha hb => ?_⟩
           obtain ⟨B, A, cap, news, g1, ho, gsh, rfl, g3, g4, g5, g6, g7, g8, g9, g10, g11⟩ := fam_news hr hbm hc hb
           obtain ⟨B0, A0, cap0, olds, f1, fo, fsh, rfl, f3, f4, f5, f6, f7, f8, f9, f10, f11⟩ := fam_news hr hb0k hc0 ha
           have happ := fam_arg (tr := tr) hr hi.und hi2.info hz hisz g7 g6 g3 g8 g9 g11
           have hbig : l0.length + l2.length ≤ 140737488355328 := Nat.le_trans (Nat.le_mul_of_pos_right _ (by omega)) hbd
           have hal : Alive h m := by unfold Alive; rw [hbm]; simp
           have hal0 : Alive h n := by unfold Alive; rw [hb0k]; simp
           have hxx : ∀ b ∈ B0.inn, ∀ c ∈ B.inn, b.nil = false → c.nil = false → b.g ≠ c.g := fun b hb c hc hbn hcn e => hnm (hr.inj n m b c ⟨B0, f1, .inr hb⟩ ⟨B, g1, .inr hc⟩ hal0 hal hbn hcn e)
           have hrows := fo.rows.append ho.rows hxx
           have hheads := f10.append g10 (by rw [f8, fo.len])
           have hlen : (l0 ++ l2).length = l0.length + l2.length := List.length_append
           have hho : ∀ m1 k1, m1 ≠ x → hget ((x, some ⟨.fam e' s' (l0 ++ l2), et⟩) :: (m, none) :: (n, none) :: h) m1 = some k1 → hget h m1 = some k1 ∧ m1 ∉ [m, n] := fun m1 k1 hne hk1 => by
            rw [hget_cons, if_neg (Ne.symm hne), hget_cons] at hk1
            by_cases e1 : m = m1
            ·rw [if_pos e1] at hk1; cases hk1
            ·rw [if_neg e1, hget_cons] at hk1
             by_cases e2 : n = m1
             ·rw [if_pos e2] at hk1; cases hk1
             ·rw [if_neg e2] at hk1
              exact ⟨hk1, by simp; exact ⟨Ne.symm e1, Ne.symm e2⟩⟩
           have hpp : ∀ c ∈ B0.inn ++ B.inn, c.nil = false → ∃ m1 b, m1 ∈ [m, n] ∧ Alive h m1 ∧ Pc σ m1 b ∧ b.nil = false ∧ b.g = c.g := fun c hc1 hcn => by
            rcases List.mem_append.1 hc1 with hc1 | hc1
            ·exact ⟨n, c, by simp, hal0, ⟨B0, f1, .inr hc1⟩, hcn, rfl⟩
            ·exact ⟨m, c, by simp, hal, ⟨B, g1, .inr hc1⟩, hcn, rfl⟩
           have grown : ∀ {base : Option Addr} {sCap : Nat}, 0 < l2.length → sCap < l0.length + l2.length → (Builtin.firstCells i2.size l0.length (.slice base l0.length sCap)).run P w.drew = .ok olds.toArray w.drew →
             Makes P (Builtin.append_ #[ty, ty] tr #[.slice base l0.length sCap, .slice A l2.length cap]) σ R h x w (.sl x) ((x, some ⟨.fam e' s' (l0 ++ l2), et⟩) :: (m, none) :: (n, none) :: h) (x + 1) := fun {base sCap} h0 hlt hold => by
            have hrun := happ.grow h0 (sCap := sCap) hold hlt (by rw [hi2.bytes]; exact hbd) (by omega)
            have hge := grownCap_ge w (l0.length + l2.length) sCap et
            obtain ⟨σ', q1, q2, q3⟩ := fam_new (et := et) (pad := Builtin.zeroCells z.cells (grownCap w (l0.length + l2.length) sCap et - (l0.length + l2.length))) (D := [m, n]) (cap := grownCap w (l0.length + l2.length) sCap et) hr hrows hheads (by rw [List.length_append, f8, g8, hlen]) (fun u hu => (List.mem_append.1 hu).elim (f9 u) (g9 u)) hpp
             (by rw [hlen]; simp [size_zeroCells, hzs]; omega) (grownCap_le_maxLen w _ sCap et (by unfold maxLen; omega)) (h' := (x, some ⟨.fam e' s' (l0 ++ l2), et⟩) :: (m, none) :: (n, none) :: h) (by rw [hget_cons, if_pos rfl]) hho
            rw [hlen] at q1
            refine ⟨_, _, σ', R, ?_, q1, q2, q3⟩
            simpa using hrun
           cases hnl : B0.nil with
           | true =>
            have hc0' := f6 hnl
            subst hc0'
            obtain rfl : l0 = [] := List.eq_nil_of_length_eq_zero (by omega)
            obtain rfl : olds = [] := List.eq_nil_of_length_eq_zero f8
            rw [hnl] at f7
            subst f7
            rcases Nat.eq_zero_or_pos l2.length with h0 | h0
            ·obtain rfl : l2 = [] := List.eq_nil_of_length_eq_zero h0
             have hk1 := hr.kill n
             have hk2 := hk1.1.kill m
             obtain ⟨r1, r2⟩ := hk2.1.virtc (.fam e' s' []) et (fun fe s' l hh => by cases hh; rfl)
             exact ⟨_, _, _, _, happ.none rfl (Nat.le_refl _), ⟨⟨0, 0, .arr 0 .one, et, true, 0, []⟩, .one, 0, 0, by simp [Sg.put, AV.shp], rfl, rfl, Nat.le_refl _, by simp, by simp [maxLen], by simp⟩, r1, (hk1.2.trans hk2.2).trans r2⟩
            ·exact grown h0 (by omega) (run_firstCells_none _ _ _ _ _)
           | false =>
            rw [hnl] at f7
            subst f7
            obtain ⟨cs, fr, k1, k2, rfl, k4⟩ := f11 hnl
            have hcap0 := f4 hnl
            have hbe := (hr.shp n B0 b0 f1 hb0k).2
            have hBe : B0.e = et := by rw [← hbe, hbe0]
            have hblen : ((cs.toList.drop B0.o).take l0.length).length = l0.length := f8
            rcases Nat.eq_zero_or_pos l2.length with h0 | h0
            ·obtain rfl : l2 = [] := List.eq_nil_of_length_eq_zero h0
             have hin : B.inn = [] := List.eq_nil_of_length_eq_zero (by rw [ho.len]; rfl)
             obtain ⟨r1, r2⟩ := hr.fuse (D := [m, n]) (Bx := B0) (kx := ⟨.fam e' s' (l0 ++ []), et⟩) (fe := e') (s := s') (l := l0 ++ []) (h' := (x, some ⟨.fam e' s' (l0 ++ []), et⟩) :: (m, none) :: (n, none) :: h) (w' := w) rfl ⟨by rw [fsh, List.append_nil]; rfl, hBe.symm⟩
              (by rw [hget_cons, if_pos rfl]) hho (fun c hc1 hcn => .inl ⟨n, c, by simp, hal0, ⟨B0, f1, hc1⟩, hcn, rfl⟩) (by rw [List.append_nil]; exact fo)
              (fun _ => ⟨by rw [fsh]; simp [Shp.w]; omega, cs, fr, k1, k2, ⟨by simp only [AV.w, List.append_nil]; exact f8, by simp only [AV.w, List.append_nil]; exact f9⟩, k4⟩) rfl rfl rfl (Nat.le_refl _) (fun _ _ _ => rfl)
             exact ⟨_, _, _, R, happ.none rfl f3, ⟨B0, .one, l0.length, cap0, by simp [Sg.put], fsh, by rw [hnl], f3, fun _ => by simp [Shp.w]; exact hcap0, f5, f6⟩, r1, r2⟩
            ·by_cases hroom : l0.length + l2.length ≤ cap0
             ·have k1' := k1
              rw [hBe] at k1'
              have hrun := happ.room h0 (d := B0.o) k1' (fun j hj => k4 j (by omega)) hroom (by rw [hisz, Nat.mul_one, g8]; omega)
              rw [hisz, Nat.mul_one] at hrun
              have hcl : cs.toList.length = B0.sz := by simpa using k2
              have hds := drop_splice (cs := cs.toList) (d := B0.o) (o := l0.length) (vs := news) (by rw [hcl]; omega)
              have hcsz : ((cs.toList.take (B0.o + l0.length) ++ news ++ cs.toList.drop (B0.o + l0.length + news.length)).toArray).size = B0.sz := by simp; omega
              have hmlt : ∀ c, c ∈ B0.inn ++ B.inn → c.nil = false → c.g ≠ B0.g := fun c hc1 hcn e => by
               rcases List.mem_append.1 hc1 with hc1 | hc1
               ·exact fo.out c hc1 hcn hnl e
               ·exact hnm (hr.inj n m B0 c (.of f1) ⟨B, g1, .inr hc1⟩ hal0 hal hnl hcn e.symm)
              have htk : ((cs.toList.take (B0.o + l0.length) ++ news ++ cs.toList.drop (B0.o + l0.length + news.length)).drop B0.o).take (l0 ++ l2).length = (cs.toList.drop B0.o).take l0.length ++ news := by
               rw [hds, List.take_left' (by rw [List.length_append, List.length_append, hblen, g8])]
              obtain ⟨r1, r2⟩ := hr.fuse (D := [m, n]) (Bx := ⟨B0.g, B0.sz, .arr (l0 ++ l2).length .one, et, false, B0.o, B0.inn ++ B.inn⟩) (kx := ⟨.fam e' s' (l0 ++ l2), et⟩) (fe := e') (s := s') (l := l0 ++ l2) (h' := (x, some ⟨.fam e' s' (l0 ++ l2), et⟩) :: (m, none) :: (n, none) :: h)
               (w' := w.setRow B0.g (cs.toList.take (B0.o + l0.length) ++ news ++ cs.toList.drop (B0.o + l0.length + news.length)).toArray) rfl ⟨rfl, rfl⟩
               (by rw [hget_cons, if_pos rfl]) hho (fun c hc1 hcn => by
                rcases hc1 with rfl | hc1
                ·exact .inl ⟨n, B0, by simp, hal0, .of f1, hnl, rfl⟩
                ·exact .inl (hpp c hc1 hcn))
               (RowsAt.own (cs := (cs.toList.take (B0.o + l0.length) ++ news ++ cs.toList.drop (B0.o + l0.length + news.length)).toArray) (t := et) (fr := fr) (hrows.heap fun b hb hn => setRow_other w B0.g b.g _ (hmlt b hb hn)) (fun _ => setRow_heap w B0.g cs _ et fr k1') (fun _ => by
                show Heads (B0.inn ++ B.inn) ((cs.toList.take (B0.o + l0.length) ++ news ++ cs.toList.drop (B0.o + l0.length + news.length)).drop B0.o)
                rw [hds]; exact Heads.more hheads) (fun b hb hn _ => hmlt b hb hn))
               (fun _ => ⟨by simp [Shp.w] <;> omega, _, fr, setRow_heap w B0.g cs _ et fr k1', hcsz, (by
                show VC σ R (.fam e' s' (l0 ++ l2)) (List.take (AV.fam e' s' (l0 ++ l2)).w (List.drop B0.o (cs.toList.take (B0.o + l0.length) ++ news ++ cs.toList.drop (B0.o + l0.length + news.length))))
                simp only [AV.w]
                rw [htk]
                exact ⟨by rw [List.length_append, hblen, g8, hlen], fun u hu => (List.mem_append.1 hu).elim (f9 u) (g9 u)⟩), fun j hj => k4 j hj⟩)
               rfl rfl rfl (by rw [setRow_size]; exact Nat.le_refl _) (fun i hi hne => setRow_other w B0.g i _ (fun e => hne n B0 (by simp) hal0 (.of f1) hnl e.symm))
              exact ⟨_, _, _, R, hrun, ⟨⟨B0.g, B0.sz, .arr (l0 ++ l2).length .one, et, false, B0.o, B0.inn ++ B.inn⟩, .one, l0.length + l2.length, cap0, by simp [Sg.put], by rw [hlen], rfl, hroom, fun _ => by simp [Shp.w]; exact hcap0, f5, by simp⟩, r1, r2⟩
             ·exact grown h0 (by omega) (run_firstCells_some (P := P) w.drew i2.size l0.length ⟨B0.g, B0.o, none⟩ l0.length cap0 ((cs.toList.drop B0.o).take l0.length) (by rw [hisz, Nat.mul_one]; exact f8) (fun j u hj => by
               have := cut_cells k1 (d := B0.o) (n := l0.length) (o := 0) (m := l0.length) (by omega) j u (by rw [cut_all f8]; exact hj)
               simpa using this))
          ·cases he
         ·cases he
        ·cases he
       ·cases he
      ·cases he
     ·cases he
    ·cases he
   ·cases he
  ·cases he
 ·cases he
theorem appendA_sound (hT : TyOk P T) {ty ty' tr : Nat} {a b : AV} {k : K3 X} (he : appendA T ty ty' h x a b k = some r) :
  ∃ v h' x', k v h' x' = some r ∧ x ≤ x' ∧ (∀ m, m < x → m ∉ a.names → (famOf h b = true → m ∉ b.names) → hget h' m = hget h m) ∧ ∀ {σ R} {w : World} {ca cb}, HR P σ R h x w → VV σ R a ca → VV σ R b cb → Makes P (Builtin.append_ #[ty, ty'] tr #[ca, cb]) σ R h x w v h' x' := by
 unfold appendA at he
 cases hf : famOf h b with
 | true =>
  rw [hf, cond_true] at he
  obtain ⟨v, h', x', h1, h2, h3, h4⟩ := appendF_sound (tr := tr) hT he
  exact ⟨v, h', x', h1, h2, fun m q1 q2 q3 => h3 m q1 q2 (q3 rfl), h4⟩
 | false =>
  rw [hf, cond_false] at he
  obtain ⟨v, h', x', h1, h2, h3, h4⟩ := append0_sound (tr := tr) hT he
  exact ⟨v, h', x', h1, h2, fun m q1 q2 _ => h3 m q1 q2, h4⟩
end Go.Proofs.YtfcloeflcpcheaaGreat.Eng
