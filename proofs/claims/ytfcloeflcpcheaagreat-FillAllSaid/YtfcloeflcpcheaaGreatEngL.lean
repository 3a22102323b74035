/-
The engine, twelfth text: what writes or makes memory. Plain lemmas.
Conditions: none.
-/
import Derived.Test.YtfcloeflcpcheaaGreatEngK
import Derived.Laws.AppendOwn
import Derived.Laws.MakeOwn
import Derived.Laws.Tables
import Derived.ChangeMaps3
set_option linter.unusedVariables false
set_option linter.unusedSimpArgs false
namespace Go.Proofs.YtfcloeflcpcheaaGreat.Eng
variable {P : Program} {T : Types} {σ σ' : Sg} {R R' : Ro} {h h' : Hp} {x x' : Nat} {w w' : World} {X : Type} {r : X}
def Makes (P : Program) (s : Sem Value) (σ : Sg) (R : Ro) (h : Hp) (x : Nat) (w : World) (v : AV) (h' : Hp) (x' : Nat) : Prop :=
 ∃ cv w' σ' R', s.run P w = .ok cv w' ∧ VV σ' R' v cv ∧ HR P σ' R' h' x' w' ∧ Ext σ R h x w σ' R' h' x' w'
structure Adds (h : Hp) (x : Nat) (h' : Hp) (x' : Nat) : Prop where
 le : x ≤ x'
 same : ∀ n, n < x ∨ x' ≤ n → hget h' n = hget h n
 new : ∀ n, x ≤ n → n < x' → hget h n = none
theorem Adds.refl : Adds h x h x := ⟨Nat.le_refl _, fun _ _ => rfl, fun n h1 h2 => by omega⟩
theorem Adds.trans {h1 h2 h3 : Hp} {x1 x2 x3 : Nat} (a : Adds h1 x1 h2 x2) (b : Adds h2 x2 h3 x3) : Adds h1 x1 h3 x3 := by
 have := a.le; have := b.le
 refine ⟨by omega, fun n hn => ?_, fun n h1 h2 => ?_⟩
 ·rw [b.same n (by omega), a.same n (by omega)]
 ·by_cases hn : n < x2
  ·exact a.new n h1 hn
  ·rw [← a.same n (by omega)]; exact b.new n (by omega) h2
def Grows (h : Hp) (x : Nat) (h' : Hp) (x' : Nat) : Prop := (h' = h ∧ x' = x) ∨ ∃ b, h' = (x, b) :: h ∧ x' = x + 1
theorem Grows.adds (hg : Grows h x h' x') (hf : hget h x = none) : Adds h x h' x' := by
 rcases hg with ⟨rfl, rfl⟩ | ⟨b, rfl, rfl⟩
 ·exact Adds.refl
 ·refine ⟨by omega, fun n hn => by rw [hget_cons, if_neg (by omega)], fun n h1 h2 => ?_⟩
  obtain rfl : n = x := by omega
  exact hf
theorem HR.kill (hr : HR P σ R h x w) (n : Nat) : HR P σ R ((n, none) :: h) x w ∧ Ext σ R h x w σ R ((n, none) :: h) x w := by
 have hal : ∀ m, Alive ((n, none) :: h) m → Alive h m := fun m hm => by
  unfold Alive at hm ⊢
  rw [hget_cons] at hm
  by_cases e : n = m
  ·rw [if_pos e] at hm; exact absurd rfl hm
  ·rw [if_neg e] at hm; exact hm
 have hg : ∀ m k, hget ((n, none) :: h) m = some k → hget h m = some k := fun m k hm => by
  rw [hget_cons] at hm
  by_cases e : n = m
  ·rw [if_pos e] at hm; cases hm
  ·rw [if_neg e] at hm; exact hm
 exact ⟨⟨fun m b k h1 h2 => hr.shp m b k h1 (hg m k h2), fun m b k h1 h2 => hr.mpb m b k h1 (hg m k h2), fun m b k h1 h2 => hr.blk m b k h1 (hg m k h2), hr.dom, fun m m' b b' h1 h2 h3 h4 => hr.inj m m' b b' h1 h2 (hal m h3) (hal m' h4), hr.ro, fun m b a h1 h2 => hr.sep m b a h1 (hal m h2), hr.lt, fun m b k e s l h1 h2 => hr.own m b k e s l h1 (hg m k h2)⟩,
  ⟨Fr.refl _ _ _, Nat.le_refl _, fun _ _ => rfl, fun _ _ h => h, fun _ h => .inl h, fun m b h1 h2 h3 => .inl ⟨m, b, h1, hal m h2, h3, rfl⟩⟩⟩
theorem HR.virtc (hr : HR P σ R h x w) (c : AV) (e : Nat) (hc0 : ∀ fe s l, c = .fam fe s l → l = []) :
  HR P (Sg.put σ x ⟨0, 0, c.shp, e, true, 0, []⟩) R ((x, some ⟨c, e⟩) :: h) (x + 1) w ∧ Ext σ R h x w (Sg.put σ x ⟨0, 0, c.shp, e, true, 0, []⟩) R ((x, some ⟨c, e⟩) :: h) (x + 1) w := by
 have hs : ∀ n b, σ n = some b → Sg.put σ x ⟨0, 0, c.shp, e, true, 0, []⟩ n = some b := fun n b hn => by
  have := hr.dom n b hn
  unfold Sg.put; rw [if_neg (by omega)]; exact hn
 have hal : ∀ n, n ≠ x → (Alive ((x, some ⟨c, e⟩) :: h) n ↔ Alive h n) := fun n hn => by
  unfold Alive; rw [hget_cons, if_neg (Ne.symm hn)]
 have old : ∀ n b, Sg.put σ x ⟨0, 0, c.shp, e, true, 0, []⟩ n = some b → b.nil = false → n ≠ x ∧ σ n = some b := fun n b hn hl => by
  by_cases e1 : n = x
  ·simp only [Sg.put, if_pos e1, Option.some.injEq] at hn; subst hn; cases hl
  ·simp only [Sg.put, if_neg e1] at hn; exact ⟨e1, hn⟩
 have oldp : ∀ n b, Pc (Sg.put σ x ⟨0, 0, c.shp, e, true, 0, []⟩) n b → b.nil = false → n ≠ x ∧ Pc σ n b := fun n b hn hl => by
  by_cases e1 : n = x
  ·subst e1; rw [hn.put_eq rfl] at hl; cases hl
  ·exact ⟨e1, hn.put_ne e1⟩
 refine ⟨⟨?_, ?_, ?_, ?_, ?_, hr.ro, ?_, ?_, ?_⟩, ⟨Fr.refl _ _ _, by omega, fun n hn => by unfold Sg.put; rw [if_neg (by omega)], fun _ _ h => h, fun _ h => .inl h, ?_⟩⟩
 ·intro n b k hn hk
  rw [hget_cons] at hk
  by_cases e1 : n = x
  ·subst e1
   rw [if_pos rfl] at hk
   cases hk
   simp only [Sg.put, if_true, Option.some.injEq] at hn
   subst hn
   exact ⟨rfl, rfl⟩
  ·rw [if_neg (Ne.symm e1)] at hk
   simp only [Sg.put, if_neg e1] at hn
   exact hr.shp n b k hn hk
 ·intro n b k hn hk hnl hmp
  obtain ⟨e1, hn⟩ := old n b hn hnl
  rw [hget_cons, if_neg (Ne.symm e1)] at hk
  exact hr.mpb n b k hn hk hnl hmp
 ·intro n b k hn hk hnl hmp
  obtain ⟨e1, hn⟩ := old n b hn hnl
  rw [hget_cons, if_neg (Ne.symm e1)] at hk
  obtain ⟨h3, cs', fr', h4, h5, h6, h7⟩ := hr.blk n b k hn hk hnl hmp
  exact ⟨h3, cs', fr', h4, h5, VC.mono hs (fun _ _ h => h) h6, h7⟩
 ·intro n b hn
  by_cases e1 : n = x
  ·omega
  ·simp only [Sg.put, if_neg e1] at hn
   have := hr.dom n b hn; omega
 ·intro n m b b' hn hm ha hb hl1 hl2 hg
  obtain ⟨e1, hn⟩ := oldp n b hn hl1
  obtain ⟨e2, hm⟩ := oldp m b' hm hl2
  exact hr.inj n m b b' hn hm ((hal n e1).1 ha) ((hal m e2).1 hb) hl1 hl2 hg
 ·intro n b a hn ha hl1 hR
  obtain ⟨e1, hn⟩ := oldp n b hn hl1
  exact hr.sep n b a hn ((hal n e1).1 ha) hl1 hR
 ·intro n b hn hl1
  obtain ⟨e1, hn⟩ := oldp n b hn hl1
  exact hr.lt n b hn hl1
 ·intro n b k e' s l hn hk hc'
  rw [hget_cons] at hk
  by_cases e1 : n = x
  ·subst e1
   rw [if_pos rfl] at hk
   cases hk
   simp only [Sg.put, if_true, Option.some.injEq] at hn
   subst hn
   obtain rfl := hc0 e' s l hc'
   exact ⟨rfl, (fun i b hi => by simp at hi), (fun hh => by cases hh), (fun i j b c hi => by simp at hi), (fun b hb => by cases hb)⟩
  ·rw [if_neg (Ne.symm e1)] at hk
   simp only [Sg.put, if_neg e1] at hn
   exact hr.own n b k e' s l hn hk hc'
 ·intro n b hn ha hl1
  obtain ⟨e1, hn⟩ := oldp n b hn hl1
  exact .inl ⟨n, b, hn, (hal n e1).1 ha, hl1, rfl⟩
theorem HR.virt (hr : HR P σ R h x w) (s : Sch) (e : Nat) :
  HR P (Sg.put σ x ⟨0, 0, .arr 0 s.shp, e, true, 0, []⟩) R ((x, some ⟨.lst s [], e⟩) :: h) (x + 1) w ∧ Ext σ R h x w (Sg.put σ x ⟨0, 0, .arr 0 s.shp, e, true, 0, []⟩) R ((x, some ⟨.lst s [], e⟩) :: h) (x + 1) w :=
 hr.virtc (.lst s []) e (fun _ _ _ h => by cases h)
theorem HR.move (hr : HR P σ R h x w) {n : Nat} {b : Bk} {k : Blk} (hn : σ n = some b) (hk : hget h n = some k) (hnl : b.nil = false) {cs cs' : Array Value} {fr : Nat × Nat} (hg : w.heap[b.g]? = some (.cells cs b.e fr))
  (hsz : cs'.size = b.sz) (hf : ∀ j, j < b.sz → ¬ (fr.1 ≤ j ∧ j < fr.2)) {c' : AV} {d : Nat} (hw : d + c'.w ≤ b.sz) (hc : VC σ R c' ((cs'.toList.drop d).take c'.w)) (hF : ∀ e s l, c' ≠ .fam e s l := by intro _ _ _ h; cases h) :
  HR P (Sg.put σ x ⟨b.g, b.sz, c'.shp, b.e, false, d, []⟩) R ((x, some ⟨c', b.e⟩) :: (n, none) :: h) (x + 1) (w.setRow b.g cs') ∧ Ext σ R h x w (Sg.put σ x ⟨b.g, b.sz, c'.shp, b.e, false, d, []⟩) R ((x, some ⟨c', b.e⟩) :: (n, none) :: h) (x + 1) (w.setRow b.g cs') := by
 have hdn := hr.dom n b hn
 have hna : Alive h n := by unfold Alive; simp [hk]
 have hs : ∀ m b', σ m = some b' → Sg.put σ x ⟨b.g, b.sz, c'.shp, b.e, false, d, []⟩ m = some b' := fun m b' hm => by
  have := hr.dom m b' hm
  unfold Sg.put; rw [if_neg (by omega)]; exact hm
 have hal : ∀ m, m ≠ x → Alive ((x, some ⟨c', b.e⟩) :: (n, none) :: h) m → Alive h m ∧ m ≠ n := fun m hm ha => by
  unfold Alive at ha ⊢
  rw [hget_cons, if_neg (Ne.symm hm), hget_cons] at ha
  by_cases e : n = m
  ·rw [if_pos e] at ha; exact absurd rfl ha
  ·rw [if_neg e] at ha; exact ⟨ha, fun e' => e e'.symm⟩
 have hgt : ∀ m k', m ≠ x → hget ((x, some ⟨c', b.e⟩) :: (n, none) :: h) m = some k' → hget h m = some k' ∧ m ≠ n := fun m k' hm ha => by
  rw [hget_cons, if_neg (Ne.symm hm), hget_cons] at ha
  by_cases e : n = m
  ·rw [if_pos e] at ha; cases ha
  ·rw [if_neg e] at ha; exact ⟨ha, fun e' => e e'.symm⟩
 have hne : ∀ m b', m ≠ n → Pc σ m b' → Alive h m → b'.nil = false → b'.g ≠ b.g := fun m b' h1 h2 h3 h4 e => h1 (hr.inj m n b' b h2 (.of hn) h3 hna h4 hnl e)
 refine ⟨⟨?_, ?_, ?_, ?_, ?_, ?_, ?_, ?_, ?_⟩, ⟨⟨rfl, rfl, rfl, by rw [setRow_size]; omega, fun i hi hne => ?_⟩, by omega, fun m hm => by unfold Sg.put; rw [if_neg (by omega)], fun _ _ h => h, fun _ h => .inl h, ?_⟩⟩
 ·intro m b' k' hm hk'
  by_cases e1 : m = x
  ·subst e1
   rw [hget_cons, if_pos rfl] at hk'
   cases hk'
   simp only [Sg.put, if_true, Option.some.injEq] at hm
   subst hm
   exact ⟨rfl, rfl⟩
  ·simp only [Sg.put, if_neg e1] at hm
   exact hr.shp m b' k' hm (hgt m k' e1 hk').1
 ·intro m b' k' hm hk' hl1 hmp
  by_cases e1 : m = x
  ·subst e1
   rw [hget_cons, if_pos rfl] at hk'
   cases hk'
   rw [show AV.isMap c' = false from vc_map hc] at hmp
   cases hmp
  ·simp only [Sg.put, if_neg e1] at hm
   obtain ⟨q1, q2⟩ := hgt m k' e1 hk'
   exact (hr.mpb m b' k' hm q1 hl1 hmp).heap (setRow_other w b.g b'.g cs' (hne m b' q2 (.of hm) (by unfold Alive; simp [q1]) hl1))
 ·intro m b' k' hm hk' hl1 hmp
  by_cases e1 : m = x
  ·subst e1
   rw [hget_cons, if_pos rfl] at hk'
   cases hk'
   simp only [Sg.put, if_true, Option.some.injEq] at hm
   subst hm
   exact ⟨by show d + c'.shp.w ≤ _; rw [AV.shp_w]; exact hw, cs', fr, setRow_heap w b.g cs cs' b.e fr hg, hsz, VC.mono hs (fun _ _ h => h) hc, hf⟩
  ·simp only [Sg.put, if_neg e1] at hm
   obtain ⟨q1, q2⟩ := hgt m k' e1 hk'
   obtain ⟨h3, cs2, fr', h4, h5, h6, h7⟩ := hr.blk m b' k' hm q1 hl1 hmp
   refine ⟨h3, cs2, fr', ?_, h5, VC.mono hs (fun _ _ h => h) h6, h7⟩
   rw [setRow_other w b.g b'.g cs' (hne m b' q2 (.of hm) (by unfold Alive; simp [q1]) hl1)]
   exact h4
 ·intro m b' hm
  by_cases e1 : m = x
  ·omega
  ·simp only [Sg.put, if_neg e1] at hm
   have := hr.dom m b' hm; omega
 ·intro m m' b1 b2 h1 h2 h3 h4 hl1 hl2 h5
  by_cases e1 : m = x
  ·by_cases e2 : m' = x
   ·omega
   ·subst e1
    replace h1 := h1.put_eq rfl
    replace h2 := h2.put_ne e2
    obtain ⟨q1, q2⟩ := hal m' e2 h4
    subst h1
    exact absurd h5.symm (hne m' b2 q2 h2 q1 hl2)
  ·by_cases e2 : m' = x
   ·subst e2
    replace h2 := h2.put_eq rfl
    replace h1 := h1.put_ne e1
    obtain ⟨q1, q2⟩ := hal m e1 h3
    subst h2
    exact absurd h5 (hne m b1 q2 h1 q1 hl1)
   ·replace h1 := h1.put_ne e1
    replace h2 := h2.put_ne e2
    exact hr.inj m m' b1 b2 h1 h2 (hal m e1 h3).1 (hal m' e2 h4).1 hl1 hl2 h5
 ·intro a v ha
  have := hr.ro a v ha
  have hne := hr.sep n b a (.of hn) hna hnl (by simp [ha])
  unfold World.cell? at this ⊢
  rw [setRow_other w b.g a.block cs' hne]; exact this
 ·intro m b' a hm ha hl1 hR
  by_cases e1 : m = x
  ·subst e1
   replace hm := hm.put_eq rfl
   subst hm
   exact hr.sep n b a (.of hn) hna hnl hR
  ·replace hm := hm.put_ne e1
   exact hr.sep m b' a hm (hal m e1 ha).1 hl1 hR
 ·intro m b' hm hl1
  rw [setRow_size]
  by_cases e1 : m = x
  ·subst e1
   replace hm := hm.put_eq rfl
   subst hm
   exact hr.lt n b (.of hn) hnl
  ·replace hm := hm.put_ne e1
   exact hr.lt m b' hm hl1
 ·intro m b' k' e' s l hm hk' hc'
  by_cases e1 : m = x
  ·subst e1
   rw [hget_cons, if_pos rfl] at hk'
   cases hk'
   exact absurd hc' (hF _ _ _)
  ·simp only [Sg.put, if_neg e1] at hm
   obtain ⟨q1, q2⟩ := hgt m k' e1 hk'
   exact hr.keep hm q1 hc' fun c p1 p2 => setRow_other w b.g c.g cs' (hne m c q2 p1 (by unfold Alive; simp [q1]) p2)
 ·exact setRow_other w b.g i cs' (fun e => hne n b (.of hn) hna hnl e.symm)
 ·intro m b' hm ha hl1
  by_cases e1 : m = x
  ·subst e1
   replace hm := hm.put_eq rfl
   subst hm
   exact .inl ⟨n, b, .of hn, hna, hnl, rfl⟩
  ·replace hm := hm.put_ne e1
   exact .inl ⟨m, b', hm, (hal m e1 ha).1, hl1, rfl⟩
theorem take_splice {cs : List Value} {n o : Nat} {vs : List Value} (h1 : o + vs.length ≤ n) (h2 : n ≤ cs.length) : (cs.take o ++ vs ++ cs.drop (o + vs.length)).take n = splice (cs.take n) o vs := by
 apply List.ext_getElem?
 intro j
 have hl : (cs.take n).length = n := by simp; omega
 have e : cs.take o ++ vs ++ cs.drop (o + vs.length) = splice cs o vs := by simp [splice]
 rw [e, List.getElem?_take, splice_get (l := cs) (by omega), splice_get (l := cs.take n) (by rw [hl]; exact h1)]
 simp only [List.getElem?_take]
 by_cases hj : j < n
 ·simp only [if_pos hj]
 ·simp only [if_neg hj]
  rw [if_neg (by omega), if_neg (by omega)]
theorem drop_splice {cs : List Value} {d o : Nat} {vs : List Value} (h : d + o ≤ cs.length) : (cs.take (d + o) ++ vs ++ cs.drop (d + o + vs.length)).drop d = (cs.drop d).take o ++ vs ++ (cs.drop d).drop (o + vs.length) := by
 rw [List.append_assoc, List.drop_append_of_le_length (by simp; omega), List.drop_take, Nat.add_sub_cancel_left, List.drop_drop, List.append_assoc, Nat.add_assoc]
theorem store0_sound (hT : TyOk P T) {ty : Nat} {a v : AV} {k : K3 X} (he : store0 T ty h x a v k = some r) :
  ∃ h', k .any h' x = some r ∧ (∀ m, m ∉ a.names → hget h' m = hget h m) ∧ ∀ {σ R w ca cv}, HR P σ R h x w → VV σ R a ca → VV σ R v cv → ∃ w', (Instr.storeAt ty ca cv).run P w = .ok () w' ∧ HR P σ R h' x w' ∧ Ext σ R h x w σ R h' x w' := by
 unfold store0 at he
 split at he
 ·rename_i n p
  split at he
  ·rename_i b hb
   split at he
   ·rename_i c hc
    obtain ⟨hs, he⟩ := cond_some he
    refine ⟨_, he, (fun m hm => by rw [hget_cons, if_neg (fun e => hm (by simp [AV.names, e]))]), fun {σ R w ca cv} hr ha hv => ?_⟩
    obtain ⟨ti, i, d, hk, g1, g2, g3⟩ := loadOk_spec hT hs
    obtain ⟨B, o, h1, h2, hnl, rfl⟩ := ha
    have hvc := V0.cells g2 (VV.v0 g2 hv)
    have hvl := VC.length hvc
    obtain ⟨hw, cs, fr, hg, hsz, hbc, hf⟩ := hr.blk n B b h1 hb hnl (aset_notmap hc)
    obtain ⟨hsh, hbe⟩ := hr.shp n B b h1 hb
    rw [← hsh] at h2
    obtain ⟨q1, q2, q3⟩ := aset_vc hbc hc h2 hvc
    have hbw : B.o + b.c.w ≤ B.sz := by rw [← AV.shp_w, hsh]; exact hw
    have hlen : ((cs.toList.drop B.o).take b.c.w).length = b.c.w := VC.length hbc
    have hcw : c.w = b.c.w := by rw [← AV.shp_w, q3, AV.shp_w]
    have hst := storeCells_run P B.g (B.o + o) B.e fr cv.cells.toList 0 cs w hg (fun j hj => hf j (by omega)) (by simp at hlen q1 ⊢; omega) (VC.one hvc)
    have hcs : cv.cells.size = ti.size := by rw [g1, ← hvl]; simp
    obtain ⟨r1, r2⟩ := hr.set h1 hb hnl (aset_notmap hc) hg (cs' := (cs.toList.take (B.o + o + 0) ++ cv.cells.toList ++ cs.toList.drop (B.o + o + 0 + cv.cells.toList.length)).toArray) (by simp at hlen q1 ⊢; omega) hf (c' := c) (by rw [q3, hsh]) (by
     rw [hcw]
     show VC σ R c (((cs.toList.take (B.o + o + 0) ++ cv.cells.toList ++ cs.toList.drop (B.o + o + 0 + cv.cells.toList.length)).drop B.o).take b.c.w)
     rw [Nat.add_zero, drop_splice (by simp at hlen q1 ⊢; omega), take_splice (by omega) (by simp; omega)]
     exact q2) (aset_notfam hc)
    exact ⟨_, by simp [Instr.storeAt, Instr.sureAddr, storeVar, hk.run_size, hcs, hst], r1, r2⟩
   ·cases he
  ·cases he
 ·cases he
theorem HR.setF (hr : HR P σ R h x w) {n i : Nat} {B b : Bk} {k : Blk} {fe : Nat} {s : Sch} {l : List (List s.den)} (hn : σ n = some B) (hk : hget h n = some k) (hkc : k.c = .fam fe s l) (hi : B.inn[i]? = some b) (hnl : b.nil = false)
  {cs cs' : Array Value} {fr : Nat × Nat} (hg : w.heap[b.g]? = some (.cells cs b.e fr)) (hsz : cs'.size = b.sz) (hf : ∀ j, j < b.sz → ¬ (fr.1 ≤ j ∧ j < fr.2)) {r' : List s.den} (hlen : r'.length = (l.getD i []).length)
  (hc : SC R (.arr r'.length s) (fun j => r'.getD j s.zero) ((cs'.toList.drop b.o).take (r'.length * s.w))) :
  HR P σ R ((n, some ⟨.fam fe s (l.set i r'), k.e⟩) :: h) x (w.setRow b.g cs') ∧ Ext σ R h x w σ R ((n, some ⟨.fam fe s (l.set i r'), k.e⟩) :: h) x (w.setRow b.g cs') := by
 have hal : ∀ m, (Alive ((n, some ⟨.fam fe s (l.set i r'), k.e⟩) :: h) m ↔ Alive h m) := fun m => by
  unfold Alive; rw [hget_cons]
  by_cases e : n = m
  ·subst e; simp [hk]
  ·rw [if_neg e]
 have hna : Alive h n := by unfold Alive; simp [hk]
 have ho := hr.own n B k fe s l hn hk hkc
 have hil : i < l.length := by rw [← ho.len]; exact (List.getElem?_eq_some_iff.1 hi).1
 have hmem : b ∈ B.inn := List.mem_of_getElem? hi
 have hne : ∀ m c, m ≠ n → Pc σ m c → Alive h m → c.nil = false → c.g ≠ b.g := fun m c h1 h2 h3 h4 e => h1 (hr.inj m n c b h2 (.inn hn hi) h3 hna h4 hnl e)
 refine ⟨⟨?_, ?_, ?_, hr.dom, ?_, ?_, ?_, ?_, ?_⟩, ⟨⟨rfl, rfl, rfl, by rw [setRow_size]; omega, fun i hi' hne => ?_⟩, by omega, fun _ _ => rfl, fun _ _ h => h, fun _ h => .inl h, fun m b' hm ha hl1 => .inl ⟨m, b', hm, (hal m).1 ha, hl1, rfl⟩⟩⟩
 ·intro m b' k' hm hk'
  rw [hget_cons] at hk'
  by_cases e1 : n = m
  ·subst e1
   rw [if_pos rfl] at hk'
   cases hk'
   have : b' = B := by rw [hn] at hm; cases hm; rfl
   subst this
   have := hr.shp n b' k hn hk
   rw [hkc] at this
   exact ⟨by rw [← this.1]; simp [AV.shp], this.2⟩
  ·rw [if_neg e1] at hk'
   exact hr.shp m b' k' hm hk'
 ·intro m b' k' hm hk' hnl' hmp
  rw [hget_cons] at hk'
  by_cases e1 : n = m
  ·subst e1
   rw [if_pos rfl] at hk'
   cases hk'
   cases hmp
  ·rw [if_neg e1] at hk'
   exact (hr.mpb m b' k' hm hk' hnl' hmp).heap (setRow_other w b.g b'.g cs' (hne m b' (Ne.symm e1) (.of hm) (by unfold Alive; simp [hk']) hnl'))
 ·intro m b' k' hm hk' hnl' hmp
  rw [hget_cons] at hk'
  by_cases e1 : n = m
  ·subst e1
   rw [if_pos rfl] at hk'
   cases hk'
   have : b' = B := by rw [hn] at hm; cases hm; rfl
   subst this
   obtain ⟨h3, cs2, fr', h4, h5, h6, h7⟩ := hr.blk n b' k hn hk hnl' (by rw [hkc]; rfl)
   rw [hkc] at h6
   refine ⟨h3, cs2, fr', ?_, h5, ?_, h7⟩
   ·rw [setRow_other w b.g b'.g cs' (fun e => ho.out b hmem hnl hnl' e.symm)]; exact h4
   ·exact ⟨by simp only [AV.w, List.length_set]; exact h6.1, by simp only [AV.w, List.length_set]; exact h6.2⟩
  ·rw [if_neg e1] at hk'
   obtain ⟨h3, cs2, fr', h4, h5, h6, h7⟩ := hr.blk m b' k' hm hk' hnl' hmp
   refine ⟨h3, cs2, fr', ?_, h5, h6, h7⟩
   rw [setRow_other w b.g b'.g cs' (hne m b' (Ne.symm e1) (.of hm) (by unfold Alive; simp [hk']) hnl')]
   exact h4
 ·intro m m' b1 b2 h1 h2 h3 h4 hl1 hl2 h5
  exact hr.inj m m' b1 b2 h1 h2 ((hal m).1 h3) ((hal m').1 h4) hl1 hl2 h5
 ·intro a v ha
  have := hr.ro a v ha
  have hne := hr.sep n b a (.inn hn hi) hna hnl (by simp [ha])
  unfold World.cell? at this ⊢
  rw [setRow_other w b.g a.block cs' hne]; exact this
 ·intro m b' a hm ha hl1 hR
  exact hr.sep m b' a hm ((hal m).1 ha) hl1 hR
 ·intro m b' hm hl1
  rw [setRow_size]; exact hr.lt m b' hm hl1
 ·intro m b' k' e' s2 l2 hm hk' hc'
  rw [hget_cons] at hk'
  by_cases e1 : n = m
  ·subst e1
   rw [if_pos rfl] at hk'
   cases hk'
   cases hc'
   have : b' = B := by rw [hn] at hm; cases hm; rfl
   subst this
   refine ⟨by rw [List.length_set]; exact ho.len, fun j c hj => ?_, fun hB => ?_, ho.in1, ho.out⟩
   ·by_cases e2 : j = i
    ·subst e2
     rw [hi] at hj; cases hj
     have hrow := ho.row j b hi
     have hgd : (l.set j r').getD j [] = r' := by simp [List.getD_eq_getElem?_getD, hil]
     rw [hgd]
     have hsh := hrow.sh
     rw [← hlen] at hsh
     exact ⟨hsh, hrow.e, fun _ => ⟨(hrow.blk hnl).1, cs', fr, setRow_heap w b.g cs cs' b.e fr hg, hsz, hc, hf⟩⟩
    ·have hgd : (l.set i r').getD j [] = l.getD j [] := by simp [List.getD_eq_getElem?_getD, List.getElem?_set, Ne.symm e2]
     rw [hgd]
     exact (ho.row j c hj).heap fun hcn => setRow_other w b.g c.g cs' (fun e => e2 (ho.in1 j i c b hj hi hcn hnl e))
   ·obtain ⟨cs2, t, fr2, q1, q2⟩ := ho.cell hB
    exact ⟨cs2, t, fr2, by rw [setRow_other w b.g b'.g cs' (fun e => ho.out b hmem hnl hB e.symm)]; exact q1, q2⟩
  ·rw [if_neg e1] at hk'
   exact hr.keep hm hk' hc' fun c p1 p2 => setRow_other w b.g c.g cs' (hne m c (Ne.symm e1) p1 (by unfold Alive; simp [hk']) p2)
 ·exact setRow_other w b.g i cs' (fun e => hne n b (.inn hn hi) hna hnl e.symm)
theorem storeA_sound (hT : TyOk P T) {ty : Nat} {a v : AV} {k : K3 X} (he : storeA T ty h x a v k = some r) :
  ∃ h', k .any h' x = some r ∧ (∀ m, m ∉ a.names → hget h' m = hget h m) ∧ ∀ {σ R w ca cv}, HR P σ R h x w → VV σ R a ca → VV σ R v cv → ∃ w', (Instr.storeAt ty ca cv).run P w = .ok () w' ∧ HR P σ R h' x w' ∧ Ext σ R h x w σ R h' x w' := by
 unfold storeA at he
 split at he
 ·rename_i n j p
  unfold storeF at he
  split at he
  ·rename_i k0 hk0
   split at he
   ·rename_i fe s l hkc
    split at he
    ·rename_i s' r1 hc
     split at he
     ·rename_i q
      subst q
      obtain ⟨hs, he⟩ := cond_some he
      simp only [Bool.and_eq_true, Bool.not_eq_true'] at hs
      obtain ⟨hs, hp0⟩ := hs
      refine ⟨_, he, (fun m hm => by rw [hget_cons, if_neg (fun e => hm (by simp [AV.names, e]))]), fun {σ R w ca cv} hr ha hv => ?_⟩
      obtain ⟨ti, i, d, hk, g1, g2, g3⟩ := loadOk_spec hT hs
      obtain ⟨B, b, h1, h2, o, h3, hnl, rfl⟩ := ha
      have hvc := V0.cells g2 (VV.v0 g2 hv)
      have hvl := VC.length hvc
      have hrow := (hr.own n B k0 fe s' l h1 hk0 hkc).row j b h2
      obtain ⟨hw, cs, fr, hg, hsz, hsc, hf⟩ := hrow.blk hnl
      have hbc : VC σ R (.lst s' (l.getD j [])) ((cs.toList.drop b.o).take ((l.getD j []).length * s'.w)) := hsc
      rw [hrow.sh] at h3
      obtain ⟨q1, q2, q3⟩ := aset_vc hbc hc h3 hvc
      have hlen0 := VC.length hbc
      simp only [AV.w] at hlen0
      have hrl : r1.length = (l.getD j []).length := by simp only [AV.shp, Shp.arr.injEq] at q3; exact q3.1
      have hst := storeCells_run P b.g (b.o + o) b.e fr cv.cells.toList 0 cs w hg (fun j hj => hf j (by simp at hlen0 q1 hj; omega)) (by simp at hlen0 q1 ⊢; omega) (VC.one hvc)
      have hcs : cv.cells.size = ti.size := by rw [g1, ← hvl]; simp
      obtain ⟨r1', r2⟩ := hr.setF h1 hk0 hkc h2 hnl hg (cs' := (cs.toList.take (b.o + o + 0) ++ cv.cells.toList ++ cs.toList.drop (b.o + o + 0 + cv.cells.toList.length)).toArray) (by simp at hlen0 q1 ⊢; omega) hf hrl (by
       rw [hrl]
       have q2' : SC R (.arr r1.length s') (fun j => r1.getD j s'.zero) (splice ((cs.toList.drop b.o).take ((l.getD j []).length * s'.w)) o cv.cells.toList) := q2
       rw [hrl] at q2'
       show SC R _ _ (((cs.toList.take (b.o + o + 0) ++ cv.cells.toList ++ cs.toList.drop (b.o + o + 0 + cv.cells.toList.length)).drop b.o).take ((l.getD j []).length * s'.w))
       rw [Nat.add_zero, drop_splice (by simp at hlen0 q1 ⊢; omega), take_splice (by omega) (by simp at hlen0 ⊢; omega)]
       exact q2')
      exact ⟨_, by simp [Instr.storeAt, Instr.sureAddr, storeVar, hk.run_size, hcs, hst], r1', r2⟩
     ·cases he
    ·cases he
   ·cases he
  ·cases he
 ·exact store0_sound hT he
theorem new_sound {e : Nat} {v : AV} {cv : Value} (hr : HR P σ R h x w) (hva : (v.cell || v.agg) = true) (hv : VC σ R v cv.cells.toList) :
  ∃ σ' R', V1 σ' R' (.ptr x []) (.pointer (some ⟨w.heap.size, 0, none⟩)) ∧ HR P σ' R' ((x, some ⟨v, e⟩) :: h) (x + 1) (w.alloc (.cells cv.cells e)) ∧ Ext σ R h x w σ' R' ((x, some ⟨v, e⟩) :: h) (x + 1) (w.alloc (.cells cv.cells e)) := by
 have hl := VC.length hv
 have hsz : cv.cells.size = v.w := by rw [← hl]; simp
 obtain ⟨r1, r2⟩ := hr.alloc (c := v) (e := e) (cs := cv.cells) (fr := (0, 0)) (by rw [List.take_of_length_le (by omega)]; exact hv) (by omega) (by intro j hj; simp) (one_notfam hva)
 exact ⟨_, _, ⟨⟨w.heap.size, cv.cells.size, v.shp, e, false, 0, []⟩, 0, by simp [Sg.put], off_nil _, rfl, rfl⟩, r1, r2⟩
theorem zero_run {t : Nat} {ti : TI} {i : TypeInfo} {d : TypeDesc} (hk : TyIs P t ti i d) (hz : ti.zero ≠ .any) (w : World) :
  ∃ v, (zeroValue t).run P w = .ok v w ∧ (ti.zero.cell || ti.zero.agg) = true ∧ VC σ R ti.zero v.cells.toList := by
 rcases hk.zero with h0 | ⟨h1, h2, h3, v, h4, h5⟩
 ·exact absurd h0 hz
 ·exact ⟨v, by simp [zeroValue, typeInfo, hk.info, h4], h1, zeroB_vc h5⟩
theorem alloc_sound (hT : TyOk P T) {e : Nat} {ti : TI} (ht : tyGet T e = some ti) (hz : (ti.zero.cell || ti.zero.agg) = true) (hr : HR P σ R h x w) :
  Makes P (Instr.alloc e true (.tuple #[])) σ R h x w (.ptr x []) ((x, some ⟨ti.zero, e⟩) :: h) (x + 1) := by
 obtain ⟨i, d, hk⟩ := hT.is ht
 obtain ⟨v, h1, h2, h3⟩ := zero_run (σ := σ) (R := R) hk (by intro h0; rw [h0] at hz; simp [AV.cell, AV.agg] at hz) w
 obtain ⟨σ', R', q1, q2, q3⟩ := new_sound (e := e) hr h2 h3
 exact ⟨_, _, σ', R', by simp [Instr.alloc, h1, newVar, newRow], q1, q2, q3⟩
theorem box_sound {e : Nat} {v : AV} {cv : Value} (hva : (v.cell || v.agg) = true) (hr : HR P σ R h x w) (hv : VV σ R v cv) :
  Makes P (Instr.box e cv) σ R h x w (.ptr x []) ((x, some ⟨v, e⟩) :: h) (x + 1) := by
 obtain ⟨σ', R', q1, q2, q3⟩ := new_sound (e := e) hr hva (V0.cells hva (VV.v0 hva hv))
 exact ⟨_, _, σ', R', by simp [Instr.box, newVar, newRow], q1, q2, q3⟩
theorem fold_splice : ∀ (vs : List Value) (off : Nat) (k : Nat) (cs : Array Value), off + k + vs.length ≤ cs.size →
  ((vs.zipIdx k).foldl (fun cs (p : Value × Nat) => cs.setIfInBounds (off + p.2) p.1) cs).toList = splice cs.toList (off + k) vs
 | [], off, k, cs, _ => by simp [splice]
 | v :: vs, off, k, cs, hl => by
  simp only [List.length_cons] at hl
  rw [List.zipIdx_cons, List.foldl_cons]
  have ih := fold_splice vs off (k + 1) (cs.setIfInBounds (off + k) v) (by simp; omega)
  rw [ih]
  apply List.ext_getElem?
  intro j
  have e1 : off + (k + 1) + vs.length ≤ (cs.setIfInBounds (off + k) v).toList.length := by simp only [Array.length_toList, Array.size_setIfInBounds]; omega
  have e2 : off + k + (v :: vs).length ≤ cs.toList.length := by simp only [Array.length_toList, List.length_cons]; omega
  rw [splice_get e1, splice_get e2]
  simp only [Array.toList_setIfInBounds, List.length_cons, List.getElem?_set]
  have hlc : cs.toList.length = cs.size := by simp
  by_cases h1 : j < off + k
  ·have a1 : j < off + (k + 1) := by omega
   have a2 : ¬ off + k = j := by omega
   simp only [a1, h1, a2, if_true, if_false]
  ·by_cases h2 : j = off + k
   ·subst h2
    have hlt : off + k < cs.size := by omega
    simp [show off + k < off + (k + 1) by omega, hlt]
   ·have a1 : ¬ j < off + (k + 1) := by omega
    have a2 : ¬ off + k = j := by omega
    by_cases h3 : j < off + k + (vs.length + 1)
    ·have a3 : j < off + (k + 1) + vs.length := by omega
     have a5 : j - (off + k) = (j - (off + (k + 1))) + 1 := by omega
     simp only [a1, h1, h3, a3, if_true, if_false, a5, List.getElem?_cons_succ]
    ·have a3 : ¬ j < off + (k + 1) + vs.length := by omega
     simp only [a1, h1, h3, a3, a2, if_false]
theorem fill_step {place : Nat → Option (Nat × Nat)} {cs : Array Value} {i off size : Nat} {v : Value} {rest : List (Nat × Value)} (hp : place i = some (off, size)) (hv : v.cells.size = size) (hl : off + size ≤ cs.size) :
  ∃ cs', Instr.fill place cs ((i, v) :: rest) = Instr.fill place cs' rest ∧ cs'.toList = splice cs.toList off v.cells.toList := by
 refine ⟨_, by simp only [Instr.fill, hp]; rw [if_neg (by simp; omega)], ?_⟩
 have := fold_splice v.cells.toList off 0 cs (by simp; omega)
 rw [← Array.foldl_toList, Array.toList_zipIdx]
 exact this
def VP (σ : Sg) (R : Ro) : List (Nat × AV) → List (Nat × Value) → Prop
 | [], [] => True
 | (i, a) :: l, (j, v) :: m => i = j ∧ VV σ R a v ∧ VP σ R l m
 | _, _ => False
theorem partOk_spec (hT : TyOk P T) {ty i : Nat} {z v : AV} (hp : partOk T ty i z v = true) :
  ∃ off ti ii d ft, z.shp.off [i] = some off ∧ TyIs P ft ti ii d ∧ ti.size = v.w ∧ (v.cell || v.agg) = true ∧
   ((∃ fields fd, P.underlying ty = some (.struct fields) ∧ fields[i]? = some fd ∧ fd.offset = off ∧ fd.type = ft) ∨ (∃ n, P.underlying ty = some (.array n ft) ∧ off = i * ti.size)) := by
 unfold partOk at hp
 split at hp
 ·rename_i c
  split at hp
  ·rename_i ft hft
   simp only [Bool.and_eq_true] at hp
   obtain ⟨fields, fd, tf, i1, d1, h1, h2, h3, h4, h5⟩ := fieldOk_spec hT hp.1
   obtain ⟨ti, i3, d3, hk2, g1, g2, g3⟩ := loadOk_spec hT hp.2
   have hfd : ft = fd.type := by
    unfold fieldTy at hft
    split at hft
    ·split at hft
     ·split at hft
      ·rename_i ti' hti _ fs hkk _ q hq
       cases hft
       obtain ⟨i4, d4, hk4⟩ := hT.is hti
       obtain ⟨fields', rfl, hfs⟩ := hk4.stru hkk
       have := hk4.und
       rw [h1] at this
       simp at this
       subst this
       have hg := nthP_get hq
       rw [← hfs, List.getElem?_map] at hg
       have h2' : fields.toList[i]? = some fd := by simpa using h2
       rw [h2'] at hg
       simp only [Option.map_some, Option.some.injEq] at hg
       rw [← hg]
      ·cases hft
     ·cases hft
    ·cases hft
   exact ⟨fd.offset, ti, i3, d3, ft, (show (AV.node c).shp.off [i] = _ from foff_off (c := c) h3), hk2, g1, g2, .inl ⟨fields, fd, h1, h2, rfl, hfd.symm⟩⟩
  ·cases hp
 ·rename_i s n f
  split at hp
  ·rename_i e hel
   simp only [Bool.and_eq_true] at hp
   obtain ⟨e', te, i2, d2, hu, hk, hsz, hs0⟩ := arrOk_spec hT hp.1.1
   obtain ⟨ti, i3, d3, hk2, g1, g2, g3⟩ := loadOk_spec hT hp.1.2
   have he' : e = e' := by
    unfold elemTy at hel
    split at hel
    ·split at hel
     ·rename_i ti' hti _ m' e'' hkk
      cases hel
      obtain ⟨i4, d4, hk4⟩ := hT.is hti
      have := hk4.arr hkk
      subst this
      have := hk4.und
      rw [hu] at this
      simp at this
      exact this.2.symm
     ·cases hel
    ·cases hel
   subst he'
   have hte : ti.size = te.size := by
    have := hk2.info
    rw [hk.info] at this
    cases this
    rw [← hk2.size, hk.size]
   have hlt : i < n := Nat.lt_of_lt_of_le (Nat.lt_succ_self i) (Nat.le_of_ble_eq_true hp.2)
   exact ⟨i * s.w, ti, i3, d3, e, by simp only [AV.shp]; rw [off_arr1 hlt, Sch.shp_w], hk2, g1, g2, .inr ⟨n, hu, by rw [hte, hsz]⟩⟩
  ·cases hp
 ·cases hp
theorem setParts_fill (hT : TyOk P T) {ty : Nat} {place : Nat → Option (Nat × Nat)}
  (hpl : ∀ {i off ti ii d ft}, TyIs P ft ti ii d → ((∃ fields fd, P.underlying ty = some (.struct fields) ∧ fields[i]? = some fd ∧ fd.offset = off ∧ fd.type = ft) ∨ (∃ n, P.underlying ty = some (.array n ft) ∧ off = i * ti.size)) → place i = some (off, ti.size)) :
  ∀ (l : List (Nat × AV)) (m : List (Nat × Value)) (c c' : AV) (cs : Array Value), setParts T ty c l = some c' → VP σ R l m → VC σ R c cs.toList → ∃ cs', Instr.fill place cs m = some cs' ∧ VC σ R c' cs'.toList
 | [], [], c, c', cs, hs, _, hc => by simp only [setParts] at hs; cases hs; exact ⟨cs, rfl, hc⟩
 | (i, a) :: l, (j, v) :: m, c, c', cs, hs, ⟨hij, hv, hrest⟩, hc => by
  subst hij
  simp only [setParts] at hs
  obtain ⟨hp, hs⟩ := cond_some hs
  split at hs
  ·rename_i c1 hc1
   obtain ⟨off, ti, ii, d, ft, h1, h2, h3, h4, h5⟩ := partOk_spec hT hp
   have hvc := V0.cells h4 (VV.v0 h4 hv)
   have hvl := VC.length hvc
   obtain ⟨q1, q2, q3⟩ := aset_vc hc hc1 h1 hvc
   obtain ⟨cs', e1, e2⟩ := fill_step (rest := m) (hpl h2 h5) (v := v) (cs := cs) (by rw [h3, ← hvl]; simp) (by simp at q1 hvl; omega)
   rw [e1]
   exact setParts_fill hT hpl l m c1 c' cs' hs hrest (by rw [e2]; exact q2)
  ·cases hs
 | [], _ :: _, _, _, _, _, hv, _ => hv.elim
 | _ :: _, [], _, _, _, _, hv, _ => hv.elim
theorem setParts_agg : ∀ (l : List (Nat × AV)) {ty : Nat} {c c' : AV}, setParts T ty c l = some c' → c.agg = true → c'.agg = true
 | [], ty, c, c', hs, hc => by simp only [setParts] at hs; cases hs; exact hc
 | (i, a) :: l, ty, c, c', hs, hc => by
  simp only [setParts] at hs
  obtain ⟨hp, hs⟩ := cond_some hs
  split at hs
  ·rename_i c1 hc1
   refine setParts_agg l hs ?_
   cases c <;> simp [AV.agg] at hc
   ·simp only [aset] at hc1
    split at hc1
    ·cases hc1; rfl
    ·cases hc1
   ·simp only [aset] at hc1
    split at hc1
    ·cases hc1; rfl
    ·cases hc1
  ·cases hs
theorem buildA_sound (hT : TyOk P T) {ty : Nat} {parts : List (Nat × AV)} {k : K1 X} (he : buildA T ty parts k = some r) :
  ∃ v, k v = some r ∧ ∀ {σ R} {w : World} {m : Array (Nat × Value)}, VP σ R parts m.toList → Reads P (Instr.build ty m) σ R w v := by
 unfold buildA at he
 split at he
 ·rename_i ti hti
  obtain ⟨hag, he⟩ := cond_some he
  split at he
  ·rename_i c hc
   refine ⟨c, he, fun {σ R w m} hp => ?_⟩
   obtain ⟨i, d, hk⟩ := hT.is hti
   obtain ⟨v, h1, h2, h3⟩ := zero_run (σ := σ) (R := R) hk (by intro h0; rw [h0] at hag; simp [AV.agg] at hag) w
   have hca := setParts_agg parts hc hag
   have hka : ti.k.agg = true := by
    rcases hk.zero with h0 | ⟨_, _, h3, _⟩
    ·rw [h0] at hag; simp [AV.agg] at hag
    ·rw [← h3]; exact hag
   have hrun := hk.run_agg w
   cases hq : ti.k <;> rw [hq] at hka <;> simp [TK.agg] at hka
   ·obtain ⟨fields, rfl, hfs⟩ := hk.stru hq
    have hmap := Go.ChangeMaps.mapM_total (f := fun f : Field => (P.info? f.type).map fun i => (f.offset, i.size)) (0, 0) (l := fields.toList) (fun f hf => by
     obtain ⟨j, hj⟩ := hk.sub.1 fields rfl f hf
     exact ⟨_, by rw [hj]; rfl⟩)
    have key := setParts_fill (σ := σ) (R := R) hT (ty := ty) (place := ((fields.toList.map fun f : Field => ((P.info? f.type).map fun i => (f.offset, i.size)).getD (0, 0)).toArray[·]?)) (by
     intro i off ti' ii d ft h4 h5
     rcases h5 with ⟨fields', fd, h6, h7, h8, h9⟩ | ⟨n', h6, h7⟩
     ·have := hk.und
      rw [h6] at this
      simp at this
      subst this
      have h7' : fields'.toList[i]? = some fd := by simpa using h7
      subst h8 h9
      simp [h7, h4.info, h4.size]
     ·have := hk.und; rw [h6] at this; cases this) parts m.toList ti.zero c v.cells hc hp h3
    obtain ⟨cs', q1, q2⟩ := key
    have hz : i.zero = some v := by
     have : (zeroValue ty).run P w = .ok v w := h1
     simp only [zeroValue, Sem.run_bind, hk.run_info, Result.andThen_ok] at this
     cases hzz : i.zero with
     | none => rw [hzz] at this; simp at this
     | some z => rw [hzz] at this; simp at this; rw [this]
    refine ⟨.agg cs', run_build w ty m cs' (by unfold Program.built; simp only [hk.info, hk.und, hz, hmap]; exact q1), V0.vv (by simp [hca]) ?_⟩
    have := VC.agg hca q2
    simpa using this
   ·have hd := hk.arr hq
    rename_i n e
    subst hd
    obtain ⟨ie, hie⟩ := hk.sub.2 n e rfl
    have key := setParts_fill (σ := σ) (R := R) hT (ty := ty) (place := fun i => some (i * ie.size, ie.size)) (by
     intro i off ti' ii d ft h4 h5
     rcases h5 with ⟨fields, fd, h6, _⟩ | ⟨n', h6, h7⟩
     ·have := hk.und; rw [h6] at this; cases this
     ·have := hk.und
      rw [h6] at this
      simp at this
      obtain ⟨rfl, rfl⟩ := this
      have e1 := h4.info
      rw [hie] at e1
      cases e1
      simp [h7, h4.size]) parts m.toList ti.zero c v.cells hc hp h3
    obtain ⟨cs', q1, q2⟩ := key
    have hsz : (sizeOf e).run P w = .ok ie.size w := by simp [sizeOf, typeInfo, hie]
    refine ⟨.agg cs', by simp [Instr.build, h1, hk.run_und, hsz, q1], V0.vv (by simp [hca]) ?_⟩
    have := VC.agg hca q2
    simpa using this
  ·cases he
 ·cases he
end Go.Proofs.YtfcloeflcpcheaaGreat.Eng
