/-
The engine, a text behind the sixteenth: parts of rows that become rows, rows that become items, nil slices that become rows, copies. Plain lemmas.
Conditions: none.
-/
import Derived.Test.YtfcloeflcpcheaaGreatEngP
set_option linter.unusedVariables false
set_option linter.unusedSimpArgs false
namespace Go.Proofs.YtfcloeflcpcheaaGreat.Eng
variable {P : Program} {T : Types} {σ σ' : Sg} {R R' : Ro} {h h' : Hp} {x x' : Nat} {w w' : World} {X : Type} {r : X}
theorem rebaseA_sound {v : AV} {k : K3 X} (he : rebaseA h x v k = some r) :
  ∃ v' h' x', k v' h' x' = some r ∧ x ≤ x' ∧ (∀ m, m < x → m ∉ v.names → hget h' m = hget h m) ∧ ∀ {σ R} {w : World} {cv}, HR P σ R h x w → VV σ R v cv → ∃ σ', VV σ' R v' cv ∧ HR P σ' R h' x' w ∧ Ext σ R h x w σ' R h' x' w := by
 have same : k v h x = some r → ∃ v' h' x', k v' h' x' = some r ∧ x ≤ x' ∧ (∀ m, m < x → m ∉ v.names → hget h' m = hget h m) ∧ ∀ {σ R} {w : World} {cv}, HR P σ R h x w → VV σ R v cv → ∃ σ', VV σ' R v' cv ∧ HR P σ' R h' x' w ∧ Ext σ R h x w σ' R h' x' w :=
  fun he => ⟨v, h, x, he, Nat.le_refl _, fun _ _ _ => rfl, fun {σ R w cv} hr hv => ⟨σ, hv, hr, Ext.refl _ _ _ _ _⟩⟩
 unfold rebaseA at he
 split at he
 ·rename_i n o len
  split at he
  ·rename_i b hb
   split at he
   ·rename_i s l hc
    refine ⟨_, _, _, he, by omega, (fun m h1 h2 => by rw [hget_cons, if_neg (by omega), hget_cons, if_neg (fun e => h2 (by simp [AV.names, e]))]), fun {σ R w cv} hr hv => ?_⟩
    obtain ⟨B, N, s2, a, cap, o0, g1, g2, g3, g4, rfl, g5, g6, g7, g8⟩ := hv
    obtain ⟨hsh, hbe⟩ := hr.shp n B b g1 hb
    rw [at_nil] at g2
    rw [off_nil] at g3
    cases g3
    have hsh2 : B.sh = .arr N s2 := Option.some.inj g2
    rw [hc, hsh2] at hsh
    simp only [AV.shp, Shp.arr.injEq] at hsh
    obtain ⟨rfl, rfl⟩ := hsh
    have hml : ((l.drop o).take len).length = len := by simp; omega
    obtain ⟨g8, g9⟩ := g8 rfl
    cases hnl : B.nil with
    | true =>
     obtain ⟨ha, hcap⟩ := g9 hnl
     subst ha hcap
     obtain rfl : len = 0 := by omega
     obtain ⟨σ', a1, a2, a3⟩ := hr.alias g1 hb (b := ⟨B.g, B.sz, .arr 0 s.shp, B.e, true, B.o, []⟩) (k := ⟨.lst s ((l.drop o).take 0), b.e⟩) rfl hnl.symm ⟨by simp [AV.shp], hbe⟩ (fun hm => by cases hm) (fun hm => by cases hm) (fun _ _ _ hh => by cases hh) (.inr rfl)
     exact ⟨σ', ⟨_, s.shp, 0, 0, a1, rfl, rfl, Nat.le_refl _, (fun hh => by cases hh), g6, fun _ => rfl⟩, a2, a3⟩
    | false =>
     obtain ⟨q, ha, hq⟩ := g8 hnl
     obtain ⟨hw, cs, fr, hg, hsz, hvc, hf⟩ := hr.blk n B b g1 hb hnl (by rw [hc]; rfl)
     rw [hc] at hvc
     have hvc' : SC R (.arr l.length s) (gL s l) ((cs.toList.drop B.o).take (l.length * s.w)) := hvc
     have hle : o * s.w + len * s.w ≤ l.length * s.w := by rw [← Nat.add_mul]; exact Nat.mul_le_mul_right _ (by omega)
     rw [hsh2] at hw
     simp only [Shp.w, Sch.shp_w] at hw
     rw [Sch.shp_w] at hq
     have hlc : len * s.w ≤ cap * s.w := Nat.mul_le_mul_right _ g5
     have hsc : SC R (.arr ((l.drop o).take len).length s) (gL s ((l.drop o).take len)) ((cs.toList.drop q).take (len * s.w)) := by
      rcases Nat.eq_zero_or_pos len with h0 | h0
      ·subst h0
       refine ⟨by simp, fun i hi => absurd hi (by simp)⟩
      ·have hqe : q = B.o + o * s.w := by
        have := (g7 h0).1
        rw [ha] at this
        simp only [Option.some.injEq, Addr.mk.injEq, true_and, and_true, Nat.zero_add, Sch.shp_w] at this
        exact this
       subst hqe
       have hcl : (cs.toList.drop B.o).length ≥ l.length * s.w := by simp; omega
       refine ⟨by rw [hml]; simp; simp at hcl; omega, fun i hi => ?_⟩
       rw [hml] at hi
       have hb1 := mul_in (w := s.w) hi
       have hb2 := mul_in (w := s.w) (show o + i < l.length by omega)
       have h1 := hvc'.2 (o + i) (by omega)
       have e0 : gL s ((l.drop o).take len) i = gL s l (o + i) := getD_cut hi
       have e1 : cut (cut cs.toList (B.o + o * s.w) (len * s.w)) (i * s.w) s.w = cut cs.toList (B.o + o * s.w + i * s.w) s.w := cut_cut (by omega)
       have e2 : cut (cut cs.toList B.o (l.length * s.w)) ((o + i) * s.w) s.w = cut cs.toList (B.o + (o + i) * s.w) s.w := cut_cut (by omega)
       have e3 : B.o + o * s.w + i * s.w = B.o + (o + i) * s.w := by rw [Nat.add_mul, Nat.add_assoc]
       show SC R s (gL s ((l.drop o).take len) i) (cut (cut cs.toList (B.o + o * s.w) (len * s.w)) (i * s.w) s.w)
       rw [e0, e1, e3, ← e2]
       exact h1
     obtain ⟨σ', a1, a2, a3⟩ := hr.alias g1 hb (b := ⟨B.g, B.sz, .arr len s.shp, B.e, false, q, []⟩) (k := ⟨.lst s ((l.drop o).take len), b.e⟩) rfl hnl.symm ⟨by simp only [AV.shp]; rw [hml], hbe⟩ (fun _ hm => by cases hm) (fun _ _ => by
      refine ⟨by simp only [Shp.w, Sch.shp_w]; omega, cs, fr, hg, hsz, ?_, hf⟩
      show SC R _ _ (List.take (((l.drop o).take len).length * s.w) _)
      rw [hml] at hsc ⊢
      exact hsc) (fun _ _ _ hh => by cases hh) (.inr rfl)
     refine ⟨σ', ?_, a2, a3⟩
     exact ⟨_, s.shp, len, cap, a1, rfl, by rw [ha]; rfl, g5, fun _ => by rw [Sch.shp_w]; exact hq, g6, fun hq => by cases hq⟩
   ·exact same he
  ·cases he
 ·exact same he
theorem storeR_sound (hT : TyOk P T) {ty : Nat} {a v : AV} {k : K3 X} (he : storeR T ty h x a v k = some r) :
  ∃ h' x', k .any h' x' = some r ∧ x ≤ x' ∧ (∀ m, m < x → m ∉ a.names → m ∉ v.names → hget h' m = hget h m) ∧ ∀ {σ R w ca cv}, HR P σ R h x w → VV σ R a ca → VV σ R v cv → ∃ w' σ', (Instr.storeAt ty ca cv).run P w = .ok () w' ∧ HR P σ' R h' x' w' ∧ Ext σ R h x w σ' R h' x' w' := by
 unfold storeR at he
 obtain ⟨v1, h1, x1, he, hx, hl1, hr1⟩ := rebaseA_sound (P := P) he
 obtain ⟨h2, he, hl2, hr2⟩ := storeA_sound hT he
 refine ⟨h2, x1, he, hx, (fun m q1 q2 q3 => (hl2 m q2).trans (hl1 m q1 q3)), fun {σ R w ca cv} hr ha hv => ?_⟩
 obtain ⟨σ', p1, p2, p3⟩ := hr1 hr hv
 obtain ⟨w', q1, q2, q3⟩ := hr2 p2 (p3.vv hr ha) p1
 exact ⟨w', σ', q1, q2, p3.trans q3⟩
theorem seal_sound (hr : HR P σ R h x w) {n : Nat} {d : AV} (hd : asData h (.sl n) = some d) :
  HR P σ (R.more σ h [n] w) ((n, none) :: h) x w ∧ Ext σ R h x w σ (R.more σ h [n] w) ((n, none) :: h) x w ∧ ∀ {v}, V1 σ R (.sl n) v → V1 σ (R.more σ h [n] w) d v := by
 obtain ⟨k1, k2⟩ := hr.kill n
 have hal : ∀ m, Alive ((n, none) :: h) m → Alive h m ∧ m ≠ n := fun m hm => by
  unfold Alive at hm ⊢
  rw [hget_cons] at hm
  by_cases e : n = m
  ·rw [if_pos e] at hm; exact absurd rfl hm
  ·rw [if_neg e] at hm; exact ⟨hm, fun q => e q.symm⟩
 refine ⟨k1.grow (fun _ _ hh => Ro.more_rr hh) (fun _ _ hh => Ro.more_ro hr hh) (fun m b a h1 h2 h3 hR => ?_), ⟨k2.fr, k2.le, k2.sg, fun _ _ hh => Ro.more_rr hh, fun a hR => ?_, k2.foot⟩, fun hv => asData_v1 hr hd (fun m hm => hm) hv⟩
 ·obtain ⟨q1, q2⟩ := hal m h2
  rcases Ro.more_foot hR with hR | ⟨n', b', p1, p2, p3, p4, p5⟩
  ·exact hr.sep m b a h1 q1 h3 hR
  ·simp only [List.mem_singleton] at p1
   subst p1
   intro e
   exact q2 (hr.inj m n' b b' h1 (.of p2) q1 p3 h3 p4 (by rw [p5, e]))
 ·rcases Ro.more_foot hR with hR | ⟨n', b', p1, p2, p3, p4, p5⟩
  ·exact .inl hR
  ·exact .inr (.inl ⟨n', b', .of p2, p3, p4, p5⟩)
theorem VP.mono (hs : ∀ n b, σ n = some b → σ' n = some b) (hr : ∀ a v, R a = some v → R' a = some v) : ∀ {l : List (Nat × AV)} {m : List (Nat × Value)}, VP σ R l m → VP σ' R' l m
 | [], [], _ => trivial
 | (i, a) :: l, (j, v) :: m, ⟨h1, h2, h3⟩ => ⟨h1, VV.mono hs hr h2, VP.mono hs hr h3⟩
 | [], _ :: _, hh => hh.elim
 | _ :: _, [], hh => hh.elim
theorem sealL_sound : ∀ {l : List (Nat × AV)} {h : Hp} {R : Ro} {m : List (Nat × Value)}, HR P σ R h x w → VP σ R l m →
  ∃ R', HR P σ R' (sealL h l).2 x w ∧ Ext σ R h x w σ R' (sealL h l).2 x w ∧ VP σ R' (sealL h l).1 m
 | [], h, R, [], hr, hv => ⟨R, hr, Ext.refl _ _ _ _ _, trivial⟩
 | (i, a) :: l, h, R, (j, v) :: m, hr, ⟨h1, h2, h3⟩ => by
  have plain : ∃ R', HR P σ R' (sealL h l).2 x w ∧ Ext σ R h x w σ R' (sealL h l).2 x w ∧ VP σ R' ((i, a) :: (sealL h l).1) ((j, v) :: m) := by
   obtain ⟨R', q1, q2, q3⟩ := sealL_sound hr h3
   exact ⟨R', q1, q2, h1, VV.mono (fun _ _ hh => hh) q2.rr h2, q3⟩
  cases a with
  | sl n =>
   cases hd : asData h (.sl n) with
   | none => simp only [sealL, hd]; exact plain
   | some d =>
    simp only [sealL, hd]
    obtain ⟨p1, p2, p3⟩ := seal_sound hr hd
    obtain ⟨R', q1, q2, q3⟩ := sealL_sound p1 (VP.mono (fun _ _ hh => hh) p2.rr h3)
    obtain ⟨s, ll, rfl⟩ := asData_ros hd
    exact ⟨R', q1, p2.trans q2, h1, VV.mono (fun _ _ hh => hh) q2.rr (p3 h2), q3⟩
  | _ => simp only [sealL]; exact plain
 | [], _, _, _ :: _, _, hv => hv.elim
 | _ :: _, _, _, [], _, hv => hv.elim
theorem sealL_get : ∀ {l : List (Nat × AV)} {h : Hp} {n : Nat}, hget h n = none → hget (sealL h l).2 n = none
 | [], h, n, hh => hh
 | (i, a) :: l, h, n, hh => by
  cases a with
  | sl m =>
   cases hd : asData h (.sl m) with
   | none => simp only [sealL, hd]; exact sealL_get hh
   | some d =>
    simp only [sealL, hd]
    refine sealL_get ?_
    rw [hget_cons]
    by_cases e : m = n
    ·rw [if_pos e]
    ·rw [if_neg e]; exact hh
  | _ => simp only [sealL]; exact sealL_get hh
theorem Makes.after {s : Sem Value} {v : AV} {σ1 : Sg} {R1 : Ro} {h1 : Hp} {x1 : Nat} (he : Ext σ R h x w σ1 R1 h1 x1 w) (hm : Makes P s σ1 R1 h1 x1 w v h' x') : Makes P s σ R h x w v h' x' := by
 obtain ⟨cv, w', σ', R', q1, q2, q3, q4⟩ := hm
 exact ⟨cv, w', σ', R', q1, q2, q3, he.trans q4⟩
theorem buildRowA_sound (hT : TyOk P T) {ty len : Nat} {parts : List (Nat × AV)} {k : K3 X} (he : buildRowA T ty len parts h x k = some r) :
  ∃ v h' x', k v h' x' = some r ∧ x ≤ x' ∧ (rowsTy T ty = false → Grows h x h' x') ∧ ∀ {σ R} {w : World} {m : Array (Nat × Value)}, HR P σ R h x w → VP σ R parts m.toList → Makes P (Instr.buildSlice ty len m) σ R h x w v h' x' := by
 unfold buildRowA at he
 split at he
 ·obtain ⟨v, h', x', h1, h2, h3, h4⟩ := buildFamA_sound hT he
  exact ⟨v, h', x', h1, h2, (fun hh => by rw [h3] at hh; cases hh), h4⟩
 cases hq : rowsTy T ty with
 | true =>
  rw [hq, cond_true] at he
  obtain ⟨v, h', x', hk, hg, hr'⟩ := buildSliceA_sound hT he
  refine ⟨v, h', x', hk, ?_, (fun hh => by cases hh), fun {σ R w m} hr hp => ?_⟩
  ·rcases hg with ⟨_, rfl⟩ | ⟨_, _, rfl⟩ <;> omega
  ·obtain ⟨R', q1, q2, q3⟩ := sealL_sound hr hp
   exact Makes.after q2 (hr' q1 q3)
 | false =>
  rw [hq, cond_false] at he
  obtain ⟨v, h', x', hk, hg, hr'⟩ := buildSliceA_sound hT he
  refine ⟨v, h', x', hk, ?_, fun _ => hg, hr'⟩
  rcases hg with ⟨_, rfl⟩ | ⟨_, _, rfl⟩ <;> omega
theorem nilFields_sound : ∀ (fs : List (Nat × Nat)) (c : AV) {h : Hp} {x : Nat} {σ : Sg} {cs : List Value}, HR P σ R h x w → VC σ R c cs →
  ∃ σ', HR P σ' R (nilFields T fs c h x).2.1 (nilFields T fs c h x).2.2 w ∧ Ext σ R h x w σ' R (nilFields T fs c h x).2.1 (nilFields T fs c h x).2.2 w ∧ VC σ' R (nilFields T fs c h x).1 cs
 | [], c, h, x, σ, cs, hr, hc => by
  have : nilFields T [] c h x = (c, h, x) := by cases c <;> rfl
  rw [this]; exact ⟨σ, hr, Ext.refl _ _ _ _ _, hc⟩
 | q :: fs, c, h, x, σ, cs, hr, hc => by
  have deep : ∀ {a b : AV} {c1 c2 : List Value}, cs = c1 ++ c2 → VC σ R a c1 → VC σ R b c2 → ∃ σ', HR P σ' R (nilFields T fs b h x).2.1 (nilFields T fs b h x).2.2 w ∧ Ext σ R h x w σ' R (nilFields T fs b h x).2.1 (nilFields T fs b h x).2.2 w ∧ VC σ' R (.fcons a (nilFields T fs b h x).1) cs := by
   intro a b c1 c2 e h1 h2
   obtain ⟨σ', p1, p2, p3⟩ := nilFields_sound fs b hr h2
   exact ⟨σ', p1, p2, c1, c2, e, VC.mono (p2.keep hr) p2.rr h1, p3⟩
  cases c with
  | fcons a b =>
   obtain ⟨c1, c2, e, h1, h2⟩ := hc
   cases a with
   | nils =>
    cases hq : rowElem T q.1 with
    | none => simp only [nilFields, hq]; exact deep e h1 h2
    | some se =>
     simp only [nilFields, hq]
     obtain ⟨u, rfl, hu⟩ := h1
     obtain ⟨r1, r2⟩ := hr.virt se.1 se.2
     obtain ⟨σ', p1, p2, p3⟩ := nilFields_sound fs b r1 (VC.mono (r2.keep hr) r2.rr h2)
     refine ⟨σ', p1, r2.trans p2, _, c2, e, ⟨u, rfl, ?_⟩, p3⟩
     obtain rfl : u = .slice none 0 0 := hu
     refine V1.mono (p2.keep r1) p2.rr (a := .sl x) ?_
     exact ⟨⟨0, 0, .arr 0 se.1.shp, se.2, true, 0, []⟩, se.1.shp, 0, 0, by simp [Sg.put], rfl, rfl, Nat.le_refl _, by simp, by simp [maxLen], by simp⟩
   | _ => simp only [nilFields]; exact deep e h1 h2
  | _ => simp only [nilFields]; exact ⟨σ, hr, Ext.refl _ _ _ _ _, hc⟩
theorem nilFields_adds : ∀ (fs : List (Nat × Nat)) (c : AV) {h : Hp} {x : Nat}, x ≤ (nilFields T fs c h x).2.2 ∧ ∀ n, n < x ∨ (nilFields T fs c h x).2.2 ≤ n → hget (nilFields T fs c h x).2.1 n = hget h n
 | [], c, h, x => by
  have : nilFields T [] c h x = (c, h, x) := by cases c <;> rfl
  rw [this]; exact ⟨Nat.le_refl _, fun _ _ => rfl⟩
 | q :: fs, c, h, x => by
  cases c with
  | fcons a b =>
   cases a with
   | nils =>
    cases hq : rowElem T q.1 with
    | none => simp only [nilFields, hq]; exact nilFields_adds fs b
    | some se =>
     simp only [nilFields, hq]
     obtain ⟨p1, p2⟩ := nilFields_adds fs b (h := (x, some ⟨.lst se.1 [], se.2⟩) :: h) (x := x + 1)
     refine ⟨by omega, fun n hn => ?_⟩
     rw [p2 n (by omega), hget_cons, if_neg (by omega)]
   | _ => simp only [nilFields]; exact nilFields_adds fs b
  | _ => simp only [nilFields]; exact ⟨Nat.le_refl _, fun _ _ => (by first | rfl | trivial)⟩
theorem boxRows_adds {e : Nat} {v : AV} : x ≤ (boxRows T e v h x).2.2 ∧ ∀ n, n < x ∨ (boxRows T e v h x).2.2 ≤ n → hget (boxRows T e v h x).2.1 n = hget h n := by
 unfold boxRows
 split
 ·rename_i ti _
  cases ti.rws with
  | true =>
   simp only [cond_true]
   split
   ·exact nilFields_adds _ _
   ·exact ⟨Nat.le_refl _, fun _ _ => rfl⟩
  | false => exact ⟨Nat.le_refl _, fun _ _ => rfl⟩
 ·exact ⟨Nat.le_refl _, fun _ _ => rfl⟩
theorem boxRows_sound {e : Nat} {v : AV} {cv : Value} (hr : HR P σ R h x w) (hva : ((boxRows T e v h x).1.cell || (boxRows T e v h x).1.agg) = true) (hv : VV σ R v cv) :
  ∃ σ', HR P σ' R (boxRows T e v h x).2.1 (boxRows T e v h x).2.2 w ∧ Ext σ R h x w σ' R (boxRows T e v h x).2.1 (boxRows T e v h x).2.2 w ∧ VV σ' R (boxRows T e v h x).1 cv := by
 unfold boxRows at hva ⊢
 split
 ·rename_i ti _
  cases ti.rws with
  | true =>
   simp only [cond_true]
   split
   ·rename_i fs c _
    obtain ⟨cs, rfl, hc⟩ := hv
    obtain ⟨σ', p1, p2, p3⟩ := nilFields_sound fs c hr hc
    exact ⟨σ', p1, p2, cs, rfl, p3⟩
   ·exact ⟨σ, hr, Ext.refl _ _ _ _ _, hv⟩
  | false => exact ⟨σ, hr, Ext.refl _ _ _ _ _, hv⟩
 ·exact ⟨σ, hr, Ext.refl _ _ _ _ _, hv⟩
theorem copyF_sc {s : Sch} {N o c : Nat} {f : Nat → s.den} {m : List s.den} {cs news : List Value} (hc : SC R (.arr N s) f cs) (hn : SC R (.arr m.length s) (gL s m) news) (hcm : c ≤ m.length) (hoc : o + c ≤ N) :
  SC R (.arr N s) (copyF f o c m s.zero) (splice cs (o * s.w) (news.take (c * s.w))) := by
 have hl := hc.1
 have hnl := hn.1
 have hcw : c * s.w ≤ m.length * s.w := Nat.mul_le_mul_right _ hcm
 have htl : (news.take (c * s.w)).length = c * s.w := by simp; omega
 have hle : o * s.w + c * s.w ≤ N * s.w := by rw [← Nat.add_mul]; exact Nat.mul_le_mul_right _ hoc
 refine ⟨by rw [splice_length (by omega)]; exact hl, fun i hi => ?_⟩
 have hb := mul_in (w := s.w) hi
 show SC R s (copyF f o c m s.zero i) (cut (splice cs (o * s.w) (news.take (c * s.w))) (i * s.w) s.w)
 by_cases g1 : o ≤ i ∧ i < o + c
 ·have e1 : copyF f o c m s.zero i = gL s m (i - o) := by
   unfold copyF gL
   rw [Nat.ble_eq_true_of_le g1.1, show Nat.blt i (o + c) = true from Nat.blt_eq.mpr g1.2]
   rfl
  have hlt : i - o < c := by omega
  have hb2 := mul_in (w := s.w) hlt
  have e2 : i * s.w = o * s.w + (i - o) * s.w := by rw [← Nat.add_mul]; congr 1; omega
  have e3 : cut (splice cs (o * s.w) (news.take (c * s.w))) (i * s.w) s.w = cut news ((i - o) * s.w) s.w := by
   apply List.ext_getElem?
   intro j
   rw [cut_get, cut_get]
   by_cases hj : j < s.w
   ·rw [if_pos hj, if_pos hj, splice_get (by omega), if_neg (by omega), if_pos (by omega), List.getElem?_take, if_pos (by omega)]
    congr 1; omega
   ·rw [if_neg hj, if_neg hj]
  rw [e1, e3]
  exact hn.2 (i - o) (by omega)
 ·have e1 : copyF f o c m s.zero i = f i := by
   unfold copyF
   have : (Nat.ble o i && Nat.blt i (o + c)) = false := by
    rw [Bool.and_eq_false_iff]
    by_cases h1 : o ≤ i
    ·right
     cases hq : Nat.blt i (o + c) with
     | false => rfl
     | true => exact absurd ⟨h1, Nat.blt_eq.mp hq⟩ g1
    ·left
     cases hq : Nat.ble o i with
     | false => rfl
     | true => exact absurd (Nat.le_of_ble_eq_true hq) h1
   rw [this]; rfl
  rw [e1, cut_splice_out (by omega)]
  ·exact hc.2 i hi
  ·rw [htl]
   by_cases h1 : i < o
   ·left; have := mul_in (w := s.w) h1; omega
   ·right
    have : o + c ≤ i := by omega
    have := Nat.mul_le_mul_right s.w this
    rw [Nat.add_mul] at this; omega
theorem copyA_sound (hT : TyOk P T) {ty ty' tr : Nat} {a b : AV} {k : K3 X} (he : copyA T ty ty' h x a b k = some r) :
  ∃ v h', k v h' x = some r ∧ ∀ {σ R} {w : World} {ca cb}, HR P σ R h x w → VV σ R a ca → VV σ R b cb → Makes P (Builtin.copy_ #[ty, ty'] tr #[ca, cb]) σ R h x w v h' x := by
 unfold copyA at he
 have hq := (cond_some he).1
 replace he := (cond_some he).2
 have hq := Nat.eq_of_beq_eq_true hq
 subst hq
 split at he
 ·rename_i ti hti
  split at he
  ·rename_i e hk
   split at he
   ·rename_i te hte
    split at he
    ·rename_i s hs
     have hw := (cond_none he).1
     replace he := (cond_none he).2
     have hw0 : s.w ≠ 0 := fun h0 => by rw [h0] at hw; simp at hw
     obtain ⟨i, d, hi⟩ := hT.is hti
     have hd := hi.slice hk
     subst hd
     obtain ⟨i2, d2, hi2⟩ := hT.is hte
     obtain ⟨g1, z, g2, g3⟩ := hi2.sch s hs
     have hisz : i2.size = s.w := by rw [hi2.size, ← g1]
     split at he
     ·rename_i n p o len
      split at he
      ·rename_i b0 hb0
       split at he
       ·rename_i s' N f hc
        split at he
        ·rename_i q
         subst q
         split at he
         ·rename_i m hm
          have run : ∀ {w : World} {A : Option Addr} {c : Nat} {news : List Value} {base : Option Addr} {cap : Nat}, news.length = m.length * s'.w → (0 < m.length → ∃ ad, A = some ad ∧ ∀ j u, news[j]? = some u → w.cell? (ad.add j) = some u) →
            ∀ {w'}, (match base with | some ad => (storeCells ad (news.take (Nat.min m.length len * s'.w))).run P w | none => .ok () w) = .ok () w' →
            (Builtin.copy_ #[ty, ty] tr #[.slice base len cap, .slice A m.length c]).run P w = .ok (.int .i64 (Nat.min m.length len)) w' := by
           intro w A c news base cap hnl hcell w' hst
           have hfirst : (Builtin.firstCells i2.size (Nat.min m.length len) (.slice A m.length c)).run P w = .ok (news.take (Nat.min m.length len * s'.w)).toArray w := by
            have hmin : Nat.min m.length len ≤ m.length := Nat.min_le_left _ _
            have hmw : Nat.min m.length len * s'.w ≤ m.length * s'.w := Nat.mul_le_mul_right _ hmin
            rcases Nat.eq_zero_or_pos m.length with h0 | h0
            ·have hn0 : news = [] := List.eq_nil_of_length_eq_zero (by rw [hnl, h0]; simp)
             have hz0 : Nat.min m.length len = 0 := by omega
             rw [hz0, hn0]
             cases A <;> simp [Builtin.firstCells, loadCells, loadCellsFrom]
            ·obtain ⟨ad, rfl, hcl⟩ := hcell h0
             refine run_firstCells_some (P := P) w i2.size _ ad _ c _ (by rw [hisz]; simp; omega) (fun j u hj => hcl j u ?_)
             rw [List.getElem?_take] at hj
             split at hj
             ·exact hj
             ·cases hj
           cases base with
           | none =>
            cases hst
            simp [Builtin.copy_, run_underlying hi.und, sizeOf, typeInfo, hi2.info, Builtin.lenOf, hfirst, goInt]
           | some ad =>
            simp only at hst
            simp [Builtin.copy_, run_underlying hi.und, sizeOf, typeInfo, hi2.info, Builtin.lenOf, hfirst, hst, goInt]
          cases hpos : decide (0 < Nat.min m.length len) with
          | true =>
           rw [hpos, cond_true] at he
           have hpos := of_decide_eq_true hpos
           split at he
           ·rename_i c' hset
            refine ⟨_, _, he, fun {σ R w ca cb} hr ha hb => ?_⟩
            obtain ⟨A, c, news, rfl, hnsc, hcell⟩ := elems_spec hm hr hb hw0
            obtain ⟨B, N2, s2, a', cap, o0, q1, q2, q3, q4, rfl, q5, q6, q7, _⟩ := ha
            have hlen : 0 < len := by have : Nat.min m.length len ≤ len := Nat.min_le_right _ _; omega
            obtain ⟨rfl, hnl⟩ := q7 hlen
            have hsh := (hr.shp n B b0 q1 hb0).1
            have hat := aget_at hc (by rw [hsh]; exact q3)
            rw [hsh, q2] at hat
            simp only [AV.shp, Option.some.injEq, Shp.arr.injEq] at hat
            obtain ⟨rfl, rfl⟩ := hat
            obtain ⟨hbw, cs, fr, hg, hsz, hvc, hf⟩ := hr.blk n B b0 q1 hb0 hnl (aget_notmap hc rfl)
            have hbw' : B.o + b0.c.w ≤ B.sz := by rw [← AV.shp_w, hsh]; exact hbw
            have q3' := q3
            rw [← hsh] at q3'
            obtain ⟨l1, l2⟩ := aget_vc hvc hc q3'
            have hcw : (AV.vec s' N2 f).w = N2 * s'.w := rfl
            have hlenb : ((cs.toList.drop B.o).take b0.c.w).length = b0.c.w := VC.length hvc
            have hoc : o + Nat.min m.length len ≤ N2 := by have : Nat.min m.length len ≤ len := Nat.min_le_right _ _; omega
            have hcm : Nat.min m.length len ≤ m.length := Nat.min_le_left _ _
            have l2' : SC R (.arr N2 s') f (cut ((cs.toList.drop B.o).take b0.c.w) o0 (N2 * s'.w)) := l2
            have l1' : o0 + N2 * s'.w ≤ ((cs.toList.drop B.o).take b0.c.w).length := l1
            have hsc := copyF_sc (o := o) (c := Nat.min m.length len) l2' hnsc hcm hoc
            obtain ⟨t1, t2, t3⟩ := aset_vc hvc hset q3' (show VC σ R (.vec s' N2 (copyF f o (Nat.min m.length len) m s'.zero)) _ from hsc)
            have hmw : Nat.min m.length len * s'.w ≤ m.length * s'.w := Nat.mul_le_mul_right _ hcm
            have htl : (news.take (Nat.min m.length len * s'.w)).length = Nat.min m.length len * s'.w := by have := hnsc.1; simp; omega
            have hle : o * s'.w + Nat.min m.length len * s'.w ≤ N2 * s'.w := by rw [← Nat.add_mul]; exact Nat.mul_le_mul_right _ hoc
            have hone : ∀ u ∈ news.take (Nat.min m.length len * s'.w), u.oneCell' = true := fun u hu => SC.one hnsc u (List.mem_of_mem_take hu)
            have hst := storeCells_run P B.g (B.o + (o0 + o * s'.w)) B.e fr (news.take (Nat.min m.length len * s'.w)) 0 cs w hg (fun j hj => hf j (by omega)) (by rw [htl, hsz]; omega) hone
            obtain ⟨r1, r2⟩ := hr.set q1 hb0 hnl (aget_notmap hc rfl) hg (cs' := (cs.toList.take (B.o + (o0 + o * s'.w) + 0) ++ news.take (Nat.min m.length len * s'.w) ++ cs.toList.drop (B.o + (o0 + o * s'.w) + 0 + (news.take (Nat.min m.length len * s'.w)).length)).toArray) (by simp only [List.size_toArray, List.length_append, List.length_take, List.length_drop, Array.length_toList]; rw [List.length_take] at htl; omega) hf (c' := c') (by rw [t3, hsh]) (by
             have hcw' : c'.w = b0.c.w := by rw [← AV.shp_w, t3, AV.shp_w]
             rw [hcw']
             show VC σ R c' (((cs.toList.take (B.o + (o0 + o * s'.w) + 0) ++ news.take (Nat.min m.length len * s'.w) ++ cs.toList.drop (B.o + (o0 + o * s'.w) + 0 + (news.take (Nat.min m.length len * s'.w)).length)).drop B.o).take b0.c.w)
             rw [Nat.add_zero, drop_splice (by simp only [Array.length_toList]; omega), take_splice (by omega) (by simp only [List.length_drop, Array.length_toList]; omega)]
             have e0 : splice ((cs.toList.drop B.o).take b0.c.w) (o0 + o * s'.w) (news.take (Nat.min m.length len * s'.w)) = splice ((cs.toList.drop B.o).take b0.c.w) o0 (splice (cut ((cs.toList.drop B.o).take b0.c.w) o0 (N2 * s'.w)) (o * s'.w) (news.take (Nat.min m.length len * s'.w))) := by
              have hin : (cut ((cs.toList.drop B.o).take b0.c.w) o0 (N2 * s'.w)).length = N2 * s'.w := by rw [cut_length (by omega)]
              have hsp : (splice (cut ((cs.toList.drop B.o).take b0.c.w) o0 (N2 * s'.w)) (o * s'.w) (news.take (Nat.min m.length len * s'.w))).length = N2 * s'.w := by rw [splice_length (by omega), hin]
              apply List.ext_getElem?
              intro j
              rw [splice_get (by omega), splice_get (by omega), hsp]
              by_cases k1 : j < o0
              ·rw [if_pos (by omega), if_pos k1]
              ·rw [if_neg k1]
               by_cases k2 : j < o0 + N2 * s'.w
               ·rw [if_pos k2, splice_get (by omega), cut_get]
                by_cases k3 : j < o0 + o * s'.w
                ·rw [if_pos k3, if_pos (show j - o0 < o * s'.w by omega), if_pos (show j - o0 < N2 * s'.w by omega)]
                 congr 1; omega
                ·rw [if_neg k3, if_neg (show ¬ j - o0 < o * s'.w by omega)]
                 by_cases k4 : j < o0 + o * s'.w + (news.take (Nat.min m.length len * s'.w)).length
                 ·rw [if_pos k4, if_pos (show j - o0 < o * s'.w + (news.take (Nat.min m.length len * s'.w)).length by omega)]
                  congr 1; omega
                 ·rw [if_neg k4, if_neg (show ¬ j - o0 < o * s'.w + (news.take (Nat.min m.length len * s'.w)).length by omega), if_pos (show j - o0 < N2 * s'.w by omega)]
                  congr 1; omega
               ·rw [if_neg k2, if_neg (by omega), if_neg (by omega)]
             rw [e0]
             exact t2) (aset_notfam hset)
            refine ⟨_, _, σ, R, run hnsc.1 hcell (by rw [Sch.shp_w]; exact hst), rfl, r1, r2⟩
           ·cases he
          | false =>
           rw [hpos, cond_false] at he
           have hz : Nat.min m.length len = 0 := by have := of_decide_eq_false hpos; omega
           refine ⟨_, _, he, fun {σ R w ca cb} hr ha hb => ?_⟩
           obtain ⟨A, c, news, rfl, hnsc, hcell⟩ := elems_spec hm hr hb hw0
           obtain ⟨B, N2, s2, a', cap, o0, q1, q2, q3, q4, rfl, q5, q6, q7, _⟩ := ha
           have := run (base := a') (cap := cap) (c := c) hnsc.1 hcell (w' := w) (by rw [hz]; cases a' <;> simp [storeCells])
           rw [hz] at this
           exact ⟨_, _, σ, R, this, rfl, hr, Ext.refl _ _ _ _ _⟩
         ·cases he
        ·cases he
       ·cases he
      ·cases he
     ·cases he
    ·cases he
   ·cases he
  ·cases he
 ·cases he
end Go.Proofs.YtfcloeflcpcheaaGreat.Eng
