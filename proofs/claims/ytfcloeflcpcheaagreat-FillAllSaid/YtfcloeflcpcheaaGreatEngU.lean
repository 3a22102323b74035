/-
The engine, twenty-first text: whatever order a region draws, it comes to what the text's order comes to. Plain lemmas.
Conditions: the program's operations follow mixed orders.
-/
import Derived.Test.YtfcloeflcpcheaaGreatEngT
set_option linter.unusedVariables false
set_option linter.unusedSimpArgs false
set_option linter.unusedSectionVars false
namespace Go.Proofs.YtfcloeflcpcheaaGreat.Eng
variable {P : Program} {T : Types} {σ σ' : Sg} {R R' : Ro} {h h' : Hp} {x x' : Nat} {w w' : World} {X : Type} {r : X} {N : Nat}
theorem HR.sub {h1 : Hp} (hr : HR P σ R h x w) (hs : ∀ n b k, σ n = some b → hget h1 n = some k → hget h n = some k) : HR P σ R h1 x w := by
 have hal : ∀ n b, σ n = some b → Alive h1 n → Alive h n := fun n b hn hl => by
  obtain ⟨k, hk⟩ := Option.ne_none_iff_exists'.1 hl
  unfold Alive; rw [hs n b k hn hk]; simp
 have halp : ∀ n b, Pc σ n b → Alive h1 n → Alive h n := fun n b hn hl => by obtain ⟨B, q, _⟩ := hn; exact hal n B q hl
 exact ⟨fun n b k h1 h2 => hr.shp n b k h1 (hs n b k h1 h2), fun n b k h1 h2 => hr.mpb n b k h1 (hs n b k h1 h2), fun n b k h1 h2 => hr.blk n b k h1 (hs n b k h1 h2), hr.dom, fun n m b b' h1 h2 h3 h4 => hr.inj n m b b' h1 h2 (halp n b h1 h3) (halp m b' h2 h4), hr.ro, fun n b a h1 h2 => hr.sep n b a h1 (halp n b h1 h2), hr.lt, fun n b k e s l h1 h2 => hr.own n b k e s l h1 (hs n b k h1 h2)⟩
theorem HR.frame {h1 : Hp} (hr : HR P σ R h x w) (hs : ∀ n b k, σ n = some b → hget h1 n = some k → hget h n = some k) (hr' : HR P σ' R' h1 x w') (he : Ext σ R h1 x w σ' R' h1 x w') :
  HR P σ' R' h x w' ∧ Ext σ R h x w σ' R' h x w' := by
 have hsg : ∀ n b, σ' n = some b → σ n = some b := fun n b hn => by rw [← he.sg n (hr'.dom n b hn)]; exact hn
 have hal : ∀ n b, σ n = some b → Alive h1 n → Alive h n := fun n b hn hl => by
  obtain ⟨k, hk⟩ := Option.ne_none_iff_exists'.1 hl
  unfold Alive; rw [hs n b k hn hk]; simp
 have halp : ∀ n b, Pc σ n b → Alive h1 n → Alive h n := fun n b hn hl => by obtain ⟨B, q, _⟩ := hn; exact hal n B q hl
 have hsgp : ∀ n b, Pc σ' n b → Pc σ n b := fun n b hn => hn.mono fun B h => hsg n B h
 have other : ∀ n b m b', Pc σ n b → Alive h n → b.nil = false → ¬ Alive h1 n → Pc σ m b' → Alive h1 m → b'.nil = false → b'.g ≠ b.g := by
  intro n b m b' h1 h2 h3 h4 h5 h6 h7 e
  have := hr.inj m n b' b h5 h1 (halp m b' h5 h6) h2 h7 h3 e
  subst this
  exact h4 h6
 refine ⟨⟨fun n b k hn hk => hr.shp n b k (hsg n b hn) hk, fun n b k hn hk hnl hmp => ?_, fun n b k hn hk hnl hmp => ?_, hr'.dom, fun n m b b' hn hm => hr.inj n m b b' (hsgp n b hn) (hsgp m b' hm), hr'.ro, fun n b a hn ha hnl hR => ?_, fun n b hn hnl => Nat.lt_of_lt_of_le (hr.lt n b (hsgp n b hn) hnl) he.fr.size, fun n b k e s l hn hk hc => ?_⟩,
  ⟨⟨he.fr.os, he.fr.tape, he.fr.output, he.fr.size, fun i hi hne => he.fr.block i hi fun n b hn ha => hne n b hn (halp n b hn ha)⟩, he.le, he.sg, he.rr, fun a hR => ?_, fun n b hn ha hnl => .inl ⟨n, b, hsgp n b hn, ha, hnl, rfl⟩⟩⟩
 ·by_cases ha : Alive h1 n
  ·obtain ⟨k', hk'⟩ := Option.ne_none_iff_exists'.1 ha
   have := hs n b k' (hsg n b hn) hk'
   rw [hk] at this; cases this
   exact hr'.mpb n b k hn hk' hnl hmp
  ·have hah : Alive h n := by unfold Alive; rw [hk]; simp
   exact (hr.mpb n b k (hsg n b hn) hk hnl hmp).heap (he.fr.block b.g (hr.lt n b (.of (hsg n b hn)) hnl) fun m b' hm ham hml => other n b m b' (.of (hsg n b hn)) hah hnl ha hm ham hml)
 ·by_cases ha : Alive h1 n
  ·obtain ⟨k', hk'⟩ := Option.ne_none_iff_exists'.1 ha
   have := hs n b k' (hsg n b hn) hk'
   rw [hk] at this; cases this
   exact hr'.blk n b k hn hk' hnl hmp
  ·have hah : Alive h n := by unfold Alive; rw [hk]; simp
   obtain ⟨q1, cs, fr, q2, q3, q4, q5⟩ := hr.blk n b k (hsg n b hn) hk hnl hmp
   refine ⟨q1, cs, fr, ?_, q3, VC.mono (fun m bm hm => (he.sg m (hr.dom m bm hm)).trans hm) he.rr q4, q5⟩
   rw [he.fr.block b.g (hr.lt n b (.of (hsg n b hn)) hnl) fun m b' hm ham hml => other n b m b' (.of (hsg n b hn)) hah hnl ha hm ham hml]
   exact q2
 ·by_cases hal1 : Alive h1 n
  ·exact hr'.sep n b a hn hal1 hnl hR
  ·rcases he.rfoot a hR with h2 | ⟨m, b', p1, p2, p3, p4⟩ | hge
   ·exact hr.sep n b a (hsgp n b hn) ha hnl h2
   ·exact fun e => other n b m b' (hsgp n b hn) ha hnl hal1 p1 p2 p3 (p4.trans e)
   ·have := hr.lt n b (hsgp n b hn) hnl; omega
 ·by_cases ha : Alive h1 n
  ·obtain ⟨k', hk'⟩ := Option.ne_none_iff_exists'.1 ha
   have := hs n b k' (hsg n b hn) hk'
   rw [hk] at this; cases this
   exact hr'.own n b k e s l hn hk' hc
  ·have hah : Alive h n := by unfold Alive; rw [hk]; simp
   refine ((hr.own n b k e s l (hsg n b hn) hk hc).mono he.rr).heap fun c hc1 hcn => ?_
   have hpc : Pc σ n c := ⟨b, hsg n b hn, hc1⟩
   exact he.fr.block c.g (hr.lt n c hpc hcn) fun m b' hm ham hml => other n c m b' hpc hah hcn ha hm ham hml
 ·rcases he.rfoot a hR with h2 | ⟨m, b', p1, p2, p3, p4⟩ | hge
  ·exact .inl h2
  ·exact .inr (.inl ⟨m, b', p1, halp m b' p1 p2, p3, p4⟩)
  ·exact .inr (.inr hge)
theorem HR.widen (hr : HR P σ R h x w) (hx : x ≤ x') : HR P σ R h x' w := ⟨hr.shp, hr.mpb, hr.blk, fun n b hn => Nat.lt_of_lt_of_le (hr.dom n b hn) hx, hr.inj, hr.ro, hr.sep, hr.lt, hr.own⟩
theorem HR.fill (hr : HR P σ R h x w) {n : Nat} (hn0 : σ n = none) (hnx : n < x) {c : AV} {e : Nat} (hk0 : hget h n = some ⟨c, e⟩) {cs : Array Value} (hc : VC σ R c cs.toList) (hl : cs.size = c.w) (hF : ∀ e s l, c ≠ .fam e s l) :
  HR P (Sg.put σ n ⟨w.heap.size, cs.size, c.shp, e, false, 0, []⟩) R h x (w.alloc (.cells cs e (0, 0))) := by
 have hs : ∀ m b, σ m = some b → Sg.put σ n ⟨w.heap.size, cs.size, c.shp, e, false, 0, []⟩ m = some b := fun m b hm => by
  unfold Sg.put
  by_cases e1 : m = n
  ·subst e1; rw [hn0] at hm; cases hm
  ·rw [if_neg e1]; exact hm
 have hc' : VC σ R c ((cs.toList.drop 0).take c.w) := by
  rw [List.drop_zero, List.take_of_length_le (by simp; omega)]; exact hc
 refine ⟨?_, ?_, ?_, ?_, ?_, ?_, ?_, ?_, ?_⟩
 ·intro m b k hm hk
  by_cases e1 : m = n
  ·subst e1
   rw [hk0] at hk; cases hk
   simp only [Sg.put, if_true, Option.some.injEq] at hm
   subst hm
   exact ⟨rfl, rfl⟩
  ·simp only [Sg.put, if_neg e1] at hm
   exact hr.shp m b k hm hk
 ·intro m b k hm hk hnl hmp
  by_cases e1 : m = n
  ·subst e1
   rw [hk0] at hk; cases hk
   rw [show AV.isMap c = false from vc_map hc] at hmp
   cases hmp
  ·simp only [Sg.put, if_neg e1] at hm
   exact (hr.mpb m b k hm hk hnl hmp).heap (heap_alloc_old w _ _ (hr.lt m b (.of hm) hnl))
 ·intro m b k hm hk hnl hmp
  by_cases e1 : m = n
  ·subst e1
   rw [hk0] at hk; cases hk
   simp only [Sg.put, if_true, Option.some.injEq] at hm
   subst hm
   exact ⟨by show 0 + c.shp.w ≤ _; rw [AV.shp_w, Nat.zero_add, hl]; exact Nat.le_refl _, cs, (0, 0), heap_alloc_new w _, rfl, VC.mono hs (fun _ _ h => h) hc', by intro j hj; simp⟩
  ·simp only [Sg.put, if_neg e1] at hm
   obtain ⟨h3, cs', fr', h4, h5, h6, h7⟩ := hr.blk m b k hm hk hnl hmp
   exact ⟨h3, cs', fr', by rw [heap_alloc_old w _ _ (hr.lt m b (.of hm) hnl)]; exact h4, h5, VC.mono hs (fun _ _ h => h) h6, h7⟩
 ·intro m b hm
  by_cases e1 : m = n
  ·omega
  ·simp only [Sg.put, if_neg e1] at hm
   exact hr.dom m b hm
 ·intro m m' b b' hm hm' ha hb hl1 hl2 hg
  by_cases e1 : m = n
  ·by_cases e2 : m' = n
   ·omega
   ·subst e1
    replace hm := hm.put_eq rfl
    have := hr.lt m' b' (hm'.put_ne e2) hl2
    subst hm
    simp only at hg
    omega
  ·by_cases e2 : m' = n
   ·subst e2
    replace hm' := hm'.put_eq rfl
    have := hr.lt m b (hm.put_ne e1) hl1
    subst hm'
    simp only at hg
    omega
   ·exact hr.inj m m' b b' (hm.put_ne e1) (hm'.put_ne e2) ha hb hl1 hl2 hg
 ·intro a v ha
  exact World.cell_alloc _ (hr.ro a v ha)
 ·intro m b a hm ha hl1 hR
  by_cases e1 : m = n
  ·subst e1
   replace hm := hm.put_eq rfl
   subst hm
   obtain ⟨v, hv⟩ := Option.ne_none_iff_exists'.1 hR
   have := block_lt_of_cell (hr.ro a v hv)
   simp only; omega
  ·exact hr.sep m b a (hm.put_ne e1) ha hl1 hR
 ·intro m b hm hl1
  rw [alloc_size]
  by_cases e1 : m = n
  ·subst e1
   replace hm := hm.put_eq rfl
   subst hm; simp
  ·have := hr.lt m b (hm.put_ne e1) hl1; omega
 ·intro m b k e' s l hm hk hc'
  by_cases e1 : m = n
  ·subst e1
   rw [hk0] at hk; cases hk
   exact absurd hc' (hF _ _ _)
  ·simp only [Sg.put, if_neg e1] at hm
   exact hr.keep hm hk hc' fun c p1 p2 => heap_alloc_old w _ _ (hr.lt m c p1 p2)
theorem Ext.fill {σ0 : Sg} {R0 : Ro} {h0 : Hp} {x0 : Nat} {w0 : World} (he : Ext σ0 R0 h0 x0 w0 σ R h x w) {n : Nat} (hn : x0 ≤ n) {b : Bk} (hb : b.g = w.heap.size) (o : Obj) (hin : b.inn = [] := by rfl) :
  Ext σ0 R0 h0 x0 w0 (Sg.put σ n b) R h x (w.alloc o) := by
 refine ⟨⟨he.fr.os, he.fr.tape, he.fr.output, by rw [alloc_size]; have := he.fr.size; omega, fun i hi hne => ?_⟩, he.le, fun m hm => ?_, he.rr, he.rfoot, fun m b' hm ha hl => ?_⟩
 ·rw [heap_alloc_old w o i (by have := he.fr.size; omega)]
  exact he.fr.block i hi hne
 ·unfold Sg.put; rw [if_neg (by omega)]; exact he.sg m hm
 ·by_cases e1 : m = n
  ·subst e1
   replace hm := hm.put_eq hin
   subst hm
   exact .inr (by rw [hb]; exact he.fr.size)
  ·exact he.foot m b' (hm.put_ne e1) ha hl
theorem v1_names {a : AV} {v : Value} (hv : V1 σ R a v) : ∀ n ∈ a.names, σ n ≠ none := by
 intro n hn
 cases a <;> simp only [AV.names, List.mem_singleton, List.not_mem_nil] at hn
 case ptr m p => subst hn; obtain ⟨b, o, h1, _⟩ := hv; rw [h1]; simp
 case sl m => subst hn; obtain ⟨b, s, len, cap, h1, _⟩ := hv; rw [h1]; simp
 case ss m p o len => subst hn; obtain ⟨b, N, s, a, cap, o0, h1, _⟩ := hv; rw [h1]; simp
 case mp m => subst hn; obtain ⟨b, h1, _⟩ := hv; rw [h1]; simp
 case isl m i => subst hn; obtain ⟨B, b, h1, _⟩ := hv; rw [h1]; simp
 case ip m i p => subst hn; obtain ⟨B, b, h1, _⟩ := hv; rw [h1]; simp
 all_goals exact hv.elim
theorem vc_names : ∀ {a : AV} {cs : List Value}, VC σ R a cs → ∀ n ∈ a.names, σ n ≠ none
 | .node f, cs, hv => vc_names (a := f) hv
 | .fcons a b, cs, ⟨c1, c2, _, h1, h2⟩ => fun n hn => by
  simp only [AV.names, List.mem_append] at hn
  rcases hn with hn | hn
  ·exact vc_names h1 n hn
  ·exact vc_names h2 n hn
 | .fnil, _, _ => fun n hn => by simp [AV.names] at hn
 | .vec _ _ _, _, _ => fun n hn => by simp [AV.names] at hn
 | .lst _ _, _, _ => fun n hn => by simp [AV.names] at hn
 | .int _ _, _, ⟨u, _, h1⟩ => v1_names h1
 | .bool _, _, ⟨u, _, h1⟩ => v1_names h1
 | .str _, _, ⟨u, _, h1⟩ => v1_names h1
 | .nilp, _, ⟨u, _, h1⟩ => v1_names h1
 | .nils, _, ⟨u, _, h1⟩ => v1_names h1
 | .ptr _ _, _, ⟨u, _, h1⟩ => v1_names h1
 | .sl _, _, ⟨u, _, h1⟩ => v1_names h1
 | .ss _ _ _ _, _, ⟨u, _, h1⟩ => v1_names h1
 | .mp _, _, ⟨u, _, h1⟩ => v1_names h1
 | .rop _ _ _, _, ⟨u, _, h1⟩ => v1_names h1
 | .ros _ _, _, ⟨u, _, h1⟩ => v1_names h1
 | .fn _, _, ⟨u, _, h1⟩ => v1_names h1
 | .nilm, _, ⟨u, _, h1⟩ => v1_names h1
 | .any, _, ⟨u, _, h1⟩ => v1_names h1
 | .tup _, _, ⟨u, _, h1⟩ => h1.elim
 | .kvs _ _ _, _, ⟨u, _, h1⟩ => v1_names h1
 | .isl _ _, _, ⟨u, _, h1⟩ => v1_names h1
 | .ip _ _ _, _, ⟨u, _, h1⟩ => v1_names h1
 | .fam _ _ _, _, _ => fun n hn => by simp [AV.names] at hn
theorem v0_names {a : AV} {v : Value} (hv : V0 σ R a v) : ∀ n ∈ a.names, σ n ≠ none := by
 cases a with
 | any => intro n hn; simp [AV.names] at hn
 | node f => obtain ⟨cs, _, h1⟩ := hv; exact vc_names (a := f) h1
 | vec s n f => intro n hn; simp [AV.names] at hn
 | fcons a b => exact hv.elim
 | _ => exact v1_names (R := R) (v := v) hv
theorem vt_names : ∀ {a : AV} {vs : List Value}, VT σ R a vs → ∀ n ∈ a.names, σ n ≠ none
 | .fnil, _, _ => fun n hn => by simp [AV.names] at hn
 | .fcons a b, vs, ⟨v, vs', _, h1, h2⟩ => fun n hn => by
  simp only [AV.names, List.mem_append] at hn
  rcases hn with hn | hn
  ·exact v0_names h1 n hn
  ·exact vt_names h2 n hn
theorem vv_names {a : AV} {v : Value} (hv : VV σ R a v) : ∀ n ∈ a.names, σ n ≠ none := by
 cases a with
 | tup f => obtain ⟨vs, _, h1⟩ := hv; exact vt_names (a := f) h1
 | _ => exact v0_names (R := R) (v := v) hv
theorem app_touched {o : Oper} {t : Tm} (ha : isApp o.op = true) : isLoc o.op = true ∧ touched h t o = appNames h t o := by
 have hc : isCallV o.op = false := by
  obtain ⟨dst, op, type, pos, after, guard⟩ := o
  cases op with
  | call c =>
   simp only [isApp] at ha
   split at ha
   ·rename_i hc; simp only [isCallV, hc]
   ·cases ha
  | _ => cases ha
 have hs : isSt o.op = false := by
  obtain ⟨dst, op, type, pos, after, guard⟩ := o
  cases op <;> first | rfl | cases ha
 exact ⟨by unfold isLoc; rw [ha]; rfl, by unfold touched; rw [hc, hs]; rfl⟩
theorem op_names {all : List Oper} {o : Oper} {t : Tm} {tm : Array Value} (hl : ∀ y ∈ looks all o, VV σ R (tget t y) (tm.getD y undef)) {n : Nat} {a : Operand} (ha : a ∈ o.op.operands.toList) (hn : n ∈ (evA t a).names) : σ n ≠ none := by
 cases a with
 | tmp i =>
  refine vv_names (hl i ?_) n hn
  unfold looks; exact List.mem_append_left _ (tmpsOf_mem ha)
 | const v =>
  have hn : n ∈ (constAV v).names := hn
  rw [constAV_names] at hn; cases hn
 | func f =>
  have hn : n ∈ (AV.fn f).names := hn
  simp [AV.names] at hn
 | global g =>
  have hn : n ∈ AV.any.names := hn
  simp [AV.names] at hn
theorem st_touched {o : Oper} {t : Tm} (ha : isSt o.op = true) : isLoc o.op = true ∧ touched h t o = stNames t o := by
 have hc : isCallV o.op = false := by
  obtain ⟨dst, op, type, pos, after, guard⟩ := o
  cases op <;> first | rfl | cases ha
 exact ⟨by unfold isLoc; rw [ha, Bool.or_true], by unfold touched; rw [hc, ha]; rfl⟩
theorem st_names {all : List Oper} {o : Oper} {t : Tm} {tm : Array Value} (hl : ∀ y ∈ looks all o, VV σ R (tget t y) (tm.getD y undef)) : ∀ n ∈ stNames t o, σ n ≠ none := by
 intro n hn
 unfold stNames at hn
 split at hn
 ·rename_i e y z hop
  rcases List.mem_append.1 hn with hn | hn
  ·exact op_names hl (by rw [hop]; simp [Op.operands]) hn
  ·exact op_names hl (by rw [hop]; simp [Op.operands]) hn
 ·cases hn
theorem app_names {all : List Oper} {o : Oper} {t : Tm} {tm : Array Value} (hl : ∀ y ∈ looks all o, VV σ R (tget t y) (tm.getD y undef)) : ∀ n ∈ appNames h t o, σ n ≠ none := by
 intro n hn
 unfold appNames at hn
 split at hn
 ·rename_i c hc
  have one : ∀ a : Operand, a ∈ c.args.toList → n ∈ (evA t a).names → σ n ≠ none := by
   intro a hal hn
   have ha : a ∈ o.op.operands.toList := by
    rw [hc]; simp only [Op.operands, Call.operands, Array.toList_append, List.mem_append]; exact .inr hal
   cases a with
   | tmp i =>
    refine vv_names (hl i ?_) n hn
    unfold looks; exact List.mem_append_left _ (tmpsOf_mem ha)
   | const v =>
    have hn : n ∈ (constAV v).names := hn
    rw [constAV_names] at hn; cases hn
   | func f =>
    have hn : n ∈ (AV.fn f).names := hn
    simp [AV.names] at hn
   | global g =>
    have hn : n ∈ AV.any.names := hn
    simp [AV.names] at hn
  split at hn
  ·rename_i a b hal
   rcases List.mem_append.1 hn with hn | hn
   ·exact one a (by rw [hal]; simp) hn
   ·refine one b (by rw [hal]; simp) ?_
    cases hf : famOf h (evA t b) with
    | true => rw [hf] at hn; exact hn
    | false => rw [hf] at hn; cases hn
  ·rename_i a l _ hal
   exact one a (by rw [hal]; simp) hn
  ·cases hn
 ·cases hn
def In (S : Array Bool) (j : Nat) : Prop := S[j]? = some true
section
variable {q : Qs} {rs : Bool} {all : List Oper} {nm : Nat → Nat} {st : Nat → St} {σs : Sg} {Rs : Ro} {hs : Hp} {xs : Nat} {ws : World}
structure Mem (P : Program) (T : Types) (q : Qs) (rs : Bool) (all : List Oper) (nm : Nat → Nat) (st : Nat → St) (σs : Sg) (Rs : Ro) (hs : Hp) (xs : Nat) (ws : World) (S : Array Bool) (σ : Sg) (R : Ro) (w : World) (e : Nat) : Prop where
 le : e ≤ all.length
 done : ∀ i o, i < e → all[i]? = some o → clsE' T q rs o = true → In S i
 next : ∀ o, all[e]? = some o → clsE' T q rs o = true ∧ ¬ In S e
 hr : HR P σ R (st e).h (st e).x w
 ext : Ext σs Rs hs xs ws σ R (st e).h (st e).x w
 hole : ∀ i o, all[i]? = some o → resvd T rs o = true → ¬ In S i → σ (nm i) = none ∧ hget (st e).h (nm i) = resvOf T o
structure Inv (P : Program) (N : Nat) (T : Types) (q : Qs) (rs : Bool) (all : List Oper) (nm : Nat → Nat) (st : Nat → St) (σs : Sg) (Rs : Ro) (hs : Hp) (xs : Nat) (ws : World) (S : Array Bool) (σ : Sg) (R : Ro) (a : Act) (w : World) : Prop where
 size : S.size = all.length
 closed : ∀ j p, In S j → all[j]? = some p → ∀ e ∈ edgesOf p, In S e
 tm0 : ∀ y, (∀ j p, In S j → all[j]? = some p → p.dst ≠ some y) → VV σ R (tget (st 0).t y) (a.tmps.getD y undef)
 tm1 : ∀ j p y, In S j → all[j]? = some p → p.dst = some y → (∀ i o, In S i → all[i]? = some o → j < i → o.dst ≠ some y) → VV σ R (tget (st (j + 1)).t y) (a.tmps.getD y undef)
 len : a.tmps.size = N
 df : a.defers = []
 mem : ∃ e, Mem P T q rs all nm st σs Rs hs xs ws S σ R w e
theorem before_in {S : Array Bool} (hc : ∀ j p, In S j → all[j]? = some p → ∀ e ∈ edgesOf p, In S e) {i j : Nat} (hb : Before all i j) : In S j → In S i := by
 induction hb with
 | edge h1 h2 => exact fun hj => hc _ _ hj h1 _ h2
 | trans h1 h2 _ ih => exact fun hj => ih (hc _ _ hj h1 _ h2)
theorem ready_in {S : Array Bool} (hc : ∀ j p, In S j → all[j]? = some p → ∀ e ∈ edgesOf p, In S e) {i j : Nat} {o : Oper} (ho : all[j]? = some o) (hr : ∀ e ∈ edgesOf o, In S e) (hb : Before all i j) : In S i := by
 cases hb with
 | edge h1 h2 => rw [ho] at h1; cases h1; exact hr _ h2
 | trans h1 h2 h3 => rw [ho] at h1; cases h1; exact before_in hc h3 (hr _ h2)
variable (hst : ∀ j o, all[j]? = some o → Step P T q rs all (nm j) o (st j) (st (j + 1)))
include hst
theorem last_write (y : Nat) : ∀ j, j ≤ all.length → ((∀ i o, i < j → all[i]? = some o → o.dst ≠ some y) ∧ tget (st j).t y = tget (st 0).t y) ∨
  ∃ L o, L < j ∧ all[L]? = some o ∧ o.dst = some y ∧ (∀ i o, L < i → i < j → all[i]? = some o → o.dst ≠ some y) ∧ tget (st j).t y = tget (st (L + 1)).t y
 | 0, _ => .inl ⟨fun i o hi => by omega, rfl⟩
 | j + 1, hj => by
  obtain ⟨o, ho⟩ : ∃ o, all[j]? = some o := ⟨all[j], by rw [List.getElem?_eq_getElem (by omega)]⟩
  obtain ⟨v, hu⟩ : ∃ v, ∀ y, tget (st (j + 1)).t y = if o.dst = some y then v else tget (st j).t y := by
   cases hrv : resvd T rs o with
   | false => obtain ⟨v, b, _, hu, _⟩ := (hst j o ho).does hrv; exact ⟨v, hu⟩
   | true => exact ⟨_, (hst j o ho).rsv hrv⟩
  by_cases hd : o.dst = some y
  ·exact .inr ⟨j, o, by omega, ho, hd, fun i o h1 h2 => by omega, rfl⟩
  ·have hk : tget (st (j + 1)).t y = tget (st j).t y := by rw [hu y, if_neg hd]
   rcases last_write y j (by omega) with ⟨h1, h2⟩ | ⟨L, oL, h1, h2, h3, h4, h5⟩
   ·refine .inl ⟨fun i oi hi hoi => ?_, hk.trans h2⟩
    by_cases e : i = j
    ·subst e; rw [ho] at hoi; cases hoi; exact hd
    ·exact h1 i oi (by omega) hoi
   ·refine .inr ⟨L, oL, by omega, h2, h3, fun i oi hL hi hoi => ?_, hk.trans h5⟩
    by_cases e : i = j
    ·subst e; rw [ho] at hoi; cases hoi; exact hd
    ·exact h4 i oi hL (by omega) hoi
theorem still {m : Nat} : ∀ d, m + d ≤ all.length → (∀ i o, m ≤ i → i < m + d → all[i]? = some o → clsE' T q rs o = false) → (st (m + d)).h = (st m).h ∧ (st (m + d)).x = (st m).x
 | 0, _, _ => ⟨rfl, rfl⟩
 | d + 1, hl, hh => by
  obtain ⟨h1, h2⟩ := still d (by omega) fun i o a b => hh i o a (by omega)
  obtain ⟨o, ho⟩ : ∃ o, all[m + d]? = some o := ⟨all[m + d], by rw [List.getElem?_eq_getElem (by omega)]⟩
  obtain ⟨h3, h4⟩ := (hst (m + d) o ho).eq (hh _ o (by omega) (by omega) ho)
  exact ⟨h3.trans h1, h4.trans h2⟩
theorem adding {m : Nat} : ∀ d, m + d ≤ all.length → (∀ i o, m ≤ i → i < m + d → all[i]? = some o → clsW T q o.op = false) → Adds (st m).h (st m).x (st (m + d)).h (st (m + d)).x
 | 0, _, _ => Adds.refl
 | d + 1, hl, hh => by
  obtain ⟨o, ho⟩ : ∃ o, all[m + d]? = some o := ⟨all[m + d], by rw [List.getElem?_eq_getElem (by omega)]⟩
  exact (adding d (by omega) fun i o a b => hh i o a (by omega)).trans ((hst (m + d) o ho).adds (hh _ o (by omega) (by omega) ho))
omit hst in
theorem next_eff (T : Types) (q : Qs) (rs : Bool) (all : List Oper) : ∀ (d m : Nat), m + d = all.length → ∃ e, m ≤ e ∧ e ≤ all.length ∧ (∀ i o, m ≤ i → i < e → all[i]? = some o → clsE' T q rs o = false) ∧ ∀ o, all[e]? = some o → clsE' T q rs o = true
 | 0, m, hm => ⟨m, by omega, by omega, fun i o h1 h2 => by omega, fun o ho => by rw [List.getElem?_eq_none (by omega)] at ho; cases ho⟩
 | d + 1, m, hm => by
  obtain ⟨o, ho⟩ : ∃ o, all[m]? = some o := ⟨all[m], by rw [List.getElem?_eq_getElem (by omega)]⟩
  cases hq : clsE' T q rs o with
  | true => exact ⟨m, by omega, by omega, fun i o h1 h2 => by omega, fun o' ho' => by rw [ho] at ho'; cases ho'; exact hq⟩
  | false =>
   obtain ⟨e, h1, h2, h3, h4⟩ := next_eff T q rs all d (m + 1) (by omega)
   refine ⟨e, by omega, h2, fun i oi h5 h6 h7 => ?_, h4⟩
   by_cases hi : i = m
   ·subst hi; rw [ho] at h7; cases h7; exact hq
   ·exact h3 i oi (by omega) h6 h7
variable (hD : Draws T q rs all)
include hD
theorem Inv.look {S : Array Bool} {a : Act} (hI : Inv P N T q rs all nm st σs Rs hs xs ws S σ R a w) {j : Nat} {o : Oper} (ho : all[j]? = some o) (hr : ∀ e ∈ edgesOf o, In S e) (hn : ¬ In S j) {y : Nat} (hy : y ∈ looks all o) :
  VV σ R (tget (st j).t y) (a.tmps.getD y undef) := by
 have hjl : j < all.length := (List.getElem?_eq_some_iff.1 ho).1
 have late : ∀ i oi, j < i → all[i]? = some oi → oi.dst = some y → ¬ In S i := fun i oi hij hoi hd hS =>
  hn (before_in hI.closed (hD.clash j i o oi hij ho hoi (clash_hit3 hd hy)) hS)
 rcases last_write hst y j (by omega) with ⟨h1, h2⟩ | ⟨L, oL, h1, h2, h3, h4, h5⟩
 ·rw [h2]
  refine hI.tm0 y fun i oi hS hoi hd => ?_
  rcases Nat.lt_trichotomy i j with hij | hij | hij
  ·exact h1 i oi hij hoi hd
  ·subst hij; exact hn hS
  ·exact late i oi hij hoi hd hS
 ·rw [h5]
  have hL : In S L := ready_in hI.closed ho hr (hD.clash L j oL o h1 h2 ho (clash_hit1 h3 hy))
  refine hI.tm1 L oL y hL h2 h3 fun i oi hS hoi hLi hd => ?_
  rcases Nat.lt_trichotomy i j with hij | hij | hij
  ·exact h4 i oi hLi hij hoi hd
  ·subst hij; exact hn hS
  ·exact late i oi hij hoi hd hS
omit hst hD in
theorem in_set {S : Array Bool} {j i : Nat} (hj : j < S.size) : In (S.setIfInBounds j true) i ↔ i = j ∨ In S i := by
 unfold In
 rw [Array.getElem?_setIfInBounds]
 by_cases e : j = i
 ·subst e; simp [hj]
 ·rw [if_neg e]
  exact ⟨.inr, fun hh => hh.resolve_left (Ne.symm e)⟩
theorem Inv.after {S : Array Bool} {a : Act} (hI : Inv P N T q rs all nm st σs Rs hs xs ws S σ R a w) {j : Nat} {o : Oper} (ho : all[j]? = some o) (hr : ∀ e ∈ edgesOf o, In S e) (hn : ¬ In S j) (hdst : DstOk N o)
  {v : AV} {cv : Value} (hu : ∀ y, tget (st (j + 1)).t y = if o.dst = some y then v else tget (st j).t y) (hv : VV σ' R' v cv) (keep : ∀ {b u}, VV σ R b u → VV σ' R' b u)
  (hm : ∃ e, Mem P T q rs all nm st σs Rs hs xs ws (S.setIfInBounds j true) σ' R' w' e) : Inv P N T q rs all nm st σs Rs hs xs ws (S.setIfInBounds j true) σ' R' (a.put o.dst cv) w' := by
 have hjl : j < all.length := (List.getElem?_eq_some_iff.1 ho).1
 have hjS : j < S.size := by rw [hI.size]; exact hjl
 have hin : ∀ {i}, In (S.setIfInBounds j true) i ↔ i = j ∨ In S i := in_set hjS
 have hother : ∀ y, o.dst ≠ some y → (a.put o.dst cv).tmps.getD y undef = a.tmps.getD y undef := fun y hy => by
  cases hd : o.dst with
  | none => rfl
  | some d =>
   have hne : d ≠ y := fun e => hy (by rw [hd, e])
   simp only [Act.put, Array.getD_eq_getD_getElem?, Array.getElem?_setIfInBounds, if_neg hne]
 refine ⟨by simp [hI.size], fun i p hi hp e he => ?_, fun y hy => ?_, fun i p y hi hp hd hlast => ?_, ?_, ?_, hm⟩
 ·rcases hin.1 hi with rfl | hi
  ·rw [ho] at hp; cases hp; exact hin.2 (.inr (hr e he))
  ·exact hin.2 (.inr (hI.closed i p hi hp e he))
 ·rw [hother y (hy j o (hin.2 (.inl rfl)) ho)]
  exact keep (hI.tm0 y fun i p hi hp => hy i p (hin.2 (.inr hi)) hp)
 ·rcases hin.1 hi with rfl | hiS
  ·rw [ho] at hp; cases hp
   rw [hu y, if_pos hd]
   have hyN := hdst y hd
   rw [← hI.len] at hyN
   rw [hd]
   simpa [Act.put, Array.getD, hyN] using hv
  ·by_cases hdj : o.dst = some y
   ·rcases Nat.lt_trichotomy i j with hij | hij | hij
    ·exact absurd hdj (hlast j o (hin.2 (.inl rfl)) ho hij)
    ·subst hij; exact absurd hiS hn
    ·exact absurd (before_in hI.closed (hD.clash j i o p hij ho hp (clash_hit2 hdj hd)) hiS) hn
   ·rw [hother y hdj]
    exact keep (hI.tm1 i p y hiS hp hd fun i' o' hS' ho' hlt => hlast i' o' (hin.2 (.inr hS')) ho' hlt)
 ·rw [← hI.len]
  cases o.dst <;> simp [Act.put]
 ·rw [← hI.df]
  cases o.dst <;> simp [Act.put]
theorem Mem.eff {S : Array Bool} (hc : ∀ j p, In S j → all[j]? = some p → ∀ e ∈ edgesOf p, In S e) (hsz : S.size = all.length) {e : Nat} (hM : Mem P T q rs all nm st σs Rs hs xs ws S σ R w e) {j : Nat} {o : Oper} (ho : all[j]? = some o) (hr : ∀ e ∈ edgesOf o, In S e) (hn : ¬ In S j) (hE : clsE' T q rs o = true) : e = j ∧
  ∀ {σ' R' w'}, HR P σ' R' (st (j + 1)).h (st (j + 1)).x w' → Ext σs Rs hs xs ws σ' R' (st (j + 1)).h (st (j + 1)).x w' → (∀ i p, all[i]? = some p → resvd T rs p = true → ¬ In (S.setIfInBounds j true) i → σ' (nm i) = none ∧ hget (st (j + 1)).h (nm i) = resvOf T p) → ∃ e', Mem P T q rs all nm st σs Rs hs xs ws (S.setIfInBounds j true) σ' R' w' e' := by
 have hjl : j < all.length := (List.getElem?_eq_some_iff.1 ho).1
 have hjS : j < S.size := by rw [hsz]; exact hjl
 have hin : ∀ {i}, In (S.setIfInBounds j true) i ↔ i = j ∨ In S i := in_set hjS
 have hej : e = j := by
  rcases Nat.lt_trichotomy e j with hlt | heq | hlt
  ·obtain ⟨oe, hoe⟩ : ∃ oe, all[e]? = some oe := ⟨all[e], by rw [List.getElem?_eq_getElem (by omega)]⟩
   obtain ⟨h1, h2⟩ := hM.next oe hoe
   exact absurd (ready_in hc ho hr (hD.clash e j oe o hlt hoe ho (clash_E h1 hE))) h2
  ·exact heq
  ·exact absurd (hM.done j o hlt ho hE) hn
 refine ⟨hej, fun {σ' R' w'} h1 h2 h3 => ?_⟩
 obtain ⟨e', g1, g2, g3, g4⟩ := next_eff T q rs all (all.length - (j + 1)) (j + 1) (by omega)
 obtain ⟨g5, g6⟩ := still hst (m := j + 1) (e' - (j + 1)) (by omega) fun i oi a b => g3 i oi a (by omega)
 rw [show j + 1 + (e' - (j + 1)) = e' by omega] at g5 g6
 refine ⟨e', g2, fun i oi hi hoi hEi => ?_, fun oe hoe => ⟨g4 oe hoe, fun hS => ?_⟩, by rw [g5, g6]; exact h1, by rw [g5, g6]; exact h2, by rw [g5]; exact h3⟩
 ·rcases Nat.lt_trichotomy i j with hij | hij | hij
  ·exact hin.2 (.inr (hM.done i oi (by omega) hoi hEi))
  ·exact hin.2 (.inl hij)
  ·have := g3 i oi (by omega) hi hoi
   rw [hEi] at this; cases this
 ·rcases hin.1 hS with h3 | h3
  ·omega
  ·exact hn (before_in hc (hD.clash j e' o oe (by omega) ho hoe (clash_E hE (g4 oe hoe))) h3)
theorem Mem.still {S : Array Bool} (hsz : S.size = all.length) {e : Nat} (hM : Mem P T q rs all nm st σs Rs hs xs ws S σ R w e) {j : Nat} {o : Oper} (ho : all[j]? = some o) (hE : clsE' T q rs o = false) (hR : resvd T rs o = false) (hnx : ∀ i p, all[i]? = some p → resvd T rs p = true → nm i < (st e).x) (h1 : HR P σ' R' (st e).h (st e).x w') (h2 : Ext σ R (st e).h (st e).x w σ' R' (st e).h (st e).x w') :
  Mem P T q rs all nm st σs Rs hs xs ws (S.setIfInBounds j true) σ' R' w' e := by
 have hjl : j < all.length := (List.getElem?_eq_some_iff.1 ho).1
 have hjS : j < S.size := by rw [hsz]; exact hjl
 have hin : ∀ {i}, In (S.setIfInBounds j true) i ↔ i = j ∨ In S i := in_set hjS
 refine ⟨hM.le, fun i oi hi hoi hEi => hin.2 (.inr (hM.done i oi hi hoi hEi)), fun oe hoe => ⟨(hM.next oe hoe).1, fun hS => ?_⟩, h1, hM.ext.trans h2, fun i p hp hrp hi => ?_⟩
 rotate_left
 ·obtain ⟨k1, k2⟩ := hM.hole i p hp hrp (fun hh => hi (hin.2 (.inr hh)))
  exact ⟨by rw [h2.sg _ (hnx i p hp hrp)]; exact k1, k2⟩
 rcases hin.1 hS with h3 | h3
 ·subst h3; rw [ho] at hoe; cases hoe
  have := (hM.next o ho).1
  rw [hE] at this; cases this
 ·exact (hM.next oe hoe).2 h3
omit hD in
theorem xmono : ∀ j, j ≤ all.length → (st 0).x ≤ (st j).x
 | 0, _ => Nat.le_refl _
 | j + 1, hj => by
  obtain ⟨o, ho⟩ : ∃ o, all[j]? = some o := ⟨all[j], by rw [List.getElem?_eq_getElem (by omega)]⟩
  exact Nat.le_trans (xmono j (by omega)) (hst j o ho).le
variable (hAp : rs = true → ∀ i j o p, i < j → all[i]? = some o → all[j]? = some p → Before all i j ∨ Apart (st 0).x (st i) (st j) o p)
variable (hC : ∀ i j p o, all[i]? = some p → all[j]? = some o → resvd T rs p = true → isCallV o.op = true → resvd T rs o = false → Before all i j ∨ nm i ∉ touched (st j).h (st j).t o)
variable (hT : TyOk P T) (hV : ∀ i p, all[i]? = some p → resvd T rs p = true → xs ≤ nm i ∧ nm i < (st 0).x) (hJ : ∀ i j o p, all[i]? = some o → all[j]? = some p → resvd T rs o = true → resvd T rs p = true → nm i = nm j → i = j)
include hAp hC hT hV hJ
theorem Inv.step {S : Array Bool} {a : Act} (hI : Inv P N T q rs all nm st σs Rs hs xs ws S σ R a w) {j : Nat} {o : Oper} (ho : all[j]? = some o) (hr : ∀ e ∈ edgesOf o, In S e) (hn : ¬ In S j) (hdst : DstOk N o)
  {K : Act → World → Prop} {Q : Exit → Act → World → Prop} (hK : ∀ {σ' R' a' w'}, Inv P N T q rs all nm st σs Rs hs xs ws (S.setIfInBounds j true) σ' R' a' w' → K a' w') : wpOp P all.toArray Q j K a w := by
 unfold wpOp
 have ho' : all.toArray[j]? = some o := by simpa using ho
 rw [ho']
 dsimp only
 have hjl : j < all.length := (List.getElem?_eq_some_iff.1 ho).1
 have hjS : j < S.size := by rw [hI.size]; exact hjl
 have hin : ∀ {i}, In (S.setIfInBounds j true) i ↔ i = j ∨ In S i := in_set hjS
 cases hrv : resvd T rs o with
 | true =>
  obtain ⟨et, ti, hg, hop, hti, hz, hrb⟩ := resvd_op hrv
  have hw : Region.wanted o (yielded all.toArray a.tmps) = true := by unfold Region.wanted; rw [hg]
  rw [hw, if_pos rfl]
  refine .inl ?_
  obtain ⟨e, hM⟩ := hI.mem
  obtain ⟨k1, k2⟩ := hM.hole j o ho hrv hn
  rw [hrb] at k2
  obtain ⟨i2, d2, hk⟩ := hT.is hti
  obtain ⟨zv, z1, z2, z3⟩ := zero_run (σ := σ) (R := R) hk (by intro h0; rw [h0] at hz; simp [AV.cell, AV.agg] at hz) w
  have hl := VC.length z3
  have hsz : zv.cells.size = ti.zero.w := by rw [← hl]; simp
  have hv := hV j o ho hrv
  have hnx : nm j < (st e).x := Nat.lt_of_lt_of_le hv.2 (xmono hst e hM.le)
  have hfill := hM.hr.fill k1 hnx k2 z3 hsz (one_notfam z2)
  have hext := hM.ext.fill hv.1 (b := ⟨w.heap.size, zv.cells.size, ti.zero.shp, et, false, 0, []⟩) rfl (.cells zv.cells et (0, 0))
  have hmono : ∀ m b, σ m = some b → Sg.put σ (nm j) ⟨w.heap.size, zv.cells.size, ti.zero.shp, et, false, 0, []⟩ m = some b := fun m b hm => by
   unfold Sg.put
   by_cases e1 : m = nm j
   ·subst e1; rw [k1] at hm; cases hm
   ·rw [if_neg e1]; exact hm
  have hE0 : clsE' T q rs o = false := by simp [clsE', hrv]
  refine Oper.wp_value (s := Instr.alloc et true (.tuple #[])) (cv := .pointer (some ⟨w.heap.size, 0, none⟩)) (w' := w.alloc (.cells zv.cells et (0, 0))) (by simp [execOp, hop]) (by simp [Instr.alloc, z1, newVar, newRow]) ?_
  refine hK (hI.after hst hD ho hr hn hdst ((hst j o ho).rsv hrv) ⟨⟨w.heap.size, zv.cells.size, ti.zero.shp, et, false, 0, []⟩, 0, by simp [Sg.put], off_nil _, rfl, rfl⟩ (fun hh => VV.mono hmono (fun _ _ hh => hh) hh) ⟨e, hM.le, fun i oi hi hoi hEi => hin.2 (.inr (hM.done i oi hi hoi hEi)), fun oe hoe => ⟨(hM.next oe hoe).1, fun hS => ?_⟩, hfill, hext, fun i p hp hrp hi => ?_⟩)
  ·rcases hin.1 hS with h3 | h3
   ·subst h3; rw [ho] at hoe; cases hoe
    have := (hM.next o ho).1
    rw [hE0] at this; cases this
   ·exact (hM.next oe hoe).2 h3
  ·obtain ⟨q1, q2⟩ := hM.hole i p hp hrp (fun hh => hi (hin.2 (.inr hh)))
   refine ⟨?_, q2⟩
   have hne : nm i ≠ nm j := fun e1 => hi (hin.2 (.inl (hJ i j p o hp ho hrp hrv e1)))
   unfold Sg.put; rw [if_neg hne]; exact q1
 | false =>
 have hcE : clsE' T q rs o = clsE T q o.op := by simp [clsE', hrv]
 have hcP : clsP' T rs o = clsP T o.op := by simp [clsP', hrv]
 have hnx : ∀ {e : Nat}, e ≤ all.length → ∀ i p, all[i]? = some p → resvd T rs p = true → nm i < (st e).x := fun he i p hp hrp => Nat.lt_of_lt_of_le (hV i p hp hrp).2 (xmono hst _ he)
 obtain ⟨v, b, hkn, hu, hrun, hskip⟩ := (hst j o ho).does hrv
 have hlook := fun y hy => hI.look hst hD ho hr hn (y := y) hy
 have hw : Region.wanted o (yielded all.toArray a.tmps) = b := by
  rcases hkn with ⟨hg, rfl⟩ | ⟨i, q', d, c, hg, hd, hc, rfl⟩ | ⟨i, q', d, f, hg, hd, hc, rfl⟩
  ·unfold Region.wanted; rw [hg]
  ·have := hlook d (by unfold looks; rw [hg]; simp [hd])
   rw [hc] at this
   exact wanted_is hg hd this
  ·have := hlook d (by unfold looks; rw [hg]; simp [hd])
   rw [hc] at this
   obtain ⟨vs, hv, _⟩ := this
   exact wanted_not hg hd hv
 have htm : ∀ y, VV σ R (evA (restr (st j).t (looks all o)) y) (a.eval y) := by
  refine tm_ev fun y => ?_
  by_cases hy : y ∈ looks all o
  ·rw [(restr_get _ y).1 hy]; exact hlook y hy
  ·rw [(restr_get _ y).2 hy]; trivial
 obtain ⟨e, hM⟩ := hI.mem
 cases b with
 | false =>
  rw [hw, if_neg (by simp)]
  obtain ⟨rfl, h1, h2⟩ := hskip rfl
  refine hK (hI.after hst hD ho hr hn hdst hu (undef_vv : VV σ R (.tup .fnil) undef) (fun hh => hh) ?_)
  cases hE : clsE' T q rs o with
  | true =>
   obtain ⟨rfl, hmk⟩ := hM.eff hst hD hI.closed hI.size ho hr hn hE
   exact hmk (by rw [h1, h2]; exact hM.hr) (by rw [h1, h2]; exact hM.ext) fun i p hp hrp hi => by rw [h1]; exact hM.hole i p hp hrp fun hh => hi (hin.2 (.inr hh))
  | false => exact ⟨e, hM.still hst hD hI.size ho hE hrv (hnx hM.le) hM.hr (Ext.refl _ _ _ _ _)⟩
 | true =>
  rw [hw, if_pos rfl]
  refine .inl ?_
  obtain ⟨hdone, hread, hpure, hrd⟩ := hrun rfl
  cases hE : clsE' T q rs o with
  | true =>
   obtain ⟨rfl, hmk⟩ := hM.eff hst hD hI.closed hI.size ho hr hn hE
   refine hdone htm hM.hr fun cv w' σ' R' hv hr' hx => hK (hI.after hst hD ho hr hn hdst hu hv (fun hh => hx.vv hM.hr hh) (hmk hr' (hM.ext.trans hx) fun i p hp hrp hi => ?_))
   have hiS : ¬ In S i := fun hh => hi (hin.2 (.inr hh))
   obtain ⟨k1, k2⟩ := hM.hole i p hp hrp hiS
   have hlt := hnx hM.le i p hp hrp
   refine ⟨by rw [hx.sg _ hlt]; exact k1, ?_⟩
   rw [← k2]
   cases hW : clsW T q o.op with
   | false => exact ((hst _ o ho).adds hW).same _ (.inl hlt)
   | true =>
    cases hA : isApp o.op with
    | true => exact (hst _ o ho).loc (app_touched (h := (st e).h) (t := (st e).t) hA).1 _ hlt fun hm => app_names hlook _ (by rw [(app_touched hA).2] at hm; exact hm) k1
    | false =>
     cases hL : isCallV o.op with
     | true =>
      rcases hC i e p o hp ho hrp hL hrv with hb | hb
      ·exact absurd (ready_in hI.closed ho hr hb) hiS
      ·exact (hst _ o ho).loc (by unfold isLoc; rw [hL]; simp) _ hlt hb
     | false =>
     cases hS : isSt o.op with
     | true => exact (hst _ o ho).loc (st_touched (h := (st e).h) (t := (st e).t) hS).1 _ hlt fun hm => st_names hlook _ (by rw [(st_touched hS).2] at hm; exact hm) k1
     | false =>
     have hA : isLoc o.op = false := by unfold isLoc; rw [hA, hL, hS]; rfl
     exfalso
     rcases Nat.lt_trichotomy i e with hij | hij | hij
     ·exact hiS (ready_in hI.closed ho hr (hD.clash i e p o hij hp ho (clash_V hrp hW hA)))
     ·subst hij; exact hi (hin.2 (.inl rfl))
     ·have := hD.late e i o p hij ho hp hW hA
      rw [hrp] at this; cases this
  | false =>
   cases hP : clsP' T rs o with
   | true =>
    refine hpure (by rw [← hcP]; exact hP) _ _ htm hM.hr fun cv w' σ' R' hv hr' hx => hK (hI.after hst hD ho hr hn hdst hu hv (fun hh => hx.vv hM.hr hh) ⟨e, hM.still hst hD hI.size ho hE hrv (hnx hM.le) hr' hx⟩)
   | false =>
    have hWj : clsW T q o.op = false := by
     cases hq : clsW T q o.op with
     | false => rfl
     | true => rw [clsW_E' hq] at hE; cases hE
    by_cases hx0 : isRd o.op = true ∧ ∀ n ∈ opNames (st j).t o, n < (st 0).x
    ·obtain ⟨hx1, hx2⟩ := hx0
     refine hrd hx1 (st e).h (st e).x (fun n hnn => ?_) htm hM.hr fun cv w' σ' R' hv hr' hx => ?_
     ·have hlt0 := hx2 n hnn
      rcases Nat.lt_trichotomy j e with hlt | heq | hlt
      ·have hgo : ∀ d, j + d ≤ e → hget (st (j + d)).h n = hget (st j).h n := by
        intro d
        induction d with
        | zero => intro _; rfl
        | succ d ih =>
         intro hd
         have hle := hM.le
         obtain ⟨oi, hoi⟩ : ∃ oi, all[j + d]? = some oi := ⟨all[j + d], by rw [List.getElem?_eq_getElem (by omega)]⟩
         have hxi := xmono hst (j + d) (by omega)
         have hstep : hget (st (j + d + 1)).h n = hget (st (j + d)).h n := by
          cases hq : clsW T q oi.op with
          | false => exact ((hst (j + d) oi hoi).adds hq).same n (.inl (by omega))
          | true =>
           have hij : j < j + d := by
            rcases Nat.eq_zero_or_pos d with h0 | h0
            ·subst h0
             rw [Nat.add_zero, ho] at hoi; cases hoi
             rw [hWj] at hq; cases hq
            ·omega
           have hdn := hM.done (j + d) oi (by omega) hoi (clsW_E' hq)
           cases h3 : (rs && isRd o.op && isLoc oi.op) with
           | false => exact absurd (before_in hI.closed (hD.clash j (j + d) o oi hij ho hoi (clash_W2 hP hq h3)) hdn) hn
           | true =>
            rw [Bool.and_eq_true, Bool.and_eq_true] at h3
            rcases hAp h3.1.1 j (j + d) o oi hij ho hoi with hb | hb
            ·exact absurd (before_in hI.closed hb hdn) hn
            ·exact (hst (j + d) oi hoi).loc h3.2 n (by omega) (hb.rd h3.1.2 h3.2 n hnn).2
         exact hstep.trans (ih (by omega))
       have := hgo (e - j) (by omega)
       rwa [show j + (e - j) = e by omega] at this
      ·subst heq; rfl
      ·obtain ⟨oe, hoe⟩ : ∃ oe, all[e]? = some oe := ⟨all[e], by rw [List.getElem?_eq_getElem (by omega)]⟩
       obtain ⟨g1, g2⟩ := hM.next oe hoe
       have hgo : ∀ d, e + d ≤ j → hget (st (e + d)).h n = hget (st e).h n := by
        intro d
        induction d with
        | zero => intro _; rfl
        | succ d ih =>
         intro hd
         obtain ⟨oi, hoi⟩ : ∃ oi, all[e + d]? = some oi := ⟨all[e + d], by rw [List.getElem?_eq_getElem (by omega)]⟩
         have hxi := xmono hst (e + d) (by omega)
         have hstep : hget (st (e + d + 1)).h n = hget (st (e + d)).h n := by
          cases hq : clsW T q oi.op with
          | false => exact ((hst (e + d) oi hoi).adds hq).same n (.inl (by omega))
          | true =>
           have hbad : ¬ Before all (e + d) j := fun hb => by
            have hin : In S (e + d) := ready_in hI.closed ho hr hb
            rcases Nat.eq_zero_or_pos d with h0 | h0
            ·subst h0; exact g2 hin
            ·exact g2 (before_in hI.closed (hD.clash e (e + d) oe oi (by omega) hoe hoi (clash_E g1 (clsW_E' hq))) hin)
           cases h3 : (rs && isLoc oi.op && isRd o.op) with
           | false => exact absurd (hD.clash (e + d) j oi o (by omega) hoi ho (clash_W1 hq hP h3)) hbad
           | true =>
            rw [Bool.and_eq_true, Bool.and_eq_true] at h3
            rcases hAp h3.1.1 (e + d) j oi o (by omega) hoi ho with hb | hb
            ·exact absurd hb hbad
            ·exact (hst (e + d) oi hoi).loc h3.1.2 n (by omega) (hb.ap h3.1.2 h3.2 n hnn).2
         exact hstep.trans (ih (by omega))
       have := hgo (j - e) (by omega)
       rw [show e + (j - e) = j by omega] at this
       exact this.symm
     ·exact hK (hI.after hst hD ho hr hn hdst hu hv (fun hh => hx.vv hM.hr hh) ⟨e, hM.still hst hD hI.size ho hE hrv (hnx hM.le) hr' hx⟩)
    have hsub : ∀ n b k, σ n = some b → hget (st j).h n = some k → hget (st e).h n = some k := by
     intro n bn k hnb hk
     rcases Nat.lt_trichotomy j e with hlt | heq | hlt
     ·have ha := adding hst (m := j) (e - j) (by have := hM.le; omega) fun i oi h1 h2 hoi => by
       by_cases hij : i = j
       ·subst hij; rw [ho] at hoi; cases hoi; exact hWj
       ·cases hq : clsW T q oi.op with
        | false => rfl
        | true =>
         refine absurd (before_in hI.closed (?_ : Before all j i) (hM.done i oi (by omega) hoi (clsW_E' hq))) hn
         cases h3 : (rs && isRd o.op && isLoc oi.op) with
         | false => exact hD.clash j i o oi (by omega) ho hoi (clash_W2 hP hq h3)
         | true =>
          rw [Bool.and_eq_true, Bool.and_eq_true] at h3
          rcases hAp h3.1.1 j i o oi (by omega) ho hoi with hb | hb
          ·exact hb
          ·exact absurd ⟨h3.1.2, fun n hnn => (hb.rd h3.1.2 h3.2 n hnn).1⟩ hx0
      rw [show j + (e - j) = e by omega] at ha
      by_cases hnx : n < (st j).x ∨ (st e).x ≤ n
      ·rw [ha.same n hnx]; exact hk
      ·have := ha.new n (by omega) (by omega)
       rw [this] at hk; cases hk
     ·subst heq; exact hk
     ·obtain ⟨oe, hoe⟩ : ∃ oe, all[e]? = some oe := ⟨all[e], by rw [List.getElem?_eq_getElem (by omega)]⟩
      obtain ⟨g1, g2⟩ := hM.next oe hoe
      have ha := adding hst (m := e) (j - e) (by omega) fun i oi h1 h2 hoi => by
       cases hq : clsW T q oi.op with
       | false => rfl
       | true =>
        have hbi : Before all i j := by
         cases h3 : (rs && isLoc oi.op && isRd o.op) with
         | false => exact hD.clash i j oi o (by omega) hoi ho (clash_W1 hq hP h3)
         | true =>
          rw [Bool.and_eq_true, Bool.and_eq_true] at h3
          rcases hAp h3.1.1 i j oi o (by omega) hoi ho with hb | hb
          ·exact hb
          ·exact absurd ⟨h3.2, fun n hnn => (hb.ap h3.1.2 h3.2 n hnn).1⟩ hx0
        have hin : In S i := ready_in hI.closed ho hr hbi
        by_cases hie : i = e
        ·subst hie; exact absurd hin g2
        ·exact absurd (before_in hI.closed (hD.clash e i oe oi (by omega) hoe hoi (clash_E g1 (clsW_E' hq))) hin) g2
      rw [show e + (j - e) = j by omega] at ha
      rw [← ha.same n (.inl (hM.hr.dom n bn hnb))]; exact hk
    refine hread (by rw [← hcE]; exact hE) _ htm (hM.hr.sub hsub) fun cv w' σ' R' hv hr' hx => ?_
    obtain ⟨k1, k2⟩ := hM.hr.frame hsub hr' hx
    exact hK (hI.after hst hD ho hr hn hdst hu hv (fun hh => k2.vv hM.hr hh) ⟨e, hM.still hst hD hI.size ho hE hrv (hnx hM.le) k1 k2⟩)
omit hst hD hAp hC hT hV hJ
def unl : List Bool → Nat
 | [] => 0
 | b :: l => (if b then 0 else 1) + unl l
theorem unl_set : ∀ {l : List Bool} {j : Nat}, l[j]? = some false → unl (l.set j true) + 1 = unl l
 | [], j, hh => by simp at hh
 | b :: l, 0, hh => by
  simp at hh; subst hh
  simp [unl]; omega
 | b :: l, j + 1, hh => by
  have := unl_set (l := l) (j := j) (by simpa using hh)
  simp only [List.set_cons_succ, unl]
  omega
theorem unl_zero : ∀ {l : List Bool}, unl l = 0 → ∀ (j : Nat) b, l[j]? = some b → b = true
 | [], _, j, b, hj => by simp at hj
 | a :: l, hh, j, b, hj => by
  simp only [unl] at hh
  cases j with
  | zero =>
   simp at hj; subst hj
   cases a with
   | true => rfl
   | false => simp at hh
  | succ j => exact unl_zero (l := l) (by omega) j b (by simpa using hj)
theorem unl_rep : ∀ n, unl (List.replicate n false) = n
 | 0 => rfl
 | n + 1 => by simp only [List.replicate_succ, unl, unl_rep n]; simp; omega
theorem edges_ready {o : Oper} {S : Array Bool} : (o.after.all fun e => !Region.binds .any e || S.getD e.on false) = true ↔ ∀ e ∈ edgesOf o, In S e := by
 have hg : ∀ i, S.getD i false = true ↔ In S i := fun i => by
  unfold In
  rw [Array.getD_eq_getD_getElem?]
  cases hq : S[i]? with
  | none => simp
  | some b => simp
 rw [← Array.all_toList, List.all_eq_true]
 unfold edgesOf
 constructor
 ·intro hh e he
  obtain ⟨d, hd, rfl⟩ := List.mem_map.1 he
  obtain ⟨h1, h2⟩ := List.mem_filter.1 hd
  have := hh d h1
  rw [h2] at this
  exact (hg _).1 (by simpa using this)
 ·intro hh e he
  cases hq : Region.binds .any e with
  | false => rfl
  | true => simpa using (hg _).2 (hh e.on (List.mem_map.2 ⟨e, List.mem_filter.2 ⟨he, hq⟩, rfl⟩))
theorem ready_iff {S : Array Bool} {j : Nat} (hsz : S.size = all.length) : j ∈ Region.ready .any all.toArray S ↔ ∃ o, all[j]? = some o ∧ ¬ In S j ∧ ∀ e ∈ edgesOf o, In S e := by
 unfold Region.ready
 rw [List.mem_filter]
 simp only [List.size_toArray, List.mem_range, Bool.and_eq_true, List.getElem?_toArray]
 have hnot : j < all.length → ((!S.getD j true) = true ↔ ¬ In S j) := fun hj => by
  unfold In
  rw [Array.getD_eq_getD_getElem?]
  have : j < S.size := by omega
  rw [Array.getElem?_eq_getElem this]
  simp
 constructor
 ·rintro ⟨h1, h2, h3⟩
  obtain ⟨o, ho⟩ : ∃ o, all[j]? = some o := ⟨all[j], by rw [List.getElem?_eq_getElem h1]⟩
  rw [ho] at h3
  exact ⟨o, ho, (hnot h1).1 h2, edges_ready.1 (by simpa using h3)⟩
 ·rintro ⟨o, ho, h2, h3⟩
  have h1 := (List.getElem?_eq_some_iff.1 ho).1
  rw [ho]
  exact ⟨h1, (hnot h1).2 h2, by simpa using edges_ready.2 h3⟩
include hst hD
theorem all_done {S : Array Bool} (hsz : S.size = all.length) (hr : Region.ready .any all.toArray S = []) : ∀ j, j < all.length → In S j := by
 intro j
 induction j using Nat.strongRecOn with
 | _ j ih =>
  intro hj
  obtain ⟨o, ho⟩ : ∃ o, all[j]? = some o := ⟨all[j], by rw [List.getElem?_eq_getElem hj]⟩
  by_cases hin : In S j
  ·exact hin
  ·have : j ∈ Region.ready .any all.toArray S := (ready_iff hsz).2 ⟨o, ho, hin, fun e he => ih e (hD.back j o ho e he) (by have := hD.back j o ho e he; omega)⟩
   rw [hr] at this; simp at this
theorem Inv.finish {S : Array Bool} {a : Act} (hI : Inv P N T q rs all nm st σs Rs hs xs ws S σ R a w) (hall : ∀ j, j < all.length → In S j) : SR P N σ R (st all.length) a w ∧ Ext σs Rs hs xs ws σ R (st all.length).h (st all.length).x w := by
 obtain ⟨e, hM⟩ := hI.mem
 have he : e = all.length := by
  rcases Nat.lt_or_ge e all.length with hlt | hge
  ·obtain ⟨oe, hoe⟩ : ∃ oe, all[e]? = some oe := ⟨all[e], by rw [List.getElem?_eq_getElem hlt]⟩
   exact absurd (hall e hlt) (hM.next oe hoe).2
  ·have := hM.le; omega
 subst he
 refine ⟨⟨fun y => ?_, hI.len, hI.df, hM.hr⟩, hM.ext⟩
 rcases last_write hst y all.length (Nat.le_refl _) with ⟨h1, h2⟩ | ⟨L, oL, h1, h2, h3, h4, h5⟩
 ·rw [h2]
  exact hI.tm0 y fun i oi _ hoi => h1 i oi (List.getElem?_eq_some_iff.1 hoi).1 hoi
 ·rw [h5]
  exact hI.tm1 L oL y (hall L h1) h2 h3 fun i oi _ hoi hlt => h4 i oi hlt (List.getElem?_eq_some_iff.1 hoi).1 hoi
include hAp hC hT hV hJ in
theorem Inv.orders (hdst : ∀ o ∈ all, DstOk N o) {Q : Exit → Act → World → Prop} (hQ : ∀ {σ R a w}, SR P N σ R (st all.length) a w → Ext σs Rs hs xs ws σ R (st all.length).h (st all.length).x w → Q .normal a w) :
  ∀ (fuel : Nat) {S : Array Bool} {σ : Sg} {R : Ro} {a : Act} {w : World}, Inv P N T q rs all nm st σs Rs hs xs ws S σ R a w → unl S.toList ≤ fuel → wpAny P .any all.toArray Q fuel S a w
 | 0, S, σ, R, a, w, hI, hf => by
  have hall : ∀ j, j < all.length → In S j := fun j hj => by
   have hjS : j < S.size := by rw [hI.size]; exact hj
   unfold In
   rw [Array.getElem?_eq_getElem hjS]
   have := unl_zero (l := S.toList) (by omega) j S[j] (by rw [Array.getElem?_toList, Array.getElem?_eq_getElem hjS])
   rw [this]
  refine ⟨?_, ?_⟩
  ·cases hq : Region.ready .any all.toArray S with
   | nil => rfl
   | cons j l =>
    have : j ∈ Region.ready .any all.toArray S := by rw [hq]; simp
    obtain ⟨o, ho, h1, _⟩ := (ready_iff hI.size).1 this
    exact absurd (hall j (List.getElem?_eq_some_iff.1 ho).1) h1
  ·obtain ⟨h1, h2⟩ := hI.finish hst hD hall
   exact hQ h1 h2
 | fuel + 1, S, σ, R, a, w, hI, hf => by
  refine ⟨fun hr => ?_, fun j hj => ?_⟩
  ·obtain ⟨h1, h2⟩ := hI.finish hst hD (all_done hst hD hI.size hr)
   exact hQ h1 h2
  ·obtain ⟨o, ho, h1, h2⟩ := (ready_iff hI.size).1 hj
   refine hI.step hst hD hAp hC hT hV hJ ho h2 h1 (hdst o (List.mem_of_getElem? ho)) fun {σ' R' a' w'} hI' => Inv.orders hdst hQ fuel hI' ?_
   have hjS : j < S.size := by rw [hI.size]; exact (List.getElem?_eq_some_iff.1 ho).1
   have hS : S.toList[j]? = some false := by
    rw [Array.getElem?_toList, Array.getElem?_eq_getElem hjS]
    cases hq : S[j] with
    | false => rfl
    | true => exact absurd (by unfold In; rw [Array.getElem?_eq_getElem hjS, hq]) h1
   have := unl_set hS
   rw [Array.toList_setIfInBounds]
   omega
end
theorem draw_run (hm : P.follows .mixedOrders = true) (hT : TyOk P T) {q : Qs} {rs : Bool} {id : Nat} {ops : Array Oper} {nm : Nat → Nat} {st : Nat → St} {s : St} (hst : ∀ j o, ops.toList[j]? = some o → Step P T q rs ops.toList (nm j) o (st j) (st (j + 1))) (hD : Draws T q rs ops.toList) (hAp : rs = true → ∀ i j o p, i < j → ops.toList[i]? = some o → ops.toList[j]? = some p → Before ops.toList i j ∨ Apart (st 0).x (st i) (st j) o p)
  (hC : ∀ i j p o, ops.toList[i]? = some p → ops.toList[j]? = some o → resvd T rs p = true → isCallV o.op = true → resvd T rs o = false → Before ops.toList i j ∨ nm i ∉ touched (st j).h (st j).t o)
  (hV : ∀ i p, ops.toList[i]? = some p → resvd T rs p = true → s.x ≤ nm i ∧ nm i < (st 0).x) (hJ : ∀ i j o p, ops.toList[i]? = some o → ops.toList[j]? = some p → resvd T rs o = true → resvd T rs p = true → nm i = nm j → i = j)
  (h0t : (st 0).t = s.t) (h0x : s.x ≤ (st 0).x) (h0h : ∀ n, n < s.x → hget (st 0).h n = hget s.h n) (h0r : ∀ i o, ops.toList[i]? = some o → resvd T rs o = true → hget (st 0).h (nm i) = resvOf T o)
  (hdst : ∀ o ∈ ops.toList, DstOk N o) : RunsTo P N (fun Q => (Code.region id ops true).wp P Q) s .normal (st ops.toList.length) := by
 intro σ0 R0 h0' m w0 σ R a w hx hs Q hq
 refine wp_region_any hm ?_
 have hops : ops = ops.toList.toArray := by simp
 rw [hops]
 have hnone : ∀ i, ¬ In (Array.replicate ops.toList.length false) i := fun i hi => by
  unfold In at hi
  rw [Array.getElem?_replicate] at hi
  split at hi <;> simp at hi
 have hdr : HR P σ R s.h s.x w.drew := hs.hr.drew
 have hdr0 : HR P σ R (st 0).h (st 0).x w.drew := (hdr.sub fun n b k hn hk => by rw [← h0h n (hdr.dom n b hn)]; exact hk).widen h0x
 have hex0 : Ext σ R s.h s.x w σ R (st 0).h (st 0).x w.drew := by
  refine ⟨⟨rfl, rfl, rfl, Nat.le_refl _, fun _ _ _ => rfl⟩, h0x, fun _ _ => rfl, fun _ _ hh => hh, fun _ hh => .inl hh, fun n b hn ha hl => .inl ⟨n, b, hn, ?_, hl, rfl⟩⟩
  unfold Alive at ha ⊢
  rw [← h0h n (hdr.pdom hn)]; exact ha
 have hstart : Inv P N T q rs ops.toList nm st σ R s.h s.x w (Array.replicate ops.toList.length false) σ R a w.drew := by
  refine ⟨by simp, fun j p hj => absurd hj (hnone j), fun y _ => by rw [h0t]; exact hs.tm y, fun j p y hj => absurd hj (hnone j), hs.len, hs.df, ?_⟩
  obtain ⟨e, g1, g2, g3, g4⟩ := next_eff T q rs ops.toList ops.toList.length 0 (by omega)
  obtain ⟨g5, g6⟩ := still hst (m := 0) e (by omega) fun i oi a b => g3 i oi a (by omega)
  rw [Nat.zero_add] at g5 g6
  refine ⟨e, g2, fun i o hi ho hE' => ?_, fun o ho => ⟨g4 o ho, hnone e⟩, by rw [g5, g6]; exact hdr0, by rw [g5, g6]; exact hex0, fun i o ho hrv _ => ?_⟩
  ·have := g3 i o (by omega) hi ho
   rw [hE'] at this; cases this
  ·refine ⟨?_, by rw [g5]; exact h0r i o ho hrv⟩
   cases hσ : σ (nm i) with
   | none => rfl
   | some b => have := hdr.dom _ b hσ; have := (hV i o ho hrv).1; omega
 have := Inv.orders hst hD hAp hC hT hV hJ hdst (Q := Q) (fun {σ' R' a' w'} h1 h2 => hq σ' R' a' w' h1 (hx.trans h2)) ops.toList.length hstart (by rw [Array.toList_replicate, unl_rep]; exact Nat.le_refl _)
 simpa using this
theorem DOK.of (hm : P.follows .mixedOrders = true) (hT : TyOk P T) {E : Env X} (hE : EOK P E) : DOK P N T E (drawAny T E.w) := by
 intro id ops s k r _ hdst he
 unfold ropsDraw at he
 cases hd : drawOk T E.w false ops.toList with
 | true =>
  rw [hd, cond_true] at he
  obtain ⟨st, h0, hk, hst⟩ := rops_steps hT hE ops.toList he
  exact ⟨st ops.toList.length, hk, draw_run (nm := fun _ => 0) hm hT hst (drawOk_spec hd) (fun hh => by cases hh) (fun _ _ _ _ _ _ hh => by cases hh) (fun _ _ _ hh => by cases hh) (fun _ _ _ _ _ _ hh => by cases hh) (by rw [h0]) (by rw [h0]; exact Nat.le_refl _) (fun n hn => by rw [h0]) (fun _ _ _ hh => by cases hh) hdst⟩
 | false =>
  rw [hd, cond_false] at he
  have hc := (cond_some he).1
  replace he := (cond_some he).2
  rw [Bool.and_eq_true, List.all_eq_true] at hc
  obtain ⟨hd2, hf⟩ := hc
  obtain ⟨st, h0, hk, hst2⟩ := ropsV_steps hT hE ops.toList he
  have hst : ∀ j o, ops.toList[j]? = some o → Step P T E.w true ops.toList (nmAt T s.x ops.toList j) o (st j) (st (j + 1)) := fun j o hj => (hst2 j o hj).1
  have hpa := (cond_some hk).1
  replace hk := (cond_some hk).2
  obtain ⟨g1, g2, g3⟩ := resvGo_spec (T := T) ops.toList s.h s.x
  have hx0 : (st 0).x = nmAt T s.x ops.toList ops.toList.length := by rw [h0]; exact g1
  have hsome : ∀ {o : Oper}, resvd T true o = true → (resvOf T o).isSome = true := fun hh => by simpa [resvd] using hh
  refine ⟨st ops.toList.length, hk, draw_run (nm := nmAt T s.x ops.toList) hm hT hst (drawOk_spec hd2) (fun _ => by rw [h0]; exact pairs_apart hst hpa) (fun i j p o hp ho hrp hcv hro => by
   have hok := (hst2 j o ho).2 hro
   unfold okCall at hok
   rw [hcv] at hok
   simp only [Bool.not_true, Bool.false_or, Nat.zero_add] at hok
   have := okGo_spec hok i p hp (by simpa [resvd] using hrp)
   rw [Nat.zero_add] at this
   rcases this with h1 | h1
   ·exact .inl (ancsGo_spec ops.toList ops.toList [] (fun j o hj => by simpa using hj) (fun j i hb => by simp at hb) j i h1)
   ·exact .inr h1) (fun i p hp hrv => ⟨?_, ?_⟩) (fun i j o p ho hp h1 h2 => nmAt_inj ho hp (hsome h1) (hsome h2)) (by rw [h0]) ?_ (fun n hn => by rw [h0]; exact g3 n (.inl hn)) (fun i o ho hrv => ?_) hdst⟩
  ·unfold nmAt; omega
  ·rw [hx0]
   have := nmAt_succ (n := s.x) hp (hsome hrv)
   have := nmAt_mono (T := T) (n := s.x) (os := ops.toList) (show i + 1 ≤ ops.toList.length by have := (List.getElem?_eq_some_iff.1 hp).1; omega)
   omega
  ·rw [hx0]; unfold nmAt; omega
  ·obtain ⟨b, hb⟩ := Option.isSome_iff_exists.1 (hsome hrv)
   rw [h0, hb]
   exact g2 i o b ho hb
end Go.Proofs.YtfcloeflcpcheaaGreat.Eng
