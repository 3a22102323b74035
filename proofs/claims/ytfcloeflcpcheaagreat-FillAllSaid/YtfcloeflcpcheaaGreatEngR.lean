/-
The engine, eighteenth text: regions, loops and code, as the program does them. Plain lemmas.
Conditions: the contracts of the functions that are called ('EOK'), of regions that draw their order ('DOK'), and of the loops' own functions ('LOK').
-/
import Derived.Test.YtfcloeflcpcheaaGreatEngQ
import Derived.LoopN
set_option linter.unusedVariables false
set_option linter.unusedSimpArgs false
namespace Go.Proofs.YtfcloeflcpcheaaGreat.Eng
variable {P : Program} {T : Types} {σ σ' : Sg} {R R' : Ro} {h h' : Hp} {x x' : Nat} {w w' : World} {X : Type} {r : X}
structure SR (P : Program) (N : Nat) (σ : Sg) (R : Ro) (s : St) (a : Act) (w : World) : Prop where
 tm : ∀ i, VV σ R (tget s.t i) (a.tmps.getD i undef)
 len : a.tmps.size = N
 df : a.defers = []
 hr : HR P σ R s.h s.x w
theorem constAV_vv (v : Value) : VV σ R (constAV v) v := by
 cases v with
 | int k n => rfl
 | bool b => rfl
 | string s => rfl
 | pointer a => cases a with
  | none => rfl
  | some a => trivial
 | slice a n c =>
  cases a with
  | some a => trivial
  | none =>
   simp only [constAV]
   cases hq : (Nat.beq n 0 && Nat.beq c 0) with
   | false => trivial
   | true =>
    simp only [Bool.and_eq_true, Nat.beq_eq] at hq
    obtain ⟨rfl, rfl⟩ := hq
    rfl
 | func f a b =>
  cases f with
  | func f =>
   simp only [constAV]
   cases hq : (a.toList.isEmpty && b.toList.isEmpty) with
   | false => trivial
   | true =>
    simp only [Bool.and_eq_true, List.isEmpty_iff, Array.toList_eq_nil_iff] at hq
    obtain ⟨rfl, rfl⟩ := hq
    rfl
  | _ => trivial
 | _ => trivial
theorem tm_ev {t : Tm} {a : Act} (ht : ∀ i, VV σ R (tget t i) (a.tmps.getD i undef)) (y : Operand) : VV σ R (evA t y) (a.eval y) := by
 cases y with
 | tmp i => exact ht i
 | const v => exact constAV_vv v
 | global g => trivial
 | func f => rfl
def DstOk (N : Nat) (o : Oper) : Prop := ∀ d, o.dst = some d → d < N
variable {N : Nat}
theorem SR.put {s : St} {a : Act} (hs : SR P N σ R s a w) {d : Option Nat} (hd : ∀ i, d = some i → i < N) {v : AV} {cv : Value} {h' : Hp} {x' : Nat}
  (he : Ext σ R s.h s.x w σ' R' h' x' w') (hv : VV σ' R' v cv) (hr : HR P σ' R' h' x' w') : SR P N σ' R' ⟨putA d v s.t, h', x'⟩ (a.put d cv) w' := by
 cases d with
 | none => exact ⟨fun i => he.vv hs.hr (hs.tm i), hs.len, hs.df, hr⟩
 | some d =>
  refine ⟨fun i => ?_, by simp [Act.put, hs.len], hs.df, hr⟩
  simp only [putA, tget_cons, Act.put]
  by_cases e : d = i
  ·subst e
   rw [if_pos rfl]
   have hd' := hd d rfl
   rw [← hs.len] at hd'
   simpa [Array.getD, hd'] using hv
  ·rw [if_neg e]
   have hi : (a.tmps.setIfInBounds d cv).getD i undef = a.tmps.getD i undef := by
    simp only [Array.getD_eq_getD_getElem?, Array.getElem?_setIfInBounds, if_neg e]
   rw [hi]
   exact he.vv hs.hr (hs.tm i)
theorem dstOf_get : ∀ {l : List Oper} {j d : Nat}, dstOf l j = some d → (l[j]?).bind (·.dst) = some d
 | [], j, d, hh => by simp [dstOf] at hh
 | o :: l, 0, d, hh => by simpa [dstOf] using hh
 | o :: l, j + 1, d, hh => by simpa [dstOf] using dstOf_get (l := l) hh
theorem wanted_is {all : List Oper} {o : Oper} {j d : Nat} {b c : Bool} {tmps : Array Value} (hg : o.guard = some (j, b)) (hd : dstOf all j = some d) (hc : tmps.getD d undef = .bool c) : Region.wanted o (yielded all.toArray tmps) = (c == b) := by
 have h1 : tmps[d]? = some (.bool c) := by
  cases hq : tmps[d]? with
  | none => rw [Array.getD_eq_getD_getElem?, hq] at hc; simp [undef] at hc
  | some v => rw [Array.getD_eq_getD_getElem?, hq] at hc; simp at hc; rw [hc]
 have h2 : yielded all.toArray tmps j = some c := by
  unfold yielded
  have := dstOf_get hd
  simp only [List.getElem?_toArray, this, Option.bind_some, h1]
 unfold Region.wanted
 rw [hg]
 simp only [h2]
 cases b <;> cases c <;> rfl
theorem undef_vv : VV σ R (.tup .fnil) undef := ⟨#[], rfl, rfl⟩
theorem wanted_not {all : List Oper} {o : Oper} {j d : Nat} {b : Bool} {vs : Array Value} {tmps : Array Value} (hg : o.guard = some (j, b)) (hd : dstOf all j = some d) (hc : tmps.getD d undef = .tuple vs) : Region.wanted o (yielded all.toArray tmps) = false := by
 have h2 : yielded all.toArray tmps j = none := by
  unfold yielded
  have := dstOf_get hd
  simp only [List.getElem?_toArray, this, Option.bind_some]
  cases hq : tmps[d]? with
  | none => rfl
  | some v => rw [Array.getD_eq_getD_getElem?, hq] at hc; simp at hc; subst hc; rfl
 unfold Region.wanted
 rw [hg]
 simp only [h2]
 cases b <;> rfl
theorem SR.know {s : St} {a : Act} (hs : SR P N σ R s a w) {d : Nat} {v : AV} (hv : tget s.t d = v) : SR P N σ R ⟨(d, v) :: s.t, s.h, s.x⟩ a w := by
 refine ⟨fun i => ?_, hs.len, hs.df, hs.hr⟩
 simp only [tget_cons]
 by_cases e : d = i
 ·subst e; rw [if_pos rfl, ← hv]; exact hs.tm d
 ·rw [if_neg e]; exact hs.tm i
def RunsTo (P : Program) (N : Nat) (c : (Exit → Act → World → Prop) → Act → World → Prop) (s : St) (e : Exit) (s' : St) : Prop :=
 ∀ {σ0 R0 h0 m w0 σ R a w}, Ext σ0 R0 h0 m w0 σ R s.h s.x w → SR P N σ R s a w → ∀ {Q : Exit → Act → World → Prop},
  (∀ σ' R' a' w', SR P N σ' R' s' a' w' → Ext σ0 R0 h0 m w0 σ' R' s'.h s'.x w' → Q e a' w') → c Q a w
theorem rops_sound (hT : TyOk P T) {E : Env X} (hE : EOK P E) (all : List Oper) : ∀ {os : List Oper} {s : St} {k : St → Option X}, (∀ o ∈ os, DstOk N o) → rops T E all os s k = some r →
  ∃ s', k s' = some r ∧ RunsTo P N (fun Q => wpList P all.toArray Q os) s .normal s'
 | [], s, k, hd, he => ⟨s, he, fun {σ0 R0 h0 m w0 σ R a w} hx hs Q hq => hq σ R a w hs hx⟩
 | o :: os, s, k, hd, he => by
  have hd0 := hd o (List.mem_cons_self ..)
  have hd1 : ∀ o ∈ os, DstOk N o := fun o ho => hd o (List.mem_cons_of_mem _ ho)
  have run : ∀ {s : St}, (∀ {a : Act} {σ R w}, SR P N σ R s a w → Region.wanted o (yielded all.toArray a.tmps) = true) → (aop T E s.t o.op o.type s.h s.x fun v h x => rops T E all os ⟨putA o.dst v s.t, h, x⟩ k) = some r →
    ∃ s', k s' = some r ∧ RunsTo P N (fun Q => wpList P all.toArray Q (o :: os)) s .normal s' := by
   intro s hw he
   obtain ⟨v, h', x', hk, hdone, _⟩ := aop_sound hT hE he
   obtain ⟨s', hk', hrun⟩ := rops_sound hT hE all hd1 hk
   refine ⟨s', hk', fun {σ0 R0 h0 m w0 σ R a w} hx hs Q hq => ?_⟩
   show wpList P all.toArray Q (o :: os) a w
   unfold wpList
   rw [if_pos (hw hs)]
   refine .inl (hdone (tm_ev hs.tm) hs.hr fun cv w' σ' R' hv hr hx' => ?_)
   exact hrun (hx.trans hx') (hs.put hd0 hx' hv hr) hq
  have skip : ∀ {s : St}, (∀ {a : Act} {σ R w}, SR P N σ R s a w → Region.wanted o (yielded all.toArray a.tmps) = false) → rops T E all os ⟨putA o.dst (.tup .fnil) s.t, s.h, s.x⟩ k = some r →
    ∃ s', k s' = some r ∧ RunsTo P N (fun Q => wpList P all.toArray Q (o :: os)) s .normal s' := by
   intro s hw he
   obtain ⟨s', hk', hrun⟩ := rops_sound hT hE all hd1 he
   refine ⟨s', hk', fun {σ0 R0 h0 m w0 σ R a w} hx hs Q hq => ?_⟩
   show wpList P all.toArray Q (o :: os) a w
   unfold wpList
   rw [if_neg (by rw [hw hs]; simp)]
   exact hrun hx (hs.put hd0 (Ext.refl _ _ _ _ _) undef_vv hs.hr) hq
  have know : ∀ {d : Nat} {v : AV} {s' : St}, tget s.t d = v → RunsTo P N (fun Q => wpList P all.toArray Q (o :: os)) ⟨(d, v) :: s.t, s.h, s.x⟩ .normal s' → RunsTo P N (fun Q => wpList P all.toArray Q (o :: os)) s .normal s' := by
   intro d v s' hv hrun σ0 R0 h0 m w0 σ R a w hx hs Q hq
   exact hrun hx (hs.know hv) hq
  unfold rops at he
  split at he
  ·rename_i hg
   exact run (fun hs => by unfold Region.wanted; rw [hg]) he
  ·rename_i j b hg
   split at he
   ·cases he
   ·rename_i d hdj
    split at he
    ·rename_i c hc
     have hcv : ∀ {q : Bool} {a : Act} {σ R w}, SR P N σ R ⟨(d, .bool q) :: s.t, s.h, s.x⟩ a w → Region.wanted o (yielded all.toArray a.tmps) = (q == b) := fun {q a σ R w} hs => by
      have := hs.tm d
      rw [show tget ((d, AV.bool q) :: s.t) d = .bool q by rw [tget_cons, if_pos rfl]] at this
      exact wanted_is hg hdj this
     cases c with
     | true =>
      cases b with
      | true => obtain ⟨s', h1, h2⟩ := run (s := ⟨(d, .bool true) :: s.t, s.h, s.x⟩) (fun hs => hcv hs) he; exact ⟨s', h1, know hc h2⟩
      | false => obtain ⟨s', h1, h2⟩ := skip (s := ⟨(d, .bool true) :: s.t, s.h, s.x⟩) (fun hs => hcv hs) he; exact ⟨s', h1, know hc h2⟩
     | false =>
      cases b with
      | true => obtain ⟨s', h1, h2⟩ := skip (s := ⟨(d, .bool false) :: s.t, s.h, s.x⟩) (fun hs => hcv hs) he; exact ⟨s', h1, know hc h2⟩
      | false => obtain ⟨s', h1, h2⟩ := run (s := ⟨(d, .bool false) :: s.t, s.h, s.x⟩) (fun hs => hcv hs) he; exact ⟨s', h1, know hc h2⟩
    ·rename_i f hc
     refine skip (fun {a σ R w} hs => ?_) he
     have := hs.tm d
     rw [hc] at this
     obtain ⟨vs, hv, _⟩ := this
     exact wanted_not hg hdj hv
    ·cases he
theorem tget_map {live : Live} {f : Nat → AV} : ∀ (l : Live) (i : Nat), tget (l.map fun j => (j.1, f j.1)) i = f i ∨ tget (l.map fun j => (j.1, f j.1)) i = .any
 | [], i => .inr rfl
 | j :: l, i => by
  simp only [List.map_cons, tget_cons]
  by_cases e : j.1 = i
  ·subst e; exact .inl (if_pos rfl)
  ·rw [if_neg e]; exact tget_map (live := live) l i
theorem aget_off_sl : ∀ {c : AV} {p m : Nat}, aget c [p] = some (.sl m) → ∃ o, c.shp.off [p] = some o
 | .node f, p, m, hh => aget_off_sl (c := f) hh
 | .fcons a b, 0, m, hh => ⟨0, off_nil _⟩
 | .fcons a b, p + 1, m, hh => by
  obtain ⟨o, ho⟩ := aget_off_sl (c := b) (p := p) hh
  exact ⟨a.shp.w + o, by simp only [AV.shp, Shp.off]; rw [ho]⟩
 | .vec s n f, p, m, hh => by
  simp only [aget, sget] at hh
  cases s <;> simp [toAV] at hh
 | .lst s l, p, m, hh => by
  simp only [aget, sget] at hh
  cases s <;> simp [toAV] at hh
theorem splice_self {l m : List Value} {o : Nat} (hh : cut l o m.length = m) (hl : o + m.length ≤ l.length) : splice l o m = l := by
 apply List.ext_getElem?
 intro j
 rw [splice_get hl]
 by_cases h1 : j < o
 ·rw [if_pos h1]
 ·rw [if_neg h1]
  by_cases h2 : j < o + m.length
  ·rw [if_pos h2]
   have : m[j - o]? = (cut l o m.length)[j - o]? := by rw [hh]
   rw [this, cut_get, if_pos (by omega)]
   congr 1; omega
  ·rw [if_neg h2]
theorem HR.recast (hr : HR P σ R h x w) {n : Nat} {k : Blk} {c' : AV} (hk : hget h n = some k) (hsh : c'.shp = k.c.shp) (hm0 : k.c.isMap = false) (hm1 : c'.isMap = false) (hc : ∀ cs, VC σ R k.c cs → VC σ R c' cs) (hF : ∀ e s l, c' ≠ .fam e s l) :
  HR P σ R ((n, some ⟨c', k.e⟩) :: h) x w ∧ Ext σ R h x w σ R ((n, some ⟨c', k.e⟩) :: h) x w := by
 have hal : ∀ m, Alive ((n, some ⟨c', k.e⟩) :: h) m → Alive h m := fun m hm => by
  unfold Alive at hm ⊢
  rw [hget_cons] at hm
  by_cases e : n = m
  ·subst e; rw [hk]; simp
  ·rw [if_neg e] at hm; exact hm
 have hw : c'.w = k.c.w := by rw [← AV.shp_w, hsh, AV.shp_w]
 refine ⟨⟨fun m b k' h1 h2 => ?_, fun m b k' h1 h2 h3 h4 => ?_, fun m b k' h1 h2 h3 h4 => ?_, hr.dom, fun m m' b b' h1 h2 h3 h4 => hr.inj m m' b b' h1 h2 (hal m h3) (hal m' h4), hr.ro, fun m b a h1 h2 => hr.sep m b a h1 (hal m h2), hr.lt, fun m b k' e s l h1 h2 h3 => by
   rw [hget_cons] at h2
   by_cases e : n = m
   ·subst e; rw [if_pos rfl] at h2; cases h2
    exact absurd h3 (hF _ _ _)
   ·rw [if_neg e] at h2; exact hr.own m b k' _ s l h1 h2 h3⟩,
  ⟨Fr.refl _ _ _, Nat.le_refl _, fun _ _ => rfl, fun _ _ h => h, fun _ h => .inl h, fun m b h1 h2 h3 => .inl ⟨m, b, h1, hal m h2, h3, rfl⟩⟩⟩
 ·rw [hget_cons] at h2
  by_cases e : n = m
  ·subst e; rw [if_pos rfl] at h2; cases h2
   obtain ⟨q1, q2⟩ := hr.shp n b k h1 hk
   exact ⟨hsh.trans q1, q2⟩
  ·rw [if_neg e] at h2; exact hr.shp m b k' h1 h2
 ·rw [hget_cons] at h2
  by_cases e : n = m
  ·subst e; rw [if_pos rfl] at h2; cases h2
   rw [hm1] at h4; cases h4
  ·rw [if_neg e] at h2; exact hr.mpb m b k' h1 h2 h3 h4
 ·rw [hget_cons] at h2
  by_cases e : n = m
  ·subst e; rw [if_pos rfl] at h2; cases h2
   obtain ⟨q1, cs, fr, q2, q3, q4, q5⟩ := hr.blk n b k h1 hk h3 hm0
   refine ⟨q1, cs, fr, q2, q3, ?_, q5⟩
   show VC σ R c' ((cs.toList.drop b.o).take c'.w)
   rw [hw]; exact hc _ q4
  ·rw [if_neg e] at h2; exact hr.blk m b k' h1 h2 h3 h4
theorem refresh_sound {n p : Nat} {s : St} {v : Value} (hr : HR P σ R s.h s.x w) (hv : V1 σ R (.ptr n []) v) :
  (refresh n p s).t = s.t ∧ ∃ σ', HR P σ' R (refresh n p s).h (refresh n p s).x w ∧ Ext σ R s.h s.x w σ' R (refresh n p s).h (refresh n p s).x w := by
 have same : (s.t = s.t ∧ ∃ σ', HR P σ' R s.h s.x w ∧ Ext σ R s.h s.x w σ' R s.h s.x w) := ⟨rfl, σ, hr, Ext.refl _ _ _ _ _⟩
 unfold refresh
 split
 ·rename_i b hb
  split
  ·rename_i m hm
   split
   ·rename_i bm c' hbm hset
    cases hq : Nat.beq m n with
    | true => exact same
    | false =>
     simp only [cond_false]
     have hmn : m ≠ n := fun e => by subst e; simp at hq
     obtain ⟨B, o0, h1, _, hnl, _⟩ := hv
     have hbm0 := aset_notmap hset
     obtain ⟨_, cs0, fr0, _, _, hvc0, _⟩ := hr.blk n B b h1 hb hnl hbm0
     obtain ⟨o, ho⟩ := aget_off_sl hm
     obtain ⟨_, hu0⟩ := aget_vc hvc0 hm ho
     obtain ⟨u0, _, Bm, s2, len, cap, g1, _⟩ := hu0
     obtain ⟨σ', a1, a2, a3⟩ := hr.alias g1 hbm (b := Bm) (k := bm) rfl rfl (hr.shp m Bm bm g1 hbm) (fun h1 h2 => hr.mpb m Bm bm g1 hbm h1 h2) (fun h1 h2 => hr.blk m Bm bm g1 hbm h1 h2) (fun e s l hh => hr.own m Bm bm e s l g1 hbm hh) (.inl rfl)
     have hlt := hr.dom n B h1
     have hltm := hr.dom m Bm g1
     have hbn : hget ((s.x, some bm) :: (m, none) :: s.h) n = some b := by
      rw [hget_cons, if_neg (by omega), hget_cons, if_neg hmn]; exact hb
     have hσm : σ' m = some Bm := (a3.sg m hltm).trans g1
     have hcast : ∀ cs, VC σ' R b.c cs → VC σ' R c' cs := by
      intro cs hc
      obtain ⟨l1, hu⟩ := aget_vc hc hm ho
      obtain ⟨u, e1, hu1⟩ := hu
      have hx1 : V1 σ' R (.sl s.x) u := by
       obtain ⟨B2, s3, len2, cap2, k1, k2⟩ := hu1
       rw [hσm] at k1; cases k1
       exact ⟨Bm, s3, len2, cap2, a1, k2⟩
      obtain ⟨t1, t2, t3⟩ := aset_vc hc hset ho (show VC σ' R (.sl s.x) [u] from ⟨u, rfl, hx1⟩)
      rw [splice_self (by show cut cs o 1 = [u]; exact e1) (by exact t1)] at t2
      exact t2
     have hshp : c'.shp = b.c.shp := by
      have hc0 := VC.mono (a3.keep hr) a3.rr hvc0
      obtain ⟨l1, hu⟩ := aget_vc hc0 hm ho
      obtain ⟨u, e1, hu1⟩ := hu
      have hx1 : V1 σ' R (.sl s.x) u := by
       obtain ⟨B2, s3, len2, cap2, k1, k2⟩ := hu1
       rw [hσm] at k1; cases k1
       exact ⟨Bm, s3, len2, cap2, a1, k2⟩
      exact (aset_vc hc0 hset ho (show VC σ' R (.sl s.x) [u] from ⟨u, rfl, hx1⟩)).2.2
     have hm1 : c'.isMap = false := by
      cases hq2 : c'.isMap with
      | false => rfl
      | true =>
       have hc0 := hcast _ (VC.mono (a3.keep hr) a3.rr hvc0)
       rw [vc_map hc0] at hq2; cases hq2
     obtain ⟨r1, r2⟩ := a2.recast hbn hshp hbm0 hm1 hcast (aset_notfam hset)
     exact ⟨trivial, σ', r1, a3.trans r2⟩
   ·exact same
  ·exact same
 ·exact same
theorem noneOf_fam {c : Sch} {fe : Nat} {s : Sch} {l : List (List s.den)} (hh : noneOf c = .fam fe s l) : l = [] := by
 unfold noneOf at hh
 split at hh <;> cases hh
 rfl
theorem noneOf_shp (c : Sch) : ∃ s, (noneOf c).shp = .arr 0 s := by
 unfold noneOf
 split
 ·exact ⟨.one, rfl⟩
 ·exact ⟨c.shp, rfl⟩
theorem rows_sound : ∀ {live : Live} {s : St} {a : Act} {w : World} {σ : Sg} {R : Ro} {σ0 : Sg} {R0 : Ro} {h0 : Hp} {m : Nat} {w0 : World}, Ext σ0 R0 h0 m w0 σ R s.h s.x w → SR P N σ R s a w →
  ∃ σ' R', SR P N σ' R' (rows live s) a w ∧ Ext σ0 R0 h0 m w0 σ' R' (rows live s).h (rows live s).x w
 | [], s, a, w, σ, R, σ0, R0, h0, m, w0, hx, hs => ⟨σ, R, hs, hx⟩
 | (_, none) :: l, s, a, w, σ, R, σ0, R0, h0, m, w0, hx, hs => rows_sound (live := l) hx hs
 | (i, some (c, e)) :: l, s, a, w, σ, R, σ0, R0, h0, m, w0, hx, hs => by
  unfold rows
  split
  ·rename_i hnil
   obtain ⟨q1, q2⟩ := hs.hr.virtc (noneOf c) e (fun _ _ _ hh => noneOf_fam hh)
   obtain ⟨sn, hsn⟩ := noneOf_shp c
   refine rows_sound (live := l) (hx.trans q2) ⟨fun j => ?_, hs.len, hs.df, q1⟩
   simp only [tget_cons]
   by_cases hj : i = j
   ·subst hj
    rw [if_pos rfl]
    have hv := hs.tm i
    rw [hnil] at hv
    have hv' : a.tmps.getD i undef = .slice none 0 0 := hv
    exact ⟨⟨0, 0, (noneOf c).shp, e, true, 0, []⟩, sn, 0, 0, by simp [Sg.put], hsn, hv', Nat.le_refl _, (fun hh => by cases hh), by simp [maxLen], fun _ => rfl⟩
   ·rw [if_neg hj]; exact q2.vv hs.hr (hs.tm j)
  ·rename_i n hptr
   cases hq : decide (c = .fnil) with
   | false => exact rows_sound (live := l) hx hs
   | true =>
    have hv := hs.tm i
    rw [hptr] at hv
    obtain ⟨p1, σ', p2, p3⟩ := refresh_sound (p := e) hs.hr hv
    simp only [cond_true]
    exact rows_sound (live := l) (hx.trans p3) ⟨fun j => by rw [p1]; exact p3.vv hs.hr (hs.tm j), hs.len, hs.df, p2⟩
  ·exact rows_sound (live := l) hx hs
theorem clean_sound {m : Nat} {live : Live} {s : St} {k : St → Option X} (he : clean m live s k = some r) :
  ∃ s', k s' = some r ∧ ∀ {σ0 R0 h0 w0 σ R a w}, Ext σ0 R0 h0 m w0 σ R s.h s.x w → SR P N σ R s a w → ∃ σ' R', SR P N σ' R' s' a w ∧ Ext σ0 R0 h0 m w0 σ' R' s'.h s'.x w := by
 unfold clean at he
 generalize hs1 : rows live s = s1 at he
 unfold cleanGo at he
 dsimp only at he
 split at he
 ·rename_i H hp
  refine ⟨_, he, fun {σ0 R0 h0 w0 σ R a w} hx hs => ?_⟩
  obtain ⟨σ', R', hs', hx'⟩ := rows_sound (live := live) hx hs
  rw [hs1] at hs' hx'
  obtain ⟨hd, hm⟩ := reached_spec m s1.h (live.flatMap fun i => (tget s1.t i.1).names)
  refine ⟨_, R', ⟨fun i => ?_, hs'.len, hs'.df, HR.pull hs'.hr hd hp⟩, Ext.pull hx' hm hp⟩
  rcases tget_map (live := live) (f := fun i => (tget s1.t i).renAny fun n => idxN (reached m s1.h (live.flatMap fun i => (tget s1.t i.1).names)) n 0) live i with e | e
  ·rw [e]; exact renAny_vv (tie_idx _) (hs'.tm i)
  ·rw [e]; trivial
 ·cases he
def RunsM (P : Program) (N m : Nat) (c : (Exit → Act → World → Prop) → Act → World → Prop) (s : St) (e : Exit) (s' : St) : Prop :=
 ∀ {σ0 R0 h0 w0 σ R a w}, Ext σ0 R0 h0 m w0 σ R s.h s.x w → SR P N σ R s a w → ∀ {Q : Exit → Act → World → Prop},
  (∀ σ' R' a' w', SR P N σ' R' s' a' w' → Ext σ0 R0 h0 m w0 σ' R' s'.h s'.x w' → Q e a' w') → c Q a w
theorem iter_sound {m : Nat} {live : Live} {lo : Exit → Live} {c : Code} {F : St → (Exit → St → Option X) → Option X}
  (hF : ∀ {s k r}, F s k = some r → ∃ e s', k e s' = some r ∧ RunsM P N m (fun Q => c.wp P Q) s e s') :
  ∀ (n : Nat) {s : St} {k : Exit → St → Option X} {r : X}, iter m live lo F n s k = some r → ∃ e s', k e s' = some r ∧ RunsM P N m (fun Q => Code.rounds P c Q n) s e s'
 | 0, s, k, r, he => by cases he
 | n + 1, s, k, r, he => by
  obtain ⟨e, s1, h1, h2⟩ := hF he
  have other : e ≠ .normal → (clean m (lo e) s1 fun s'' => k e s'') = some r → ∃ e s', k e s' = some r ∧ RunsM P N m (fun Q => Code.rounds P c Q (n + 1)) s e s' := by
   intro hne hk
   obtain ⟨s2, h3, h4⟩ := clean_sound (P := P) (N := N) hk
   refine ⟨e, s2, h3, fun {σ0 R0 h0 w0 σ R a w} hx hs Q hq => ?_⟩
   show Code.rounds P c Q (n + 1) a w
   rw [rounds_succ]
   refine h2 hx hs fun σ' R' a' w' h5 h6 => ?_
   obtain ⟨σ2, R2, h7, h8⟩ := h4 h6 h5
   cases e <;> first | exact absurd rfl hne | exact hq σ2 R2 a' w' h7 h8
  cases e with
  | normal =>
   obtain ⟨s2, h3, h4⟩ := clean_sound (P := P) (N := N) h1
   obtain ⟨e', s3, h5, h6⟩ := iter_sound hF n h3
   refine ⟨e', s3, h5, fun {σ0 R0 h0 w0 σ R a w} hx hs Q hq => ?_⟩
   show Code.rounds P c Q (n + 1) a w
   rw [rounds_succ]
   refine h2 hx hs fun σ' R' a' w' h7 h8 => ?_
   obtain ⟨σ2, R2, h9, h10⟩ := h4 h8 h7
   exact h6 h10 h9 hq
  | _ => exact other (by simp) h1
def DOK (P : Program) (N : Nat) (T : Types) (E : Env X) (D : List Oper → Bool) : Prop :=
 ∀ {id ops s k r}, D ops.toList = true → (∀ o ∈ ops.toList, DstOk N o) → ropsDraw T E ops.toList s k = some r →
  ∃ s', k s' = some r ∧ RunsTo P N (fun Q => (Code.region id ops true).wp P Q) s .normal s'
theorem DOK.none {E : Env X} : DOK P N T E (fun _ => false) := fun hd => by cases hd
def LOK (m : Nat) (T : Types) (E : Env X) (D : List Oper → Bool) : Loops X → Code → Prop
 | L, .seq a b => LOK m T E D L a ∧ LOK m T E D L b
 | L, .cond _ a b => LOK m T E D L a ∧ LOK m T E D L b
 | L, .block _ a => LOK m T E D L a
 | L, .loop a => ∃ L', LOK m T E D L' a ∧ ∀ {s k r}, L (firstRegion a) s k = some r → ∃ live lo n, clean m live s (fun s => iter m live lo (aexec T E D L' a) n s k) = some r
 | _, _ => True
theorem aexec_sound (hT : TyOk P T) {E : Env X} (hE : EOK P E) {D : List Oper → Bool} (hD : DOK P N T E D) {m : Nat} :
  ∀ (c : Code) {L : Loops X} {s : St} {k : Exit → St → Option X} {r : X}, LOK m T E D L c → dstB N c = true → aexec T E D L c s k = some r →
   ∃ e s', k e s' = some r ∧ RunsM P N m (fun Q => c.wp P Q) s e s'
 | .skip, L, s, k, r, hL, hd, he => ⟨_, _, he, fun {σ0 R0 h0 w0 σ R a w} hx hs Q hq => wp_skip (hq σ R a w hs hx)⟩
 | .exit id, L, s, k, r, hL, hd, he => ⟨_, _, he, fun {σ0 R0 h0 w0 σ R a w} hx hs Q hq => wp_exit (hq σ R a w hs hx)⟩
 | .ret, L, s, k, r, hL, hd, he => ⟨_, _, he, fun {σ0 R0 h0 w0 σ R a w} hx hs Q hq => wp_ret (hq σ R a w hs hx)⟩
 | .region id ops draw, L, s, k, r, hL, hd, he => by
  have hd' : ∀ o ∈ ops.toList, DstOk N o := fun o ho d hdo => by
   simp only [dstB, List.all_eq_true] at hd
   have := hd o ho
   rw [hdo] at this
   exact Nat.blt_eq.mp this
  cases draw with
  | false =>
   obtain ⟨s', h1, h2⟩ := rops_sound hT hE ops.toList hd' he
   exact ⟨.normal, s', h1, fun {σ0 R0 h0 w0 σ R a w} hx hs Q hq => wp_region_list (h2 hx hs hq)⟩
  | true =>
   simp only [aexec, cond_true] at he
   obtain ⟨h0, he⟩ := cond_some he
   obtain ⟨s', h1, h2⟩ := hD (id := id) h0 hd' he
   exact ⟨.normal, s', h1, fun {σ0 R0 h0 w0 σ R a w} hx hs Q hq => h2 hx hs hq⟩
 | .seq a b, L, s, k, r, hL, hd, he => by
  simp only [dstB, Bool.and_eq_true] at hd
  obtain ⟨e, s1, h1, h2⟩ := aexec_sound hT hE hD a hL.1 hd.1 he
  have other : e ≠ .normal → k e s1 = some r → ∃ e s', k e s' = some r ∧ RunsM P N m (fun Q => (Code.seq a b).wp P Q) s e s' := by
   intro hne hk
   refine ⟨e, s1, hk, fun {σ0 R0 h0 w0 σ R ac w} hx hs Q hq => wp_seq ?_⟩
   exact h2 hx hs fun σ' R' a' w' h3 h4 => by cases e <;> first | exact absurd rfl hne | exact hq σ' R' a' w' h3 h4
  cases e with
  | normal =>
   obtain ⟨e', s2, h3, h4⟩ := aexec_sound hT hE hD b hL.2 hd.2 h1
   refine ⟨e', s2, h3, fun {σ0 R0 h0 w0 σ R ac w} hx hs Q hq => wp_seq ?_⟩
   exact h2 hx hs fun σ' R' a' w' h5 h6 => h4 h6 h5 hq
  | _ => exact other (by simp) h1
 | .cond c a b, L, s, k, r, hL, hd, he => by
  simp only [dstB, Bool.and_eq_true] at hd
  simp only [aexec] at he
  split at he
  ·rename_i q hq
   have hev : ∀ {σ R ac w}, SR P N σ R s ac w → ac.eval c = .bool q := fun {σ R ac w} hs => by
    have := tm_ev hs.tm c
    rw [hq] at this; exact this
   cases q with
   | true =>
    obtain ⟨e, s1, h1, h2⟩ := aexec_sound hT hE hD a hL.1 hd.1 he
    exact ⟨e, s1, h1, fun {σ0 R0 h0 w0 σ R ac w} hx hs Q hq => wp_cond_true (hev hs) (h2 hx hs hq)⟩
   | false =>
    obtain ⟨e, s1, h1, h2⟩ := aexec_sound hT hE hD b hL.2 hd.2 he
    exact ⟨e, s1, h1, fun {σ0 R0 h0 w0 σ R ac w} hx hs Q hq => wp_cond_false (hev hs) (h2 hx hs hq)⟩
  ·cases he
 | .block id a, L, s, k, r, hL, hd, he => by
  simp only [dstB] at hd
  obtain ⟨e, s1, h1, h2⟩ := aexec_sound hT hE hD a hL hd he
  cases e with
  | exit i =>
   simp only at h1
   cases hq : Nat.beq i id with
   | true =>
    rw [hq] at h1
    have := Nat.eq_of_beq_eq_true hq
    exact ⟨.normal, s1, h1, fun {σ0 R0 h0 w0 σ R ac w} hx hs Q hq => wp_block (h2 hx hs fun σ' R' a' w' h3 h4 => by simp only [Exit.inBlock, if_pos this]; exact hq σ' R' a' w' h3 h4)⟩
   | false =>
    rw [hq] at h1
    have : i ≠ id := fun e => by subst e; simp at hq
    exact ⟨.exit i, s1, h1, fun {σ0 R0 h0 w0 σ R ac w} hx hs Q hq => wp_block (h2 hx hs fun σ' R' a' w' h3 h4 => by simp only [Exit.inBlock, if_neg this]; exact hq σ' R' a' w' h3 h4)⟩
  | _ => exact ⟨_, s1, h1, fun {σ0 R0 h0 w0 σ R ac w} hx hs Q hq => wp_block (h2 hx hs fun σ' R' a' w' h3 h4 => hq σ' R' a' w' h3 h4)⟩
 | .loop a, L, s, k, r, hL, hd, he => by
  simp only [dstB] at hd
  obtain ⟨L', hL', hl⟩ := hL
  obtain ⟨live, lo, n, hc⟩ := hl he
  obtain ⟨s1, h1, h2⟩ := clean_sound (P := P) (N := N) hc
  obtain ⟨e, s2, h3, h4⟩ := iter_sound (fun {s k r} hh => aexec_sound hT hE hD a hL' hd hh) n h1
  refine ⟨e, s2, h3, fun {σ0 R0 h0 w0 σ R ac w} hx hs Q hq => ?_⟩
  obtain ⟨σ1, R1, h5, h6⟩ := h2 hx hs
  exact wp_loop_rounds n (h4 h6 h5 hq)
 | .scope _, L, s, k, r, hL, hd, he => by cases he
 | .label _, L, s, k, r, hL, hd, he => by cases he
 | .goto _, L, s, k, r, hL, hd, he => by cases he
 | .refuse _, L, s, k, r, hL, hd, he => by cases he
 | .rangeFunc _ _ _ _, L, s, k, r, hL, hd, he => by cases he
end Go.Proofs.YtfcloeflcpcheaaGreat.Eng
