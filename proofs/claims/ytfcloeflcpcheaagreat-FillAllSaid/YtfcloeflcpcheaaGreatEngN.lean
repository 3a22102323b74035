/-
The engine, fourteenth text: append. Plain lemmas.
Conditions: none.
-/
import Derived.Test.YtfcloeflcpcheaaGreatEngM
import Derived.Deep.AppendSrc
import Derived.Lib.AppendZerosOnto
set_option linter.unusedVariables false
set_option linter.unusedSimpArgs false
namespace Go.Proofs.YtfcloeflcpcheaaGreat.Eng
variable {P : Program} {T : Types} {σ σ' : Sg} {R R' : Ro} {h h' : Hp} {x x' : Nat} {w w' : World} {X : Type} {r : X}
theorem gL_append {s : Sch} {a b : List s.den} {i : Nat} : gL s (a ++ b) i = if i < a.length then gL s a i else gL s b (i - a.length) := by
 simp only [gL, List.getD_eq_getElem?_getD, List.getElem?_append]
 split <;> rfl
theorem append_sc {s : Sch} {a b : List s.den} {ca cb : List Value} (ha : SC R (.arr a.length s) (gL s a) ca) (hb : SC R (.arr b.length s) (gL s b) cb) : SC R (.arr (a ++ b).length s) (gL s (a ++ b)) (ca ++ cb) := by
 have la := ha.1
 have lb := hb.1
 refine ⟨by simp [la, lb, Nat.add_mul], fun i hi => ?_⟩
 show SC R s (gL s (a ++ b) i) (cut (ca ++ cb) (i * s.w) s.w)
 rw [gL_append]
 by_cases h1 : i < a.length
 ·have := mul_in (w := s.w) h1
  rw [if_pos h1, cut_left (by omega)]
  exact ha.2 i h1
 ·rw [if_neg h1]
  have e : i * s.w = ca.length + (i - a.length) * s.w := by rw [la, ← Nat.add_mul]; congr 1; omega
  rw [e, cut_right]
  rw [List.length_append] at hi
  exact hb.2 (i - a.length) (by omega)
theorem append_none {t ty e : Nat} {i : TypeInfo} (ht : P.underlying t = some (.slice e)) (hi : P.info? e = some i) {base : Option Addr} {sLen sCap c : Nat} {A : Option Addr} (hroom : sLen ≤ sCap) :
  (Builtin.append_ #[t, t] ty #[.slice base sLen sCap, .slice A 0 c]).run P w = .ok (.slice base sLen sCap) w := by
 cases base <;> cases A <;> simp [Builtin.append_, run_underlying ht, sizeOf, typeInfo, hi, Builtin.lenOf, hroom, Builtin.firstCells, loadCells, loadCellsFrom, storeCells]
structure AppArg (P : Program) (t t' tr e : TypeId) (i : TypeInfo) (z : Value) (w : World) (cb : Value) (k : Nat) (news : List Value) : Prop where
 none : k = 0 → ∀ {base : Option Addr} {sLen sCap : Nat}, sLen ≤ sCap → (Builtin.append_ #[t, t'] tr #[.slice base sLen sCap, cb]).run P w = .ok (.slice base sLen sCap) w
 room : 0 < k → ∀ {g d sLen sCap : Nat} {cur : Array Value} {fz : Nat × Nat}, w.heap[g]? = some (.cells cur e fz) → (∀ j, j < cur.size → ¬ (fz.1 ≤ j ∧ j < fz.2)) → sLen + k ≤ sCap → d + sLen * i.size + news.length ≤ cur.size →
  (Builtin.append_ #[t, t'] tr #[.slice (some ⟨g, d, Option.none⟩) sLen sCap, cb]).run P w =
   .ok (.slice (some ⟨g, d, Option.none⟩) (sLen + k) sCap) (w.setRow g (cur.toList.take (d + sLen * i.size) ++ news ++ cur.toList.drop (d + sLen * i.size + news.length)).toArray)
 grow : 0 < k → ∀ {base : Option Addr} {sLen sCap : Nat} {olds : List Value}, (Builtin.firstCells i.size sLen (.slice base sLen sCap)).run P w.drew = .ok olds.toArray w.drew → sCap < sLen + k → (sLen + k) * i.bytes ≤ 140737488355328 → sLen + k ≤ 140737488355328 →
  (Builtin.append_ #[t, t'] tr #[.slice base sLen sCap, cb]).run P w =
   .ok (.slice (some ⟨w.heap.size, 0, Option.none⟩) (sLen + k) (grownCap w (sLen + k) sCap e)) (w.drew.alloc (.cells (olds.toArray ++ news.toArray ++ Builtin.zeroCells z.cells (grownCap w (sLen + k) sCap e - (sLen + k))) e))
theorem AppArg.src {t t' tr e : TypeId} {i : TypeInfo} {z : Value} (ht : P.underlying t = some (.slice e)) (hi : P.info? e = some i) (hz : i.zero = some z) {cb : Value} {k : Nat} {news : List Value} (hs : Src P i.size t' cb k news w) :
  AppArg P t t' tr e i z w cb k news := by
 refine ⟨fun h0 base sLen sCap hroom => ?_, fun hk g d sLen sCap cur fz hg hfz hroom hfit => ?_, fun hk base sLen sCap olds hold hg hb hb2 => ?_⟩
 ·subst h0
  obtain rfl : news = [] := List.eq_nil_of_length_eq_zero (by rw [hs.newsLen]; simp)
  rcases hs.kind with ⟨e', hk⟩ | hk <;> cases base <;> simp [Builtin.append_, run_underlying ht, run_underlying hk, sizeOf, typeInfo, hi, hs.len, hroom, hs.cells, storeCells]
 ·have hst := storeCells_run P g (d + sLen * i.size) e fz news 0 cur w hg (fun j hj => hfz j (by omega)) (by omega) hs.one
  simp only [Nat.add_zero] at hst
  rcases hs.kind with ⟨e', hk⟩ | hk <;> simp [Builtin.append_, run_underlying ht, run_underlying hk, sizeOf, typeInfo, hi, hs.len, hroom, hs.cells, Addr.add_lit, hst]
 ·rw [run_append_grow_src w t t' tr e i z ht hi hz base sLen sCap olds hold cb k news hs hg (by omega) (growslice_fits hg hb)]
  simp
theorem AppArg.zeros {t t' tr e : TypeId} {i : TypeInfo} {z : Value} {kn kq : IntKind} (k : Nat) (ht : P.underlying t = some (.slice e)) (ht' : P.underlying t' = some (.int kn)) (hi : P.info? e = some i) (hz : i.zero = some z) (hs0 : 0 < i.size) (hzs : z.cells.size = i.size)
  (hzo : ∀ u ∈ (Builtin.zeroCells z.cells k).toList, u.oneCell' = true) (hkb : k * i.bytes ≤ 140737488355328) (hk9 : k ≤ 140737488355328) : AppArg P t t' tr e i z w (.int kq k) k (Builtin.zeroCells z.cells k).toList := by
 have hw : IntKind.i64.wrap (k : Int) = k := by rw [IntKind.wrap_i64]; omega
 have hneg : ¬ ((k : Int) < 0) := by omega
 have h48i : ¬ (281474976710656 < (k : Int) * (i.bytes : Int)) := by rw [← Int.natCast_mul]; omega
 refine ⟨fun h0 base sLen sCap hroom => ?_, fun hk g d sLen sCap cur fz hg hfz hroom hfit => ?_, fun hk base sLen sCap olds hold hg hb hb2 => ?_⟩
 ·subst h0
  cases base <;> simp [Builtin.append_, run_underlying ht, run_underlying ht', sizeOf, typeInfo, hi, asInt, asIntOf, show IntKind.i64.wrap 0 = 0 from by decide, hroom, storeCells]
 ·have hst := storeCells_run P g (d + sLen * i.size) e fz (Builtin.zeroCells z.cells k).toList 0 cur w hg (fun j hj => hfz j (by omega)) (by omega) hzo
  simp only [Nat.add_zero] at hst
  have hns : ¬ (k * i.size = 0) := Nat.mul_ne_zero (by omega) (by omega)
  simp [Builtin.append_, run_underlying ht, run_underlying ht', sizeOf, typeInfo, hi, hz, zeroValue, asInt, asIntOf, hw, hneg, h48i, hns, hroom, Addr.add_lit, hst]
 ·have := Lib.run_append_grow_zeros (P := P) w t t' tr e i z kq kn ht ht' hi hz base sLen sCap olds hold k hk hs0 hg (by omega) (by omega) (growslice_fits hg hb)
  rw [this]
theorem moreA_sound (hT : TyOk P T) {t t' tr e : TypeId} {s : Sch} {b : AV} {i : TypeInfo} {z : Value} {km : List s.den → Option X} (ht : P.underlying t = some (.slice e)) (hi : P.info? e = some i) (hz : i.zero = some z) (hsz : i.size = s.w) (hw0 : s.w ≠ 0)
  (hzc : ∀ R : Ro, SC R s s.zero z.cells.toList) (he : moreA T t t' h s b km = some r) :
  ∃ m, km m = some r ∧ ∀ {σ R w x cb}, HR P σ R h x w → VV σ R b cb → m.length * i.bytes ≤ 140737488355328 → ∃ news, SC R (.arr m.length s) (gL s m) news ∧ AppArg P t t' tr e i z w cb m.length news := by
 unfold moreA at he
 have hzs : z.cells.size = s.w := by have := SC.length (hzc (fun _ => none)); simpa using this
 cases hq : Nat.beq t t' with
 | true =>
  rw [hq] at he
  replace he : (match elems h s b with | some m => km m | none => none) = some r := he
  obtain rfl := Nat.eq_of_beq_eq_true hq
  split at he
  ·rename_i m hm
   refine ⟨m, he, fun {σ R w x cb} hr hb hbd => ?_⟩
   obtain ⟨A, c, news, rfl, hnsc, hcell⟩ := elems_spec hm hr hb hw0
   refine ⟨news, hnsc, ?_⟩
   rcases Nat.eq_zero_or_pos m.length with h0 | h0
   ·have hn0 : news = [] := List.eq_nil_of_length_eq_zero (by have := hnsc.1; rw [h0] at this; simpa using this)
    rw [h0, hn0]
    refine ⟨fun _ base sLen sCap hroom => ?_, fun hk => absurd hk (Nat.lt_irrefl 0), fun hk => absurd hk (Nat.lt_irrefl 0)⟩
    exact append_none ht hi hroom
   ·obtain ⟨ad, rfl, hcl⟩ := hcell h0
    exact AppArg.src ht hi hz (Src.ofSlice w ht ad m.length c news (by rw [hsz]; exact hnsc.1) hcl (SC.one hnsc))
  ·cases he
 | false =>
  rw [hq, cond_false] at he
  split at he
  ·rename_i y
   obtain ⟨hs, he⟩ := cond_some he
   split at he
   ·rename_i q
    subst q
    refine ⟨_, he, fun {σ R w x cb} hr hb hbd => ?_⟩
    obtain rfl : cb = _ := hb
    have hbs := bytes_sc (R := R) (strList y)
    have hl := strList_length y
    have hnews : byteCells y = (strList y).map fun n => Value.int .u8 n := by simp [byteCells, strList]
    refine ⟨byteCells y, by rw [hnews]; exact hbs, ?_⟩
    have hi1 : i.size = 1 := hsz
    have := AppArg.src (tr := tr) (w := w) ht hi hz (by rw [hi1]; exact Src.ofString w (isStr_spec hT hs) y)
    show AppArg P t t' tr e i z w (.string y) (strList y).length (byteCells y)
    rw [hl]
    exact this
   ·cases he
  ·rename_i k n
   obtain ⟨hs, he⟩ := cond_some he
   obtain ⟨h0, he⟩ := cond_some he
   obtain ⟨h1, he⟩ := cond_some he
   simp only [decide_eq_true_eq] at h0 h1
   refine ⟨_, he, fun {σ R w x cb} hr hb hbd => ?_⟩
   obtain rfl : cb = _ := hb
   rw [List.length_replicate] at hbd ⊢
   obtain ⟨kn, hkn⟩ : ∃ kn, P.underlying t' = some (.int kn) := by
    unfold isK at hs
    split at hs
    ·rename_i ti hti
     cases hk : ti.k <;> rw [hk] at hs <;> first | (cases hs; done) | skip
     exact ⟨_, int_kind hT hti hk⟩
    ·cases hs
   have hzl : (Builtin.zeroCells z.cells n.toNat).toList.length = n.toNat * s.w := by simp [Builtin.zeroCells, hzs]
   have hzsc : SC R (.arr n.toNat s) (gL s (List.replicate n.toNat s.zero)) (Builtin.zeroCells z.cells n.toNat).toList := by
    have := zeros_sc (hzc R) hw0 n.toNat (Nat.le_refl (n.toNat * s.w))
    have e1 : madeCells z.cells (n.toNat * s.w) = Builtin.zeroCells z.cells n.toNat := by unfold madeCells Builtin.zeroCells; rw [hzs]
    rw [e1, List.take_of_length_le (by omega)] at this
    exact this
   refine ⟨_, hzsc, ?_⟩
   have := AppArg.zeros (P := P) (tr := tr) (w := w) (kq := k) n.toNat ht hkn hi hz (by omega) (by rw [hsz]; exact hzs) (SC.one hzsc) hbd (by omega)
   rw [Int.toNat_of_nonneg h0] at this
   exact this
  ·cases he
theorem grown_new {s : Sch} {l : List s.den} {e : Nat} {olds news : List Value} {z : Value} {cap : Nat} (hr : HR P σ R h x w) (hc : SC R (.arr l.length s) (gL s l) (olds ++ news)) (hz : z.cells.size = s.w) (hge : l.length ≤ cap) (hm : cap ≤ maxLen) :
  ∃ σ' R', V1 σ' R' (.sl x) (.slice (some ⟨w.heap.size, 0, none⟩) l.length cap) ∧ HR P σ' R' ((x, some ⟨.lst s l, e⟩) :: h) (x + 1) (w.drew.alloc (.cells (olds.toArray ++ news.toArray ++ Builtin.zeroCells z.cells (cap - l.length)) e)) ∧
   Ext σ R h x w σ' R' ((x, some ⟨.lst s l, e⟩) :: h) (x + 1) (w.drew.alloc (.cells (olds.toArray ++ news.toArray ++ Builtin.zeroCells z.cells (cap - l.length)) e)) := by
 have hl : olds.length + news.length = l.length * s.w := by have := hc.1; simpa using this
 obtain ⟨σ', R', r1, r2, r3⟩ := row_new (l := l) (e := e) (cs := olds.toArray ++ news.toArray ++ Builtin.zeroCells z.cells (cap - l.length)) (fr := (0, 0)) (cap := cap) hr.drew (by
  have : (olds.toArray ++ news.toArray ++ Builtin.zeroCells z.cells (cap - l.length)).toList.take (l.length * s.w) = olds ++ news := by
   simp only [Array.toList_append]
   rw [List.take_left' (by simp; exact hl)]
  rw [this]; exact hc) (by
  simp only [Array.size_append, List.size_toArray, size_zeroCells, hz]
  rw [hl, ← Nat.add_mul]; congr 1; omega) hge hm (by intro j hj; simp)
 exact ⟨σ', R', r1, r2, Ext.drew.trans r3⟩
theorem HR.alias (hr : HR P σ R h x w) {n : Nat} {b0 : Bk} {k0 : Blk} (hn0 : σ n = some b0) (hk0 : hget h n = some k0) {b : Bk} {k : Blk} (hg : b.g = b0.g) (hnil : b.nil = b0.nil) (hsh : k.c.shp = b.sh ∧ k.e = b.e)
  (hmap : b.nil = false → k.c.isMap = true → MapAt w b k.c) (hblk : b.nil = false → k.c.isMap = false → b.o + b.sh.w ≤ b.sz ∧ ∃ cs fr, w.heap[b.g]? = some (.cells cs b.e fr) ∧ cs.size = b.sz ∧ VC σ R k.c ((cs.toList.drop b.o).take k.c.w) ∧ ∀ j, j < b.sz → ¬ (fr.1 ≤ j ∧ j < fr.2)) (hF : ∀ e s l, k.c = .fam e s l → OwnAt w R b e s l) (hin : b.inn = b0.inn ∨ b.inn = []) :
  ∃ σ', σ' x = some b ∧ HR P σ' R ((x, some k) :: (n, none) :: h) (x + 1) w ∧ Ext σ R h x w σ' R ((x, some k) :: (n, none) :: h) (x + 1) w := by
 have hdn := hr.dom n b0 hn0
 have hna : Alive h n := by unfold Alive; simp [hk0]
 have hs : ∀ m b', σ m = some b' → Sg.put σ x b m = some b' := fun m b' hm => by
  have := hr.dom m b' hm
  unfold Sg.put; rw [if_neg (by omega)]; exact hm
 have hgt : ∀ m k', m ≠ x → hget ((x, some k) :: (n, none) :: h) m = some k' → hget h m = some k' ∧ m ≠ n := fun m k' hm ha => by
  rw [hget_cons, if_neg (Ne.symm hm), hget_cons] at ha
  by_cases e : n = m
  ·rw [if_pos e] at ha; cases ha
  ·rw [if_neg e] at ha; exact ⟨ha, fun e' => e e'.symm⟩
 have hpx : ∀ c, Pc (Sg.put σ x b) x c → ∃ c', Pc σ n c' ∧ c'.g = c.g ∧ c'.nil = c.nil := fun c hc => by
  obtain ⟨B, h1, h2⟩ := hc
  simp only [Sg.put, if_true, Option.some.injEq] at h1
  subst h1
  rcases h2 with rfl | h2
  ·exact ⟨b0, .of hn0, hg.symm, hnil.symm⟩
  ·rcases hin with hin | hin
   ·exact ⟨c, ⟨b0, hn0, .inr (by rw [← hin]; exact h2)⟩, rfl, rfl⟩
   ·rw [hin] at h2; cases h2
 have back : ∀ m b' , Pc (Sg.put σ x b) m b' → Alive ((x, some k) :: (n, none) :: h) m → ∃ m' b'', Pc σ m' b'' ∧ Alive h m' ∧ (m' = if m = x then n else m) ∧ b''.g = b'.g ∧ b''.nil = b'.nil := by
  intro m b' hm ha
  by_cases e1 : m = x
  ·subst e1
   obtain ⟨c', q1, q2, q3⟩ := hpx b' hm
   exact ⟨n, c', q1, hna, by rw [if_pos rfl], q2, q3⟩
  ·replace hm := hm.put_ne e1
   obtain ⟨k', hk'⟩ := Option.ne_none_iff_exists'.1 ha
   obtain ⟨q1, q2⟩ := hgt m k' e1 hk'
   exact ⟨m, b', hm, by unfold Alive; simp [q1], by rw [if_neg e1], rfl, rfl⟩
 refine ⟨Sg.put σ x b, by simp [Sg.put], ⟨?_, ?_, ?_, ?_, ?_, hr.ro, ?_, ?_, ?_⟩, ⟨Fr.refl _ _ _, by omega, fun m hm => by unfold Sg.put; rw [if_neg (by omega)], fun _ _ h => h, fun _ h => .inl h, ?_⟩⟩
 ·intro m b' k' hm hk'
  by_cases e1 : m = x
  ·subst e1
   rw [hget_cons, if_pos rfl] at hk'
   cases hk'
   simp only [Sg.put, if_true, Option.some.injEq] at hm
   subst hm
   exact hsh
  ·simp only [Sg.put, if_neg e1] at hm
   exact hr.shp m b' k' hm (hgt m k' e1 hk').1
 ·intro m b' k' hm hk' hl1 hmp
  by_cases e1 : m = x
  ·subst e1
   rw [hget_cons, if_pos rfl] at hk'
   cases hk'
   simp only [Sg.put, if_true, Option.some.injEq] at hm
   subst hm
   exact hmap hl1 hmp
  ·simp only [Sg.put, if_neg e1] at hm
   exact hr.mpb m b' k' hm (hgt m k' e1 hk').1 hl1 hmp
 ·intro m b' k' hm hk' hl1 hmp
  by_cases e1 : m = x
  ·subst e1
   rw [hget_cons, if_pos rfl] at hk'
   cases hk'
   simp only [Sg.put, if_true, Option.some.injEq] at hm
   subst hm
   obtain ⟨h3, cs2, fr', h4, h5, h6, h7⟩ := hblk hl1 hmp
   exact ⟨h3, cs2, fr', h4, h5, VC.mono hs (fun _ _ h => h) h6, h7⟩
  ·simp only [Sg.put, if_neg e1] at hm
   obtain ⟨h3, cs2, fr', h4, h5, h6, h7⟩ := hr.blk m b' k' hm (hgt m k' e1 hk').1 hl1 hmp
   exact ⟨h3, cs2, fr', h4, h5, VC.mono hs (fun _ _ h => h) h6, h7⟩
 ·intro m b' hm
  by_cases e1 : m = x
  ·omega
  ·simp only [Sg.put, if_neg e1] at hm
   have := hr.dom m b' hm; omega
 ·intro m m' b1 b2 h1 h2 h3 h4 hl1 hl2 h5
  obtain ⟨p, bp, p1, p2, p3, p4, p5⟩ := back m b1 h1 h3
  obtain ⟨q, bq, q1, q2, q3, q4, q5⟩ := back m' b2 h2 h4
  have hpq := hr.inj p q bp bq p1 q1 p2 q2 (by rw [p5]; exact hl1) (by rw [q5]; exact hl2) (by rw [p4, q4]; exact h5)
  by_cases e1 : m = x
  ·by_cases e2 : m' = x
   ·omega
   ·rw [if_pos e1] at p3
    rw [if_neg e2] at q3
    obtain ⟨k', hk'⟩ := Option.ne_none_iff_exists'.1 h4
    exact absurd (by omega) (hgt m' k' e2 hk').2
  ·by_cases e2 : m' = x
   ·rw [if_neg e1] at p3
    rw [if_pos e2] at q3
    obtain ⟨k', hk'⟩ := Option.ne_none_iff_exists'.1 h3
    exact absurd (by omega) (hgt m k' e1 hk').2
   ·rw [if_neg e1] at p3
    rw [if_neg e2] at q3
    omega
 ·intro m b' a hm ha hl1 hR
  obtain ⟨p, bp, p1, p2, p3, p4, p5⟩ := back m b' hm ha
  rw [← p4]
  exact hr.sep p bp a p1 p2 (by rw [p5]; exact hl1) hR
 ·intro m b' hm hl1
  by_cases e1 : m = x
  ·subst e1
   obtain ⟨c', q1, q2, q3⟩ := hpx b' hm
   rw [← q2]
   exact hr.lt n c' q1 (by rw [q3]; exact hl1)
  ·exact hr.lt m b' (hm.put_ne e1) hl1
 ·intro m b' k' e' s l hm hk' hc'
  by_cases e1 : m = x
  ·subst e1
   rw [hget_cons, if_pos rfl] at hk'
   cases hk'
   simp only [Sg.put, if_true, Option.some.injEq] at hm
   subst hm
   exact hF _ _ _ hc'
  ·simp only [Sg.put, if_neg e1] at hm
   exact hr.own m b' k' e' s l hm (hgt m k' e1 hk').1 hc'
 ·intro m b' hm ha hl1
  obtain ⟨p, bp, p1, p2, p3, p4, p5⟩ := back m b' hm ha
  exact .inl ⟨p, bp, p1, p2, by rw [p5]; exact hl1, p4⟩
theorem append0_sound (hT : TyOk P T) {ty ty' tr : Nat} {a b : AV} {k : K3 X} (he : append0 T ty ty' h x a b k = some r) :
  ∃ v h' x', k v h' x' = some r ∧ x ≤ x' ∧ (∀ m, m < x → m ∉ a.names → hget h' m = hget h m) ∧ ∀ {σ R} {w : World} {ca cb}, HR P σ R h x w → VV σ R a ca → VV σ R b cb → Makes P (Builtin.append_ #[ty, ty'] tr #[ca, cb]) σ R h x w v h' x' := by
 unfold append0 at he
 split at he
 ·rename_i ti hti
  split at he
  ·rename_i e hk
   split at he
   ·rename_i te hte
    split at he
    ·rename_i s hs
     have hw := (cond_none he).1
     replace he := (cond_none he).2
     simp only [Bool.or_eq_false_iff] at hw
     obtain ⟨i, d, hi⟩ := hT.is hti
     have hd := hi.slice hk
     subst hd
     obtain ⟨i2, d2, hi2⟩ := hT.is hte
     obtain ⟨g1, z, g2, g3⟩ := hi2.sch s hs
     have hw0 : s.w ≠ 0 := fun h0 => by rw [h0] at hw; simp at hw
     have hb0 : te.bytes ≠ 0 := fun h0 => by rw [h0] at hw; simp at hw
     have hisz : i2.size = s.w := by rw [hi2.size, ← g1]
     have hzs : z.cells.size = s.w := by have := SC.length (schB_sc (R := fun _ => none) g3); simpa using this
     obtain ⟨m, he2, hmore⟩ := moreA_sound (tr := tr) hT hi.und hi2.info g2 hisz hw0 (fun R => schB_sc g3) he
     clear he
     have he := he2
     clear he2
     rw [hi2.bytes] at hmore
     split at he
     ·obtain ⟨hbd, he⟩ := cond_some he
      simp only [decide_eq_true_eq] at hbd
      refine ⟨_, _, _, he, (by omega), (fun m h1 _ => by rw [hget_cons, if_neg (by omega)]), fun {σ R w ca cb} hr ha hb => ?_⟩
      obtain rfl := nils_v ha
      obtain ⟨news, hnsc, happ⟩ := hmore hr hb hbd
      have hnl := hnsc.1
      have hbig : m.length ≤ 140737488355328 := Nat.le_trans (Nat.le_mul_of_pos_right _ (by omega)) hbd
      rcases Nat.eq_zero_or_pos m.length with h0 | h0
      ·obtain rfl : m = [] := List.eq_nil_of_length_eq_zero h0
       obtain ⟨r1, r2⟩ := hr.virt s e
       exact ⟨_, _, _, _, happ.none rfl (Nat.le_refl _), ⟨⟨0, 0, .arr 0 s.shp, e, true, 0, []⟩, s.shp, 0, 0, by simp [Sg.put], rfl, rfl, Nat.le_refl _, by simp, by simp [maxLen], by simp⟩, r1, r2⟩
      ·have hrun := happ.grow h0 (base := none) (sLen := 0) (sCap := 0) (olds := []) (run_firstCells_none _ _ _ _ _) (by omega) (by rw [Nat.zero_add, hi2.bytes]; exact hbd) (by omega)
       obtain ⟨σ', R', r1, r2, r3⟩ := grown_new (l := m) (e := e) (olds := []) (news := news) (z := z) (cap := grownCap w m.length 0 e) hr (by simpa using hnsc) hzs (grownCap_ge w _ 0 e) (grownCap_le_maxLen w _ 0 e (by unfold maxLen; omega))
       rw [Nat.zero_add] at hrun
       exact ⟨_, _, σ', R', hrun, r1, by simpa using r2, by simpa using r3⟩
     ·rename_i n
      split at he
      ·rename_i b0 hb0k
       split at he
       ·rename_i s' l0 hc
        split at he
        ·rename_i q
         subst q
         obtain ⟨hbd, he⟩ := cond_some he
         simp only [Bool.and_eq_true, decide_eq_true_eq] at hbd
         obtain ⟨hbd, hbe0⟩ := hbd
         replace hbd : (l0.length + m.length) * te.bytes ≤ 140737488355328 := hbd
         have hbe0 := Nat.eq_of_beq_eq_true hbe0
         refine ⟨_, _, _, he, (by omega), (fun m h1 h2 => by rw [hget_cons, if_neg (by omega), hget_cons, if_neg (fun e => h2 (by simp [AV.names, e]))]), fun {σ R w ca cb} hr ha hb => ?_⟩
         obtain ⟨news, hnsc, happ⟩ := hmore hr hb (by rw [Nat.add_mul] at hbd; omega)
         have hnl := hnsc.1
         have hbig : l0.length + m.length ≤ 140737488355328 := Nat.le_trans (Nat.le_mul_of_pos_right _ (by omega)) hbd
         obtain ⟨B, s2, len, cap, q1, q2, rfl, q3, q4, q5, q6⟩ := ha
         obtain ⟨hsh, hbe⟩ := hr.shp n B b0 q1 hb0k
         have hsh0 := hsh
         rw [hc, q2] at hsh
         simp only [AV.shp, Shp.arr.injEq] at hsh
         obtain ⟨rfl, rfl⟩ := hsh
         show Makes P _ σ R h x w (.sl x) ((x, some ⟨.lst s' (l0 ++ m), e⟩) :: (n, none) :: h) (x + 1)
         have hkill := hr.kill n
         cases hnil : B.nil
         ·obtain ⟨hw1, cs, fr, hg, hsz, hvc, hf⟩ := hr.blk n B b0 q1 hb0k hnil (by rw [hc]; rfl)
          rw [hc] at hvc
          have hvc' : SC R (.arr l0.length s') (gL s' l0) ((cs.toList.drop B.o).take (l0.length * s'.w)) := hvc
          have hBe : B.e = e := by rw [← hbe, hbe0]
          have hcapsz := q4 hnil
          rw [Sch.shp_w] at hcapsz
          rcases Nat.eq_zero_or_pos m.length with h0 | h0
          ·obtain rfl : m = [] := List.eq_nil_of_length_eq_zero h0
           obtain ⟨σ', a1, a2, a3⟩ := hr.alias q1 hb0k (b := B) (k := b0) rfl rfl ⟨hsh0, hbe⟩ (fun hl hm => hr.mpb n B b0 q1 hb0k hl hm) (fun hl hm => hr.blk n B b0 q1 hb0k hl hm) (fun _ _ _ hh => by rw [hc] at hh; cases hh) (.inl rfl)
           have hblk : b0 = ⟨.lst s' (l0 ++ []), e⟩ := by cases b0; simp only at hc hbe0; rw [hc, hbe0, List.append_nil]
           rw [hblk] at a2 a3
           refine ⟨_, _, σ', R, happ.none rfl q3, ⟨B, s'.shp, l0.length, cap, a1, q2, by rw [hnil], q3, fun h => by rw [Sch.shp_w]; exact hcapsz, q5, fun h => by rw [hnil] at h; cases h⟩, a2, a3⟩
          ·have hl1 : news.length = m.length * i2.size := by rw [hisz]; exact hnl
           have hsc := append_sc hvc' hnsc
           by_cases hroom : l0.length + m.length ≤ cap
           ·have hmul : (l0.length + m.length) * s'.w ≤ cap * s'.w := Nat.mul_le_mul_right _ hroom
            rw [Nat.add_mul] at hmul
            have hg' := hg
            rw [hBe] at hg'
            have hrun := happ.room h0 (d := B.o) hg' (fun j hj => hf j (by omega)) hroom (by rw [hisz, hnl]; omega)
            have hds := drop_splice (cs := cs.toList) (d := B.o) (o := l0.length * i2.size) (vs := news) (by rw [hisz]; simp; omega)
            have htk : ((cs.toList.take (B.o + l0.length * i2.size) ++ news ++ cs.toList.drop (B.o + l0.length * i2.size + news.length)).drop B.o).take ((l0 ++ m).length * s'.w) = (cs.toList.drop B.o).take (l0.length * s'.w) ++ news := by
             rw [hds, hisz, List.take_left' (by rw [List.length_append, List.length_append, List.length_take, hnl, Nat.add_mul]; simp; omega)]
            obtain ⟨m1, m2⟩ := hr.move q1 hb0k hnil hg (cs' := (cs.toList.take (B.o + l0.length * i2.size) ++ news ++ cs.toList.drop (B.o + l0.length * i2.size + news.length)).toArray) (by rw [hisz]; simp; omega) hf (c' := .lst s' (l0 ++ m)) (d := B.o) (by simp only [AV.w, List.length_append, Nat.add_mul]; omega) (by
             show SC R _ _ (List.take _ _)
             simp only [AV.w]
             rw [htk]; exact hsc)
            rw [hBe] at m1 m2
            refine ⟨_, _, _, R, hrun, ⟨⟨B.g, B.sz, (AV.lst s' (l0 ++ m)).shp, e, false, B.o, []⟩, s'.shp, l0.length + m.length, cap, by simp [Sg.put], by simp [AV.shp], rfl, hroom, fun _ => by rw [Sch.shp_w]; exact hcapsz, q5, by simp⟩, m1, m2⟩
           ·have holds := run_firstCells_some (P := P) w.drew i2.size l0.length ⟨B.g, B.o, none⟩ l0.length cap ((cs.toList.drop B.o).take (l0.length * s'.w)) (by rw [hisz]; exact hvc'.1) (fun j u hj => by
             have := cut_cells hg (d := B.o) (n := l0.length * s'.w) (o := 0) (m := l0.length * s'.w) (by omega) j u (by rw [cut_all hvc'.1]; exact hj)
             simpa using this)
            have hrun := happ.grow h0 (sCap := cap) holds (by omega) (by rw [hi2.bytes]; exact hbd) (by omega)
            have hlen : (l0 ++ m).length = l0.length + m.length := List.length_append
            obtain ⟨σ', R', r1, r2, r3⟩ := grown_new (l := l0 ++ m) (e := e) (olds := (cs.toList.drop B.o).take (l0.length * s'.w)) (news := news) (z := z) (cap := grownCap w (l0.length + m.length) cap e) hkill.1 hsc hzs (by rw [hlen]; exact grownCap_ge w _ cap e) (grownCap_le_maxLen w _ cap e (by unfold maxLen; omega))
            rw [hlen] at r1 r2 r3
            exact ⟨_, _, σ', R', hrun, r1, r2, hkill.2.trans r3⟩
         ·have hc0 := q6 hnil
          obtain rfl : l0 = [] := List.eq_nil_of_length_eq_zero (by omega)
          subst hc0
          rcases Nat.eq_zero_or_pos m.length with h0 | h0
          ·obtain rfl : m = [] := List.eq_nil_of_length_eq_zero h0
           obtain ⟨r1, r2⟩ := hkill.1.virt s' e
           exact ⟨_, _, _, _, happ.none rfl (Nat.le_refl _), ⟨⟨0, 0, .arr 0 s'.shp, e, true, 0, []⟩, s'.shp, 0, 0, by simp [Sg.put], rfl, rfl, Nat.le_refl _, by simp, by simp [maxLen], by simp⟩, r1, hkill.2.trans r2⟩
          ·have hbd' : m.length * te.bytes ≤ 140737488355328 := by simpa using hbd
           have hrun := happ.grow h0 (base := none) (sLen := 0) (sCap := 0) (olds := []) (run_firstCells_none _ _ _ _ _) (by omega) (by rw [Nat.zero_add, hi2.bytes]; exact hbd') (by omega)
           obtain ⟨σ', R', r1, r2, r3⟩ := grown_new (l := m) (e := e) (olds := []) (news := news) (z := z) (cap := grownCap w m.length 0 e) hkill.1 (by simpa using hnsc) hzs (grownCap_ge w _ 0 e) (grownCap_le_maxLen w _ 0 e (by unfold maxLen; omega))
           rw [Nat.zero_add] at hrun
           exact ⟨_, _, σ', R', hrun, r1, by simpa using r2, hkill.2.trans (by simpa using r3)⟩
        ·cases he
       ·cases he
      ·cases he
     ·cases he
    ·cases he
   ·cases he
  ·cases he
 ·cases he
end Go.Proofs.YtfcloeflcpcheaaGreat.Eng
