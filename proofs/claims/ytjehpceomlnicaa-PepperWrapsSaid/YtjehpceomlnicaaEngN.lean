/-
The engine, fourteenth text: append. Plain lemmas.
Conditions: none.
-/
import Derived.Test.YtjehpceomlnicaaEngM
set_option linter.unusedVariables false
set_option linter.unusedSimpArgs false
namespace Go.Proofs.Ytjehpceomlnicaa.Eng
variable {P : Program} {T : Types} {σ σ' : Sg} {R R' : Ro} {h h' : Hp} {x x' : Nat} {w w' : World} {X : Type} {r : X}

/-- What is appended: a slice's elements, its cells. -/
theorem elems_spec {s : Sch} {b : AV} {m : List s.den} {cb : Value} (he : elems h s b = some m) (hr : HR P σ R h x w) (hb : VV σ R b cb) (hw0 : s.w ≠ 0) :
    ∃ A c news, cb = .slice A m.length c ∧ SC R (.arr m.length s) (gL s m) news ∧ (0 < m.length → ∃ ad, A = some ad ∧ ∀ j u, news[j]? = some u → w.cell? (ad.add j) = some u) := by
  unfold elems at he
  split at he
  · cases he
    obtain rfl := nils_v hb
    exact ⟨none, 0, [], rfl, ⟨by simp, fun i hi => absurd hi (by simp)⟩, fun hp => absurd hp (by simp)⟩
  · rename_i s' l
    split at he
    · rename_i q
      subst q
      replace he : some l = some m := he
      cases he
      obtain ⟨A, cap, hcv, g1, g2, g3⟩ := hb
      simp only [List.cons.injEq, and_true] at hcv
      subst hcv
      rcases Nat.eq_zero_or_pos l.length with h0 | h0
      · obtain rfl : l = [] := List.eq_nil_of_length_eq_zero h0
        exact ⟨A, cap, [], rfl, ⟨by simp, fun i hi => absurd hi (by simp)⟩, fun hp => absurd hp (by simp)⟩
      · obtain ⟨ad, rfl, g4⟩ := g3 h0
        have key : ∀ i, i < l.length → ∀ j, j < s'.w → ∃ u, R (ad.add (i * s'.w + j)) = some u := by
          intro i hi j hj
          obtain ⟨c, ⟨g5, g6⟩, g7⟩ := g4 i hi
          refine ⟨c[j]'(by omega), ?_⟩
          have := g6 j _ (List.getElem?_eq_getElem (by omega))
          rw [add_of_add] at this
          exact this
        have hall : ∀ j, j < l.length * s'.w → ∃ u, R (ad.add j) = some u := by
          intro j hj
          have hd : j / s'.w < l.length := by rw [Nat.div_lt_iff_lt_mul (by omega)]; exact hj
          have := key (j / s'.w) hd (j % s'.w) (Nat.mod_lt _ (by omega))
          rwa [Nat.div_add_mod'] at this
        refine ⟨some ad, cap, (List.range (l.length * s'.w)).map fun j => (R (ad.add j)).getD undef, rfl, ⟨by simp, fun i hi => ?_⟩, fun _ => ⟨ad, rfl, fun j u hj => ?_⟩⟩
        · obtain ⟨c, ⟨g5, g6⟩, g7⟩ := g4 i hi
          have hb := mul_in (w := s'.w) hi
          have : cut ((List.range (l.length * s'.w)).map fun j => (R (ad.add j)).getD undef) (i * s'.w) s'.w = c := by
            apply List.ext_getElem?
            intro j
            rw [cut_get]
            by_cases hj : j < s'.w
            · rw [if_pos hj, List.getElem?_map, List.getElem?_range (by omega)]
              have := g6 j _ (List.getElem?_eq_getElem (by omega))
              rw [add_of_add] at this
              simp [this, List.getElem?_eq_getElem (show j < c.length by omega)]
            · rw [if_neg hj, List.getElem?_eq_none (by omega)]
          exact (show SC R s' (gL s' l i) (cut _ _ _) by rw [this]; exact g7)
        · have hjl : j < l.length * s'.w := by
            rcases Nat.lt_or_ge j (l.length * s'.w) with h | h
            · exact h
            · rw [List.getElem?_eq_none (by simp; omega)] at hj; cases hj
          obtain ⟨u', hu'⟩ := hall j hjl
          rw [List.getElem?_map, List.getElem?_range hjl] at hj
          simp [hu'] at hj
          subst hj
          exact hr.ro _ _ hu'
    · cases he
  · rename_i n
    split at he
    · rename_i b hbk
      split at he
      · rename_i s' l hc
        split at he
        · rename_i q
          subst q
          replace he : some l = some m := he
          cases he
          obtain ⟨B, s2, len, cap, g1, g2, rfl, g3, g4, g5, g6⟩ := hb
          obtain ⟨hsh, _⟩ := hr.shp n B b g1 hbk
          rw [hc, g2] at hsh
          simp only [AV.shp, Shp.arr.injEq] at hsh
          obtain ⟨rfl, rfl⟩ := hsh
          cases hnl : B.nil
          · obtain ⟨hw, cs, fr, hg, hsz, hvc, hf⟩ := hr.blk n B b g1 hbk hnl (by rw [hc]; rfl)
            rw [hc] at hvc
            have hvc' : SC R (.arr l.length s') (gL s' l) (cs.toList.take (l.length * s'.w)) := hvc
            refine ⟨_, cap, cs.toList.take (l.length * s'.w), rfl, hvc', fun _ => ⟨⟨B.g, 0, none⟩, rfl, fun j u hj => ?_⟩⟩
            exact cut_cells hg (n := l.length * s'.w) (o := 0) (m := l.length * s'.w) (by omega) j u (by rw [cut_all hvc'.1]; exact hj)
          · have h1 := g6 hnl
            obtain rfl : l = [] := List.eq_nil_of_length_eq_zero (by omega)
            exact ⟨_, cap, [], rfl, ⟨by simp, fun i hi => absurd hi (by simp)⟩, fun hp => absurd hp (by simp)⟩
        · cases he
      · cases he
    · cases he
  · rename_i n p o len
    split at he
    · rename_i b hbk
      obtain ⟨B, N, s2, a, cap, o0, g1, g2, g3, g4, rfl, g5, g6, g7⟩ := hb
      obtain ⟨hsh, _⟩ := hr.shp n B b g1 hbk
      have part : ∀ {c : AV} {f : Nat → s.den}, aget b.c p = some c → c.isMap = false → (∀ {cs}, VC σ R c cs → SC R (.arr N s) f cs) → c.shp = .arr N s.shp → ∀ {m : List s.den}, m.length = len → (∀ i, i < len → gL s m i = f (o + i)) → s2 = s.shp →
          ∃ A c news, Value.slice a len cap = .slice A m.length c ∧ SC R (.arr m.length s) (gL s m) news ∧ (0 < m.length → ∃ ad, A = some ad ∧ ∀ j u, news[j]? = some u → w.cell? (ad.add j) = some u) := by
        intro c f hcg hcm hcs hcsh m hml hmf hs2
        subst hs2
        rcases Nat.eq_zero_or_pos len with h0 | h0
        · obtain rfl : m = [] := List.eq_nil_of_length_eq_zero (by omega)
          exact ⟨a, cap, [], by rw [h0]; rfl, ⟨by simp, fun i hi => absurd hi (by simp)⟩, fun hp => absurd hp (by simp)⟩
        · obtain ⟨rfl, hnl⟩ := g7 h0
          obtain ⟨hw, cs, fr, hg, hsz, hvc, hf⟩ := hr.blk n B b g1 hbk hnl (aget_notmap hcg hcm)
          rw [← hsh] at g3
          obtain ⟨q1, q2⟩ := aget_vc hvc hcg g3
          have hsc := hcs q2
          have hcw : c.w = N * s.w := by rw [← AV.shp_w, hcsh]; simp [Shp.w, Sch.shp_w]
          have hlen : (cs.toList.take b.c.w).length = b.c.w := VC.length hvc
          have hle : o * s.w + len * s.w ≤ N * s.w := by rw [← Nat.add_mul]; exact Nat.mul_le_mul_right _ g4
          rw [Sch.shp_w]
          refine ⟨_, cap, cut (cs.toList.take b.c.w) (o0 + o * s.w) (len * s.w), by rw [hml], ?_, fun _ => ⟨_, rfl, cut_cells hg (by omega)⟩⟩
          refine ⟨by rw [cut_length (by omega), hml], fun i hi => ?_⟩
          rw [hml] at hi
          have hb := mul_in (w := s.w) hi
          have hbb := mul_in (w := s.w) (show o + i < N by omega)
          rw [hmf i hi]
          have h1 := hsc.2 (o + i) (by omega)
          have e1 : cut (cut (cs.toList.take b.c.w) (o0 + o * s.w) (len * s.w)) (i * s.w) s.w = cut (cs.toList.take b.c.w) (o0 + o * s.w + i * s.w) s.w := cut_cut (by omega)
          have e2 : cut (cut (cs.toList.take b.c.w) o0 c.w) ((o + i) * s.w) s.w = cut (cs.toList.take b.c.w) (o0 + (o + i) * s.w) s.w := cut_cut (by omega)
          have e3 : o0 + o * s.w + i * s.w = o0 + (o + i) * s.w := by rw [Nat.add_mul, Nat.add_assoc]
          show SC R s (f (o + i)) (cut _ _ _)
          rw [e1, e3, ← e2]
          exact h1
      split at he
      · rename_i s' l hc
        split at he
        · rename_i q
          subst q
          replace he : some ((l.drop o).take len) = some m := he
          cases he
          have hat := aget_at hc (by rw [hsh]; exact g3)
          rw [hsh, g2] at hat
          simp only [AV.shp, Option.some.injEq, Shp.arr.injEq] at hat
          obtain ⟨rfl, hs2⟩ := hat
          have hml : ((l.drop o).take len).length = len := by simp; omega
          have := part (c := .lst s' l) (f := gL s' l) hc rfl (fun h => h) rfl (m := (l.drop o).take len) hml (fun i hi => getD_cut hi) hs2
          rw [hml] at this ⊢
          exact this
        · cases he
      · rename_i s' N' f hc
        split at he
        · rename_i q
          subst q
          replace he : some ((List.range len).map fun j => f (o + j)) = some m := he
          cases he
          have hat := aget_at hc (by rw [hsh]; exact g3)
          rw [hsh, g2] at hat
          simp only [AV.shp, Option.some.injEq, Shp.arr.injEq] at hat
          obtain ⟨rfl, hs2⟩ := hat
          have hml : ((List.range len).map fun j => f (o + j)).length = len := by simp
          have := part (c := .vec s' N f) (f := f) hc rfl (fun h => h) rfl (m := (List.range len).map fun j => f (o + j)) hml (fun i hi => by simp [gL, List.getD_eq_getElem?_getD, hi]) hs2
          rw [hml] at this ⊢
          exact this
        · cases he
      · cases he
    · cases he
  · cases he
theorem gL_append {s : Sch} {a b : List s.den} {i : Nat} : gL s (a ++ b) i = if i < a.length then gL s a i else gL s b (i - a.length) := by
  simp only [gL, List.getD_eq_getElem?_getD, List.getElem?_append]
  split <;> rfl
theorem append_sc {s : Sch} {a b : List s.den} {ca cb : List Value} (ha : SC R (.arr a.length s) (gL s a) ca) (hb : SC R (.arr b.length s) (gL s b) cb) : SC R (.arr (a ++ b).length s) (gL s (a ++ b)) (ca ++ cb) := by
  have la := ha.1
  have lb := hb.1
  refine ⟨by simp [la, lb, Nat.add_mul], fun i hi => ?_⟩
  show SC R s (gL s (a ++ b) i) (cut (ca ++ cb) (i * s.w) s.w)
  rw [gL_append]
  by_cases h1 : i < a.length
  · have := mul_in (w := s.w) h1
    rw [if_pos h1, cut_left (by omega)]
    exact ha.2 i h1
  · rw [if_neg h1]
    have e : i * s.w = ca.length + (i - a.length) * s.w := by rw [la, ← Nat.add_mul]; congr 1; omega
    rw [e, cut_right]
    rw [List.length_append] at hi
    exact hb.2 (i - a.length) (by omega)
theorem append_room {t ty e : Nat} {i : TypeInfo} (ht : P.underlying t = some (.slice e)) (hi : P.info? e = some i) {g sLen sCap : Nat} {cur : Array Value} {fz : Nat × Nat} (hg : w.heap[g]? = some (.cells cur e fz)) (hfz : ∀ j, j < cur.size → ¬ (fz.1 ≤ j ∧ j < fz.2))
    {a : Addr} {m c : Nat} {news : List Value} (hl : news.length = m * i.size) (hnews : ∀ j u, news[j]? = some u → w.cell? (a.add j) = some u) (h1 : ∀ u ∈ news, u.oneCell' = true)
    (hroom : sLen + m ≤ sCap) (hfit : sLen * i.size + news.length ≤ cur.size) :
    (Builtin.append_ #[t, t] ty #[.slice (some ⟨g, 0, none⟩) sLen sCap, .slice (some a) m c]).run P w =
      .ok (.slice (some ⟨g, 0, none⟩) (sLen + m) sCap) (w.setRow g (cur.toList.take (sLen * i.size) ++ news ++ cur.toList.drop (sLen * i.size + news.length)).toArray) := by
  have hf := run_firstCells_some (P := P) w i.size m a m c news hl hnews
  have hst := storeCells_run P g (sLen * i.size) e fz news 0 cur w hg (fun j hj => hfz j (by omega)) (by simpa using hfit) h1
  simp only [Nat.add_zero] at hst
  simp [Builtin.append_, run_underlying ht, sizeOf, typeInfo, hi, Builtin.lenOf, hroom, hf, Addr.add_lit, hst]
theorem append_none {t ty e : Nat} {i : TypeInfo} (ht : P.underlying t = some (.slice e)) (hi : P.info? e = some i) {base : Option Addr} {sLen sCap c : Nat} {A : Option Addr} (hroom : sLen ≤ sCap) :
    (Builtin.append_ #[t, t] ty #[.slice base sLen sCap, .slice A 0 c]).run P w = .ok (.slice base sLen sCap) w := by
  cases base <;> cases A <;> simp [Builtin.append_, run_underlying ht, sizeOf, typeInfo, hi, Builtin.lenOf, hroom, Builtin.firstCells, loadCells, loadCellsFrom, storeCells]
theorem grown_new {s : Sch} {l : List s.den} {e : Nat} {olds news : List Value} {z : Value} {cap : Nat} (hr : HR P σ R h x w) (hc : SC R (.arr l.length s) (gL s l) (olds ++ news)) (hz : z.cells.size = s.w) (hge : l.length ≤ cap) (hm : cap ≤ maxLen) :
    ∃ σ' R', V1 σ' R' (.sl x) (.slice (some ⟨w.heap.size, 0, none⟩) l.length cap) ∧ HR P σ' R' ((x, some ⟨.lst s l, e⟩) :: h) (x + 1) (w.drew.alloc (.cells (olds.toArray ++ news.toArray ++ Builtin.zeroCells z.cells (cap - l.length)) e)) ∧
      Ext σ R h x w σ' R' ((x, some ⟨.lst s l, e⟩) :: h) (x + 1) (w.drew.alloc (.cells (olds.toArray ++ news.toArray ++ Builtin.zeroCells z.cells (cap - l.length)) e)) := by
  have hl : olds.length + news.length = l.length * s.w := by have := hc.1; simpa using this
  obtain ⟨σ', R', r1, r2, r3⟩ := row_new (l := l) (e := e) (cs := olds.toArray ++ news.toArray ++ Builtin.zeroCells z.cells (cap - l.length)) (fr := (0, 0)) (cap := cap) hr.drew (by
    have : (olds.toArray ++ news.toArray ++ Builtin.zeroCells z.cells (cap - l.length)).toList.take (l.length * s.w) = olds ++ news := by
      simp only [Array.toList_append]
      rw [List.take_left' (by simp; exact hl)]
    rw [this]; exact hc) (by
    simp only [Array.size_append, List.size_toArray, size_zeroCells, hz]
    rw [hl, ← Nat.add_mul]; congr 1; omega) hge hm (by intro j hj; simp)
  exact ⟨σ', R', r1, r2, Ext.drew.trans r3⟩
theorem HR.alias (hr : HR P σ R h x w) {n : Nat} {b : Bk} {k : Blk} (hn : σ n = some b) (hk : hget h n = some k) :
    ∃ σ', σ' x = some b ∧ HR P σ' R ((x, some k) :: (n, none) :: h) (x + 1) w ∧ Ext σ R h x w σ' R ((x, some k) :: (n, none) :: h) (x + 1) w := by
  have hdn := hr.dom n b hn
  have hna : Alive h n := by unfold Alive; simp [hk]
  have hs : ∀ m b', σ m = some b' → Sg.put σ x b m = some b' := fun m b' hm => by
    have := hr.dom m b' hm
    unfold Sg.put; rw [if_neg (by omega)]; exact hm
  have hgt : ∀ m k', m ≠ x → hget ((x, some k) :: (n, none) :: h) m = some k' → hget h m = some k' ∧ m ≠ n := fun m k' hm ha => by
    rw [hget_cons, if_neg (Ne.symm hm), hget_cons] at ha
    by_cases e : n = m
    · rw [if_pos e] at ha; cases ha
    · rw [if_neg e] at ha; exact ⟨ha, fun e' => e e'.symm⟩
  have back : ∀ m b' , Sg.put σ x b m = some b' → Alive ((x, some k) :: (n, none) :: h) m → ∃ m', σ m' = some b' ∧ Alive h m' ∧ (m' = if m = x then n else m) := by
    intro m b' hm ha
    by_cases e1 : m = x
    · simp only [Sg.put, if_pos e1, Option.some.injEq] at hm
      subst hm
      exact ⟨n, hn, hna, by rw [if_pos e1]⟩
    · simp only [Sg.put, if_neg e1] at hm
      obtain ⟨k', hk'⟩ := Option.ne_none_iff_exists'.1 ha
      obtain ⟨q1, q2⟩ := hgt m k' e1 hk'
      exact ⟨m, hm, by unfold Alive; simp [q1], by rw [if_neg e1]⟩
  refine ⟨Sg.put σ x b, by simp [Sg.put], ⟨?_, ?_, ?_, ?_, ?_, hr.ro, ?_, ?_⟩, ⟨Fr.refl _ _ _, by omega, fun m hm => by unfold Sg.put; rw [if_neg (by omega)], fun _ _ h => h, fun _ h => .inl h, ?_⟩⟩
  · intro m b' k' hm hk'
    by_cases e1 : m = x
    · subst e1
      rw [hget_cons, if_pos rfl] at hk'
      cases hk'
      simp only [Sg.put, if_true, Option.some.injEq] at hm
      subst hm
      exact hr.shp n b k hn hk
    · simp only [Sg.put, if_neg e1] at hm
      exact hr.shp m b' k' hm (hgt m k' e1 hk').1
  · intro m b' k' hm hk' hl1 hmp
    by_cases e1 : m = x
    · subst e1
      rw [hget_cons, if_pos rfl] at hk'
      cases hk'
      simp only [Sg.put, if_true, Option.some.injEq] at hm
      subst hm
      exact hr.mpb n b k hn hk hl1 hmp
    · simp only [Sg.put, if_neg e1] at hm
      exact hr.mpb m b' k' hm (hgt m k' e1 hk').1 hl1 hmp
  · intro m b' k' hm hk' hl1 hmp
    by_cases e1 : m = x
    · subst e1
      rw [hget_cons, if_pos rfl] at hk'
      cases hk'
      simp only [Sg.put, if_true, Option.some.injEq] at hm
      subst hm
      obtain ⟨h3, cs2, fr', h4, h5, h6, h7⟩ := hr.blk n b k hn hk hl1 hmp
      exact ⟨h3, cs2, fr', h4, h5, VC.mono hs (fun _ _ h => h) h6, h7⟩
    · simp only [Sg.put, if_neg e1] at hm
      obtain ⟨h3, cs2, fr', h4, h5, h6, h7⟩ := hr.blk m b' k' hm (hgt m k' e1 hk').1 hl1 hmp
      exact ⟨h3, cs2, fr', h4, h5, VC.mono hs (fun _ _ h => h) h6, h7⟩
  · intro m b' hm
    by_cases e1 : m = x
    · omega
    · simp only [Sg.put, if_neg e1] at hm
      have := hr.dom m b' hm; omega
  · intro m m' b1 b2 h1 h2 h3 h4 hl1 hl2 h5
    obtain ⟨p, p1, p2, p3⟩ := back m b1 h1 h3
    obtain ⟨q, q1, q2, q3⟩ := back m' b2 h2 h4
    have hpq := hr.inj p q b1 b2 p1 q1 p2 q2 hl1 hl2 h5
    by_cases e1 : m = x
    · by_cases e2 : m' = x
      · omega
      · rw [if_pos e1] at p3
        rw [if_neg e2] at q3
        obtain ⟨k', hk'⟩ := Option.ne_none_iff_exists'.1 h4
        exact absurd (by omega) (hgt m' k' e2 hk').2
    · by_cases e2 : m' = x
      · rw [if_neg e1] at p3
        rw [if_pos e2] at q3
        obtain ⟨k', hk'⟩ := Option.ne_none_iff_exists'.1 h3
        exact absurd (by omega) (hgt m k' e1 hk').2
      · rw [if_neg e1] at p3
        rw [if_neg e2] at q3
        omega
  · intro m b' a hm ha hl1 hR
    obtain ⟨p, p1, p2, p3⟩ := back m b' hm ha
    exact hr.sep p b' a p1 p2 hl1 hR
  · intro m b' hm hl1
    by_cases e1 : m = x
    · simp only [Sg.put, if_pos e1, Option.some.injEq] at hm
      subst hm
      exact hr.lt n b hn hl1
    · simp only [Sg.put, if_neg e1] at hm
      exact hr.lt m b' hm hl1
  · intro m b' hm ha hl1
    obtain ⟨p, p1, p2, p3⟩ := back m b' hm ha
    exact .inl ⟨p, b', p1, p2, hl1, rfl⟩
theorem appendA_sound (hT : TyOk P T) {ty tr : Nat} {a b : AV} {k : K3 X} (he : appendA T ty h x a b k = some r) :
    ∃ v h' x', k v h' x' = some r ∧ x ≤ x' ∧ ∀ {σ R} {w : World} {ca cb}, HR P σ R h x w → VV σ R a ca → VV σ R b cb → Makes P (Builtin.append_ #[ty, ty] tr #[ca, cb]) σ R h x w v h' x' := by
  unfold appendA at he
  split at he
  · rename_i ti hti
    split at he
    · rename_i e hk
      split at he
      · rename_i te hte
        split at he
        · rename_i s hs
          have hw := (cond_none he).1
          replace he := (cond_none he).2
          simp only [Bool.or_eq_false_iff] at hw
          obtain ⟨i, d, hi⟩ := hT.is hti
          have hd := hi.slice hk
          subst hd
          obtain ⟨i2, d2, hi2⟩ := hT.is hte
          obtain ⟨g1, z, g2, g3⟩ := hi2.sch s hs
          have hw0 : s.w ≠ 0 := fun h0 => by rw [h0] at hw; simp at hw
          have hb0 : te.bytes ≠ 0 := fun h0 => by rw [h0] at hw; simp at hw
          have hisz : i2.size = s.w := by rw [hi2.size, ← g1]
          have hzs : z.cells.size = s.w := by have := SC.length (schB_sc (R := fun _ => none) g3); simpa using this
          split at he
          · split at he
            · rename_i m hm
              obtain ⟨hbd, he⟩ := cond_some he
              simp only [decide_eq_true_eq] at hbd
              refine ⟨_, _, _, he, (by omega), fun {σ R w ca cb} hr ha hb => ?_⟩
              obtain rfl := nils_v ha
              obtain ⟨A, c, news, rfl, hnsc, hcell⟩ := elems_spec hm hr hb hw0
              have hnl := hnsc.1
              have hbig : m.length ≤ 140737488355328 := Nat.le_trans (Nat.le_mul_of_pos_right _ (by omega)) hbd
              rcases Nat.eq_zero_or_pos m.length with h0 | h0
              · obtain rfl : m = [] := List.eq_nil_of_length_eq_zero h0
                obtain ⟨r1, r2⟩ := hr.virt s e
                exact ⟨_, _, _, _, append_none hi.und hi2.info (Nat.le_refl _), ⟨⟨0, 0, .arr 0 s.shp, e, true⟩, s.shp, 0, 0, by simp [Sg.put], rfl, rfl, Nat.le_refl _, by simp, by simp [maxLen], by simp⟩, r1, r2⟩
              · obtain ⟨ad, rfl, hcl⟩ := hcell h0
                have hrun := run_append_nil (P := P) w ty tr e i2 z hi.und hi2.info g2 ad m.length c news (by rw [hisz]; exact hnl) hcl h0 (by omega) (by rw [hi2.bytes]; omega)
                obtain ⟨σ', R', r1, r2, r3⟩ := grown_new (l := m) (e := e) (olds := []) (news := news) (z := z) (cap := grownCap w m.length 0 e) hr (by simpa using hnsc) hzs (grownCap_ge w _ 0 e) (grownCap_le_maxLen w _ 0 e (by unfold maxLen; omega))
                simp only [Array.empty_append] at r2 r3
                exact ⟨_, _, σ', R', hrun, r1, by simpa using r2, by simpa using r3⟩
            · cases he
          · rename_i n
            split at he
            · rename_i b0 hb0k
              split at he
              · rename_i s' l0 hc
                split at he
                · rename_i q
                  subst q
                  split at he
                  · rename_i m hm
                    obtain ⟨hbd, he⟩ := cond_some he
                    simp only [Bool.and_eq_true, decide_eq_true_eq] at hbd
                    obtain ⟨hbd, hbe0⟩ := hbd
                    replace hbd : (l0.length + m.length) * te.bytes ≤ 140737488355328 := hbd
                    have hbe0 := Nat.eq_of_beq_eq_true hbe0
                    refine ⟨_, _, _, he, (by omega), fun {σ R w ca cb} hr ha hb => ?_⟩
                    obtain ⟨A, c, news, rfl, hnsc, hcell⟩ := elems_spec hm hr hb hw0
                    have hnl := hnsc.1
                    have hbig : l0.length + m.length ≤ 140737488355328 := Nat.le_trans (Nat.le_mul_of_pos_right _ (by omega)) hbd
                    obtain ⟨B, s2, len, cap, q1, q2, rfl, q3, q4, q5, q6⟩ := ha
                    obtain ⟨hsh, hbe⟩ := hr.shp n B b0 q1 hb0k
                    rw [hc, q2] at hsh
                    simp only [AV.shp, Shp.arr.injEq] at hsh
                    obtain ⟨rfl, rfl⟩ := hsh
                    show Makes P _ σ R h x w (.sl x) ((x, some ⟨.lst s' (l0 ++ m), e⟩) :: (n, none) :: h) (x + 1)
                    have hkill := hr.kill n
                    cases hnil : B.nil
                    · obtain ⟨hw1, cs, fr, hg, hsz, hvc, hf⟩ := hr.blk n B b0 q1 hb0k hnil (by rw [hc]; rfl)
                      rw [hc] at hvc
                      have hvc' : SC R (.arr l0.length s') (gL s' l0) (cs.toList.take (l0.length * s'.w)) := hvc
                      have hBe : B.e = e := by rw [← hbe, hbe0]
                      have hcapsz := q4 hnil
                      rw [Sch.shp_w] at hcapsz
                      rcases Nat.eq_zero_or_pos m.length with h0 | h0
                      · obtain rfl : m = [] := List.eq_nil_of_length_eq_zero h0
                        obtain ⟨σ', a1, a2, a3⟩ := hr.alias q1 hb0k
                        have hblk : b0 = ⟨.lst s' (l0 ++ []), e⟩ := by cases b0; simp only at hc hbe0; rw [hc, hbe0, List.append_nil]
                        rw [hblk] at a2 a3
                        refine ⟨_, _, σ', R, append_none hi.und hi2.info q3, ⟨B, s'.shp, l0.length, cap, a1, q2, by rw [hnil], q3, fun h => by rw [Sch.shp_w]; exact hcapsz, q5, fun h => by rw [hnil] at h; cases h⟩, a2, a3⟩
                      · obtain ⟨ad, rfl, hcl⟩ := hcell h0
                        have hl1 : news.length = m.length * i2.size := by rw [hisz]; exact hnl
                        have happ := append_sc hvc' hnsc
                        by_cases hroom : l0.length + m.length ≤ cap
                        · have hmul : (l0.length + m.length) * s'.w ≤ cap * s'.w := Nat.mul_le_mul_right _ hroom
                          rw [Nat.add_mul] at hmul
                          have hg' := hg
                          rw [hBe] at hg'
                          have hrun := append_room (P := P) (t := ty) (ty := tr) hi.und hi2.info hg' (fun j hj => hf j (by omega)) (c := c) hl1 hcl (SC.one hnsc) hroom (by rw [hisz, hnl]; omega)
                          have htk : (cs.toList.take (l0.length * i2.size) ++ news ++ cs.toList.drop (l0.length * i2.size + news.length)).take ((l0 ++ m).length * s'.w) = cs.toList.take (l0.length * s'.w) ++ news := by
                            rw [hisz, List.take_left' (by rw [List.length_append, List.length_append, List.length_take, hnl, Nat.add_mul]; simp; omega)]
                          obtain ⟨m1, m2⟩ := hr.move q1 hb0k hnil hg (cs' := (cs.toList.take (l0.length * i2.size) ++ news ++ cs.toList.drop (l0.length * i2.size + news.length)).toArray) (by rw [hisz]; simp; omega) hf (c' := .lst s' (l0 ++ m)) (by simp only [AV.w, List.length_append, Nat.add_mul]; omega) (by
                            show SC R _ _ (List.take _ _)
                            simp only [AV.w]
                            rw [htk]; exact happ)
                          rw [hBe] at m1 m2
                          refine ⟨_, _, _, R, hrun, ⟨⟨B.g, B.sz, (AV.lst s' (l0 ++ m)).shp, e, false⟩, s'.shp, l0.length + m.length, cap, by simp [Sg.put], by simp [AV.shp], rfl, hroom, fun _ => by rw [Sch.shp_w]; exact hcapsz, q5, by simp⟩, m1, m2⟩
                        · have hrun := run_append_grow (P := P) w ty tr e i2 z hi.und hi2.info g2 ⟨B.g, 0, none⟩ l0.length cap (cs.toList.take (l0.length * s'.w)) (by rw [hisz]; exact hvc'.1) (fun j u hj => cut_cells hg (n := l0.length * s'.w) (o := 0) (m := l0.length * s'.w) (by omega) j u (by rw [cut_all hvc'.1]; exact hj)) ad m.length c news hl1 hcl (by omega) (by omega) (growslice_fits (by omega) (by rw [hi2.bytes]; exact hbd))
                          have hlen : (l0 ++ m).length = l0.length + m.length := List.length_append
                          obtain ⟨σ', R', r1, r2, r3⟩ := grown_new (l := l0 ++ m) (e := e) (olds := cs.toList.take (l0.length * s'.w)) (news := news) (z := z) (cap := grownCap w (l0.length + m.length) cap e) hkill.1 happ hzs (by rw [hlen]; exact grownCap_ge w _ cap e) (grownCap_le_maxLen w _ cap e (by unfold maxLen; omega))
                          rw [hlen] at r1 r2 r3
                          exact ⟨_, _, σ', R', hrun, r1, r2, hkill.2.trans r3⟩
                    · have hc0 := q6 hnil
                      obtain rfl : l0 = [] := List.eq_nil_of_length_eq_zero (by omega)
                      subst hc0
                      rcases Nat.eq_zero_or_pos m.length with h0 | h0
                      · obtain rfl : m = [] := List.eq_nil_of_length_eq_zero h0
                        obtain ⟨r1, r2⟩ := hkill.1.virt s' e
                        exact ⟨_, _, _, _, append_none hi.und hi2.info (Nat.le_refl _), ⟨⟨0, 0, .arr 0 s'.shp, e, true⟩, s'.shp, 0, 0, by simp [Sg.put], rfl, rfl, Nat.le_refl _, by simp, by simp [maxLen], by simp⟩, r1, hkill.2.trans r2⟩
                      · obtain ⟨ad, rfl, hcl⟩ := hcell h0
                        have hrun := run_append_nil (P := P) w ty tr e i2 z hi.und hi2.info g2 ad m.length c news (by rw [hisz]; exact hnl) hcl h0 (by omega) (by rw [hi2.bytes]; simp at hbd; omega)
                        obtain ⟨σ', R', r1, r2, r3⟩ := grown_new (l := m) (e := e) (olds := []) (news := news) (z := z) (cap := grownCap w m.length 0 e) hkill.1 (by simpa using hnsc) hzs (grownCap_ge w _ 0 e) (grownCap_le_maxLen w _ 0 e (by unfold maxLen; omega))
                        simp only [Array.empty_append] at r2 r3
                        exact ⟨_, _, σ', R', hrun, r1, by simpa using r2, hkill.2.trans (by simpa using r3)⟩
                  · cases he
                · cases he
              · cases he
            · cases he
          · cases he
        · cases he
      · cases he
    · cases he
  · cases he
end Go.Proofs.Ytjehpceomlnicaa.Eng
