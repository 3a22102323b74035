/-
The engine, thirteenth text: rows that are made, converted, appended to. Plain lemmas.
Conditions: none.
-/
import Derived.Test.YtfcloeflcpcheaaGreatEngL
import Derived.Laws.Append
import Derived.Laws.BytesArg
import Derived.Laws.IdiomStrings
set_option linter.unusedVariables false
set_option linter.unusedSimpArgs false
namespace Go.Proofs.YtfcloeflcpcheaaGreat.Eng
variable {P : Program} {T : Types} {σ σ' : Sg} {R R' : Ro} {h h' : Hp} {x x' : Nat} {w w' : World} {X : Type} {r : X}
def gL (s : Sch) (l : List s.den) : Nat → s.den := fun i => l.getD i s.zero
theorem made_cut {zs : Array Value} {n i k : Nat} (hz : zs.size = k) (hk : 0 < k) (hi : i < n) {N : Nat} (hN : n * k ≤ N) : cut (madeCells zs N).toList (i * k) k = zs.toList := by
 have hb := mul_in (w := k) hi
 apply List.ext_getElem?
 intro j
 rw [cut_get]
 by_cases hj : j < k
 ·rw [if_pos hj]
  have h1 : i * k + j < N := by omega
  have h2 : (i * k + j) % k = j := by rw [Nat.mul_comm, Nat.mul_add_mod, Nat.mod_eq_of_lt hj]
  simp [madeCells, h1, hz, h2]
  rw [Array.getElem!_eq_getD]
  simp [Array.getD, hz, hj]
 ·rw [if_neg hj]; simp; omega
theorem zeros_sc {s : Sch} {z : Value} (hz : SC R s s.zero z.cells.toList) (hw : s.w ≠ 0) (n : Nat) {N : Nat} (hN : n * s.w ≤ N) : SC R (.arr n s) (gL s (List.replicate n s.zero)) ((madeCells z.cells N).toList.take (n * s.w)) := by
 have hl := SC.length hz
 have hzs : z.cells.size = s.w := by rw [← hl]; simp
 refine ⟨by simp [size_madeCells]; omega, fun i hi => ?_⟩
 have hb := mul_in (w := s.w) hi
 have e1 : gL s (List.replicate n s.zero) i = s.zero := by simp [gL, List.getD_eq_getElem?_getD, hi]
 rw [e1]
 have e2 : cut ((madeCells z.cells N).toList.take (n * s.w)) (i * s.w) s.w = z.cells.toList := by
  have := cut_cut (l := (madeCells z.cells N).toList) (a := 0) (i := n * s.w) (o := i * s.w) (n := s.w) (by omega)
  rw [Nat.zero_add] at this
  have e3 : cut (madeCells z.cells N).toList 0 (n * s.w) = (madeCells z.cells N).toList.take (n * s.w) := by simp [cut]
  rw [← e3, this]
  exact made_cut hzs (by omega) hi hN
 exact (show SC R s s.zero (cut _ _ _) by rw [e2]; exact hz)
theorem row_new {s : Sch} {l : List s.den} {e : Nat} {cs : Array Value} {fr : Nat × Nat} {cap : Nat} (hr : HR P σ R h x w) (hc : SC R (.arr l.length s) (gL s l) (cs.toList.take (l.length * s.w))) (hsz : cs.size = cap * s.w) (hlc : l.length ≤ cap) (hm : cap ≤ maxLen) (hf : ∀ j, j < cs.size → ¬ (fr.1 ≤ j ∧ j < fr.2)) :
  ∃ σ' R', V1 σ' R' (.sl x) (.slice (some ⟨w.heap.size, 0, none⟩) l.length cap) ∧ HR P σ' R' ((x, some ⟨.lst s l, e⟩) :: h) (x + 1) (w.alloc (.cells cs e fr)) ∧ Ext σ R h x w σ' R' ((x, some ⟨.lst s l, e⟩) :: h) (x + 1) (w.alloc (.cells cs e fr)) := by
 obtain ⟨r1, r2⟩ := hr.alloc (c := .lst s l) (e := e) (cs := cs) (fr := fr) hc (by simp only [AV.w]; rw [hsz]; exact Nat.mul_le_mul_right _ hlc) hf
 exact ⟨_, _, ⟨⟨w.heap.size, cs.size, (AV.lst s l).shp, e, false, 0, []⟩, s.shp, l.length, cap, by simp [Sg.put], rfl, rfl, hlc, fun _ => by show 0 + _ ≤ _; rw [Sch.shp_w, hsz, Nat.zero_add]; exact Nat.le_refl _, hm, by simp⟩, r1, r2⟩
theorem setList_fill {s : Sch} : ∀ (ps : List (Nat × AV)) (m : List (Nat × Value)) (l l' : List s.den) (cs : Array Value), setList s l ps = some l' → VP σ R ps m → SC R (.arr l.length s) (gL s l) cs.toList →
  ∃ cs', Instr.fill (fun i => some (i * s.w, s.w)) cs m = some cs' ∧ l'.length = l.length ∧ SC R (.arr l'.length s) (gL s l') cs'.toList
 | [], [], l, l', cs, hs, _, hc => by simp only [setList] at hs; cases hs; exact ⟨cs, rfl, rfl, hc⟩
 | (i, a) :: ps, (j, v) :: m, l, l', cs, hs, ⟨hij, hv, hrest⟩, hc => by
  subst hij
  simp only [setList] at hs
  split at hs
  ·rename_i y hy
   obtain ⟨hb, hs⟩ := cond_some hs
   simp only [Bool.and_eq_true] at hb
   have hi : i < l.length := Nat.lt_of_lt_of_le (Nat.lt_succ_self i) (Nat.le_of_ble_eq_true hb.1)
   have hvc := V0.cells hb.2 (VV.v0 hb.2 hv)
   have hsc := ofAV_sc hy hvc
   have hvl := SC.length hsc
   have hcl : cs.size = l.length * s.w := by simpa using hc.1
   have hbn := mul_in (w := s.w) hi
   obtain ⟨cs', e1, e2⟩ := fill_step (place := fun i => some (i * s.w, s.w)) (cs := cs) (i := i) (off := i * s.w) (size := s.w) (rest := m) (v := v) rfl (by rw [← hvl]; simp) (by omega)
   rw [e1]
   have hvl2 : v.cells.toList.length = s.w := hvl
   have hnew : SC R (.arr (l.set i y).length s) (gL s (l.set i y)) cs'.toList := by
    rw [List.length_set, e2]
    refine ⟨by rw [splice_length (by simp at hvl2 ⊢; omega)]; exact hc.1, fun q hq => ?_⟩
    show SC R s (gL s (l.set i y) q) (cut _ _ _)
    by_cases hqi : q = i
    ·subst hqi
     have : gL s (l.set q y) q = y := by simp [gL, List.getD_eq_getElem?_getD, hi]
     have hll : q * s.w + s.w ≤ cs.toList.length := by simp only [Array.length_toList]; omega
     have key := cut_splice_in (l := cs.toList) (m := v.cells.toList) (a := q * s.w) (o := 0) (i := s.w) hll (by omega)
     rw [Nat.add_zero] at key
     rw [this, key, splice_all (by rw [cut_length hll]; exact hvl2)]
     exact hsc
    ·have : gL s (l.set i y) q = gL s l q := by simp [gL, List.getD_eq_getElem?_getD, Ne.symm hqi]
     rw [this, cut_splice_out (by simp at hvl2 ⊢; omega)]
     ·exact hc.2 q hq
     ·rcases Nat.lt_or_gt_of_ne hqi with hlt | hgt
      ·left; have := mul_in (w := s.w) hlt; omega
      ·right; have := mul_in (w := s.w) hgt; rw [hvl2]; omega
   obtain ⟨cs2, q1, q2, q3⟩ := setList_fill ps m (l.set i y) l' cs' hs hrest hnew
   exact ⟨cs2, q1, by rw [q2, List.length_set], q3⟩
  ·cases hs
 | [], _ :: _, _, _, _, _, hv, _ => hv.elim
 | _ :: _, [], _, _, _, _, hv, _ => hv.elim
theorem buildSliceA_sound (hT : TyOk P T) {ty len : Nat} {parts : List (Nat × AV)} {k : K3 X} (he : buildSliceA T ty len parts h x k = some r) :
  ∃ v h' x', k v h' x' = some r ∧ Grows h x h' x' ∧ ∀ {σ R} {w : World} {m : Array (Nat × Value)}, HR P σ R h x w → VP σ R parts m.toList → Makes P (Instr.buildSlice ty len m) σ R h x w v h' x' := by
 unfold buildSliceA at he
 split at he
 ·rename_i ti hti
  split at he
  ·rename_i e hk
   split at he
   ·rename_i te hte
    split at he
    ·rename_i s hs
     split at he
     ·rename_i l hl
      obtain ⟨hb, he⟩ := cond_some he
      simp only [Bool.and_eq_true, Bool.not_eq_true'] at hb
      refine ⟨_, _, _, he, (by first | exact .inl ⟨rfl, rfl⟩ | exact .inr ⟨_, rfl, rfl⟩), fun {σ R w m} hr hp => ?_⟩
      obtain ⟨i, d, hi⟩ := hT.is hti
      have hd := hi.slice hk
      subst hd
      obtain ⟨i2, d2, hi2⟩ := hT.is hte
      obtain ⟨g1, z, g2, g3⟩ := hi2.sch s hs
      have hw0 : s.w ≠ 0 := fun h0 => by rw [h0] at hb; simp at hb
      have hsz := Nat.le_of_ble_eq_true hb.1.1
      have hzc := schB_sc (R := R) g3
      have hinit : SC R (.arr (List.replicate len s.zero).length s) (gL s (List.replicate len s.zero)) (madeCells z.cells (len * s.w)).toList := by
       have := zeros_sc hzc hw0 len (N := len * s.w) (Nat.le_refl _)
       rw [List.take_of_length_le (by simp [size_madeCells])] at this
       rw [List.length_replicate]
       exact this
      obtain ⟨cs', q1, q2, q3⟩ := setList_fill parts m.toList _ l _ hl hp hinit
      have hll : l.length = len := by rw [q2]; simp
      have hcs : cs'.size = len * s.w := by have := q3.1; rw [hll] at this; simpa using this
      have hlen : len ≤ 16777216 := Nat.le_of_ble_eq_true hb.2
      obtain ⟨σ', R', r1, r2, r3⟩ := row_new (l := l) (e := e) (cs := cs') (fr := (0, 0)) (cap := len) hr (by rw [List.take_of_length_le (by simp [hcs, hll])]; exact q3) hcs (by omega) (by unfold maxLen; omega) (by intro j hj; simp)
      rw [hll] at r1
      refine ⟨_, _, σ', R', ?_, r1, r2, r3⟩
      have n1 : ¬ (len * te.size > 16777216) := by rw [← g1]; omega
      by_cases h0 : len * te.size = 0
      ·have : cs' = #[] := by apply Array.eq_empty_of_size_eq_zero; rw [hcs, g1]; exact h0
       have hempty : (madeCells z.cells (len * s.w)) = #[] := by apply Array.eq_empty_of_size_eq_zero; rw [size_madeCells, g1]; exact h0
       rw [hempty, g1] at q1
       simp [Instr.buildSlice, hi.run_und, hi2.run_size, n1, h0, Array.range_zero', q1, newRow]
      ·have q1' : Instr.fill (fun i => some (i * te.size, te.size)) ((Array.range (len * te.size)).map (z.cells[· % z.cells.size]!)) m.toList = some cs' := by rw [← g1]; exact q1
       have hzr : (zeroValue e).run P w = .ok z w := by simp [zeroValue, typeInfo, hi2.info, g2]
       simp [Instr.buildSlice, hi.run_und, hi2.run_size, n1, h0, hzr, q1', newRow]
     ·cases he
    ·cases he
   ·cases he
  ·cases he
 ·cases he
theorem makeSliceA_sound (hT : TyOk P T) {ty : Nat} {l c : AV} {k : K3 X} (he : makeSliceA T ty l c h x k = some r) :
  ∃ v h' x', k v h' x' = some r ∧ Grows h x h' x' ∧ ∀ {σ R} {w : World} {cl cc}, HR P σ R h x w → VV σ R l cl → VV σ R c cc → Makes P (Instr.makeSlice ty cl cc) σ R h x w v h' x' := by
 unfold makeSliceA at he
 split at he
 ·rename_i kl l kc c
  split at he
  ·rename_i ti hti
   split at he
   ·rename_i e hk
    split at he
    ·rename_i te hte
     split at he
     ·rename_i s hs
      obtain ⟨hw, he⟩ := cond_none he
      obtain ⟨h1, he⟩ := cond_some he
      obtain ⟨h2, he⟩ := cond_some he
      obtain ⟨h3, he⟩ := cond_some he
      obtain ⟨h4, he⟩ := cond_some he
      simp only [decide_eq_true_eq] at h1 h2 h3 h4
      refine ⟨_, _, _, he, (by first | exact .inl ⟨rfl, rfl⟩ | exact .inr ⟨_, rfl, rfl⟩), fun {σ R w cl cc} hr hvl hvc => ?_⟩
      obtain rfl : cl = _ := hvl
      obtain rfl : cc = _ := hvc
      obtain ⟨i, d, hi⟩ := hT.is hti
      have hd := hi.slice hk
      subst hd
      obtain ⟨i2, d2, hi2⟩ := hT.is hte
      obtain ⟨g1, z, g2, g3⟩ := hi2.sch s hs
      have hw0 : s.w ≠ 0 := fun h0 => by rw [h0] at hw; simp at hw
      have hrun := run_make (P := P) w ty e i2 z hi.und hi2.info g2 kl kc l c h1 h2 (by rw [hi2.bytes]; exact h3) h4
      have hzc := schB_sc (R := R) g3
      have hisz : i2.size = s.w := by rw [hi2.size, ← g1]
      have hle : l.toNat * s.w ≤ c.toNat * i2.size := by rw [hisz]; exact Nat.mul_le_mul_right _ (by omega)
      obtain ⟨σ', R', r1, r2, r3⟩ := row_new (l := List.replicate l.toNat s.zero) (e := e) (cs := madeCells z.cells (c.toNat * i2.size)) (fr := (0, 0)) (cap := c.toNat) hr (by
       have := zeros_sc hzc hw0 l.toNat hle
       rw [List.length_replicate]
       exact this) (by rw [size_madeCells, hisz]) (by simp; omega) (by unfold maxLen; omega) (by intro j hj; simp)
      exact ⟨_, _, σ', R', hrun, by rw [List.length_replicate] at r1; exact r1, r2, r3⟩
     ·cases he
    ·cases he
   ·cases he
  ·cases he
 ·cases he
theorem strList_length (s : ByteArray) : (strList s).length = s.size := by simp [strList]
theorem bytes_sc {R : Ro} : ∀ (l : List Int), SC R (.arr l.length (.int .u8)) (gL (.int .u8) l) (l.map fun n => .int .u8 n) := by
 intro l
 refine ⟨by simp [Sch.w], fun i hi => ?_⟩
 show cut (l.map fun n => Value.int .u8 n) (i * 1) 1 = [.int .u8 (gL (.int .u8) l i)]
 apply List.ext_getElem?
 intro j
 rw [cut_get]
 by_cases hj : j < 1
 ·obtain rfl : j = 0 := by omega
  simp [gL, List.getD_eq_getElem?_getD, hi]
 ·rw [if_neg hj]; simp; omega
theorem bytes_of_sc {R : Ro} {l : List Int} {cs : List Value} (hc : SC R (.arr l.length (.int .u8)) (gL (.int .u8) l) cs) : cs = l.map fun n => .int .u8 n := by
 apply List.ext_getElem?
 intro j
 have hl : cs.length = l.length := by have := hc.1; simpa [Sch.w] using this
 by_cases hj : j < l.length
 ·have := hc.2 j hj
  have h2 : cut cs (j * 1) 1 = [.int .u8 (gL (.int .u8) l j)] := this
  have h3 : (cut cs (j * 1) 1)[0]? = some (.int .u8 (gL (.int .u8) l j)) := by rw [h2]; rfl
  rw [cut_get, if_pos (by omega)] at h3
  rw [Nat.mul_one, Nat.add_zero] at h3
  rw [h3]
  simp [gL, List.getD_eq_getElem?_getD, hj]
 ·rw [List.getElem?_eq_none (by omega), List.getElem?_eq_none (by simp; omega)]
theorem int_kind (hT : TyOk P T) {e : Nat} {te : TI} {k : IntKind} (ht : tyGet T e = some te) (hk : te.k = .int k) : P.underlying e = some (.int k) := by
 obtain ⟨i, d, hi⟩ := hT.is ht
 have := hi.int hk
 subst this; exact hi.und
theorem ofBytes_spec (hT : TyOk P T) {e : Nat} : ∀ {s : Sch} {l : List s.den} {b : ByteArray}, convertA.ofBytes T e s l = some b → P.underlying e = some (.int .u8) ∧ ∃ q : s = .int .u8, b = listStr (q ▸ l : List (Sch.int .u8).den) := by
 intro s l b hb
 unfold convertA.ofBytes at hb
 split at hb
 ·split at hb
  ·rename_i te hte
   split at hb
   ·rename_i hk
    cases hb
    exact ⟨int_kind hT hte hk, rfl, rfl⟩
   ·cases hb
  ·cases hb
 ·cases hb
theorem bytes_to_string {src dst e : Nat} {l : List Int} {A : Option Addr} {cap : Nat} (hs : P.underlying src = some (.slice e)) (he : P.underlying e = some (.int .u8)) (hd : P.underlying dst = some .string)
  (hc : 0 < l.length → ∃ ad, A = some ad ∧ ∀ j u, (l.map fun n => Value.int .u8 n)[j]? = some u → w.cell? (ad.add j) = some u) :
  (Go.convert src dst (.slice A l.length cap)).run P w = .ok (.string (listStr l)) w := by
 rw [run_convert_bytes_string w src dst e A l.length cap hs he hd]
 rcases Nat.eq_zero_or_pos l.length with h0 | h0
 ·obtain rfl : l = [] := List.eq_nil_of_length_eq_zero h0
  cases A with
  | none => simp [Conv.bytesToString, listStr]; rfl
  | some a => simp [Conv.bytesToString, loadCells, loadCellsFrom, listStr]; rfl
 ·obtain ⟨ad, rfl, hcell⟩ := hc h0
  have hl := run_loadCells_list (P := P) w ad (l.map fun n => Value.int .u8 n) hcell
  rw [List.length_map] at hl
  rw [run_bytesToString w _ l.length cap l hl, foldl_push_bytes]
  simp [listStr, ByteArray.empty, ByteArray.emptyWithCapacity]
  rfl
theorem nils_v {cv : Value} (h : VV σ R .nils cv) : cv = .slice none 0 0 := h
theorem elems_spec {s : Sch} {b : AV} {m : List s.den} {cb : Value} (he : elems h s b = some m) (hr : HR P σ R h x w) (hb : VV σ R b cb) (hw0 : s.w ≠ 0) :
  ∃ A c news, cb = .slice A m.length c ∧ SC R (.arr m.length s) (gL s m) news ∧ (0 < m.length → ∃ ad, A = some ad ∧ ∀ j u, news[j]? = some u → w.cell? (ad.add j) = some u) := by
 unfold elems at he
 split at he
 ·cases he
  obtain rfl := nils_v hb
  exact ⟨none, 0, [], rfl, ⟨by simp, fun i hi => absurd hi (by simp)⟩, fun hp => absurd hp (by simp)⟩
 ·rename_i s' l
  split at he
  ·rename_i q
   subst q
   replace he : some l = some m := he
   cases he
   obtain ⟨A, cap, hcv, g1, g2, g3⟩ := hb
   simp only [List.cons.injEq, and_true] at hcv
   subst hcv
   rcases Nat.eq_zero_or_pos l.length with h0 | h0
   ·obtain rfl : l = [] := List.eq_nil_of_length_eq_zero h0
    exact ⟨A, cap, [], rfl, ⟨by simp, fun i hi => absurd hi (by simp)⟩, fun hp => absurd hp (by simp)⟩
   ·obtain ⟨ad, rfl, g4⟩ := g3 h0
    have key : ∀ i, i < l.length → ∀ j, j < s'.w → ∃ u, R (ad.add (i * s'.w + j)) = some u := by
     intro i hi j hj
     obtain ⟨c, ⟨g5, g6⟩, g7⟩ := g4 i hi
     refine ⟨c[j]'(by omega), ?_⟩
     have := g6 j _ (List.getElem?_eq_getElem (by omega))
     rw [add_of_add] at this
     exact this
    have hall : ∀ j, j < l.length * s'.w → ∃ u, R (ad.add j) = some u := by
     intro j hj
     have hd : j / s'.w < l.length := by rw [Nat.div_lt_iff_lt_mul (by omega)]; exact hj
     have := key (j / s'.w) hd (j % s'.w) (Nat.mod_lt _ (by omega))
     rwa [Nat.div_add_mod'] at this
    refine ⟨some ad, cap, (List.range (l.length * s'.w)).map fun j => (R (ad.add j)).getD undef, rfl, ⟨by simp, fun i hi => ?_⟩, fun _ => ⟨ad, rfl, fun j u hj => ?_⟩⟩
    ·obtain ⟨c, ⟨g5, g6⟩, g7⟩ := g4 i hi
     have hb := mul_in (w := s'.w) hi
     have : cut ((List.range (l.length * s'.w)).map fun j => (R (ad.add j)).getD undef) (i * s'.w) s'.w = c := by
      apply List.ext_getElem?
      intro j
      rw [cut_get]
      by_cases hj : j < s'.w
      ·rw [if_pos hj, List.getElem?_map, List.getElem?_range (by omega)]
       have := g6 j _ (List.getElem?_eq_getElem (by omega))
       rw [add_of_add] at this
       simp [this, List.getElem?_eq_getElem (show j < c.length by omega)]
      ·rw [if_neg hj, List.getElem?_eq_none (by omega)]
     exact (show SC R s' (gL s' l i) (cut _ _ _) by rw [this]; exact g7)
    ·have hjl : j < l.length * s'.w := by
      rcases Nat.lt_or_ge j (l.length * s'.w) with h | h
      ·exact h
      ·rw [List.getElem?_eq_none (by simp; omega)] at hj; cases hj
     obtain ⟨u', hu'⟩ := hall j hjl
     rw [List.getElem?_map, List.getElem?_range hjl] at hj
     simp [hu'] at hj
     subst hj
     exact hr.ro _ _ hu'
  ·cases he
 ·rename_i n
  split at he
  ·rename_i b hbk
   split at he
   ·rename_i s' l hc
    split at he
    ·rename_i q
     subst q
     replace he : some l = some m := he
     cases he
     obtain ⟨B, s2, len, cap, g1, g2, rfl, g3, g4, g5, g6⟩ := hb
     obtain ⟨hsh, _⟩ := hr.shp n B b g1 hbk
     rw [hc, g2] at hsh
     simp only [AV.shp, Shp.arr.injEq] at hsh
     obtain ⟨rfl, rfl⟩ := hsh
     cases hnl : B.nil
     ·obtain ⟨hw, cs, fr, hg, hsz, hvc, hf⟩ := hr.blk n B b g1 hbk hnl (by rw [hc]; rfl)
      rw [hc] at hvc
      have hvc' : SC R (.arr l.length s') (gL s' l) ((cs.toList.drop B.o).take (l.length * s'.w)) := hvc
      refine ⟨_, cap, (cs.toList.drop B.o).take (l.length * s'.w), rfl, hvc', fun _ => ⟨⟨B.g, B.o, none⟩, rfl, fun j u hj => ?_⟩⟩
      exact cut_cells hg (n := l.length * s'.w) (o := 0) (m := l.length * s'.w) (by omega) j u (by rw [cut_all hvc'.1]; exact hj)
     ·have h1 := g6 hnl
      obtain rfl : l = [] := List.eq_nil_of_length_eq_zero (by omega)
      exact ⟨_, cap, [], rfl, ⟨by simp, fun i hi => absurd hi (by simp)⟩, fun hp => absurd hp (by simp)⟩
    ·cases he
   ·cases he
  ·cases he
 ·rename_i n p o len
  split at he
  ·rename_i b hbk
   obtain ⟨B, N, s2, a, cap, o0, g1, g2, g3, g4, rfl, g5, g6, g7, _⟩ := hb
   obtain ⟨hsh, _⟩ := hr.shp n B b g1 hbk
   have part : ∀ {c : AV} {f : Nat → s.den}, aget b.c p = some c → c.isMap = false → (∀ {cs}, VC σ R c cs → SC R (.arr N s) f cs) → c.shp = .arr N s.shp → ∀ {m : List s.den}, m.length = len → (∀ i, i < len → gL s m i = f (o + i)) → s2 = s.shp →
     ∃ A c news, Value.slice a len cap = .slice A m.length c ∧ SC R (.arr m.length s) (gL s m) news ∧ (0 < m.length → ∃ ad, A = some ad ∧ ∀ j u, news[j]? = some u → w.cell? (ad.add j) = some u) := by
    intro c f hcg hcm hcs hcsh m hml hmf hs2
    subst hs2
    rcases Nat.eq_zero_or_pos len with h0 | h0
    ·obtain rfl : m = [] := List.eq_nil_of_length_eq_zero (by omega)
     exact ⟨a, cap, [], by rw [h0]; rfl, ⟨by simp, fun i hi => absurd hi (by simp)⟩, fun hp => absurd hp (by simp)⟩
    ·obtain ⟨rfl, hnl⟩ := g7 h0
     obtain ⟨hw, cs, fr, hg, hsz, hvc, hf⟩ := hr.blk n B b g1 hbk hnl (aget_notmap hcg hcm)
     rw [← hsh] at g3
     obtain ⟨q1, q2⟩ := aget_vc hvc hcg g3
     have hsc := hcs q2
     have hcw : c.w = N * s.w := by rw [← AV.shp_w, hcsh]; simp [Shp.w, Sch.shp_w]
     have hlen : ((cs.toList.drop B.o).take b.c.w).length = b.c.w := VC.length hvc
     have hle : o * s.w + len * s.w ≤ N * s.w := by rw [← Nat.add_mul]; exact Nat.mul_le_mul_right _ g4
     rw [Sch.shp_w]
     refine ⟨_, cap, cut ((cs.toList.drop B.o).take b.c.w) (o0 + o * s.w) (len * s.w), by rw [hml], ?_, fun _ => ⟨_, rfl, cut_cells hg (by omega)⟩⟩
     refine ⟨by rw [cut_length (by omega), hml], fun i hi => ?_⟩
     rw [hml] at hi
     have hb := mul_in (w := s.w) hi
     have hbb := mul_in (w := s.w) (show o + i < N by omega)
     rw [hmf i hi]
     have h1 := hsc.2 (o + i) (by omega)
     have e1 : cut (cut ((cs.toList.drop B.o).take b.c.w) (o0 + o * s.w) (len * s.w)) (i * s.w) s.w = cut ((cs.toList.drop B.o).take b.c.w) (o0 + o * s.w + i * s.w) s.w := cut_cut (by omega)
     have e2 : cut (cut ((cs.toList.drop B.o).take b.c.w) o0 c.w) ((o + i) * s.w) s.w = cut ((cs.toList.drop B.o).take b.c.w) (o0 + (o + i) * s.w) s.w := cut_cut (by omega)
     have e3 : o0 + o * s.w + i * s.w = o0 + (o + i) * s.w := by rw [Nat.add_mul, Nat.add_assoc]
     show SC R s (f (o + i)) (cut _ _ _)
     rw [e1, e3, ← e2]
     exact h1
   split at he
   ·rename_i s' l hc
    split at he
    ·rename_i q
     subst q
     replace he : some ((l.drop o).take len) = some m := he
     cases he
     have hat := aget_at hc (by rw [hsh]; exact g3)
     rw [hsh, g2] at hat
     simp only [AV.shp, Option.some.injEq, Shp.arr.injEq] at hat
     obtain ⟨rfl, hs2⟩ := hat
     have hml : ((l.drop o).take len).length = len := by simp; omega
     have := part (c := .lst s' l) (f := gL s' l) hc rfl (fun h => h) rfl (m := (l.drop o).take len) hml (fun i hi => getD_cut hi) hs2
     rw [hml] at this ⊢
     exact this
    ·cases he
   ·rename_i s' N' f hc
    split at he
    ·rename_i q
     subst q
     replace he : some ((List.range len).map fun j => f (o + j)) = some m := he
     cases he
     have hat := aget_at hc (by rw [hsh]; exact g3)
     rw [hsh, g2] at hat
     simp only [AV.shp, Option.some.injEq, Shp.arr.injEq] at hat
     obtain ⟨rfl, hs2⟩ := hat
     have hml : ((List.range len).map fun j => f (o + j)).length = len := by simp
     have := part (c := .vec s' N f) (f := f) hc rfl (fun h => h) rfl (m := (List.range len).map fun j => f (o + j)) hml (fun i hi => by simp [gL, List.getD_eq_getElem?_getD, hi]) hs2
     rw [hml] at this ⊢
     exact this
    ·cases he
   ·cases he
  ·cases he
 ·cases he
theorem convertA_sound (hT : TyOk P T) {src dst : Nat} {v : AV} {k : K3 X} (he : convertA T src dst h x v k = some r) :
  ∃ u h' x', k u h' x' = some r ∧ Grows h x h' x' ∧ ∀ {σ R} {w : World} {cv}, HR P σ R h x w → VV σ R v cv → Makes P (Go.convert src dst cv) σ R h x w u h' x' := by
 have same : ∀ {u : AV} (uv : Value) {σ R} {w : World} {s : Sem Value}, HR P σ R h x w → s.run P w = .ok uv w → VV σ R u uv → Makes P s σ R h x w u h x := by
  intro u uv σ R w s hr h1 h2
  exact ⟨uv, w, σ, R, h1, h2, hr, Ext.refl _ _ _ _ _⟩
 unfold convertA at he
 split at he
 ·rename_i ts td hts htd
  obtain ⟨i1, d1, k1⟩ := hT.is hts
  obtain ⟨i2, d2, k2⟩ := hT.is htd
  split at he
  ·rename_i k1' ki q n hk1 hk2
   have e1 := k1.int hk1
   have e2 := k2.int hk2
   subst e1 e2
   refine ⟨_, _, _, he, (by first | exact .inl ⟨rfl, rfl⟩ | exact .inr ⟨_, rfl, rfl⟩), fun {σ R w cv} hr hv => ?_⟩
   obtain rfl : cv = _ := hv
   exact same (.int ki (ki.wrap n)) hr (by simp [Go.convert, run_underlying k1.und, run_underlying k2.und, Conv.intToInt]) rfl
  ·rename_i s hk1 hk2
   have e1 := k1.str hk1
   have e2 := k2.str hk2
   subst e1 e2
   refine ⟨_, _, _, he, (by first | exact .inl ⟨rfl, rfl⟩ | exact .inr ⟨_, rfl, rfl⟩), fun {σ R w cv} hr hv => ?_⟩
   obtain rfl : cv = _ := hv
   exact same (.string s) hr (by simp [Go.convert, run_underlying k1.und, run_underlying k2.und]) rfl
  ·rename_i e s l hk1 hk2
   have e1 := k1.slice hk1
   have e2 := k2.str hk2
   subst e1 e2
   split at he
   ·rename_i b hb
    obtain ⟨hu, rfl, rfl⟩ := ofBytes_spec hT hb
    refine ⟨_, _, _, he, (by first | exact .inl ⟨rfl, rfl⟩ | exact .inr ⟨_, rfl, rfl⟩), fun {σ R w cv} hr hv => ?_⟩
    obtain ⟨A, cap, hcv, g1, g2, g3⟩ := hv
    simp only [List.cons.injEq, and_true] at hcv
    subst hcv
    refine same _ hr (bytes_to_string k1.und hu k2.und fun hp => ?_) rfl
    obtain ⟨ad, rfl, g4⟩ := g3 hp
    refine ⟨ad, rfl, fun j u hj => ?_⟩
    have hjl : j < l.length := by
     rcases Nat.lt_or_ge j l.length with h | h
     ·exact h
     ·rw [List.getElem?_eq_none (by simp; omega)] at hj; cases hj
    obtain ⟨c, ⟨g5, g6⟩, g7⟩ := g4 j hjl
    have g7' : c = [.int .u8 (l.getD j 0)] := g7
    have := g6 0 (.int .u8 (l.getD j 0)) (by rw [g7']; rfl)
    rw [add_of_add] at this
    simp only [Sch.w, Nat.mul_one, Nat.add_zero] at this
    simp [hjl] at hj
    rw [← hj]
    have h2 := hr.ro _ _ this
    rw [h2]
    simp [List.getD_eq_getElem?_getD, hjl]
   ·cases he
  ·rename_i e n hk1 hk2
   have e1 := k1.slice hk1
   have e2 := k2.str hk2
   subst e1 e2
   split at he
   ·rename_i b hb
    split at he
    ·rename_i s l hc
     split at he
     ·rename_i bs hbs
      obtain ⟨hu, rfl, rfl⟩ := ofBytes_spec hT hbs
      refine ⟨_, _, _, he, (by first | exact .inl ⟨rfl, rfl⟩ | exact .inr ⟨_, rfl, rfl⟩), fun {σ R w cv} hr hv => ?_⟩
      obtain ⟨B, s', len, cap, g1, g2, rfl, g3, g4, g5, g6⟩ := hv
      obtain ⟨hsh, _⟩ := hr.shp n B b g1 hb
      rw [hc, g2] at hsh
      simp only [AV.shp, Shp.arr.injEq] at hsh
      obtain ⟨rfl, rfl⟩ := hsh
      refine same _ hr (bytes_to_string k1.und hu k2.und fun hp => ?_) rfl
      have hnl : B.nil = false := by
       cases hq : B.nil
       ·rfl
       ·have := g6 hq; omega
      rw [hnl]
      obtain ⟨hw, cs, fr, hg, hsz, hvc, hf⟩ := hr.blk n B b g1 hb hnl (by rw [hc]; rfl)
      rw [hc] at hvc
      have hvc' : SC R (.arr l.length (.int .u8)) (gL (.int .u8) l) ((cs.toList.drop B.o).take (AV.lst (.int .u8) l).w) := hvc
      have hbs2 := bytes_of_sc hvc'
      refine ⟨_, rfl, fun j u hj => ?_⟩
      have := cut_cells hg (n := (AV.lst (.int .u8) l).w) (o := 0) (m := (AV.lst (.int .u8) l).w) (by omega) j u (by rw [hbs2, cut_all (by simp [AV.w, Sch.w])]; exact hj)
      exact this
     ·cases he
    ·cases he
   ·cases he
  ·rename_i e n p o len hk1 hk2
   have e1 := k1.slice hk1
   have e2 := k2.str hk2
   subst e1 e2
   split at he
   ·rename_i l hl
    split at he
    ·rename_i bs hbs
     obtain ⟨hu, _, rfl⟩ := ofBytes_spec hT hbs
     refine ⟨_, _, _, he, (by first | exact .inl ⟨rfl, rfl⟩ | exact .inr ⟨_, rfl, rfl⟩), fun {σ R w cv} hr hv => ?_⟩
     obtain ⟨A, c, news, rfl, h2, h3⟩ := elems_spec hl hr hv (by simp [Sch.w])
     have hbs2 := bytes_of_sc h2
     refine same _ hr (bytes_to_string k1.und hu k2.und fun hp => ?_) rfl
     obtain ⟨ad, rfl, h4⟩ := h3 hp
     refine ⟨ad, rfl, fun j u hj => h4 j u ?_⟩
     rw [hbs2]; exact hj
    ·cases he
   ·cases he
  ·rename_i e s hk1 hk2
   have e1 := k1.str hk1
   have e2 := k2.slice hk2
   subst e1 e2
   split at he
   ·rename_i te hte
    split at he
    ·rename_i hk
     obtain ⟨hs, he⟩ := cond_some he
     simp only [decide_eq_true_eq] at hs
     refine ⟨_, _, _, he, (by first | exact .inl ⟨rfl, rfl⟩ | exact .inr ⟨_, rfl, rfl⟩), fun {σ R w cv} hr hv => ?_⟩
     obtain rfl : cv = _ := hv
     have hu := int_kind hT hte hk
     have hrun := run_bytes_of_string (P := P) w src dst e s k1.und k2.und hu
     have hge := grownCap_ge w s.size 0 e
     have hdsz : s.data.size = s.size := rfl
     have hrs : (bytesRow s (grownCap w s.size 0 e)).size = grownCap w s.size 0 e := by simp [bytesRow, hdsz]; omega
     rw [hrs] at hrun
     obtain ⟨σ', R', r1, r2, r3⟩ := row_new (s := .int .u8) (l := strList s) (e := e) (cs := bytesRow s (grownCap w s.size 0 e)) (fr := (grownCap w s.size 0 e, grownCap w s.size 0 e + 1)) (cap := grownCap w s.size 0 e) hr.drew (by
      have h1 : (bytesRow s (grownCap w s.size 0 e)).toList.take ((strList s).length * (Sch.int .u8).w) = (strList s).map fun n => .int .u8 n := by
       rw [strList_length]
       simp only [Sch.w, Nat.mul_one, bytesRow, Array.toList_append, Array.toList_map]
       rw [List.take_left' (by simp [hdsz])]
       simp [strList]
      rw [h1]
      exact bytes_sc (strList s)) (by rw [hrs]; simp [Sch.w]) (by rw [strList_length]; exact hge) (grownCap_le_maxLen w s.size 0 e hs) (by rw [hrs]; intro j hj; simp; omega)
     rw [strList_length] at r1
     exact ⟨_, _, σ', R', hrun, r1, r2, Ext.drew.trans r3⟩
    ·cases he
   ·cases he
  ·cases he
 ·cases he
theorem strConv_sound (hT : TyOk P T) {src dst : Nat} (hd : isK T dst TK.isStr = true) {v : AV} {k : K3 X} (he : convertA T src dst h x v k = some r) :
  ∃ u, k u h x = some r ∧ ∀ {σ R x} {w : World} {cv}, HR P σ R h x w → VV σ R v cv → Reads P (Go.convert src dst cv) σ R w u := by
 have same : ∀ {u : AV} (uv : Value) {σ R x} {w : World} {s : Sem Value}, HR P σ R h x w → s.run P w = .ok uv w → VV σ R u uv → Reads P s σ R w u := by
  intro u uv σ R x w s hr h1 h2
  exact ⟨uv, h1, h2⟩
 unfold convertA at he
 split at he
 ·rename_i ts td hts htd
  obtain ⟨i1, d1, k1⟩ := hT.is hts
  obtain ⟨i2, d2, k2⟩ := hT.is htd
  have hdk : td.k.isStr = true := by unfold isK at hd; rw [htd] at hd; exact hd
  split at he
  ·rename_i k1' ki q n hk1 hk2
   rw [hk2] at hdk; cases hdk
  ·rename_i s hk1 hk2
   have e1 := k1.str hk1
   have e2 := k2.str hk2
   subst e1 e2
   refine ⟨_, he, fun {σ R x w cv} hr hv => ?_⟩
   obtain rfl : cv = _ := hv
   exact same (.string s) hr (by simp [Go.convert, run_underlying k1.und, run_underlying k2.und]) rfl
  ·rename_i e s l hk1 hk2
   have e1 := k1.slice hk1
   have e2 := k2.str hk2
   subst e1 e2
   split at he
   ·rename_i b hb
    obtain ⟨hu, rfl, rfl⟩ := ofBytes_spec hT hb
    refine ⟨_, he, fun {σ R x w cv} hr hv => ?_⟩
    obtain ⟨A, cap, hcv, g1, g2, g3⟩ := hv
    simp only [List.cons.injEq, and_true] at hcv
    subst hcv
    refine same _ hr (bytes_to_string k1.und hu k2.und fun hp => ?_) rfl
    obtain ⟨ad, rfl, g4⟩ := g3 hp
    refine ⟨ad, rfl, fun j u hj => ?_⟩
    have hjl : j < l.length := by
     rcases Nat.lt_or_ge j l.length with h | h
     ·exact h
     ·rw [List.getElem?_eq_none (by simp; omega)] at hj; cases hj
    obtain ⟨c, ⟨g5, g6⟩, g7⟩ := g4 j hjl
    have g7' : c = [.int .u8 (l.getD j 0)] := g7
    have := g6 0 (.int .u8 (l.getD j 0)) (by rw [g7']; rfl)
    rw [add_of_add] at this
    simp only [Sch.w, Nat.mul_one, Nat.add_zero] at this
    simp [hjl] at hj
    rw [← hj]
    have h2 := hr.ro _ _ this
    rw [h2]
    simp [List.getD_eq_getElem?_getD, hjl]
   ·cases he
  ·rename_i e n hk1 hk2
   have e1 := k1.slice hk1
   have e2 := k2.str hk2
   subst e1 e2
   split at he
   ·rename_i b hb
    split at he
    ·rename_i s l hc
     split at he
     ·rename_i bs hbs
      obtain ⟨hu, rfl, rfl⟩ := ofBytes_spec hT hbs
      refine ⟨_, he, fun {σ R x w cv} hr hv => ?_⟩
      obtain ⟨B, s', len, cap, g1, g2, rfl, g3, g4, g5, g6⟩ := hv
      obtain ⟨hsh, _⟩ := hr.shp n B b g1 hb
      rw [hc, g2] at hsh
      simp only [AV.shp, Shp.arr.injEq] at hsh
      obtain ⟨rfl, rfl⟩ := hsh
      refine same _ hr (bytes_to_string k1.und hu k2.und fun hp => ?_) rfl
      have hnl : B.nil = false := by
       cases hq : B.nil
       ·rfl
       ·have := g6 hq; omega
      rw [hnl]
      obtain ⟨hw, cs, fr, hg, hsz, hvc, hf⟩ := hr.blk n B b g1 hb hnl (by rw [hc]; rfl)
      rw [hc] at hvc
      have hvc' : SC R (.arr l.length (.int .u8)) (gL (.int .u8) l) ((cs.toList.drop B.o).take (AV.lst (.int .u8) l).w) := hvc
      have hbs2 := bytes_of_sc hvc'
      refine ⟨_, rfl, fun j u hj => ?_⟩
      have := cut_cells hg (n := (AV.lst (.int .u8) l).w) (o := 0) (m := (AV.lst (.int .u8) l).w) (by omega) j u (by rw [hbs2, cut_all (by simp [AV.w, Sch.w])]; exact hj)
      exact this
     ·cases he
    ·cases he
   ·cases he
  ·rename_i e n p o len hk1 hk2
   have e1 := k1.slice hk1
   have e2 := k2.str hk2
   subst e1 e2
   split at he
   ·rename_i l hl
    split at he
    ·rename_i bs hbs
     obtain ⟨hu, _, rfl⟩ := ofBytes_spec hT hbs
     refine ⟨_, he, fun {σ R x w cv} hr hv => ?_⟩
     obtain ⟨A, c, news, rfl, h2, h3⟩ := elems_spec hl hr hv (by simp [Sch.w])
     have hbs2 := bytes_of_sc h2
     refine same _ hr (bytes_to_string k1.und hu k2.und fun hp => ?_) rfl
     obtain ⟨ad, rfl, h4⟩ := h3 hp
     refine ⟨ad, rfl, fun j u hj => h4 j u ?_⟩
     rw [hbs2]; exact hj
    ·cases he
   ·cases he
  ·rename_i e s hk1 hk2
   rw [hk2] at hdk; cases hdk
  ·cases he
 ·cases he
end Go.Proofs.YtfcloeflcpcheaaGreat.Eng
