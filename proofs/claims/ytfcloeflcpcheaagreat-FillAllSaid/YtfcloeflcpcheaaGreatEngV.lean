/-
The engine, twenty-second text: a law's arguments, opened; a law's end. Plain lemmas.
Conditions: none.
-/
import Derived.Test.YtfcloeflcpcheaaGreatEngU
import Derived.ChangeArms
import Derived.WideShapes
import Derived.ChangeOld
import Derived.Carry
set_option linter.unusedVariables false
set_option linter.unusedSimpArgs false
set_option linter.unusedSectionVars false
namespace Go.Proofs.YtfcloeflcpcheaaGreat.Eng
variable {P : Program} {T : Types} {σ σ' : Sg} {R R' : Ro} {h h' : Hp} {x x' : Nat} {w w' : World}
def Sch.isCh : Sch → Bool
 | .fnil => true | .fcons _ _ => true | _ => false
def szOk (T : Types) (t n : Nat) : Bool := match tyGet T t with | some ti => Nat.beq ti.size n | none => false
def schOk (T : Types) : Sch → Nat → List (Nat × Nat) → Nat → Bool
 | .int k, t, _, _ => isK T t (fun q => match q with | .int k' => decide (k' = k) | _ => false)
 | .bool, t, _, _ => isK T t TK.isBool
 | .str, t, _, _ => isK T t TK.isStr
 | .fnil, _, [], _ => true
 | .fcons a b, _, (ft, off) :: fs, o => Nat.beq off o && !a.isCh && szOk T ft a.w && schOk T a ft [] 0 && b.isCh && schOk T b 0 fs (o + a.w)
 | .stru f, t, _, _ => f.isCh && szOk T t f.w && (match tyGet T t with | some ti => (match ti.k with | .stru fs => schOk T f 0 fs 0 | _ => false) | none => false)
 | .arr n s, t, _, _ => !s.isCh && szOk T t (n * s.w) && (match tyGet T t with | some ti => (match ti.k with | .arr m e => Nat.beq m n && szOk T e s.w && schOk T s e [] 0 | _ => false) | none => false)
 | .sl s, t, _, _ => !s.isCh && (match tyGet T t with | some ti => (match ti.k with | .slice e => szOk T e s.w && schOk T s e [] 0 | _ => false) | none => false)
 | _, _, _, _ => false
def WF : (s : Sch) → s.den → Prop
 | .int k, n => (Lit.int k n).wf = true
 | .bool, _ => True
 | .str, s => s.size ≤ maxLen
 | .fnil, _ => True
 | .fcons a b, x => WF a x.1 ∧ WF b x.2
 | .stru f, x => WF f x
 | .arr n s, x => ∀ i, i < n → WF s (x i)
 | .sl s, l => l.length ≤ maxLen ∧ ∀ i, i < l.length → WF s (l.getD i s.zero)
theorem szOk_spec (hT : TyOk P T) {t n : Nat} (hh : szOk T t n = true) : P.cellsOf t = n := by
 unfold szOk at hh
 split at hh
 ·obtain ⟨i, d, hi⟩ := hT.is ‹_›
  have := Nat.eq_of_beq_eq_true hh
  unfold Program.cellsOf
  rw [hi.info]
  simp [hi.size, this]
 ·cases hh
theorem choose_list {s : Sch} {n : Nat} {p : Nat → s.den → Prop} (hh : ∀ i, i < n → ∃ y, p i y) : ∃ l : List s.den, l.length = n ∧ ∀ i, i < n → p i (l.getD i s.zero) := by
 induction n with
 | zero => exact ⟨[], rfl, fun i hi => by omega⟩
 | succ n ih =>
  obtain ⟨l, h1, h2⟩ := ih fun i hi => hh i (by omega)
  obtain ⟨y, hy⟩ := hh n (by omega)
  refine ⟨l ++ [y], by simp [h1], fun i hi => ?_⟩
  by_cases e : i = n
  ·subst e
   rw [List.getD_eq_getElem?_getD, List.getElem?_append_right (by omega)]
   simpa [h1] using hy
  ·rw [List.getD_eq_getElem?_getD, List.getElem?_append_left (by omega), ← List.getD_eq_getElem?_getD]
   exact h2 i (by omega)
section
variable {H : Type} {enc : TypeId × Value → H} {spare : Nat → Bool}
def RdV (P : Program) (T : Types) (w : World) (enc : TypeId × Value → H) (spare : Nat → Bool) (s : Sch) : Prop :=
 ∀ (fuel t : Nat) (cs : List Value) (y : DataW H × List MemPlace), s.isCh = false → schOk T s t [] 0 = true → DataW.trod enc P w 0 spare true fuel t cs = some y → ∃ d : s.den, SC (fun a => w.cell? a) s d cs ∧ WF s d
def RdF (P : Program) (T : Types) (w : World) (enc : TypeId × Value → H) (spare : Nat → Bool) (s : Sch) : Prop :=
 ∀ (n o : Nat) (fs : List Field) (cs : List Value), s.isCh = true → schOk T s 0 (fs.map fun f => (f.type, f.offset)) o = true → cs.length = o + s.w →
  (∀ f ∈ fs, ∃ y, DataW.trod enc P w 0 spare true n f.type ((cs.drop f.offset).take (P.cellsOf f.type)) = some y) → ∃ d : s.den, SC (fun a => w.cell? a) s d (cs.drop o) ∧ WF s d
theorem read_sc (hT : TyOk P T) : ∀ s : Sch, RdV P T w enc spare s ∧ RdF P T w enc spare s := by
 intro s
 induction s with
 | int k =>
  refine ⟨fun fuel t cs y _ hs hd => ?_, fun n o fs cs hc => (by cases hc)⟩
  obtain ⟨ti, i, d, hi, h1⟩ := isK_spec hT hs
  have hu : P.underlying t = some (.int k) := by
   cases hq : ti.k with
   | int k' =>
    rw [hq] at h1
    have : k' = k := by simpa using h1
    subst this
    have := hi.int hq; subst this; exact hi.und
   | _ => rw [hq] at h1; cases h1
  obtain ⟨n, h2, h3, h4⟩ := DataW.trod_int hu hd
  exact ⟨n, h2, h4⟩
 | bool =>
  refine ⟨fun fuel t cs y _ hs hd => ?_, fun n o fs cs hc => (by cases hc)⟩
  have hu := isBool_spec hT hs
  cases fuel with
  | zero => simp [DataW.trod] at hd
  | succ n =>
   unfold DataW.trod at hd
   rw [hu] at hd
   split at hd
   all_goals first | exact ⟨_, rfl, trivial⟩ | simp_all
 | str =>
  refine ⟨fun fuel t cs y _ hs hd => ?_, fun n o fs cs hc => (by cases hc)⟩
  have hu := isStr_spec hT hs
  cases fuel with
  | zero => simp [DataW.trod] at hd
  | succ n =>
   unfold DataW.trod at hd
   rw [hu] at hd
   split at hd <;> simp_all
   exact ⟨_, rfl, hd.1⟩
 | fnil =>
  refine ⟨fun fuel t cs y hc => (by cases hc), fun n o fs cs _ hs hl hf => ⟨(), ?_, trivial⟩⟩
  simp only [Sch.w, Nat.add_zero] at hl
  show cs.drop o = []
  rw [List.drop_eq_nil_of_le (by omega)]
 | fcons a b iha ihb =>
  refine ⟨fun fuel t cs y hc => (by cases hc), fun n o fs cs _ hs hl hf => ?_⟩
  cases fs with
  | nil => simp [schOk] at hs
  | cons f fs =>
   simp only [List.map_cons, schOk, Bool.and_eq_true, Bool.not_eq_true'] at hs
   obtain ⟨⟨⟨⟨⟨h1, h2⟩, h3⟩, h4⟩, h5⟩, h6⟩ := hs
   have ho := Nat.eq_of_beq_eq_true h1
   have hsz := szOk_spec hT h3
   simp only [Sch.w] at hl
   obtain ⟨y, hy⟩ := hf f (List.mem_cons_self ..)
   obtain ⟨d1, g1, g2⟩ := iha.1 n f.type _ y h2 h4 hy
   obtain ⟨d2, g3, g4⟩ := ihb.2 n (o + a.w) fs cs h5 h6 (by omega) fun f' hf' => hf f' (List.mem_cons_of_mem _ hf')
   refine ⟨(d1, d2), ⟨_, _, ?_, g1, g3⟩, g2, g4⟩
   rw [ho, hsz, show cs.drop (o + a.w) = (cs.drop o).drop a.w by rw [List.drop_drop], List.take_append_drop]
 | stru f ih =>
  refine ⟨fun fuel t cs y _ hs hd => ?_, fun n o fs cs hc => (by cases hc)⟩
  simp only [schOk, Bool.and_eq_true] at hs
  obtain ⟨⟨h1, h2⟩, h3⟩ := hs
  split at h3
  ·rename_i ti hti
   obtain ⟨i, d, hi⟩ := hT.is hti
   split at h3
   ·rename_i fs hk
    obtain ⟨fields, rfl, hfs⟩ := hi.stru hk
    obtain ⟨xs, n, _, _, g1, g2, g3⟩ := DataW.trod_struct hi.und hd
    obtain ⟨dd, q1, q2⟩ := ih.2 n 0 fields.toList cs h1 (by rw [hfs]; exact h3) (by rw [g1, szOk_spec hT h2]; omega) fun fl hfl => by
     obtain ⟨j, hj⟩ := List.mem_iff_getElem?.1 hfl
     have hj' : fields[j]? = some fl := by simpa using hj
     have := g3 j fl hj'
     have hlt : j < xs.length := by
      rw [g2]; exact (Array.getElem?_eq_some_iff.1 hj').1
     rw [List.getElem?_eq_getElem hlt] at this
     exact ⟨_, this⟩
    exact ⟨dd, (by rw [List.drop_zero] at q1; exact q1 : SC (fun a => w.cell? a) f dd cs), q2⟩
   ·cases h3
  ·cases h3
 | arr n s ih =>
  refine ⟨fun fuel t cs y _ hs hd => ?_, fun n o fs cs hc => (by cases hc)⟩
  simp only [schOk, Bool.and_eq_true, Bool.not_eq_true'] at hs
  obtain ⟨⟨h1, h2⟩, h3⟩ := hs
  split at h3
  ·rename_i ti hti
   obtain ⟨i, d, hi⟩ := hT.is hti
   split at h3
   ·rename_i m e hk
    have := hi.arr hk
    subst this
    simp only [Bool.and_eq_true] at h3
    obtain ⟨⟨h4, h5⟩, h6⟩ := h3
    have hm := Nat.eq_of_beq_eq_true h4
    subst hm
    have hsz := szOk_spec hT h5
    have hdd : ∃ (xs : List (DataW H × List MemPlace)) (q : Nat), cs.length = P.cellsOf t ∧ xs.length = m ∧
      ∀ (i : Nat), i < m → DataW.trod enc P w 0 spare true q e ((cs.drop (i * P.cellsOf e)).take (P.cellsOf e)) = xs[i]? := by
     have hu := hi.und
     cases fuel with
     | zero => simp [DataW.trod] at hd
     | succ q =>
      unfold DataW.trod at hd
      rw [hu] at hd
      simp only at hd
      split at hd
      ·rename_i hl
       obtain ⟨xs, hp, _⟩ := Option.map_eq_some_iff.1 hd
       exact ⟨xs, q, hl, by simpa using mapM_some_length hp, fun i hi => mapM_some_get hp i i (by simp [hi])⟩
      ·cases hd
    obtain ⟨xs, q, g1, g2, g3⟩ := hdd
    have each : ∀ i, i < m → ∃ yy : s.den, SC (fun a => w.cell? a) s yy ((cs.drop (i * s.w)).take s.w) ∧ WF s yy := fun i hi => by
     have := g3 i hi
     rw [List.getElem?_eq_getElem (by omega)] at this
     rw [hsz] at this
     exact ih.1 q e _ _ h1 h6 this
    obtain ⟨l, hl, hp⟩ := choose_list each
    refine ⟨fun i => l.getD i s.zero, ⟨by rw [g1, szOk_spec hT h2], fun i hi => (hp i hi).1⟩, fun i hi => (hp i hi).2⟩
   ·cases h3
  ·cases h3
 | sl s ih =>
  refine ⟨fun fuel t cs y _ hs hd => ?_, fun n o fs cs hc => (by cases hc)⟩
  simp only [schOk, Bool.and_eq_true, Bool.not_eq_true'] at hs
  obtain ⟨h1, h3⟩ := hs
  split at h3
  ·rename_i ti hti
   obtain ⟨i, d, hi⟩ := hT.is hti
   split at h3
   ·rename_i e hk
    have := hi.slice hk
    subst this
    simp only [Bool.and_eq_true] at h3
    obtain ⟨h5, h6⟩ := h3
    have hsz := szOk_spec hT h5
    rcases DataW.trod_slice hi.und hd with ⟨rfl, _⟩ | ⟨a, len, cap, elems, rest, n, _, rfl, _, g1, g2, g3, g4, g5, _⟩
    ·exact ⟨[], ⟨none, 0, rfl, Nat.le_refl _, by simp [maxLen], fun hp => absurd hp (by simp)⟩, by simp [maxLen], fun i hi => absurd hi (by simp)⟩
    ·have each : ∀ i, i < len → ∃ yy : s.den, (∃ c, RC (fun a => w.cell? a) (a.add (i * s.w)) s.w c ∧ SC (fun a => w.cell? a) s yy c) ∧ WF s yy := fun i hi => by
      have := g5 i hi
      rw [List.getElem?_eq_getElem (by omega)] at this
      rw [hsz] at this
      obtain ⟨c, hc, hd⟩ := Option.bind_eq_some_iff.1 this
      obtain ⟨yy, q1, q2⟩ := ih.1 n e c _ h1 h6 hd
      obtain ⟨_, k1, k2⟩ := World.cells?_some hc
      refine ⟨yy, ⟨c, ⟨k1, fun j u hj => ?_⟩, q1⟩, q2⟩
      have hjl := (List.getElem?_eq_some_iff.1 hj).1
      show w.cell? ((a.add (i * s.w)).add j) = some u
      rw [k2 j (by omega), hj]
     obtain ⟨l, hl, hp⟩ := choose_list (p := fun i yy => (∃ c, RC (fun a => w.cell? a) (a.add (i * s.w)) s.w c ∧ SC (fun a => w.cell? a) s yy c) ∧ WF s yy) each
     refine ⟨l, ⟨some a, cap, by rw [hl], by rw [hl]; exact g2, g3, fun _ => ⟨a, rfl, fun i hi => (hp i (by omega)).1⟩⟩, by rw [hl]; omega, fun i hi => (hp i (by omega)).2⟩
   ·cases h3
  ·cases h3
end
def Rall (w : World) : Ro := fun a => w.cell? a
theorem HR.start (w : World) : HR P (fun _ => none) (Rall w) [] 0 w :=
 ⟨fun n b k hn => (by cases hn), fun n b k hn => (by cases hn), fun n b k hn => (by cases hn), fun n b hn => (by cases hn), fun n m b b' hn => (by obtain ⟨_, hn, _⟩ := hn; cases hn), fun a v ha => ha, fun n b a hn => (by obtain ⟨_, hn, _⟩ := hn; cases hn), fun n b hn => (by obtain ⟨_, hn, _⟩ := hn; cases hn), fun n b k e s l hn => (by cases hn)⟩
theorem okWide_agg {r : Reach} {b0 : Nat} {t : TypeId} {v : Value} {d : TypeDesc} (hu : P.underlying t = some d) (hv : Value.okWide P w r b0 t v) :
  (TK.agg (match d with | .struct _ => .stru [] | .array _ _ => .arr 0 0 | _ => .other) = true → ∃ cs, v = .agg cs) ∧ (TK.agg (match d with | .struct _ => .stru [] | .array _ _ => .arr 0 0 | _ => .other) = false → ∀ cs, v ≠ .agg cs) := by
 unfold Value.okWide at hv
 rw [hu] at hv
 constructor
 ·intro hh
  cases d <;> first | (obtain ⟨cs, h1, _⟩ := hv; exact ⟨cs, h1⟩) | cases hh
 ·intro hh cs e
  subst e
  cases d <;> first | (cases hh; done) | (simp [Cell.okWide, Cell.ok, hu] at hv; done)
theorem cells_of {v : Value} (hv : ∀ cs, v ≠ .agg cs) : v.cells.toList = [v] := by
 cases v <;> first | rfl | exact absurd rfl (hv _)
theorem open_av (hT : TyOk P T) {H : Type} {enc : TypeId × Value → H} {spare : Nat → Bool} {s : Sch} {t : TypeId} (hs : schOk T s t [] 0 = true) (hc : s.isCh = false) {r : Reach} {b0 : Nat} {v : Value} {d : DataW H} {ps : List MemPlace}
  (hv : Value.okWide P w r b0 t v) (hd : DataW.Trod enc P w 0 spare true t v d ps) : ∃ y : s.den, VV σ (Rall w) (toAV s y) v ∧ WF s y := by
 obtain ⟨fuel, hd⟩ := hd
 obtain ⟨y, h1, h2⟩ := (read_sc hT s).1 fuel t _ _ hc hs hd
 refine ⟨y, ?_, h2⟩
 cases s with
 | int k =>
  obtain ⟨ti, i, dd, hi, hk⟩ := isK_spec hT hs
  have hu : dd = .int k := by
   cases hq : ti.k with
   | int k' =>
    rw [hq] at hk
    have : k' = k := by simpa using hk
    subst this
    exact hi.int hq
   | _ => rw [hq] at hk; cases hk
  subst hu
  have := cells_of ((okWide_agg hi.und hv).2 rfl)
  rw [this] at h1
  have h1' : [v] = [Value.int k y] := h1
  simp only [List.cons.injEq, and_true] at h1'
  exact h1'
 | bool =>
  have := cells_of ((okWide_agg (isBool_spec hT hs) hv).2 rfl)
  rw [this] at h1
  have h1' : [v] = [Value.bool y] := h1
  simp only [List.cons.injEq, and_true] at h1'
  exact h1'
 | str =>
  have := cells_of ((okWide_agg (isStr_spec hT hs) hv).2 rfl)
  rw [this] at h1
  have h1' : [v] = [Value.string y] := h1
  simp only [List.cons.injEq, and_true] at h1'
  exact h1'
 | fnil => cases hc
 | fcons a b => cases hc
 | stru f =>
  simp only [schOk, Bool.and_eq_true] at hs
  obtain ⟨_, h3⟩ := hs
  split at h3
  ·rename_i ti hti
   obtain ⟨i, dd, hi⟩ := hT.is hti
   split at h3
   ·rename_i fs hk
    obtain ⟨fields, rfl, hfs⟩ := hi.stru hk
    obtain ⟨cs, rfl⟩ := (okWide_agg hi.und hv).1 rfl
    exact ⟨cs, rfl, toAV_vc (s := f) h1⟩
   ·cases h3
  ·cases h3
 | arr n s =>
  simp only [schOk, Bool.and_eq_true] at hs
  obtain ⟨_, h3⟩ := hs
  split at h3
  ·rename_i ti hti
   obtain ⟨i, dd, hi⟩ := hT.is hti
   split at h3
   ·rename_i m e hk
    have := hi.arr hk
    subst this
    obtain ⟨cs, rfl⟩ := (okWide_agg hi.und hv).1 rfl
    exact ⟨cs, rfl, h1⟩
   ·cases h3
  ·cases h3
 | sl s =>
  simp only [schOk, Bool.and_eq_true] at hs
  obtain ⟨_, h3⟩ := hs
  split at h3
  ·rename_i ti hti
   obtain ⟨i, dd, hi⟩ := hT.is hti
   split at h3
   ·rename_i e hk
    have := hi.slice hk
    subst this
    have := cells_of ((okWide_agg hi.und hv).2 rfl)
    rw [this] at h1
    exact h1
   ·cases h3
  ·cases h3
theorem law_calls {f : FuncId} {args : List AV} {H' : List (Option Blk)} (hc : ACalls P f args [] (.bool true) H') {W : World} {cargs : List Value} (hv : VL (fun _ => none) (Rall W) args cargs) :
  Calls P f cargs.toArray W (fun e W' => e = .returned (.bool true) ∧ RowKit.Below W.heap.size W W') := by
 obtain ⟨fn, _, _, _, hh⟩ := hc
 refine Calls.mono (hh (HR.start W) hv) fun e W' ⟨cv, σ', R', he, hcv, _, hx⟩ => ?_
 have : cv = .bool true := hcv
 subst this
 exact ⟨he, hx.fr.os, hx.fr.tape, hx.fr.output, hx.fr.size, fun k hk => hx.fr.block k hk fun n b hn => by obtain ⟨_, hn, _⟩ := hn; cases hn⟩
theorem laws_trod {H : Type} {enc : TypeId × Value → H} {t : TypeId} (hl : laidOutB P = true) (hr : P.readableRec t = true) (hrow : t < P.types.size) {W W' : World} {v : Value} {d : DataW H} {ps : List MemPlace}
  (hd : DataW.Trod enc P W 0 (fun _ => true) true t v d ps) (hb : RowKit.Below W.heap.size W W') : DataW.Trod enc P W' 0 (fun b => decide (b < W.heap.size)) true t v d ps := by
 obtain ⟨fuel, hf⟩ := hd
 exact RowKit.Below.trod hl hr hrow ⟨fuel, hf⟩ hb (DataW.trod_lt fuel t _ _ hf)
end Go.Proofs.YtfcloeflcpcheaaGreat.Eng
