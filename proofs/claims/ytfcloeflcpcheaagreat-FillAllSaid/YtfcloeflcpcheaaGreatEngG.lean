/-
The engine, seventh text: each operation that only reads does on the machine what it does over abstract values. Plain lemmas.
Conditions: none.
-/
import Derived.Test.YtfcloeflcpcheaaGreatEngF
set_option linter.unusedVariables false
set_option linter.unusedSimpArgs false
namespace Go.Proofs.YtfcloeflcpcheaaGreat.Eng
variable {P : Program} {T : Types} {σ σ' : Sg} {R R' : Ro} {h h' : Hp} {x x' : Nat} {w w' : World} {X : Type} {r : X}
theorem add_of_add (a : Addr) (i j : Nat) : (a.add i).add j = a.add (i + j) := by
 unfold Addr.add
 by_cases hi : i = 0 <;> by_cases hj : j = 0 <;> simp [hi, hj, Nat.add_assoc]
structure TyIs (P : Program) (t : Nat) (ti : TI) (i : TypeInfo) (d : TypeDesc) : Prop where
 info : P.info? t = some i
 und : P.underlying t = some d
 size : i.size = ti.size
 bytes : i.bytes = ti.bytes
 kind : kindB d ti.k = true
 zero : ti.zero = .any ∨ ((ti.zero.cell || ti.zero.agg) = true ∧ ti.zero.w = ti.size ∧ ti.zero.agg = ti.k.agg ∧ ∃ v, i.zero = some v ∧ zeroB ti.zero v.cells.toList = true)
 sub : (∀ fs, d = .struct fs → ∀ f ∈ fs.toList, ∃ j, P.info? f.type = some j) ∧ (∀ n e, d = .array n e → ∃ j, P.info? e = some j)
 eq : ti.eq = true → P.eqGuardType P.depth t = false ∧ ∀ fs, d = .struct fs → (∀ f ∈ fs.toList, f.name ≠ "_") ∧ P.stoodInHeld t = false
 one : ti.k.agg = false → ∀ v, i.zero = some v → ∀ cs, v ≠ .agg cs
 sch : ∀ s, ti.sch = some s → s.w = ti.size ∧ ∃ v, i.zero = some v ∧ zeroB.schB s s.zero v.cells.toList = true
theorem TyOk.is (hT : TyOk P T) {t : Nat} {ti : TI} (ht : tyGet T t = some ti) : ∃ i d, TyIs P t ti i d := by
 have hh := hT.ok t ti ht
 unfold tiB at hh
 split at hh
 ·rename_i i d hi hd
  simp only [Bool.and_eq_true] at hh
  obtain ⟨⟨⟨⟨⟨⟨⟨h1, h2⟩, h3⟩, h4⟩, hsub⟩, hq⟩, hone⟩, h5⟩ := hh
  refine ⟨i, d, hi, hd, Nat.eq_of_beq_eq_true h1, Nat.eq_of_beq_eq_true h2, h3, ?_, ?_, ?_, ?_, ?_⟩
  ·split at h4
   ·rename_i hz; exact .inl hz
   ·right
    simp only [Bool.and_eq_true] at h4
    obtain ⟨⟨h6, h7⟩, h8⟩ := h4
    refine ⟨h6, Nat.eq_of_beq_eq_true h7, ?_, ?_⟩
    ·split at h8
     ·simp only [Bool.and_eq_true] at h8
      have := h8.2
      cases hz : ti.zero.agg <;> simp [hz] at this <;> simp [this]
     ·cases h8
    ·split at h8
     ·simp only [Bool.and_eq_true] at h8
      exact ⟨_, ‹_›, h8.1⟩
     ·cases h8
  ·refine ⟨fun fs hfs f hf => ?_, fun n e hne => ?_⟩
   ·subst hfs
    simp only [List.all_eq_true] at hsub
    exact Option.isSome_iff_exists.1 (hsub f hf)
   ·subst hne
    exact Option.isSome_iff_exists.1 hsub
  ·intro he
   rw [he] at hq
   simp only [Bool.not_true, Bool.false_or, Bool.and_eq_true, Bool.not_eq_true'] at hq
   refine ⟨hq.1, fun fs hfs => ?_⟩
   subst hfs
   have h6 := hq.2
   simp only [Bool.and_eq_true, Bool.not_eq_true', List.all_eq_true, bne_iff_ne] at h6
   exact h6
  ·intro ha v hv cs e
   subst e
   rw [hv] at hone
   simp only at hone
   rw [ha] at hone
   cases hone
  ·intro s hs
   rw [hs] at h5
   simp only [Bool.and_eq_true] at h5
   obtain ⟨h6, h7⟩ := h5
   refine ⟨Nat.eq_of_beq_eq_true h6, ?_⟩
   split at h7
   ·exact ⟨_, ‹_›, h7⟩
   ·cases h7
 ·cases hh
section
variable {t : Nat} {ti : TI} {i : TypeInfo} {d : TypeDesc}
theorem TyIs.run_und (k : TyIs P t ti i d) (w : World) : (underlying t).run P w = .ok d w := run_underlying k.und w
theorem TyIs.run_size (k : TyIs P t ti i d) (w : World) : (sizeOf t).run P w = .ok ti.size w := by
 simp [sizeOf, typeInfo, k.info, k.size]
theorem TyIs.run_info (k : TyIs P t ti i d) (w : World) : (typeInfo t).run P w = .ok i w := by
 simp [typeInfo, k.info]
theorem TyIs.run_agg (k : TyIs P t ti i d) (w : World) : (isAgg t).run P w = .ok ti.k.agg w := by
 have hk := k.kind
 unfold isAgg
 rw [Sem.run_bind, k.run_und w]
 simp only [Result.andThen_ok]
 cases hq : ti.k <;> rw [hq] at hk <;> simp only [kindB] at hk <;> cases d <;> first | rfl | (simp at hk)
theorem TyIs.stru (k : TyIs P t ti i d) {fs : List (Nat × Nat)} (hk : ti.k = .stru fs) : ∃ fields, d = .struct fields ∧ fields.toList.map (fun f => (f.type, f.offset)) = fs := by
 have := k.kind
 rw [hk] at this
 simp only [kindB] at this
 cases d <;> simp at this
 exact ⟨_, rfl, this⟩
theorem TyIs.arr (k : TyIs P t ti i d) {n e : Nat} (hk : ti.k = .arr n e) : d = .array n e := by
 have := k.kind
 rw [hk] at this
 simp only [kindB] at this
 cases d <;> simp at this
 simp [this.1, this.2]
theorem TyIs.slice (k : TyIs P t ti i d) {e : Nat} (hk : ti.k = .slice e) : d = .slice e := by
 have := k.kind
 rw [hk] at this
 simp only [kindB] at this
 cases d <;> simp at this
 simp [this]
theorem TyIs.map (k : TyIs P t ti i d) {kt et : Nat} (hk : ti.k = .map kt et) : d = .map kt et := by
 have := k.kind
 rw [hk] at this
 simp only [kindB] at this
 cases d <;> simp at this
 simp [this.1, this.2]
theorem TyIs.int (k : TyIs P t ti i d) {e : IntKind} (hk : ti.k = .int e) : d = .int e := by
 have := k.kind
 rw [hk] at this
 simp only [kindB] at this
 cases d <;> simp at this
 simp [this]
theorem TyIs.str (k : TyIs P t ti i d) (hk : ti.k = .str) : d = .string := by
 have := k.kind
 rw [hk] at this
 simp only [kindB] at this
 cases d <;> simp at this
 rfl
end
theorem at_nil (s : Shp) : s.at_ [] = some s := by cases s <;> rfl
theorem off_append : ∀ {s s' : Shp} {p : List Nat} {o : Nat} (q : List Nat), s.off p = some o → s.at_ p = some s' → s.off (p ++ q) = (s'.off q).map (o + ·) := by
 intro s
 have nil : ∀ {s s' : Shp} {o : Nat} (q : List Nat), s.off [] = some o → s.at_ [] = some s' → s.off ([] ++ q) = (s'.off q).map (o + ·) := by
  intro s s' o q h1 h2
  rw [off_nil] at h1; rw [at_nil] at h2
  cases h1; cases h2
  simp
 induction s with
 | node f ih =>
  intro s' p o q h1 h2
  rcases p with _ | ⟨i, p⟩
  ·exact nil q h1 h2
  ·exact ih q h1 h2
 | fcons a b iha ihb =>
  intro s' p o q h1 h2
  rcases p with _ | ⟨i, p⟩
  ·exact nil q h1 h2
  ·rcases i with _ | i
   ·exact iha q h1 h2
   ·simp only [Shp.off, Shp.at_] at h1 h2
    split at h1
    ·cases h1
     rename_i o' ho'
     have := ihb q ho' h2
     simp only [List.cons_append] at this ⊢
     simp only [Shp.off, this]
     cases s'.off q <;> simp [Nat.add_assoc]
    ·cases h1
 | arr n s ih =>
  intro s' p o q h1 h2
  rcases p with _ | ⟨i, p⟩
  ·exact nil q h1 h2
  ·simp only [Shp.off, Shp.at_] at h1 h2
   split at h1
   ·rename_i hi
    rw [if_pos hi] at h2
    split at h1
    ·cases h1
     rename_i o' ho'
     have := ih q ho' h2
     simp only [List.cons_append, Shp.off, if_pos hi, this]
     cases s'.off q <;> simp [Nat.add_assoc]
    ·cases h1
   ·cases h1
 | _ =>
  intro s' p o q h1 h2
  rcases p with _ | ⟨i, p⟩
  ·exact nil q h1 h2
  ·simp only [Shp.off] at h1; cases h1
theorem sch_cell_shp (s : Sch) (d : s.den) : (toAV s d).shp = s.shp := by
 induction s with
 | fcons a b iha ihb => simp [toAV, AV.shp, Sch.shp, iha, ihb]
 | stru f ih => simp [toAV, AV.shp, Sch.shp, ih]
 | _ => rfl
theorem sget_at : ∀ {s : Sch} {d : s.den} {p : List Nat} {v : AV} {o : Nat}, sget s d p = some v → s.shp.off p = some o → s.shp.at_ p = some v.shp := by
 intro s
 have nil : ∀ {s : Sch} {d : s.den} {v : AV}, some (toAV s d) = some v → s.shp.at_ [] = some v.shp := by
  intro s d v h; cases h; rw [at_nil, sch_cell_shp]
 induction s with
 | fcons a b iha ihb =>
  intro d p v o h1 h2
  rcases p with _ | ⟨i, p⟩
  ·exact nil (by simpa only [sget] using h1)
  ·rcases i with _ | i
   ·exact iha h1 h2
   ·simp only [Sch.shp, Shp.off] at h2
    split at h2
    ·rename_i ho; exact ihb h1 ho
    ·cases h2
 | stru f ih =>
  intro d p v o h1 h2
  rcases p with _ | ⟨i, p⟩
  ·exact nil (by simpa only [sget] using h1)
  ·exact ih h1 h2
 | arr n s ih =>
  intro d p v o h1 h2
  rcases p with _ | ⟨i, p⟩
  ·exact nil (by simpa only [sget] using h1)
  ·simp only [Sch.shp, Shp.off, Shp.at_] at h2 ⊢
   split at h2
   ·rename_i hi
    rw [if_pos hi]
    split at h2
    ·rename_i ho; exact ih h1 ho
    ·cases h2
   ·cases h2
 | _ =>
  intro d p v o h1 h2
  rcases p with _ | ⟨i, p⟩
  ·exact nil (by simpa only [sget] using h1)
  ·simp only [Sch.shp, Shp.off] at h2; cases h2
theorem aget_at : ∀ {c : AV} {p : List Nat} {v : AV} {o : Nat}, aget c p = some v → c.shp.off p = some o → c.shp.at_ p = some v.shp := by
 intro c
 have nil : ∀ {c v : AV}, aget c [] = some v → c.shp.at_ [] = some v.shp := by
  intro c v h; simp only [aget] at h; cases h; rw [at_nil]
 induction c with
 | node f ih =>
  intro p v o h1 h2
  rcases p with _ | ⟨i, p⟩
  ·exact nil h1
  ·exact ih h1 h2
 | fcons a b iha ihb =>
  intro p v o h1 h2
  rcases p with _ | ⟨i, p⟩
  ·exact nil h1
  ·rcases i with _ | i
   ·exact iha h1 h2
   ·simp only [AV.shp, Shp.off] at h2
    split at h2
    ·rename_i ho; exact ihb h1 ho
    ·cases h2
 | vec s n f =>
  intro p v o h1 h2
  rcases p with _ | ⟨i, p⟩
  ·exact nil h1
  ·exact sget_at (s := .arr n s) (d := f) (p := i :: p) (by simpa only [aget, sget] using h1) h2
 | lst s l =>
  intro p v o h1 h2
  rcases p with _ | ⟨i, p⟩
  ·exact nil h1
  ·exact sget_at (s := .arr l.length s) (d := fun i => l.getD i s.zero) (p := i :: p) (by simpa only [aget, sget] using h1) h2
 | fam e s l =>
  intro p v o h1 h2
  rcases p with _ | ⟨i, p⟩
  ·exact nil h1
  ·simp only [aget] at h1; cases h1
 | _ =>
  intro p v o h1 h2
  rcases p with _ | ⟨i, p⟩
  ·exact nil h1
  ·simp only [AV.shp, Shp.off] at h2; cases h2
theorem foff_off : ∀ {c : AV} {f o : Nat}, foff c f = some o → c.shp.off [f] = some o := by
 intro c
 induction c with
 | fcons a b _ ihb =>
  intro f o hh
  rcases f with _ | f
  ·simp only [foff] at hh; cases hh; simp only [AV.shp, Shp.off]
  ·simp only [foff] at hh
   split at hh
   ·cases hh
    simp only [AV.shp, Shp.off, ihb ‹_›, AV.shp_w]
   ·cases hh
 | _ => intro f o hh; simp [foff] at hh
theorem nthP_get : ∀ {fs : List (Nat × Nat)} {j : Nat} {q : Nat × Nat}, nthP fs j = some q → fs[j]? = some q := by
 intro fs
 induction fs with
 | nil => intro j q hh; simp [nthP] at hh
 | cons y l ih =>
  intro j q hh
  rcases j with _ | j
  ·simp only [nthP] at hh; simpa using hh
  ·simp only [nthP] at hh; simpa using ih hh
theorem fieldOk_spec (hT : TyOk P T) {ty f : Nat} {c : AV} (hf : fieldOk T ty f c = true) :
  ∃ (fields : Array Field) (fd : Field) (tf : TI) (i : TypeInfo) (d : TypeDesc), P.underlying ty = some (.struct fields) ∧ fields[f]? = some fd ∧ foff c f = some fd.offset ∧ TyIs P fd.type tf i d ∧ tf.size ≠ 0 := by
 unfold fieldOk at hf
 split at hf
 ·rename_i ti hti
  split at hf
  ·rename_i fs hk
   split at hf
   ·rename_i q hq
    split at hf
    ·rename_i o tf ho htf
     simp only [Bool.and_eq_true, Bool.not_eq_true'] at hf
     obtain ⟨i, d, hi⟩ := hT.is hti
     obtain ⟨fields, rfl, hfs⟩ := hi.stru hk
     obtain ⟨i2, d2, hi2⟩ := hT.is htf
     have hg := nthP_get hq
     rw [← hfs, List.getElem?_map] at hg
     cases hfd : fields.toList[f]? with
     | none => rw [hfd] at hg; cases hg
     | some fd =>
      rw [hfd] at hg
      simp only [Option.map_some, Option.some.injEq] at hg
      subst hg
      refine ⟨fields, fd, tf, i2, d2, hi.und, by simpa using hfd, ?_, hi2, fun h0 => ?_⟩
      ·rw [ho, Nat.eq_of_beq_eq_true hf.1]
      ·rw [h0] at hf; simp at hf
    ·cases hf
   ·cases hf
  ·cases hf
 ·cases hf
theorem fieldAt_run (hT : TyOk P T) {ty f : Nat} {c : AV} (hf : fieldOk T ty f c = true) (a : Addr) (w : World) :
  ∃ o, foff c f = some o ∧ (Instr.fieldAt ty (.pointer (some a)) f).run P w = .ok (.pointer (some (a.add o))) w := by
 obtain ⟨fields, fd, tf, i, d, h1, h2, h3, h4, h5⟩ := fieldOk_spec hT hf
 refine ⟨_, h3, ?_⟩
 simp [Instr.fieldAt, run_underlying h1, h2, Instr.sureAddr, fieldPlace, h4.run_size, h5]
theorem fieldAddr0_sound (hT : TyOk P T) {ty f : Nat} {a : AV} {k : K1 X} (he : fieldAddr0 T ty f h a k = some r) :
  ∃ v, k v = some r ∧ ∀ {σ R x w cv}, HR P σ R h x w → VV σ R a cv → ∃ cv', (Instr.fieldAt ty cv f).run P w = .ok cv' w ∧ VV σ R v cv' := by
 unfold fieldAddr0 at he
 split at he
 ·rename_i n p
  split at he
  ·rename_i b hb
   split at he
   ·rename_i c hc
    cases hf : fieldOk T ty f c with
    | false => rw [hf] at he; cases he
    | true =>
     rw [hf] at he
     refine ⟨_, he, fun {σ R x w cv} hr hv => ?_⟩
     obtain ⟨B, o, h1, h2, hnl, rfl⟩ := hv
     obtain ⟨o', ho', hrun⟩ := fieldAt_run hT hf ⟨B.g, B.o + o, none⟩ w
     refine ⟨_, hrun, B, o + o', h1, ?_, hnl, by rw [addr_add, Nat.add_assoc]⟩
     have hs := (hr.shp n B b h1 hb).1
     rw [← hs] at h2 ⊢
     rw [off_append [f] h2 (aget_at hc h2)]
     simp only [AV.shp, Shp.off]
     rw [foff_off ho']; rfl
   ·cases he
  ·cases he
 ·rename_i s y p
  split at he
  ·rename_i c hc
   cases hf : fieldOk T ty f c with
   | false => rw [hf] at he; cases he
   | true =>
    rw [hf] at he
    refine ⟨_, he, fun {σ R x w cv} hr hv => ?_⟩
    obtain ⟨ad, cs, o, h1, h2, h3, rfl⟩ := hv
    obtain ⟨o', ho', hrun⟩ := fieldAt_run hT hf (ad.add o) w
    refine ⟨_, hrun, ad, cs, o + o', h1, h2, ?_, by rw [add_of_add]⟩
    rw [off_append [f] h3 (sget_at hc h3)]
    simp only [AV.shp, Shp.off]
    rw [foff_off ho']; rfl
  ·cases he
 ·cases he
theorem inB_some {i : Int} {n : Nat} {k : Option X} (he : inB i n k = some r) : 0 ≤ i ∧ i < n ∧ k = some r := by
 unfold inB at he
 by_cases h1 : 0 ≤ i
 ·by_cases h2 : i < (n : Int)
  ·simp [h1, h2] at he; exact ⟨h1, h2, he⟩
  ·simp [h1, h2] at he
 ·simp [h1] at he
theorem arrOk_spec (hT : TyOk P T) {ty n : Nat} {s : Sch} (hf : arrOk T ty n s = true) :
  ∃ e te i d, P.underlying ty = some (.array n e) ∧ TyIs P e te i d ∧ te.size = s.w ∧ s.w ≠ 0 := by
 unfold arrOk at hf
 split at hf
 ·rename_i ti hti
  split at hf
  ·rename_i m e hk
   split at hf
   ·rename_i te hte
    simp only [Bool.and_eq_true, Bool.not_eq_true'] at hf
    obtain ⟨i, d, hi⟩ := hT.is hti
    obtain ⟨i2, d2, hi2⟩ := hT.is hte
    have hd := hi.arr hk
    subst hd
    refine ⟨e, te, i2, d2, ?_, hi2, Nat.eq_of_beq_eq_true hf.1.2, fun h0 => ?_⟩
    ·rw [hi.und, Nat.eq_of_beq_eq_true hf.1.1]
    ·rw [h0] at hf; simp at hf
   ·cases hf
  ·cases hf
 ·cases hf
theorem sliceOk_spec (hT : TyOk P T) {ty : Nat} {s : Sch} (hf : sliceOk T ty s = true) :
  ∃ e te i d, P.underlying ty = some (.slice e) ∧ TyIs P e te i d ∧ te.size = s.w ∧ s.w ≠ 0 := by
 unfold sliceOk at hf
 split at hf
 ·rename_i ti hti
  split at hf
  ·rename_i e hk
   split at hf
   ·rename_i te hte
    simp only [Bool.and_eq_true, Bool.not_eq_true'] at hf
    obtain ⟨i, d, hi⟩ := hT.is hti
    obtain ⟨i2, d2, hi2⟩ := hT.is hte
    have hd := hi.slice hk
    subst hd
    refine ⟨e, te, i2, d2, hi.und, hi2, Nat.eq_of_beq_eq_true hf.1, fun h0 => ?_⟩
    rw [h0] at hf; simp at hf
   ·cases hf
  ·cases hf
 ·cases hf
theorem indexArr_run {ty n e : Nat} {te : TI} {ii : TypeInfo} {d : TypeDesc} (hu : P.underlying ty = some (.array n e)) (hk : TyIs P e te ii d) (a : Addr) {i : Int} (ik : IntKind) (h0 : 0 ≤ i) (h1 : i < n) (w : World) :
  (Instr.indexAt ty (.pointer (some a)) (.int ik i)).run P w = .ok (.pointer (some (a.add (i.toNat * te.size)))) w := by
 simp [Instr.indexAt, asIntOf, run_underlying hu, Instr.sureAddr, h0, h1, hk.run_size]
theorem indexSlice_run {ty e : Nat} {te : TI} {ii : TypeInfo} {d : TypeDesc} (hu : P.underlying ty = some (.slice e)) (hk : TyIs P e te ii d) (a : Addr) (len cap : Nat) {i : Int} (ik : IntKind) (h0 : 0 ≤ i) (h1 : i < len) (w : World) :
  (Instr.indexAt ty (.slice (some a) len cap) (.int ik i)).run P w = .ok (.pointer (some (a.add (i.toNat * te.size)))) w := by
 simp [Instr.indexAt, asIntOf, run_underlying hu, h0, h1, hk.run_size]
theorem toNat_lt {i : Int} {n : Nat} (h0 : 0 ≤ i) (h1 : i < n) : i.toNat < n := by omega
theorem off_arr1 {n j : Nat} {s : Shp} (hj : j < n) : (Shp.arr n s).off [j] = some (j * s.w) := by simp [Shp.off, hj, off_nil]
theorem indexAddr0_sound (hT : TyOk P T) {ty : Nat} {a i : AV} {k : K1 X} (he : indexAddr0 T ty h a i k = some r) :
  ∃ v, k v = some r ∧ ∀ {σ R x w ca ci}, HR P σ R h x w → VV σ R a ca → VV σ R i ci → ∃ cv', (Instr.indexAt ty ca ci).run P w = .ok cv' w ∧ VV σ R v cv' := by
 unfold indexAddr0 at he
 split at he
 ·rename_i ik i
  split at he
  ·rename_i n p
   split at he
   ·rename_i b hb
    split at he
    ·rename_i s m f hc
     cases hf : arrOk T ty m s with
     | false => rw [hf] at he; cases he
     | true =>
      rw [hf] at he
      obtain ⟨h0, h1, he⟩ := inB_some he
      refine ⟨_, he, fun {σ R x w ca ci} hr hv hi => ?_⟩
      obtain ⟨B, o, g1, g2, hnl, rfl⟩ := hv
      have hi' : ci = .int ik i := hi
      subst hi'
      obtain ⟨e, te, i2, d2, hu, hk, hs, hs0⟩ := arrOk_spec hT hf
      refine ⟨_, indexArr_run hu hk _ ik h0 h1 w, B, o + i.toNat * s.w, g1, ?_, hnl, by rw [addr_add, hs, Nat.add_assoc]⟩
      have hsh := (hr.shp n B b g1 hb).1
      rw [← hsh] at g2 ⊢
      rw [off_append [i.toNat] g2 (aget_at hc g2)]
      simp only [AV.shp]
      rw [off_arr1 (toNat_lt h0 h1), Sch.shp_w]; rfl
    ·cases he
   ·cases he
  ·rename_i n
   split at he
   ·rename_i b hb
    split at he
    ·rename_i s l hc
     cases hf : sliceOk T ty s with
     | false => rw [hf] at he; cases he
     | true =>
      rw [hf] at he
      obtain ⟨h0, h1, he⟩ := inB_some he
      refine ⟨_, he, fun {σ R x w ca ci} hr hv hi => ?_⟩
      obtain ⟨B, s', len, cap, g1, g2, rfl, gl, _, _, gn⟩ := hv
      have hi' : ci = .int ik i := hi
      subst hi'
      obtain ⟨e, te, i2, d2, hu, hk, hs, hs0⟩ := sliceOk_spec hT hf
      have hsh := (hr.shp n B b g1 hb).1
      rw [hc] at hsh
      simp only [AV.shp] at hsh
      rw [g2] at hsh
      injection hsh with e1 e2
      subst e1
      have hnl : B.nil = false := by
       cases hq : B.nil
       ·rfl
       ·have := gn hq; omega
      rw [hnl]
      refine ⟨_, indexSlice_run hu hk _ _ _ ik h0 h1 w, B, i.toNat * s.w, g1, ?_, hnl, by rw [addr_add, hs]⟩
      rw [g2, off_arr1 (toNat_lt h0 h1), ← e2, Sch.shp_w]
    ·rename_i fe s l hc
     cases hf : sliceOk T ty (.sl s) with
     | false => rw [hf] at he; cases he
     | true =>
      rw [hf] at he
      obtain ⟨h0, h1, he⟩ := inB_some he
      refine ⟨_, he, fun {σ R x w ca ci} hr hv hi => ?_⟩
      obtain ⟨B, s', len, cap, g1, g2, rfl, gl, _, _, gn⟩ := hv
      have hi' : ci = .int ik i := hi
      subst hi'
      obtain ⟨e, te, i2, d2, hu, hk, hs, hs0⟩ := sliceOk_spec hT hf
      have hsh := (hr.shp n B b g1 hb).1
      rw [hc] at hsh
      simp only [AV.shp] at hsh
      rw [g2] at hsh
      injection hsh with e1 e2
      subst e1
      have hnl : B.nil = false := by
       cases hq : B.nil
       ·rfl
       ·have := gn hq; omega
      rw [hnl]
      refine ⟨_, indexSlice_run hu hk _ _ _ ik h0 h1 w, B, i.toNat * (Sch.sl s).w, g1, ?_, hnl, by rw [addr_add, hs]⟩
      rw [g2, off_arr1 (toNat_lt h0 h1), ← e2]; rfl
    ·cases he
   ·cases he
  ·rename_i n p o len
   split at he
   ·rename_i b hb
    split at he
    ·rename_i s m f hc
     cases hf : sliceOk T ty s with
     | false => rw [hf] at he; cases he
     | true =>
      rw [hf] at he
      obtain ⟨h0, h1, he⟩ := inB_some he
      refine ⟨_, he, fun {σ R x w ca ci} hr hv hi => ?_⟩
      obtain ⟨B, N, s', a, cap, o0, g1, g2, g3, g4, rfl, g5, g6, g7, _⟩ := hv
      have hi' : ci = .int ik i := hi
      subst hi'
      obtain ⟨e, te, i2, d2, hu, hk, hs, hs0⟩ := sliceOk_spec hT hf
      have hsh := (hr.shp n B b g1 hb).1
      have hat := aget_at hc (by rw [hsh]; exact g3)
      rw [hsh, g2] at hat
      simp only [AV.shp, Option.some.injEq, Shp.arr.injEq] at hat
      obtain ⟨rfl, rfl⟩ := hat
      have hlt := toNat_lt h0 h1
      obtain ⟨rfl, hnl⟩ := g7 (by omega)
      refine ⟨_, indexSlice_run hu hk _ _ _ ik h0 h1 w, B, o0 + (o + i.toNat) * s.w, g1, ?_, hnl, by rw [addr_add, hs, Sch.shp_w, Nat.add_mul, Nat.add_assoc, Nat.add_assoc]⟩
      rw [off_append _ g3 g2, off_arr1 (by omega), Sch.shp_w]; rfl
    ·rename_i s l hc
     cases hf : sliceOk T ty s with
     | false => rw [hf] at he; cases he
     | true =>
      rw [hf] at he
      obtain ⟨h0, h1, he⟩ := inB_some he
      refine ⟨_, he, fun {σ R x w ca ci} hr hv hi => ?_⟩
      obtain ⟨B, N, s', a, cap, o0, g1, g2, g3, g4, rfl, g5, g6, g7, _⟩ := hv
      have hi' : ci = .int ik i := hi
      subst hi'
      obtain ⟨e, te, i2, d2, hu, hk, hs, hs0⟩ := sliceOk_spec hT hf
      have hsh := (hr.shp n B b g1 hb).1
      have hat := aget_at hc (by rw [hsh]; exact g3)
      rw [hsh, g2] at hat
      simp only [AV.shp, Option.some.injEq, Shp.arr.injEq] at hat
      obtain ⟨rfl, rfl⟩ := hat
      have hlt := toNat_lt h0 h1
      obtain ⟨rfl, hnl⟩ := g7 (by omega)
      refine ⟨_, indexSlice_run hu hk _ _ _ ik h0 h1 w, B, o0 + (o + i.toNat) * s.w, g1, ?_, hnl, by rw [addr_add, hs, Sch.shp_w, Nat.add_mul, Nat.add_assoc, Nat.add_assoc]⟩
      rw [off_append _ g3 g2, off_arr1 (by omega), Sch.shp_w]; rfl
    ·cases he
   ·cases he
  ·rename_i s l
   cases hf : sliceOk T ty s with
   | false => rw [hf] at he; cases he
   | true =>
    rw [hf] at he
    obtain ⟨h0, h1, he⟩ := inB_some he
    refine ⟨_, he, fun {σ R x w ca ci} hr hv hi => ?_⟩
    obtain ⟨a, cap, hca, g1, g2, g3⟩ := hv
    simp only [List.cons.injEq, and_true] at hca
    subst hca
    have hi' : ci = .int ik i := hi
    subst hi'
    obtain ⟨e, te, i2, d2, hu, hk, hs, hs0⟩ := sliceOk_spec hT hf
    have hlt := toNat_lt h0 h1
    obtain ⟨ad, rfl, g4⟩ := g3 (by omega)
    obtain ⟨c, g5, g6⟩ := g4 i.toNat hlt
    exact ⟨_, indexSlice_run hu hk _ _ _ ik h0 h1 w, ad.add (i.toNat * s.w), c, 0, g5, g6, off_nil _, by rw [hs]; simp [Addr.add]⟩
  ·rename_i s y p
   split at he
   ·rename_i s' m f hc
    cases hf : arrOk T ty m s' with
    | false => rw [hf] at he; cases he
    | true =>
     rw [hf] at he
     obtain ⟨h0, h1, he⟩ := inB_some he
     refine ⟨_, he, fun {σ R x w ca ci} hr hv hi => ?_⟩
     obtain ⟨ad, cs, o, g1, g2, g3, rfl⟩ := hv
     have hi' : ci = .int ik i := hi
     subst hi'
     obtain ⟨e, te, i2, d2, hu, hk, hs, hs0⟩ := arrOk_spec hT hf
     refine ⟨_, indexArr_run hu hk _ ik h0 h1 w, ad, cs, o + i.toNat * s'.w, g1, g2, ?_, by rw [add_of_add, hs]⟩
     rw [off_append [i.toNat] g3 (sget_at hc g3)]
     simp only [AV.shp]
     rw [off_arr1 (toNat_lt h0 h1), Sch.shp_w]; rfl
   ·cases he
  ·cases he
 ·cases he
theorem loadOk_spec (hT : TyOk P T) {ty : Nat} {v : AV} (hf : loadOk T ty v = true) :
  ∃ ti i d, TyIs P ty ti i d ∧ ti.size = v.w ∧ (v.cell || v.agg) = true ∧ v.agg = ti.k.agg := by
 unfold loadOk at hf
 split at hf
 ·rename_i ti hti
  simp only [Bool.and_eq_true] at hf
  obtain ⟨i, d, hi⟩ := hT.is hti
  refine ⟨ti, i, d, hi, Nat.eq_of_beq_eq_true hf.1.1, hf.1.2, ?_⟩
  have h2 := hf.2
  cases hq : ti.k.agg
  ·rw [hq] at h2
   simp only [Bool.false_eq_true, if_false] at h2
   cases v <;> simp_all [AV.cell, AV.agg]
  ·rw [hq] at h2; simpa using h2
 ·cases hf
theorem loadVar_run {ty : Nat} {ti : TI} {i : TypeInfo} {d : TypeDesc} (hk : TyIs P ty ti i d) {v : AV} (hs : ti.size = v.w) (hva : (v.cell || v.agg) = true) (hag : v.agg = ti.k.agg) {a : Addr} {cs : List Value} (hc : VC σ R v cs)
  (hcell : ∀ j u, cs[j]? = some u → w.cell? (a.add j) = some u) : ∃ cv, (loadVar ty a).run P w = .ok cv w ∧ VV σ R v cv := by
 have hl := VC.length hc
 cases hq : v.agg
 ·have hvc : v.cell = true := by simpa [hq] using hva
  obtain ⟨u, rfl, hu⟩ := VC.cell hvc hc
  refine ⟨u, ?_, V0.vv hva hu⟩
  have := hcell 0 u rfl
  rw [show a.add 0 = a by simp [Addr.add]] at this
  simp [loadVar, hk.run_agg, ← hag, hq, this]
 ·refine ⟨_, ?_, V0.vv hva (VC.agg hq hc)⟩
  have hr := run_loadCells_list (P := P) w a cs hcell
  rw [hl] at hr
  simp [loadVar, hk.run_agg, ← hag, hq, hk.run_size, hs, hr]
theorem cut_cells {g : Nat} {cs : Array Value} {e : Nat} {fr : Nat × Nat} (hg : w.heap[g]? = some (.cells cs e fr)) {d n o m : Nat} (hn : o + m ≤ n) : ∀ j u, (cut ((cs.toList.drop d).take n) o m)[j]? = some u → w.cell? ((⟨g, d + o, none⟩ : Addr).add j) = some u := by
 intro j u hj
 rw [cut_get] at hj
 split at hj
 ·rename_i hlt
  rw [List.getElem?_take, if_pos (by omega), List.getElem?_drop] at hj
  rw [addr_add, Nat.add_assoc, cell_of_row w g (d + (o + j)) cs e fr hg]
  simpa using hj
 ·cases hj
theorem one_notmap {v : AV} (hv : (v.cell || v.agg) = true) : v.isMap = false := by cases v <;> first | rfl | cases hv
theorem aget_notmap {c v : AV} {p : List Nat} (hc : aget c p = some v) (hv : v.isMap = false) : c.isMap = false := by
 cases c <;> first | rfl | (cases p <;> first | (cases hc; cases hv) | cases hc)
theorem aset_notmap {c v u : AV} {p : List Nat} (hc : aset c p v = some u) : c.isMap = false := by
 cases c <;> first | rfl | (cases p <;> first | (simp [aset, AV.same, AV.cell] at hc; done) | cases hc)
theorem one_notfam {v : AV} (hv : (v.cell || v.agg) = true) : ∀ e s l, v ≠ .fam e s l := by intro e s l hh; subst hh; cases hv
theorem aset_notfam {c v u : AV} {p : List Nat} (hc : aset c p v = some u) : ∀ e s l, u ≠ .fam e s l := by
 intro e s l hh
 subst hh
 cases p with
 | nil =>
  simp only [aset] at hc
  cases hs : c.same v with
  | false => rw [hs] at hc; cases hc
  | true =>
   rw [hs] at hc
   cases hc
   cases c <;> simp [AV.same, AV.cell] at hs
 | cons i p =>
  cases c with
  | node f => simp only [aset] at hc; split at hc <;> cases hc
  | fcons a b => cases i <;> (simp only [aset] at hc; split at hc <;> cases hc)
  | vec s n f => simp only [aset] at hc; split at hc <;> cases hc
  | lst s l => simp only [aset] at hc; split at hc <;> cases hc
  | _ => cases hc
theorem ptr_load {n : Nat} {p : List Nat} {b : Blk} {v : AV} {cv : Value} (hr : HR P σ R h x w) (hb : hget h n = some b) (hvm : v.isMap = false) (hc : aget b.c p = some v) (hv : V1 σ R (.ptr n p) cv) :
  ∃ a cs, cv = .pointer (some a) ∧ VC σ R v cs ∧ ∀ j u, cs[j]? = some u → w.cell? (a.add j) = some u := by
 obtain ⟨B, o, h1, h2, hnl, rfl⟩ := hv
 obtain ⟨hw, cs, fr, hg, hsz, hvc, _⟩ := hr.blk n B b h1 hb hnl (aget_notmap hc hvm)
 have hsh := (hr.shp n B b h1 hb).1
 rw [← hsh] at h2
 obtain ⟨hl, hv⟩ := aget_vc hvc hc h2
 have hlen : ((cs.toList.drop B.o).take b.c.w).length = b.c.w := VC.length hvc
 exact ⟨_, _, rfl, hv, cut_cells hg (by omega)⟩
theorem rop_load {s : Sch} {y : s.den} {p : List Nat} {v : AV} {cv : Value} (hr : HR P σ R h x w) (hc : sget s y p = some v) (hv : V1 σ R (.rop s y p) cv) :
  ∃ a cs, cv = .pointer (some a) ∧ VC σ R v cs ∧ ∀ j u, cs[j]? = some u → w.cell? (a.add j) = some u := by
 obtain ⟨ad, cs, o, ⟨h1, h1'⟩, h2, h3, rfl⟩ := hv
 obtain ⟨hl, hv⟩ := sget_sc (σ := σ) h2 hc h3
 refine ⟨_, _, rfl, hv, fun j u hj => ?_⟩
 rw [cut_get] at hj
 split at hj
 ·rw [add_of_add]; exact hr.ro _ _ (h1' _ _ hj)
 ·cases hj
theorem load0_sound (hT : TyOk P T) {ty : Nat} {a : AV} {k : K1 X} (he : load0 T ty h a k = some r) :
  ∃ v, k v = some r ∧ ∀ {σ R x w cv}, HR P σ R h x w → VV σ R a cv → ∃ cv', (Instr.loadAt ty cv).run P w = .ok cv' w ∧ VV σ R v cv' := by
 unfold load0 at he
 split at he
 ·rename_i n p
  split at he
  ·rename_i b hb
   split at he
   ·rename_i v hc
    cases hf : loadOk T ty v with
    | false => rw [hf] at he; cases he
    | true =>
     rw [hf] at he
     refine ⟨v, he, fun {σ R x w cv} hr hv => ?_⟩
     obtain ⟨ti, i, d, hk, h1, h2, h3⟩ := loadOk_spec hT hf
     obtain ⟨ad, cs, rfl, hvc, hcell⟩ := ptr_load hr hb (one_notmap h2) hc hv
     obtain ⟨cv', hrun, hv'⟩ := loadVar_run hk h1 h2 h3 hvc hcell
     exact ⟨cv', by simp [Instr.loadAt, Instr.sureAddr, hrun], hv'⟩
   ·cases he
  ·cases he
 ·rename_i s y p
  split at he
  ·rename_i v hc
   cases hf : loadOk T ty v with
   | false => rw [hf] at he; cases he
   | true =>
    rw [hf] at he
    refine ⟨v, he, fun {σ R x w cv} hr hv => ?_⟩
    obtain ⟨ti, i, d, hk, h1, h2, h3⟩ := loadOk_spec hT hf
    obtain ⟨ad, cs, rfl, hvc, hcell⟩ := rop_load hr hc hv
    obtain ⟨cv', hrun, hv'⟩ := loadVar_run hk h1 h2 h3 hvc hcell
    exact ⟨cv', by simp [Instr.loadAt, Instr.sureAddr, hrun], hv'⟩
  ·cases he
 ·cases he
def sgOne (b : Bk) : Sg := fun m => if m = 0 then some ⟨b.g, b.sz, b.sh, b.e, b.nil, b.o, []⟩ else none
theorem sgOne_pc {b c : Bk} {m : Nat} (hh : Pc (sgOne b) m c) : m = 0 ∧ c = ⟨b.g, b.sz, b.sh, b.e, b.nil, b.o, []⟩ := by
 obtain ⟨B, h1, h2⟩ := hh
 unfold sgOne at h1
 split at h1
 ·cases h1
  exact ⟨‹_›, h2.elim id (fun h => by cases h)⟩
 ·cases h1
theorem view_get {n i m : Nat} {k : Blk} (hk : hget (viewA h n i) m = some k) : ∃ b e s l, hget h n = some b ∧ b.c = .fam e s l ∧ m = 0 ∧ k = ⟨.lst s (l.getD i []), e⟩ := by
 unfold viewA at hk
 split at hk
 ·rename_i b hb
  split at hk
  ·rename_i e s l hc
   rw [hget_cons] at hk
   split at hk
   ·cases hk; exact ⟨b, e, s, l, hb, hc, by omega, rfl⟩
   ·cases hk
  ·cases hk
 ·cases hk
theorem HR.view (hr : HR P σ R h x w) {n i : Nat} {B b : Bk} (hn : σ n = some B) (hi : B.inn[i]? = some b) : HR P (sgOne b) R (viewA h n i) 1 w := by
 have hone : ∀ m c, sgOne b m = some c → c = ⟨b.g, b.sz, b.sh, b.e, b.nil, b.o, []⟩ := fun m c hm => (sgOne_pc (.of hm)).2
 have hal : ∀ m, Alive (viewA h n i) m → Alive h n := fun m ha => by
  obtain ⟨k, hk⟩ := Option.ne_none_iff_exists'.1 ha
  obtain ⟨b1, e, s, l, h1, _⟩ := view_get hk
  unfold Alive; rw [h1]; simp
 refine ⟨fun m c k hm hk => ?_, fun m c k hm hk hnl hmp => ?_, fun m c k hm hk hnl hmp => ?_, fun m c hm => by have := (sgOne_pc (.of hm)).1; omega, fun m m' c c' hm hm' _ _ _ _ _ => by rw [(sgOne_pc hm).1, (sgOne_pc hm').1], hr.ro, fun m c a hm ha hnl hR => ?_, fun m c hm hnl => ?_, fun m c k e s l hm hk hc => ?_⟩
 ·obtain ⟨b1, e, s, l, h1, h2, rfl, rfl⟩ := view_get hk
  have ho := (hr.own n B b1 e s l hn h1 h2).row i b hi
  rw [hone _ _ hm]
  exact ⟨ho.sh.symm, ho.e.symm⟩
 ·obtain ⟨b1, e, s, l, h1, h2, rfl, rfl⟩ := view_get hk
  cases hmp
 ·obtain ⟨b1, e, s, l, h1, h2, rfl, rfl⟩ := view_get hk
  have ho := (hr.own n B b1 e s l hn h1 h2).row i b hi
  have hc := hone _ _ hm
  subst hc
  exact ho.blk hnl
 ·obtain ⟨_, rfl⟩ := sgOne_pc hm
  exact hr.sep n b a (.inn hn hi) (hal m ha) hnl hR
 ·obtain ⟨_, rfl⟩ := sgOne_pc hm
  exact hr.lt n b (.inn hn hi) hnl
 ·obtain ⟨b1, e1, s1, l1, h1, h2, rfl, rfl⟩ := view_get hk
  cases hc
theorem sgOne_ptr {b : Bk} {p : List Nat} {v : Value} (hh : VP0 R b p v) : V1 (sgOne b) R (.ptr 0 p) v := by
 obtain ⟨o, h1, h2, h3⟩ := hh
 exact ⟨⟨b.g, b.sz, b.sh, b.e, b.nil, b.o, []⟩, o, by unfold sgOne; rw [if_pos rfl], h1, h2, h3⟩
theorem sgOne_sl {b : Bk} {v : Value} (hh : VS0 b v) : V1 (sgOne b) R (.sl 0) v := by
 obtain ⟨s, len, cap, h1, h2⟩ := hh
 exact ⟨⟨b.g, b.sz, b.sh, b.e, b.nil, b.o, []⟩, s, len, cap, by unfold sgOne; rw [if_pos rfl], h1, h2⟩
theorem lift_vv {n i : Nat} {B b : Bk} (hn : σ n = some B) (hi : B.inn[i]? = some b) {v : AV} {cv : Value} (hv : VV (sgOne b) R v cv) : VV σ R (liftV n i v) cv := by
 cases v with
 | ptr m p =>
  obtain ⟨c, o, h1, h2, h3, h4⟩ := hv
  have := (sgOne_pc (.of h1)).2
  subst this
  exact ⟨B, b, hn, hi, o, h2, h3, h4⟩
 | _ => trivial
theorem fieldAddrA_sound (hT : TyOk P T) {ty f : Nat} {a : AV} {k : K1 X} (he : fieldAddrA T ty f h a k = some r) :
  ∃ v, k v = some r ∧ ∀ {σ R x w cv}, HR P σ R h x w → VV σ R a cv → ∃ cv', (Instr.fieldAt ty cv f).run P w = .ok cv' w ∧ VV σ R v cv' := by
 unfold fieldAddrA at he
 split at he
 ·obtain ⟨v, h1, h2⟩ := fieldAddr0_sound hT he
  refine ⟨_, h1, fun hr hv => ?_⟩
  obtain ⟨B, b, g1, g2, g3⟩ := hv
  obtain ⟨cv', q1, q2⟩ := h2 (hr.view g1 g2) (sgOne_ptr g3)
  exact ⟨cv', q1, lift_vv g1 g2 q2⟩
 ·exact fieldAddr0_sound hT he
theorem indexAddrA_sound (hT : TyOk P T) {ty : Nat} {a i : AV} {k : K1 X} (he : indexAddrA T ty h a i k = some r) :
  ∃ v, k v = some r ∧ ∀ {σ R x w ca ci}, HR P σ R h x w → VV σ R a ca → VV σ R i ci → ∃ cv', (Instr.indexAt ty ca ci).run P w = .ok cv' w ∧ VV σ R v cv' := by
 unfold indexAddrA at he
 split at he
 ·obtain ⟨v, h1, h2⟩ := indexAddr0_sound hT he
  refine ⟨_, h1, fun {σ R x w ca ci} hr hv hi => ?_⟩
  obtain ⟨B, b, g1, g2, g3⟩ := hv
  obtain ⟨j, hj⟩ : ∃ (ik : IntKind) (j : Int), i = .int ik j := by
   unfold indexAddr0 at he
   split at he
   ·exact ⟨_, _, rfl⟩
   ·cases he
  obtain ⟨j', rfl⟩ := hj
  obtain ⟨cv', q1, q2⟩ := h2 (hr.view g1 g2) (sgOne_sl (R := R) g3) (show VV (sgOne b) R (.int j j') ci from hi)
  exact ⟨cv', q1, lift_vv g1 g2 q2⟩
 ·obtain ⟨v, h1, h2⟩ := indexAddr0_sound hT he
  refine ⟨_, h1, fun {σ R x w ca ci} hr hv hi => ?_⟩
  obtain ⟨B, b, g1, g2, g3⟩ := hv
  obtain ⟨j, hj⟩ : ∃ (ik : IntKind) (j : Int), i = .int ik j := by
   unfold indexAddr0 at he
   split at he
   ·exact ⟨_, _, rfl⟩
   ·cases he
  obtain ⟨j', rfl⟩ := hj
  obtain ⟨cv', q1, q2⟩ := h2 (hr.view g1 g2) (sgOne_ptr (R := R) g3) (show VV (sgOne b) R (.int j j') ci from hi)
  exact ⟨cv', q1, lift_vv g1 g2 q2⟩
 ·exact indexAddr0_sound hT he
theorem ip_load {n j : Nat} {p : List Nat} {b : Blk} {e : Nat} {s : Sch} {l : List (List s.den)} {v : AV} {cv : Value} (hr : HR P σ R h x w) (hb : hget h n = some b) (hbc : b.c = .fam e s l) (hc : aget (.lst s (l.getD j [])) p = some v) (hv : V1 σ R (.ip n j p) cv) :
  ∃ a cs, cv = .pointer (some a) ∧ VC σ R v cs ∧ ∀ j u, cs[j]? = some u → w.cell? (a.add j) = some u := by
 obtain ⟨B, c, h1, h2, o, h3, hnl, rfl⟩ := hv
 have hrow := (hr.own n B b e s l h1 hb hbc).row j c h2
 obtain ⟨hw, cs, fr, hg, hsz, hsc, _⟩ := hrow.blk hnl
 have hvc : VC σ R (.lst s (l.getD j [])) ((cs.toList.drop c.o).take ((l.getD j []).length * s.w)) := hsc
 rw [hrow.sh] at h3
 obtain ⟨hl, hv⟩ := aget_vc hvc hc h3
 have hlen := VC.length hvc
 exact ⟨_, _, rfl, hv, cut_cells hg (by simp only [AV.w] at hlen; omega)⟩
theorem fam_load {n i : Nat} {b : Blk} {e : Nat} {s : Sch} {l : List (List s.den)} {cv : Value} (hr : HR P σ R h x w) (hb : hget h n = some b) (hbc : b.c = .fam e s l) (hv : V1 σ R (.ptr n [i]) cv) :
  ∃ a u, cv = .pointer (some a) ∧ V1 σ R (.isl n i) u ∧ ∀ (j : Nat) (u' : Value), [u][j]? = some u' → w.cell? (a.add j) = some u' := by
 obtain ⟨B, o, h1, h2, hnl, rfl⟩ := hv
 have ho := hr.own n B b e s l h1 hb hbc
 have hsh := (hr.shp n B b h1 hb).1
 rw [← hsh, hbc] at h2
 simp only [AV.shp, Shp.off] at h2
 split at h2
 ·rename_i hi
  simp only [Shp.off, Shp.w, Nat.mul_one, Nat.add_zero, Option.some.injEq] at h2
  subst h2
  obtain ⟨c, hc⟩ : ∃ c, B.inn[i]? = some c := ⟨_, List.getElem?_eq_getElem (by rw [ho.len]; exact hi)⟩
  obtain ⟨cs, t, fr, hg, hcs⟩ := ho.cell hnl
  obtain ⟨u, hu, hvs⟩ := hcs i c hc
  refine ⟨_, u, rfl, ⟨B, c, h1, hc, hvs⟩, fun j u' hj => ?_⟩
  cases j with
  | zero =>
   simp only [List.length_cons, List.length_nil, Nat.zero_add, Nat.lt_add_one, List.getElem?_eq_getElem, List.getElem_cons_zero, Option.some.injEq] at hj
   subst hj
   rw [addr_add, Nat.add_zero, cell_of_row w B.g (B.o + i) cs t fr hg]; exact hu
  | succ j => simp at hj
 ·cases h2
theorem loadA_sound (hT : TyOk P T) {ty : Nat} {a : AV} {k : K1 X} (he : loadA T ty h a k = some r) :
  ∃ v, k v = some r ∧ ∀ {σ R x w cv}, HR P σ R h x w → VV σ R a cv → ∃ cv', (Instr.loadAt ty cv).run P w = .ok cv' w ∧ VV σ R v cv' := by
 unfold loadA at he
 split at he
 ·rename_i n j p
  unfold load0 at he
  simp only at he
  split at he
  ·rename_i k1 hk1
   obtain ⟨b, e, s, l, h1, h2, h3, rfl⟩ := view_get hk1
   split at he
   ·rename_i v hc
    cases hf : loadOk T ty v with
    | false => rw [hf] at he; cases he
    | true =>
     rw [hf] at he
     refine ⟨v, he, fun {σ R x w cv} hr hv => ?_⟩
     obtain ⟨ti, i, d, hk, g1, g2, g3⟩ := loadOk_spec hT hf
     obtain ⟨ad, cs, rfl, hvc, hcell⟩ := ip_load hr h1 h2 hc hv
     obtain ⟨cv', hrun, hv'⟩ := loadVar_run hk g1 g2 g3 hvc hcell
     exact ⟨cv', by simp [Instr.loadAt, Instr.sureAddr, hrun], hv'⟩
   ·cases he
  ·cases he
 ·split at he
  ·rename_i v hv
   unfold loadF at hv
   split at hv
   ·rename_i n i _
    split at hv
    ·rename_i b hb
     split at hv
     ·rename_i e s l hc
      cases hf : loadOk T ty (.isl n i) with
      | false => rw [hf] at hv; cases hv
      | true =>
       rw [hf] at hv
       cases hv
       refine ⟨_, he, fun {σ R x w cv} hr hv => ?_⟩
       obtain ⟨ti, i2, d, hk, g1, g2, g3⟩ := loadOk_spec hT hf
       obtain ⟨ad, u, rfl, hvc, hcell⟩ := fam_load hr hb hc hv
       obtain ⟨cv', hrun, hv'⟩ := loadVar_run (cs := [u]) (a := ad) hk g1 g2 g3 (show VC σ R (.isl n i) [u] from ⟨u, rfl, hvc⟩) hcell
       exact ⟨cv', by simp [Instr.loadAt, Instr.sureAddr, hrun], hv'⟩
     ·cases hv
    ·cases hv
   ·cases hv
  ·exact load0_sound hT he
end Go.Proofs.YtfcloeflcpcheaaGreat.Eng
