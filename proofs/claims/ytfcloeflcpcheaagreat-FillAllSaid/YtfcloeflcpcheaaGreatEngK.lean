/-
The engine, eleventh text: slicing, indexing, fields, lengths. Plain lemmas.
Conditions: none.
-/
import Derived.Test.YtfcloeflcpcheaaGreatEngJ
set_option linter.unusedVariables false
set_option linter.unusedSimpArgs false
namespace Go.Proofs.YtfcloeflcpcheaaGreat.Eng
variable {P : Program} {T : Types} {σ σ' : Sg} {R R' : Ro} {h h' : Hp} {x x' : Nat} {w w' : World} {X : Type} {r : X}
theorem un_sound {op : UnOp} {a : AV} {k : K1 X} (he : un op a k = some r) :
  ∃ v, k v = some r ∧ ∀ {σ R} {w : World} {ca}, VV σ R a ca → Reads P (Op.unary op ca) σ R w v := by
 unfold un at he
 split at he
 ·refine ⟨_, he, fun {σ R w ca} ha => ?_⟩
  obtain rfl : ca = _ := ha
  exact ⟨_, rfl, rfl⟩
 ·refine ⟨_, he, fun {σ R w ca} ha => ?_⟩
  obtain rfl : ca = _ := ha
  exact ⟨_, rfl, rfl⟩
 ·refine ⟨_, he, fun {σ R w ca} ha => ?_⟩
  obtain rfl : ca = _ := ha
  exact ⟨_, rfl, rfl⟩
 ·cases he
theorem extract_vt : ∀ {c v : AV} {i : Nat} {vs : List Value}, VT σ R c vs → chainGet c i = some v → ∃ u, vs[i]? = some u ∧ V0 σ R v u := by
 intro c
 induction c with
 | fcons a b _ ihb =>
  rintro v i vs ⟨u, vs', rfl, h1, h2⟩ hg
  rcases i with _ | i
  ·simp only [chainGet] at hg; cases hg; exact ⟨u, rfl, h1⟩
  ·simp only [chainGet] at hg
   obtain ⟨u', h3, h4⟩ := ihb h2 hg
   exact ⟨u', by simpa using h3, h4⟩
 | _ => intro v i vs hc hg; simp [chainGet] at hg
theorem v0_vv {a : AV} {v : Value} (hv : V0 σ R a v) (ht : ∀ f, a ≠ .tup f) : VV σ R a v := by
 cases a with
 | tup f => exact absurd rfl (ht f)
 | _ => exact hv
theorem extractA_sound {a : AV} {i : Nat} {k : K1 X} (he : extractA a i k = some r) :
  ∃ v, k v = some r ∧ ∀ {σ R} {w : World} {ca}, VV σ R a ca → Reads P (Instr.extract ca i) σ R w v := by
 unfold extractA at he
 split at he
 ·rename_i c
  split at he
  ·rename_i v hv
   refine ⟨v, he, fun {σ R w ca} ha => ?_⟩
   obtain ⟨vs, rfl, ht⟩ := ha
   obtain ⟨u, h1, h2⟩ := extract_vt ht hv
   have h3 : vs[i]? = some u := by simpa using h1
   refine ⟨u, by simp [Instr.extract, h3], v0_vv h2 fun f hf => ?_⟩
   subst hf
   exact h2
  ·cases he
 ·cases he
theorem pickA_sound {c a b : AV} {k : K1 X} (he : pickA c a b k = some r) :
  ∃ v, k v = some r ∧ ∀ {σ R} {w : World} {cc ca cb}, VV σ R c cc → VV σ R a ca → VV σ R b cb → Reads P (do pure (if ← asBool cc then ca else cb)) σ R w v := by
 unfold pickA at he
 split at he
 ·rename_i q
  split at he
  ·rename_i a b
   refine ⟨_, he, fun {σ R w cc ca cb} hc ha hb => ?_⟩
   obtain rfl : cc = _ := hc
   obtain rfl : ca = _ := ha
   obtain rfl : cb = _ := hb
   refine ⟨.bool (bif q then a else b), ?_, rfl⟩
   cases q <;> rfl
  ·cases q
   ·refine ⟨_, he, fun {σ R w cc ca cb} hc ha hb => ?_⟩
    obtain rfl : cc = _ := hc
    exact ⟨cb, rfl, hb⟩
   ·refine ⟨_, he, fun {σ R w cc ca cb} hc ha hb => ?_⟩
    obtain rfl : cc = _ := hc
    exact ⟨ca, rfl, ha⟩
 ·cases he
theorem bound_some {q : Option AV} {dflt : Nat} {k : Int → Option X} (he : bound q dflt k = some r) : ∃ i, k i = some r ∧ ((q = none ∧ i = dflt) ∨ ∃ ik, q = some (.int ik i)) := by
 unfold bound at he
 split at he
 ·exact ⟨_, he, .inl ⟨rfl, rfl⟩⟩
 ·exact ⟨_, he, .inr ⟨_, rfl⟩⟩
 ·cases he
def VO (σ : Sg) (R : Ro) : Option AV → Option Value → Prop
 | none, none => True
 | some a, some v => VV σ R a v
 | _, _ => False
theorem toB_some {i : Int} {n : Nat} {k : Option X} (he : toB i n k = some r) : 0 ≤ i ∧ i ≤ n ∧ k = some r := by
 unfold toB at he
 by_cases h1 : 0 ≤ i
 ·by_cases h2 : i ≤ (n : Int)
  ·simp [h1, h2] at he; exact ⟨h1, h2, he⟩
  ·simp [h1, h2] at he
 ·simp [h1] at he
theorem sliceBound_run (ik : IntKind) {i : Int} {y : Nat} (code : BoundsCode) (h0 : 0 ≤ i) (h1 : i ≤ y) : (Instr.sliceBound (.int ik i) y code).run P w = .ok i.toNat w := by
 have : 0 ≤ i ∧ i ≤ (y : Int) := ⟨h0, h1⟩
 simp only [Instr.sliceBound, asIntOf, pure_bind]
 rw [if_pos this]; rfl
theorem cuts_some {n : Nat} {lo hi : Option AV} {k : Nat → Nat → Option X} (he : cuts n lo hi k = some r) :
  ∃ l u, l ≤ u ∧ u ≤ n ∧ k l u = some r ∧ ∀ {σ R} {w : World} {clo chi} (b : Bool) (cap : Nat), n ≤ cap → VO σ R lo clo → VO σ R hi chi → (Instr.sliceBounds b n cap clo chi none).run P w = .ok (l, u, cap) w := by
 unfold cuts at he
 obtain ⟨hi', he, hhi⟩ := bound_some he
 obtain ⟨lo', he, hlo⟩ := bound_some he
 obtain ⟨h0, h1, he⟩ := toB_some he
 obtain ⟨h2, he⟩ := cond_some he
 obtain ⟨h3, he⟩ := cond_some he
 simp only [decide_eq_true_eq] at h2 h3
 refine ⟨lo'.toNat, hi'.toNat, by omega, by omega, he, fun {σ R w clo chi} b cap hcap hvl hvh => ?_⟩
 have hh : (chi = none ∧ hi' = n) ∨ ∃ ik, chi = some (.int ik hi') := by
  rcases hhi with ⟨rfl, rfl⟩ | ⟨ik, rfl⟩
  ·cases chi with
   | none => exact .inl ⟨rfl, rfl⟩
   | some v => exact hvh.elim
  ·cases chi with
   | none => exact hvh.elim
   | some v => exact .inr ⟨ik, congrArg some hvh⟩
 have hl : (clo = none ∧ lo' = 0) ∨ ∃ ik, clo = some (.int ik lo') := by
  rcases hlo with ⟨rfl, rfl⟩ | ⟨ik, rfl⟩
  ·cases clo with
   | none => exact .inl ⟨rfl, rfl⟩
   | some v => exact hvl.elim
  ·cases clo with
   | none => exact hvl.elim
   | some v => exact .inr ⟨ik, congrArg some hvl⟩
 have e1 : ((hi'.toNat : Nat) : Int) = hi' := by omega
 rcases hh with ⟨rfl, rfl⟩ | ⟨ik, rfl⟩ <;> rcases hl with ⟨rfl, rfl⟩ | ⟨ik2, rfl⟩
 ·simp [Instr.sliceBounds]
 ·have q := sliceBound_run (P := P) (w := w) ik2 (i := lo') (y := n) .sliceB h2 (by omega)
  simp [Instr.sliceBounds, q]
 ·have q := fun code => sliceBound_run (P := P) (w := w) ik (i := hi') (y := cap) code h0 (by omega)
  simp [Instr.sliceBounds, q]
 ·have q := fun code => sliceBound_run (P := P) (w := w) ik (i := hi') (y := cap) code h0 (by omega)
  have q2 := sliceBound_run (P := P) (w := w) ik2 (i := lo') (y := hi'.toNat) .sliceB h2 (by omega)
  simp [Instr.sliceBounds, q, q2]
theorem getD_cut {α : Type} {l : List α} {a n i : Nat} {z : α} (hi : i < n) : ((l.drop a).take n).getD i z = l.getD (a + i) z := by
 simp [List.getD_eq_getElem?_getD, List.getElem?_take, hi]
theorem slice_run {ty e : Nat} {te : TI} {ii : TypeInfo} {d : TypeDesc} (hu : P.underlying ty = some (.slice e)) (hk : TyIs P e te ii d) {a : Option Addr} {len cap l u : Nat} {clo chi : Option Value} (hb : (Instr.sliceBounds true len cap clo chi none).run P w = .ok (l, u, cap) w) :
  (Instr.sliceAt ty (.slice a len cap) clo chi none).run P w = .ok (.slice (if cap = l then a else a.map (·.add (l * te.size))) (u - l) (cap - l)) w := by
 simp [Instr.sliceAt, Instr.slice, run_underlying hu, hb, hk.run_size]
theorem sliceArr_run {ty e m : Nat} {te : TI} {ii : TypeInfo} {d : TypeDesc} (hu : P.underlying ty = some (.array m e)) (hk : TyIs P e te ii d) {a : Addr} {l u : Nat} {clo chi : Option Value} (hb : (Instr.sliceBounds false m m clo chi none).run P w = .ok (l, u, m) w) :
  (Instr.sliceAt ty (.pointer (some a)) clo chi none).run P w = .ok (.slice (some (if m = l then a else a.add (l * te.size))) (u - l) (m - l)) w := by
 simp [Instr.sliceAt, run_underlying hu, Instr.sureAddr, hb, hk.run_size]
theorem part_at {B : Bk} {sz w0 l cap : Nat} {a : Option Addr} {sw : Nat} (hsz : sz = sw) (hw : w0 = sw) (hl : l ≤ cap) (ha : (B.nil = false → ∃ q, a = some ⟨B.g, q, none⟩ ∧ q + cap * w0 ≤ B.sz) ∧ (B.nil = true → a = none ∧ cap = 0)) :
  (B.nil = false → ∃ q, (if cap = l then a else a.map (·.add (l * sz))) = some ⟨B.g, q, none⟩ ∧ q + (cap - l) * w0 ≤ B.sz) ∧ (B.nil = true → (if cap = l then a else a.map (·.add (l * sz))) = none ∧ cap - l = 0) := by
 have hw' : w0 = sz := by omega
 subst hw'
 clear hw hsz
 refine ⟨fun hn => ?_, fun hn => ?_⟩
 ·obtain ⟨q, rfl, h2⟩ := ha.1 hn
  by_cases e : cap = l
  ·subst e
   exact ⟨q, by rw [if_pos rfl], by rw [Nat.sub_self, Nat.zero_mul]; omega⟩
  ·refine ⟨q + l * w0, by rw [if_neg e, Option.map_some, addr_add], ?_⟩
   have : cap * w0 = l * w0 + (cap - l) * w0 := by rw [← Nat.add_mul]; congr 1; omega
   omega
 ·obtain ⟨rfl, h2⟩ := ha.2 hn
  exact ⟨by split <;> rfl, by omega⟩
theorem sliceA_sound (hT : TyOk P T) {ty : Nat} {a : AV} {lo hi : Option AV} {k : K1 X} (he : sliceA T ty h a lo hi k = some r) :
  ∃ v, k v = some r ∧ ∀ {σ R x w ca clo chi}, HR P σ R h x w → VV σ R a ca → VO σ R lo clo → VO σ R hi chi → Reads P (Instr.sliceAt ty ca clo chi none) σ R w v := by
 unfold sliceA at he
 split at he
 ·rename_i s
  obtain ⟨hs, he⟩ := cond_some he
  obtain ⟨l, u, h1, h2, he, hb⟩ := cuts_some (P := P) he
  refine ⟨_, he, fun {σ R x w ca clo chi} hr ha hlo hhi => ?_⟩
  obtain rfl : ca = _ := ha
  have := hb (w := w) false s.size (Nat.le_refl _) hlo hhi
  exact ⟨.string (s.extract l u), by simp [Instr.sliceAt, Instr.slice, run_underlying (isStr_spec hT hs), this], rfl⟩
 ·rename_i s l
  obtain ⟨hs, he⟩ := cond_some he
  obtain ⟨a, u, h1, h2, he, hb⟩ := cuts_some (P := P) he
  refine ⟨_, he, fun {σ R x w ca clo chi} hr ha hlo hhi => ?_⟩
  obtain ⟨ad, cap, hca, g1, g2, g3⟩ := ha
  simp only [List.cons.injEq, and_true] at hca
  subst hca
  obtain ⟨e, te, i2, d2, hu, hk, hsz, hs0⟩ := sliceOk_spec hT hs
  have hlen : ((l.drop a).take (u - a)).length = u - a := by simp; omega
  refine ⟨_, slice_run hu hk (hb true cap g1 hlo hhi), ?_⟩
  refine ⟨_, _, by rw [hlen], by rw [hlen]; omega, by omega, fun hp => ?_⟩
  rw [hlen] at hp
  obtain ⟨ad', rfl, g4⟩ := g3 (by omega)
  rw [if_neg (by omega)]
  refine ⟨_, rfl, fun i hi => ?_⟩
  rw [hlen] at hi
  obtain ⟨c, g5, g6⟩ := g4 (a + i) (by omega)
  refine ⟨c, ?_, by rw [getD_cut hi]; exact g6⟩
  rw [add_of_add, hsz, ← Nat.add_mul]; exact g5
 ·rename_i n
  split at he
  ·rename_i b hbk
   split at he
   ·rename_i s l hc
    obtain ⟨hs, he⟩ := cond_some he
    obtain ⟨a, u, h1, h2, he, hb⟩ := cuts_some (P := P) he
    refine ⟨_, he, fun {σ R x w ca clo chi} hr ha hlo hhi => ?_⟩
    obtain ⟨B, s', len, cap, g1, g2, rfl, g3, g4, g5, gn⟩ := ha
    obtain ⟨e, te, i2, d2, hu, hk, hsz, hs0⟩ := sliceOk_spec hT hs
    have hsh := (hr.shp n B b g1 hbk).1
    rw [hc] at hsh
    simp only [AV.shp] at hsh
    rw [g2] at hsh
    injection hsh with e1 e2
    subst e1
    refine ⟨_, slice_run hu hk (hb true cap g3 hlo hhi), B, l.length, s', _, _, 0, g1, by rw [g2]; exact at_nil _, off_nil _, by omega, rfl, by omega, by omega, fun hp => ?_, fun _ => ?_⟩
    rotate_left
    ·exact part_at hsz (by rw [← e2, Sch.shp_w]) (show a ≤ cap by omega) ⟨fun hn => ⟨B.o, by rw [hn]; rfl, g4 hn⟩, fun hn => ⟨by rw [hn]; rfl, gn hn⟩⟩
    have hnl : B.nil = false := by
     cases hq : B.nil
     ·rfl
     ·have := gn hq; omega
    rw [if_neg (by omega), ← e2, Sch.shp_w, hnl]
    simp only [Option.map_some, addr_add, hsz, Nat.zero_add, Bool.false_eq_true, if_false, and_self]
   ·cases he
  ·cases he
 ·rename_i n p o len
  split at he
  ·rename_i b hbk
   split at he
   ·rename_i s m f hc
    obtain ⟨hs, he⟩ := cond_some he
    obtain ⟨a, u, h1, h2, he, hb⟩ := cuts_some (P := P) he
    refine ⟨_, he, fun {σ R x w ca clo chi} hr ha hlo hhi => ?_⟩
    obtain ⟨B, N, s', a', cap, o0, g1, g2, g3, g4, rfl, g5, g6, g7, g8⟩ := ha
    obtain ⟨e, te, i2, d2, hu, hk, hsz, hs0⟩ := sliceOk_spec hT hs
    have hsh := (hr.shp n B b g1 hbk).1
    have hat := aget_at hc (by rw [hsh]; exact g3)
    rw [hsh, g2] at hat
    simp only [AV.shp, Option.some.injEq, Shp.arr.injEq] at hat
    obtain ⟨rfl, rfl⟩ := hat
    refine ⟨_, slice_run hu hk (hb true cap g5 hlo hhi), B, N, _, _, _, o0, g1, g2, g3, by omega, rfl, by omega, by omega, fun hp => ?_, fun hp => ?_⟩
    rotate_left
    ·exact part_at hsz (by rw [Sch.shp_w]) (show a ≤ cap by omega) (g8 hp)
    obtain ⟨rfl, hnl⟩ := g7 (by omega)
    rw [if_neg (by omega)]
    simp only [Option.map_some, addr_add, hsz, Sch.shp_w]
    exact ⟨by simp only [Nat.add_mul, Nat.add_assoc], hnl⟩
   ·rename_i s l hc
    obtain ⟨hs, he⟩ := cond_some he
    obtain ⟨a, u, h1, h2, he, hb⟩ := cuts_some (P := P) he
    refine ⟨_, he, fun {σ R x w ca clo chi} hr ha hlo hhi => ?_⟩
    obtain ⟨B, N, s', a', cap, o0, g1, g2, g3, g4, rfl, g5, g6, g7, g8⟩ := ha
    obtain ⟨e, te, i2, d2, hu, hk, hsz, hs0⟩ := sliceOk_spec hT hs
    have hsh := (hr.shp n B b g1 hbk).1
    have hat := aget_at hc (by rw [hsh]; exact g3)
    rw [hsh, g2] at hat
    simp only [AV.shp, Option.some.injEq, Shp.arr.injEq] at hat
    obtain ⟨rfl, rfl⟩ := hat
    refine ⟨_, slice_run hu hk (hb true cap g5 hlo hhi), B, _, _, _, _, o0, g1, g2, g3, by omega, rfl, by omega, by omega, fun hp => ?_, fun hp => ?_⟩
    rotate_left
    ·exact part_at hsz (by rw [Sch.shp_w]) (show a ≤ cap by omega) (g8 hp)
    obtain ⟨rfl, hnl⟩ := g7 (by omega)
    rw [if_neg (by omega)]
    simp only [Option.map_some, addr_add, hsz, Sch.shp_w]
    exact ⟨by simp only [Nat.add_mul, Nat.add_assoc], hnl⟩
   ·cases he
  ·cases he
 ·rename_i n p
  split at he
  ·rename_i b hbk
   split at he
   ·rename_i s m f hc
    obtain ⟨hs, he⟩ := cond_some he
    simp only [Bool.and_eq_true] at hs
    obtain ⟨hs, hm⟩ := hs
    have hm := Nat.le_of_ble_eq_true hm
    obtain ⟨a, u, h1, h2, he, hb⟩ := cuts_some (P := P) he
    refine ⟨_, he, fun {σ R x w ca clo chi} hr ha hlo hhi => ?_⟩
    obtain ⟨B, o0, g1, g3, hnl, rfl⟩ := ha
    obtain ⟨e, te, i2, d2, hu, hk, hsz, hs0⟩ := arrOk_spec hT hs
    have hsh := (hr.shp n B b g1 hbk).1
    have hat := aget_at hc (by rw [hsh]; exact g3)
    rw [hsh] at hat
    simp only [AV.shp] at hat
    have hbb := hb (w := w) false m (Nat.le_refl _) hlo hhi
    refine ⟨_, sliceArr_run hu hk hbb, B, m, _, _, _, o0, g1, hat, g3, by omega, rfl, by omega, ?_, fun hp => ?_, fun hp => ?_⟩
    rotate_left 2
    ·subst hp
     rw [at_nil] at hat
     rw [off_nil] at g3
     cases g3
     have hbw := (hr.blk n B b g1 hbk hnl (aget_notmap hc rfl)).1
     rw [Option.some.inj hat] at hbw
     have := part_at (B := B) (w0 := s.shp.w) (l := a) (cap := m) (a := some ⟨B.g, B.o + 0, none⟩) hsz (by rw [Sch.shp_w]) (show a ≤ m by omega) ⟨fun _ => ⟨B.o, rfl, hbw⟩, fun hn => by rw [hnl] at hn; cases hn⟩
     refine ⟨fun hn => ?_, fun hn => by rw [hnl] at hn; cases hn⟩
     obtain ⟨q, h1, h2⟩ := this.1 hn
     refine ⟨q, ?_, h2⟩
     rw [← h1]
     split <;> rfl
    ·unfold maxLen; omega
    ·rw [if_neg (by omega)]
     simp only [addr_add, hsz, Sch.shp_w]
     exact ⟨by simp only [Nat.add_assoc], hnl⟩
   ·cases he
  ·cases he
 ·cases he
theorem indexA_sound (hT : TyOk P T) {ty : Nat} {a i : AV} {k : K1 X} (he : indexA T ty a i k = some r) :
  ∃ v, k v = some r ∧ ∀ {σ R} {w : World} {ca ci}, VV σ R a ca → VV σ R i ci → Reads P (Instr.index ty ca ci) σ R w v := by
 unfold indexA at he
 split at he
 ·rename_i s ik i
  obtain ⟨hs, he⟩ := cond_some he
  obtain ⟨h0, h1, he⟩ := inB_some he
  refine ⟨_, he, fun {σ R w ca ci} ha hi => ?_⟩
  obtain rfl : ca = _ := ha
  obtain rfl : ci = _ := hi
  have hlt := toNat_lt h0 h1
  have hg : s[i.toNat]? = some s[i.toNat] := by simp [hlt]
  exact ⟨.int .u8 (byteAt s i.toNat), by simp [Instr.index, asIntOf, run_underlying (isStr_spec hT hs), h0, hg, byteAt], rfl⟩
 ·rename_i s m f ik i
  split at he
  ·rename_i e hel
   obtain ⟨hs, he⟩ := cond_some he
   obtain ⟨h0, h1, he⟩ := inB_some he
   simp only [Bool.and_eq_true] at hs
   refine ⟨_, he, fun {σ R w ca ci} ha hi => ?_⟩
   obtain ⟨cs, rfl, hc⟩ := ha
   obtain rfl : ci = _ := hi
   obtain ⟨e', te, i2, d2, hu, hk, hsz, hs0⟩ := arrOk_spec hT hs.1
   obtain ⟨ti, i3, d3, hk2, g1, g2, g3⟩ := loadOk_spec hT hs.2
   have he' : e = e' := by
    unfold elemTy at hel
    split at hel
    ·split at hel
     ·rename_i ti' hti _ m' e'' hkk
      cases hel
      obtain ⟨i4, d4, hk4⟩ := hT.is hti
      have := hk4.arr hkk
      subst this
      have := hk4.und
      rw [hu] at this
      simp at this
      exact this.2.symm
     ·cases hel
    ·cases hel
   subst he'
   have hlt := toNat_lt h0 h1
   have hb := mul_in (w := s.w) hlt
   have hlen : cs.size = m * s.w := by simpa using hc.1
   have hte : ti.size = te.size := by
    have := hk2.info
    rw [hk.info] at this
    cases this
    rw [← hk2.size, hk.size]
   have hp := part_run hk2 cs (i.toNat * s.w) (by rw [hte, hsz]; omega) (fun h => by
    rw [h] at g3
    have : (toAV s (f i.toNat)).cell = true := by simpa [g3] using g2
    rw [g1]
    cases hv : toAV s (f i.toNat) <;> rw [hv] at this <;> first | rfl | simp [AV.cell] at this) w
   refine ⟨_, by simp [Instr.index, asIntOf, run_underlying hu, h0, h1, hk.run_size, hsz]; exact hp, ?_⟩
   have hvc : VC σ R (toAV s (f i.toNat)) (cut cs.toList (i.toNat * s.w) ti.size) := by
    rw [hte, hsz]
    exact toAV_vc (hc.2 _ hlt)
   cases hq : ti.k.agg
   ·have hcell : (toAV s (f i.toNat)).cell = true := by rw [hq] at g3; simpa [g3] using g2
    obtain ⟨u, hu2, hv2⟩ := VC.cell hcell hvc
    rw [hu2]
    exact V0.vv g2 hv2
   ·exact V0.vv g2 (VC.agg (by rw [g3, hq]) hvc)
  ·cases he
 ·cases he
theorem fieldA_sound (hT : TyOk P T) {ty f : Nat} {a : AV} {k : K1 X} (he : fieldA T ty f a k = some r) :
  ∃ v, k v = some r ∧ ∀ {σ R} {w : World} {ca}, VV σ R a ca → Reads P (Instr.field ty ca f) σ R w v := by
 unfold fieldA at he
 split at he
 ·rename_i c
  split at he
  ·rename_i ft v hft hv
   obtain ⟨hs, he⟩ := cond_some he
   simp only [Bool.and_eq_true] at hs
   refine ⟨v, he, fun {σ R w ca} ha => ?_⟩
   obtain ⟨cs, rfl, hc⟩ := ha
   obtain ⟨fields, fd, tf, i, d, h1, h2, h3, h4, h5⟩ := fieldOk_spec hT hs.1
   obtain ⟨ti, i3, d3, hk2, g1, g2, g3⟩ := loadOk_spec hT hs.2
   have hfd : ft = fd.type := by
    unfold fieldTy at hft
    split at hft
    ·split at hft
     ·split at hft
      ·rename_i ti' hti _ fs hkk _ q hq
       cases hft
       obtain ⟨i4, d4, hk4⟩ := hT.is hti
       obtain ⟨fields', rfl, hfs⟩ := hk4.stru hkk
       have := hk4.und
       rw [h1] at this
       simp at this
       subst this
       have hg := nthP_get hq
       rw [← hfs, List.getElem?_map] at hg
       have h2' : fields.toList[f]? = some fd := by simpa using h2
       rw [h2'] at hg
       simp only [Option.map_some, Option.some.injEq] at hg
       rw [← hg]
      ·cases hft
     ·cases hft
    ·cases hft
   subst hfd
   obtain ⟨hl, hvc⟩ := aget_vc hc hv (foff_off h3)
   rw [← g1] at hvc hl
   have hp := part_run hk2 cs fd.offset (by simpa using hl) (fun h => by
    rw [h] at g3
    have : v.cell = true := by simpa [g3] using g2
    rw [g1]
    cases hv : v <;> rw [hv] at this <;> first | rfl | simp [AV.cell] at this) w
   refine ⟨_, by simp [Instr.field, run_underlying h1, h2, asAgg]; exact hp, ?_⟩
   cases hq : ti.k.agg
   ·have hcell : v.cell = true := by rw [hq] at g3; simpa [g3] using g2
    obtain ⟨u, hu2, hv2⟩ := VC.cell hcell hvc
    rw [hu2]
    exact V0.vv g2 hv2
   ·exact V0.vv g2 (VC.agg (by rw [g3, hq]) hvc)
  ·cases he
 ·cases he
theorem toArrA_sound (hT : TyOk P T) {ty : Nat} {a : AV} {k : K1 X} (he : toArrA T ty a k = some r) :
  ∃ v, k v = some r ∧ ∀ {σ R} {w : World} {ca}, VV σ R a ca → Reads P (Instr.arrayAt ty ca) σ R w v := by
 unfold toArrA at he
 split at he
 ·rename_i s l
  split at he
  ·rename_i ti hti
   split at he
   ·rename_i n e hk
    obtain ⟨h0, he⟩ := cond_some he
    obtain ⟨h1, he⟩ := cond_some he
    have h0 := Nat.blt_eq.mp h0
    simp only [decide_eq_true_eq] at h1
    refine ⟨_, he, fun {σ R w ca} ha => ?_⟩
    obtain ⟨i, d, hi⟩ := hT.is hti
    have hd := hi.arr hk
    subst hd
    obtain ⟨A, cap, hcv, g1, g2, g3⟩ := ha
    simp only [List.cons.injEq, and_true] at hcv
    subst hcv
    obtain ⟨ad, rfl, g4⟩ := g3 (by omega)
    refine ⟨.pointer (some ad), by simp [Instr.arrayAt, run_underlying hi.und, show ¬ (l.length < n) by omega], ad, (List.range (n * s.w)).map fun j => (R (ad.add j)).getD undef, 0, ⟨by simp [Sch.w], fun j u hj => ?_⟩, ⟨by simp, fun q hq => ?_⟩, off_nil _, ?_⟩
    ·have hjl : j < n * s.w := by
      rcases Nat.lt_or_ge j (n * s.w) with h | h
      ·exact h
      ·rw [List.getElem?_eq_none (by simp; omega)] at hj; cases hj
     have hw0 : 0 < s.w := by rcases Nat.eq_zero_or_pos s.w with h | h; (rw [h] at hjl; omega); exact h
     rw [List.getElem?_map, List.getElem?_range hjl] at hj
     have hd : j / s.w < n := by rw [Nat.div_lt_iff_lt_mul hw0]; exact hjl
     obtain ⟨c, ⟨g5, g6⟩, g7⟩ := g4 (j / s.w) (by omega)
     have hm := Nat.mod_lt j hw0
     have := g6 (j % s.w) _ (List.getElem?_eq_getElem (by omega))
     rw [add_of_add, Nat.div_add_mod'] at this
     simp only [Option.map_some, this, Option.getD_some, Option.some.injEq] at hj
     rw [this, hj]
    ·obtain ⟨c, ⟨g5, g6⟩, g7⟩ := g4 q (by omega)
     have hb := mul_in (w := s.w) hq
     have : cut ((List.range (n * s.w)).map fun j => (R (ad.add j)).getD undef) (q * s.w) s.w = c := by
      apply List.ext_getElem?
      intro j
      rw [cut_get]
      by_cases hj : j < s.w
      ·rw [if_pos hj, List.getElem?_map, List.getElem?_range (by omega)]
       have := g6 j _ (List.getElem?_eq_getElem (by omega))
       rw [add_of_add] at this
       simp [this, List.getElem?_eq_getElem (show j < c.length by omega)]
      ·rw [if_neg hj, List.getElem?_eq_none (by omega)]
     exact (show SC R s (l.getD q s.zero) (cut _ _ _) by rw [this]; exact g7)
    ·have : ad.add 0 = ad := by
      cases ad with
      | mk b o p => unfold Addr.add; split <;> simp_all
     rw [this]
   ·cases he
  ·cases he
 ·cases he
theorem len0_sound (hT : TyOk P T) {ty tr : Nat} {a : AV} {k : K1 X} (he : len0 T ty h a k = some r) :
  ∃ v, k v = some r ∧ ∀ {σ R x w ca}, HR P σ R h x w → VV σ R a ca → Reads P (Builtin.len_ #[ty] tr #[ca]) σ R w v := by
 unfold len0 at he
 split at he
 ·obtain ⟨hs, he⟩ := cond_some he
  refine ⟨_, he, fun {σ R x w ca} hr ha => ?_⟩
  obtain rfl : ca = _ := ha
  exact ⟨_, by simp [Builtin.len_, run_underlying (isStr_spec hT hs)]; rfl, rfl⟩
 ·obtain ⟨hs, he⟩ := cond_some he
  refine ⟨_, he, fun {σ R x w ca} hr ha => ?_⟩
  obtain ⟨ad, cap, hca, _⟩ := ha
  simp only [List.cons.injEq, and_true] at hca
  subst hca
  obtain ⟨e, hu⟩ := isSlice_spec hT hs
  exact ⟨_, by simp [Builtin.len_, run_underlying hu]; rfl, rfl⟩
 ·obtain ⟨hs, he⟩ := cond_some he
  refine ⟨_, he, fun {σ R x w ca} hr ha => ?_⟩
  obtain rfl : ca = _ := ha
  obtain ⟨e, hu⟩ := isSlice_spec hT hs
  exact ⟨_, by simp [Builtin.len_, run_underlying hu]; rfl, rfl⟩
 ·obtain ⟨hs, he⟩ := cond_some he
  refine ⟨_, he, fun {σ R x w ca} hr ha => ?_⟩
  obtain ⟨B, N, s', a', cap, o0, g1, g2, g3, g4, rfl, _⟩ := ha
  obtain ⟨e, hu⟩ := isSlice_spec hT hs
  exact ⟨_, by simp [Builtin.len_, run_underlying hu]; rfl, rfl⟩
 ·obtain ⟨hs, he⟩ := cond_some he
  refine ⟨_, he, fun {σ R x w ca} hr ha => ?_⟩
  obtain ⟨cs, rfl, _⟩ := ha
  obtain ⟨e, hu⟩ := isArr_spec hT hs
  exact ⟨_, by simp [Builtin.len_, run_underlying hu]; rfl, rfl⟩
 ·rename_i n
  split at he
  ·rename_i b hb
   split at he
   ·rename_i s l hc
    obtain ⟨hs, he⟩ := cond_some he
    refine ⟨_, he, fun {σ R x w ca} hr ha => ?_⟩
    obtain ⟨B, s', len, cap, g1, g2, rfl, g3, g4, g5, gn⟩ := ha
    have hsh := (hr.shp n B b g1 hb).1
    rw [hc] at hsh
    simp only [AV.shp] at hsh
    rw [g2] at hsh
    injection hsh with e1 e2
    subst e1
    obtain ⟨e, hu⟩ := isSlice_spec hT hs
    exact ⟨_, by simp [Builtin.len_, run_underlying hu]; rfl, rfl⟩
   ·rename_i fe s l hc
    obtain ⟨hs, he⟩ := cond_some he
    refine ⟨_, he, fun {σ R x w ca} hr ha => ?_⟩
    obtain ⟨B, s', len, cap, g1, g2, rfl, g3, g4, g5, gn⟩ := ha
    have hsh := (hr.shp n B b g1 hb).1
    rw [hc] at hsh
    simp only [AV.shp] at hsh
    rw [g2] at hsh
    injection hsh with e1 e2
    subst e1
    obtain ⟨e, hu⟩ := isSlice_spec hT hs
    exact ⟨_, by simp [Builtin.len_, run_underlying hu]; rfl, rfl⟩
   ·cases he
  ·cases he
 ·cases he
theorem lenA_sound (hT : TyOk P T) {ty tr : Nat} {a : AV} {k : K1 X} (he : lenA T ty h a k = some r) :
  ∃ v, k v = some r ∧ ∀ {σ R x w ca}, HR P σ R h x w → VV σ R a ca → Reads P (Builtin.len_ #[ty] tr #[ca]) σ R w v := by
 unfold lenA at he
 split at he
 ·rename_i n j
  unfold len0 at he
  simp only at he
  split at he
  ·rename_i k1 hk1
   obtain ⟨b, e, s, l, h1, h2, _, rfl⟩ := view_get hk1
   obtain ⟨hs, he⟩ := cond_some he
   refine ⟨_, he, fun {σ R x w ca} hr ha => ?_⟩
   obtain ⟨B, c, g1, g2, s', len, cap, g3, rfl, g4, g5, g6, g7⟩ := ha
   have hsh := ((hr.own n B b e s l g1 h1 h2).row j c g2).sh
   rw [g3] at hsh
   injection hsh with e1 e2
   subst e1
   obtain ⟨e, hu⟩ := isSlice_spec hT hs
   exact ⟨_, by simp [Builtin.len_, run_underlying hu]; rfl, rfl⟩
  ·cases he
 ·exact len0_sound hT he
end Go.Proofs.YtfcloeflcpcheaaGreat.Eng
