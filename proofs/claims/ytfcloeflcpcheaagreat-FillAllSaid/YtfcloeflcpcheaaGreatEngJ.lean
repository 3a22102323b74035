/-
The engine, tenth text: comparing, slicing, indexing, lengths. Plain lemmas.
Conditions: none.
-/
import Derived.Test.YtfcloeflcpcheaaGreatEngI
set_option linter.unusedVariables false
set_option linter.unusedSimpArgs false
namespace Go.Proofs.YtfcloeflcpcheaaGreat.Eng
variable {P : Program} {T : Types} {σ σ' : Sg} {R R' : Ro} {h h' : Hp} {x x' : Nat} {w w' : World} {X : Type} {r : X}
def Reads (P : Program) (s : Sem Value) (σ : Sg) (R : Ro) (w : World) (v : AV) : Prop := ∃ cv, s.run P w = .ok cv w ∧ VV σ R v cv
theorem isK_spec (hT : TyOk P T) {t : Nat} {f : TK → Bool} (hk : isK T t f = true) : ∃ ti i d, TyIs P t ti i d ∧ f ti.k = true := by
 unfold isK at hk
 split at hk
 ·obtain ⟨i, d, hi⟩ := hT.is ‹_›
  exact ⟨_, i, d, hi, hk⟩
 ·cases hk
theorem isStr_spec (hT : TyOk P T) {t : Nat} (hk : isK T t TK.isStr = true) : P.underlying t = some .string := by
 obtain ⟨ti, i, d, hi, h1⟩ := isK_spec hT hk
 have : ti.k = .str := by cases hq : ti.k <;> rw [hq] at h1 <;> first | rfl | (simp [TK.isStr] at h1)
 have := hi.str this
 subst this; exact hi.und
theorem isSlice_spec (hT : TyOk P T) {t : Nat} (hk : isK T t TK.isSlice = true) : ∃ e, P.underlying t = some (.slice e) := by
 obtain ⟨ti, i, d, hi, h1⟩ := isK_spec hT hk
 have : ∃ e, ti.k = .slice e := by cases hq : ti.k <;> rw [hq] at h1 <;> first | exact ⟨_, rfl⟩ | (simp [TK.isSlice] at h1)
 obtain ⟨e, this⟩ := this
 have := hi.slice this
 subst this; exact ⟨e, hi.und⟩
theorem isBool_spec (hT : TyOk P T) {t : Nat} (hk : isK T t TK.isBool = true) : P.underlying t = some .bool := by
 obtain ⟨ti, i, d, hi, h1⟩ := isK_spec hT hk
 have hq : ti.k = .bool := by cases hq : ti.k <;> rw [hq] at h1 <;> first | rfl | (simp [TK.isBool] at h1)
 have hkd := hi.kind
 rw [hq] at hkd
 have : d = .bool := by cases d <;> first | rfl | (simp [kindB] at hkd)
 subst this; exact hi.und
theorem isPtr_spec (hT : TyOk P T) {t : Nat} (hk : isK T t TK.isPtr = true) : ∃ e, P.underlying t = some (.pointer e) := by
 obtain ⟨ti, i, d, hi, h1⟩ := isK_spec hT hk
 have hq : ∃ e, ti.k = .ptr e := by cases hq : ti.k <;> rw [hq] at h1 <;> first | exact ⟨_, rfl⟩ | (simp [TK.isPtr] at h1)
 obtain ⟨e, hq⟩ := hq
 have hkd := hi.kind
 rw [hq] at hkd
 have : ∃ e, d = .pointer e := by cases d <;> first | exact ⟨_, rfl⟩ | (simp [kindB] at hkd)
 obtain ⟨e', rfl⟩ := this
 exact ⟨e', hi.und⟩
theorem isArr_spec (hT : TyOk P T) {t n : Nat} (hk : isK T t (TK.isArr n) = true) : ∃ e, P.underlying t = some (.array n e) := by
 obtain ⟨ti, i, d, hi, h1⟩ := isK_spec hT hk
 cases hq : ti.k <;> rw [hq] at h1 <;> simp [TK.isArr] at h1
 have := hi.arr hq
 subst this; subst h1; exact ⟨_, hi.und⟩
theorem valOf_v0 {a : AV} {v : Value} (ha : a.agg = true) (hv : V0 σ R a v) : ∃ cs, v = .agg cs ∧ VC σ R a cs.toList := by
 cases a <;> simp [AV.agg] at ha
 ·exact hv
 ·exact hv
theorem binT_sound (hT : TyOk P T) {op : BinOp} {t : Nat} {a b : AV} {k : K1 X} (ox oy : Operand) (he : binT T op t a b k = some r) :
  ∃ v, k v = some r ∧ ∀ {σ R} {w : World} {ca cb}, VV σ R a ca → VV σ R b cb → Reads P (Bin P op t ox oy ca cb) σ R w v := by
 have plain : (∀ {n p}, (a = .ptr n p ∨ b = .ptr n p ∨ a = .nilp) → ∃ e, P.underlying t = some (.pointer e)) → (∀ {q}, a = .bool q → P.underlying t = some .bool) → bin op a b k = some r →
   ∃ v, k v = some r ∧ ∀ {σ R} {w : World} {ca cb}, VV σ R a ca → VV σ R b cb → Reads P (Bin P op t ox oy ca cb) σ R w v := by
  intro h1 h2 h3
  obtain ⟨v, g1, g2, g3⟩ := bin_sound (P := P) t ox oy h1 h2 h3
  exact ⟨v, g1, fun {σ R w ca cb} ha hb => by obtain ⟨cv, q1, q2⟩ := g3 (w := w) ha hb; exact ⟨cv, q1, V0.vv g2 q2⟩⟩
 have agg : ∀ {op}, aggEq T op t a b k = some r → ∃ v, k v = some r ∧ ∀ {σ R} {w : World} {ca cb}, VV σ R a ca → VV σ R b cb → Reads P (Bin P op t ox oy ca cb) σ R w v := by
  intro op he
  unfold aggEq at he
  split at he
  ·rename_i ti hti
   split at he
   ·rename_i s hs
    split at he
    ·rename_i u v hu hv
     obtain ⟨hc, he⟩ := cond_some he
     simp only [Bool.and_eq_true] at hc
     obtain ⟨⟨⟨⟨c1, c2⟩, c3⟩, c4⟩, c5⟩ := hc
     obtain ⟨i, d, hi⟩ := hT.is hti
     have hht : s.ht ≤ 9999 := by
      have := Nat.lt_of_lt_of_le (Nat.le_of_ble_eq_true c5 : s.ht + 1 ≤ 1000) (Nat.le_refl _)
      omega
     have aggOf : ∀ {a : AV} {q : s.den} {ca : Value} {σ R}, ofAV s a = some q → s.aggS = true → ti.k.agg = true → VV σ R a ca → ∃ cs, ca = .agg cs ∧ SC R s q cs.toList := by
      intro a q ca σ R h1 h2 h3 h4
      have hsw := (hi.sch s hs).1
      cases s with
      | stru f =>
       cases a <;> simp only [ofAV, reduceCtorEq] at h1
       obtain ⟨cs, rfl, hc⟩ := h4
       exact ⟨cs, rfl, ofAV_sc (s := .stru f) (v := .node _) (by simpa only [ofAV] using h1) hc⟩
      | arr n s =>
       cases a <;> simp only [ofAV, reduceCtorEq] at h1
       obtain ⟨cs, rfl, hc⟩ := h4
       exact ⟨cs, rfl, ofAV_sc (σ := σ) (s := .arr n s) (v := .vec _ _ _) (by simpa only [ofAV] using h1) hc⟩
      | _ => simp [Sch.aggS] at h2
     obtain ⟨q, hq, he⟩ := eqlK_some he
     cases hq
     have main : ∀ {σ R} {w : World} {ca cb}, VV σ R a ca → VV σ R b cb → ∃ xs ys, ca = .agg xs ∧ cb = .agg ys ∧ (Op.equal t (.agg xs) (.agg ys)).run P w = .ok (schEq s u v) w := by
      intro σ R w ca cb ha hb
      obtain ⟨xs, rfl, hx⟩ := aggOf hu c3 c2 ha
      obtain ⟨ys, rfl, hy⟩ := aggOf hv c3 c2 hb
      refine ⟨xs, ys, rfl, rfl, ?_⟩
      obtain ⟨t1, i1, d1, k1, k2, k3, k4⟩ := (eq_sound (R := R) hT s).1 t 10000 u v xs.toList ys.toList w (by cases s <;> first | rfl | simp [Sch.aggS] at c3) c4 (by omega) hx hy
      have hag : t1.k.agg = true := by
       have h1 := k1.run_agg w
       rw [hi.run_agg w] at h1
       simp only [Result.ok.injEq] at h1
       rw [← h1.1]; exact c2
      rw [hag] at k4
      simpa [valOf, Op.equal, Op.maxDepth] using k4
     have hg := (hi.eq c1).1
     rcases he with ⟨rfl, he⟩ | ⟨rfl, he⟩
     ·refine ⟨_, he, fun {σ R w ca cb} ha hb => ?_⟩
      obtain ⟨xs, ys, rfl, rfl, hrun⟩ := main (w := w) ha hb
      refine ⟨.bool (schEq s u v), ?_, rfl⟩
      unfold Bin
      rw [Sem.run_bind, run_eqGuard_agg w .eql t ox oy xs ys hg]
      exact eql_run hrun
     ·refine ⟨_, he, fun {σ R w ca cb} ha hb => ?_⟩
      obtain ⟨xs, ys, rfl, rfl, hrun⟩ := main (w := w) ha hb
      refine ⟨.bool (!schEq s u v), ?_, rfl⟩
      unfold Bin
      rw [Sem.run_bind, run_eqGuard_agg w .neq t ox oy xs ys hg]
      exact neq_run hrun
    ·cases he
   ·cases he
  ·cases he
 unfold binT at he
 split at he
 ·obtain ⟨hc, he⟩ := cond_some he
  exact plain (by rintro n p (h | h | h); (cases h); (subst h; simp [bin] at he); (cases h)) (fun _ => isBool_spec hT hc) he
 ·obtain ⟨hc, he⟩ := cond_some he
  exact plain (fun _ => isPtr_spec hT hc) (by intro q h; cases h) he
 ·obtain ⟨hc, he⟩ := cond_some he
  exact plain (fun _ => isPtr_spec hT hc) (by intro q h; cases h) he
 ·exact agg he
 ·exact agg he
 ·rename_i h1 h2 h3 h4 h5
  refine plain ?_ (fun {q} h => absurd h (h1 q)) he
  rintro n p (h | h | h)
  ·exact absurd h (h3 n p)
  ·subst h
   unfold bin at he
   split at he <;> simp_all
  ·exact absurd h h2
end Go.Proofs.YtfcloeflcpcheaaGreat.Eng
