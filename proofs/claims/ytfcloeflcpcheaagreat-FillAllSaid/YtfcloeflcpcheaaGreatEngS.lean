/-
The engine, nineteenth text: a whole function. Plain lemmas.
Conditions: those of the text ahead.
-/
import Derived.Test.YtfcloeflcpcheaaGreatEngR
set_option linter.unusedVariables false
set_option linter.unusedSimpArgs false
namespace Go.Proofs.YtfcloeflcpcheaaGreat.Eng
variable {P : Program} {T : Types} {σ σ' : Sg} {R R' : Ro} {h h' : Hp} {x x' : Nat} {w w' : World} {X : Type} {r : X} {N : Nat}
theorem noTup_v0 {a : AV} {v : Value} (hv : VV σ R a v) : V0 σ R a.noTup v := by
 cases a <;> first | exact hv | trivial
theorem chain_vt : ∀ {vs : List AV} {cs : List Value}, VL σ R vs cs → VT σ R (chain vs) cs
 | [], [], _ => rfl
 | a :: vs, c :: cs, hh => ⟨c, cs, rfl, noTup_v0 hh.1, chain_vt hh.2⟩
 | [], _ :: _, hh => hh.elim
 | _ :: _, [], hh => hh.elim
def retOne (tmps : Array Value) (q : ResultVar) : Sem Value :=
 match q with
 | .tmp t => pure (tmps.getD t undef)
 | .cell a t => do loadVar t (← asAddr (tmps.getD a undef))
theorem loadA_ptr {ty : Nat} {a : AV} {v : Value} {k : K1 X} (he : loadA T ty h a k = some r) (hv : VV σ R a v) : ∃ ad, v = .pointer (some ad) := by
 unfold loadA at he
 split at he
 ·obtain ⟨B, b, _, _, o, _, _, rfl⟩ := hv; exact ⟨_, rfl⟩
 ·split at he
  ·rename_i hq
   unfold loadF at hq
   split at hq
   ·obtain ⟨b, o, _, _, _, rfl⟩ := hv; exact ⟨_, rfl⟩
   ·cases hq
  ·unfold load0 at he
   split at he
   ·obtain ⟨b, o, _, _, _, rfl⟩ := hv; exact ⟨_, rfl⟩
   ·obtain ⟨ad, c, o, _, _, _, rfl⟩ := hv; exact ⟨_, rfl⟩
   ·cases he
theorem results1_sound (hT : TyOk P T) {t : Tm} : ∀ {l : List ResultVar} {vs : List AV}, results1 T h t l = some vs →
  ∀ {σ R x w tmps}, HR P σ R h x w → (∀ i, VV σ R (tget t i) (Array.getD tmps i undef)) → ∃ cs, (l.mapM (retOne tmps)).run P w = .ok cs w ∧ VL σ R vs cs
 | [], vs, he, σ, R, x, w, tmps, hr, ht => by cases he; exact ⟨[], by simp, trivial⟩
 | .tmp i :: l, vs, he, σ, R, x, w, tmps, hr, ht => by
  unfold results1 at he
  split at he <;> cases he
  obtain ⟨cs, h1, h2⟩ := results1_sound hT ‹_› hr ht
  exact ⟨_ :: cs, by simp [List.mapM_cons, retOne, h1, Result.andThen], ht i, h2⟩
 | .cell a ty :: l, vs, he, σ, R, x, w, tmps, hr, ht => by
  unfold results1 at he
  split at he
  ·rename_i q hq
   obtain ⟨cs, h1, h2⟩ := results1_sound hT hq hr ht
   obtain ⟨ad, had⟩ := loadA_ptr he (ht a)
   obtain ⟨v, hv, hrun⟩ := loadA_sound hT he
   cases hv
   obtain ⟨cv, h3, h4⟩ := hrun hr (ht a)
   rw [had] at h3
   refine ⟨cv :: cs, ?_, h4, h2⟩
   have h5 : (loadVar ty ad).run P w = .ok cv w := by simpa [Instr.loadAt, Instr.sureAddr] using h3
   simp [List.mapM_cons, retOne, h1, had, asAddr, h5, Result.andThen]
  ·cases he
theorem result_sound {vs : List AV} {cs : List Value} (hh : VL σ R vs cs) : VV σ R (result vs) (if h : cs.toArray.size = 1 then cs.toArray[0] else .tuple cs.toArray) := by
 cases vs with
 | nil => cases cs with
  | nil => exact ⟨#[], by simp, rfl⟩
  | cons c cs => exact hh.elim
 | cons a vs => cases cs with
  | nil => exact hh.elim
  | cons c cs =>
   cases vs with
   | nil => cases cs with
    | nil => simpa [result] using hh.1
    | cons d cs => exact hh.2.elim
   | cons b vs => cases cs with
    | nil => exact hh.2.elim
    | cons d cs =>
     rw [dif_neg (by simp)]
     exact ⟨_, rfl, chain_vt hh⟩
theorem noDup_spec : ∀ {l b : List Nat}, noDup l b = true → ∀ n ∈ l, n ∉ b
 | [], b, hh, n, hn => by simp at hn
 | m :: l, b, hh, n, hn => by
  unfold noDup at hh
  obtain ⟨h1, h2⟩ : memN b m = false ∧ noDup l b = true := by
   cases hq : memN b m with
   | true => rw [hq] at hh; cases hh
   | false => rw [hq] at hh; exact ⟨rfl, hh⟩
  simp only [List.mem_cons] at hn
  rcases hn with rfl | hn
  ·exact fun hm => by rw [memN_mem.2 hm] at h1; cases h1
  ·exact noDup_spec h2 n hn
theorem vl_tget {args : List AV} {cargs : List Value} (hv : VL σ R args cargs) (i : Nat) : VV σ R ((args[i]?).getD .any) ((cargs[i]?).getD undef) := by
 induction args generalizing cargs i with
 | nil => cases cargs with
  | nil => simp; trivial
  | cons c cs => exact hv.elim
 | cons a args ih => cases cargs with
  | nil => exact hv.elim
  | cons c cs =>
   cases i with
   | zero => simpa using hv.1
   | succ i => simpa using ih hv.2 i
theorem results_run {fn : Func} {tmps : Array Value} {cs : List Value} (hc : (fn.results.toList.mapM (retOne tmps)).run P w = .ok cs w) : (results fn tmps).run P w = .ok (if h : cs.toArray.size = 1 then cs.toArray[0] else .tuple cs.toArray) w := by
 have hm : results fn tmps = (do let vs ← fn.results.mapM (retOne tmps); pure (if h : vs.size = 1 then vs[0] else .tuple vs)) := by
  unfold results
  congr 1
 rw [hm, Array.mapM_eq_mapM_toList]
 simp [hc, Result.andThen]
theorem args_get {cargs : List Value} {n i : Nat} : (cargs.toArray ++ Array.replicate n undef).getD i undef = (cargs[i]?).getD undef := by
 rw [Array.getD_eq_getD_getElem?, Array.getElem?_append]
 simp only [List.size_toArray, List.getElem?_toArray, Array.getElem?_replicate]
 by_cases h1 : i < cargs.length
 ·rw [if_pos h1]
 ·rw [if_neg h1, List.getElem?_eq_none (by omega)]
  by_cases h2 : i - cargs.length < n
  ·simp [h2]
  ·simp [h2]
theorem nilRow_vv {t : Nat} {v : AV} {c : Value} (hv : VV σ R v c) : VV σ R (nilRow T t v) c := by
 unfold nilRow
 split
 ·split
  ·split
   ·rename_i s hs
    have hv' : c = .slice none 0 0 := hv
    subst hv'
    exact ⟨none, 0, rfl, Nat.le_refl _, by simp [maxLen], fun hp => absurd hp (by simp)⟩
   ·exact hv
  ·exact hv
 ·exact hv
theorem nilRows_vl : ∀ {ts : List Nat} {vs : List AV} {cs : List Value}, VL σ R vs cs → VL σ R (nilRows T ts vs) cs
 | [], vs, cs, hh => by cases vs <;> exact hh
 | t :: ts, [], cs, hh => hh
 | t :: ts, v :: vs, [], hh => hh.elim
 | t :: ts, v :: vs, c :: cs, hh => ⟨nilRow_vv hh.1, nilRows_vl hh.2⟩
theorem fnrun_sound (hT : TyOk P T) {E : Env X} (hE : EOK P E) {D : List Oper → Bool} {L : Loops X} {fz : Bool} {f : FuncId} {fn : Func} {c : Code} {args : List AV} {H : List (Option Blk)} {k : AV → List (Option Blk) → Option X}
  (hf : P.funcs[f]? = some fn) (hn : (fn.name == "runtime.NumGoroutine") = false) (hb : fn.body = some c) (hD : DOK P fn.ntmps T E D) (hL : LOK H.length T E D L c)
  (he : fnrun T E D L fz fn args H k = some r) : ∃ v H', k v H' = some r ∧ ACalls P f args H v H' := by
 unfold fnrun at he
 rw [hb] at he
 simp only at he
 obtain ⟨h1, he⟩ := cond_some he
 simp only [Bool.and_eq_true, Nat.ble_eq] at h1
 obtain ⟨e, s, h2, h3⟩ := aexec_sound hT hE hD c hL h1.1 he
 have ho : (e = .ret ∨ e = .normal) ∧ fnrun.out T fz fn H k s = some r := by
  cases e <;> first | exact ⟨.inl rfl, h2⟩ | exact ⟨.inr rfl, h2⟩ | cases h2
 obtain ⟨hex, ho⟩ := ho
 unfold fnrun.out at ho
 split at ho
 ·cases ho
 ·rename_i vs hvs
  dsimp only at ho
  obtain ⟨h4, ho⟩ := cond_some ho
  split at ho
  ·rename_i H' hp
   split at ho
   ·rename_i v' hv'
    refine ⟨v', H', ho, fn, hf, hn, by rw [hb]; rfl, fun {σ R w cargs} hr hv => ?_⟩
    refine calls_of_wp hf hb ?_
    generalize hW : (bif fz then nilRows T fn.resultTypes.toList vs else vs) = vs' at hp hv' h4
    generalize hV : (bif fz then (result vs').froze (reached H.length s.h []) s.h else result vs') = V at hp hv' h4
    obtain ⟨hd, hm⟩ := reached_spec H.length s.h V.names
    have hlen : args.length = cargs.length := hv.app
    have hbody : ∀ σ' R' a' w', SR P fn.ntmps σ' R' s a' w' → Ext σ R (number 0 H) H.length w σ' R' s.h s.x w' →
      a'.defers = [] ∧ ∃ v, (results fn a'.tmps).run P w' = .ok v w' ∧ ∃ cv σ'' R'', Ending.returned v = .returned cv ∧ VV σ'' R'' v' cv ∧ HR P σ'' R'' (number 0 H') H'.length w' ∧ Ext σ R (number 0 H) H.length w σ'' R'' (number 0 H') H'.length w' := by
     intro σ1 R1 a1 w1 hs hx
     refine ⟨hs.df, ?_⟩
     obtain ⟨cs, hc1, hc2⟩ := results1_sound hT hvs hs.hr hs.tm
     have hc3 : VL σ1 R1 vs' cs := by
      subst hW
      cases fz with
      | true => exact nilRows_vl hc2
      | false => exact hc2
     have hres := result_sound hc3
     have hrun : (results fn a1.tmps).run P w1 = .ok (if h : cs.toArray.size = 1 then cs.toArray[0] else .tuple cs.toArray) w1 := results_run hc1
     generalize (if h : cs.toArray.size = 1 then cs.toArray[0] else .tuple cs.toArray) = rv at hrun hres
     refine ⟨rv, hrun, rv, ?_⟩
     cases fz with
     | false =>
      simp only [cond_false] at hV
      subst hV
      exact ⟨_, _, rfl, ren_vv (tie_idx _) hv' hres, HR.pull hs.hr hd hp, Ext.pull hx hm hp⟩
     | true =>
      simp only [cond_true] at hV h4
      have hfr := froze_vv (old := reached H.length s.h []) (F := (result vs').frozen (reached H.length s.h []) s.h) hs.hr (fun n hn => hn) hres
      rw [hV] at hfr
      refine ⟨_, R1.more σ1 s.h ((result vs').frozen (reached H.length s.h []) s.h) w1, rfl, ren_vv (tie_idx _) hv' hfr, HR.grow (HR.pull hs.hr hd hp) (fun _ _ => Ro.more_rr) (fun _ _ => Ro.more_ro hs.hr) ?_, ?_⟩
      ·intro i b a hi hai hnl hR
       obtain ⟨n, hn, hsn⟩ := Pc.at_some hi
       obtain ⟨n', hn', han⟩ := pull_alive hp hai
       rw [hn] at hn'; cases hn'
       rcases Ro.more_foot hR with h6 | ⟨m, b', hm1, hm2, hm3, hm4, hm5⟩
       ·exact hs.hr.sep n b a hsn han hnl h6
       ·intro e
        have := hs.hr.inj m n b' b (.of hm2) hsn hm3 han hm4 hnl (hm5.trans e)
        subst this
        exact noDup_spec h4 m hm1 (nth_mem hn)
      ·have hx2 := Ext.pull hx hm hp
       refine ⟨hx2.fr, hx2.le, hx2.sg, fun a v hh => Ro.more_rr (hx2.rr a v hh), fun a hR => ?_, hx2.foot⟩
       rcases Ro.more_foot hR with h6 | ⟨m, b', hm1, hm2, hm3, hm4, hm5⟩
       ·exact hx2.rfoot a h6
       ·rcases hx.foot m b' (.of hm2) hm3 hm4 with ⟨p, bp, p1, p2, p3, p4⟩ | hge
        ·exact .inr (.inl ⟨p, bp, p1, p2, p3, p4.trans hm5⟩)
        ·exact .inr (.inr (by omega))
    refine h3 (σ0 := σ) (R0 := R) (h0 := number 0 H) (w0 := w) (σ := σ) (R := R) (Ext.refl _ _ _ _ _) ⟨fun i => ?_, by simp; omega, rfl, hr⟩ fun σ' R' a' w' q1 q2 => ?_
    ·rw [tget_number]
     simp only [Nat.zero_le, if_true, Nat.sub_zero]
     rw [args_get]
     exact vl_tget hv i
    ·rcases hex with rfl | rfl <;> exact hbody σ' R' a' w' q1 q2
   ·cases ho
  ·cases ho
end Go.Proofs.YtfcloeflcpcheaaGreat.Eng
