/-
The engine, seventeenth text: one operation, as the program does it. Plain lemmas.
Conditions: the contracts of the functions that are called ('EOK').
-/
import Derived.Test.YtfcloeflcpcheaaGreatEngPa
import Derived.Tactics
set_option linter.unusedVariables false
set_option linter.unusedSimpArgs false
namespace Go.Proofs.YtfcloeflcpcheaaGreat.Eng
variable {P : Program} {T : Types} {σ σ' : Sg} {R R' : Ro} {h h' : Hp} {x x' : Nat} {w w' : World} {X : Type} {r : X}
def VL (σ : Sg) (R : Ro) : List AV → List Value → Prop
 | [], [] => True
 | a :: l, v :: m => VV σ R a v ∧ VL σ R l m
 | _, _ => False
def ACalls (P : Program) (f : FuncId) (args : List AV) (H : List (Option Blk)) (v : AV) (H' : List (Option Blk)) : Prop :=
 ∃ fn, P.funcs[f]? = some fn ∧ (fn.name == "runtime.NumGoroutine") = false ∧ fn.body.isNone = false ∧
  ∀ {σ R w cargs}, HR P σ R (number 0 H) H.length w → VL σ R args cargs →
   Calls P f cargs.toArray w fun e w' => ∃ cv σ' R', e = .returned cv ∧ VV σ' R' v cv ∧ HR P σ' R' (number 0 H') H'.length w' ∧ Ext σ R (number 0 H) H.length w σ' R' (number 0 H') H'.length w'
def EOK (P : Program) (E : Env X) : Prop := ∀ {f args H k r}, E.run f args H k = some r → ∃ v H', k v H' = some r ∧ ACalls P f args H v H' ∧ (E.q f = true → H' = H) ∧ (E.a f = true → ∃ N, H' = H ++ N)
theorem renL_vl {f : Nat → Option Nat} (ht : Tie f σ σ') : ∀ {l l' : List AV} {cs : List Value}, renL f l = some l' → VL σ R l cs → VL σ' R l' cs
 | [], l', [], hh, hv => by cases hh; trivial
 | [], l', _ :: _, hh, hv => hv.elim
 | a :: l, l', [], hh, hv => hv.elim
 | a :: l, l', c :: cs, hh, hv => by
  unfold renL at hh
  split at hh
  ·split at hh <;> cases hh
   exact ⟨ren_vv ht ‹_› hv.1, renL_vl ht ‹_› hv.2⟩
  ·cases hh
theorem ren_none {f : Nat → Option Nat} : ∀ {a : AV}, a.names = [] → a.ren f = some a := by
 intro a
 induction a with
 | node q ih => intro hh; simp only [AV.ren, ih hh]
 | tup q ih => intro hh; simp only [AV.ren, ih hh]
 | fcons a b iha ihb =>
  intro hh
  simp only [AV.names, List.append_eq_nil_iff] at hh
  simp only [AV.ren, iha hh.1, ihb hh.2]
 | ptr n p => intro hh; cases hh
 | sl n => intro hh; cases hh
 | ss n p o l => intro hh; cases hh
 | mp n => intro hh; cases hh
 | isl n i => intro hh; cases hh
 | ip n i p => intro hh; cases hh
 | _ => intro hh; rfl
theorem renL_none {f : Nat → Option Nat} : ∀ {l : List AV}, l.flatMap AV.names = [] → renL f l = some l
 | [], _ => rfl
 | a :: l, hh => by
  simp only [List.flatMap_cons, List.append_eq_nil_iff] at hh
  simp only [renL, ren_none hh.1, renL_none hh.2]
theorem call_run {P : Program} {fid : FuncId} {fn : Func} {c : Call} {ρ : Operand → Value} {f : Operand} {ty : TypeId} (hf : P.funcs[fid]? = some fn) (h1 : (fn.name == "runtime.NumGoroutine") = false) (h2 : fn.body.isNone = false)
  (hc : c.callee = .value f) (hv : ρ f = .func (.func fid) #[] #[]) (w : World) : (do let d ← resolve ρ c ty; invoke d.target d.args : Sem Next).run P w = .ok (.enter fid (c.args.map ρ)) w := by
 have h1' : fn.name ≠ "runtime.NumGoroutine" := by simpa using h1
 have h2' : fn.body ≠ none := fun e => by rw [e] at h2; cases h2
 simp [resolve, hc, hv, Deferred.ofValue, invoke, callFunc, hf, h1', h2']
theorem Oper.wp_value {o : Oper} {a : Act} {next : Act → World → Prop} {Q : Exit → Act → World → Prop} {s : Sem Value} {cv : Value}
  (ho : execOp a.eval o = (do pure (.value (← s)))) (hs : s.run P w = .ok cv w') (hn : next (a.put o.dst cv) w') : o.wp P a w next Q := by
 unfold Oper.wp
 rw [ho]
 simp [hs, Oper.upon, Result.andThen]
 exact hn
def OpDone (P : Program) (o : Oper) (t : Tm) (h : Hp) (x : Nat) (v : AV) (h' : Hp) (x' : Nat) : Prop :=
 ∀ {σ R} {w : World} {a : Act}, (∀ y, VV σ R (evA t y) (a.eval y)) → HR P σ R h x w → ∀ {next : Act → World → Prop} {Q : Exit → Act → World → Prop},
  (∀ cv w' σ' R', VV σ' R' v cv → HR P σ' R' h' x' w' → Ext σ R h x w σ' R' h' x' w' → next (a.put o.dst cv) w') → o.wp P a w next Q
theorem OpDone.reads {o : Oper} {t : Tm} {v : AV} (s : Act → Sem Value) (ho : ∀ a : Act, execOp a.eval o = (do pure (.value (← s a))))
  (hs : ∀ {σ R} {w : World} {a : Act}, (∀ y, VV σ R (evA t y) (a.eval y)) → HR P σ R h x w → Reads P (s a) σ R w v) : OpDone P o t h x v h x := by
 intro σ R w a hy hr next Q hn
 obtain ⟨cv, h1, h2⟩ := hs hy hr
 exact Oper.wp_value (ho a) h1 (hn cv w σ R h2 hr (Ext.refl _ _ _ _ _))
theorem OpDone.makes {o : Oper} {t : Tm} {v : AV} (s : Act → Sem Value) (ho : ∀ a : Act, execOp a.eval o = (do pure (.value (← s a))))
  (hs : ∀ {σ R} {w : World} {a : Act}, (∀ y, VV σ R (evA t y) (a.eval y)) → HR P σ R h x w → Makes P (s a) σ R h x w v h' x') : OpDone P o t h x v h' x' := by
 intro σ R w a hy hr next Q hn
 obtain ⟨cv, w', σ', R', h1, h2, h3, h4⟩ := hs hy hr
 exact Oper.wp_value (ho a) h1 (hn cv w' σ' R' h2 h3 h4)
theorem vo_map {t : Tm} {a : Act} (hy : ∀ y, VV σ R (evA t y) (a.eval y)) (lo : Option Operand) : VO σ R (lo.map (evA t)) (lo.map a.eval) := by
 cases lo with
 | none => trivial
 | some y => exact hy y
theorem vp_map {t : Tm} {a : Act} (hy : ∀ y, VV σ R (evA t y) (a.eval y)) (ps : Array (Nat × Operand)) : VP σ R (ps.toList.map fun q => (q.1, evA t q.2)) (ps.map fun (i, y) => (i, a.eval y)).toList := by
 rw [Array.toList_map]
 induction ps.toList with
 | nil => trivial
 | cons q l ih => exact ⟨rfl, hy q.2, ih⟩
theorem vl_map {t : Tm} {a : Act} (hy : ∀ y, VV σ R (evA t y) (a.eval y)) : ∀ l : List Operand, VL σ R (l.map (evA t)) (l.map a.eval)
 | [] => trivial
 | y :: l => ⟨hy y, vl_map hy l⟩
theorem VL.app {σ : Sg} {R : Ro} : ∀ {l : List AV} {m : List Value}, VL σ R l m → l.length = m.length
 | [], [], _ => rfl
 | _ :: l, _ :: m, hh => by simp [VL.app hh.2]
 | [], _ :: _, hh => hh.elim
 | _ :: _, [], hh => hh.elim
theorem freshB_spec0 (hf : freshB h x = true) : hget h x = none := by
 unfold freshB at hf
 split at hf
 ·assumption
 ·cases hf
theorem callOp_sound (hT : TyOk P T) {E : Env X} (hE : EOK P E) {o : Oper} {c : Call} (ho : o.op = .call c) {t : Tm} {k : K3 X} (he : callOp T E (evA t) c o.type h x k = some r) :
  ∃ v h' x', k v h' x' = some r ∧ OpDone P o t h x v h' x' ∧ x ≤ x' ∧ (clsW T E.w o.op = false → Adds h x h' x') ∧ (clsE T E.w o.op = false → h' = h ∧ x' = x ∧ ∀ X, OpDone P o t h X v h X) ∧ (isCallV o.op = true → ∀ m, m < x → m ∉ touched h t o → hget h' m = hget h m) := by
 unfold callOp at he
 split at he
 ·rename_i f hf
  split at he
  ·rename_i fid hfid
   have hdyn := (cond_some he).1
   replace he := (cond_some he).2
   unfold callA at he
   cases hln : E.ln fid with
   | true =>
    rw [hln] at he
    simp only [cond_true] at he
    unfold lendA at he
    have hnm := (cond_some he).1
    replace he := (cond_some he).2
    rw [List.isEmpty_iff] at hnm
    cases hq : E.q fid with
    | false =>
    rw [hq] at he
    simp only [cond_false] at he
    obtain ⟨v, H', hk, hc, _⟩ := hE he
    have hcd := (cond_some hk).1
    replace hk := (cond_some hk).2
    rw [Bool.and_eq_true, Bool.and_eq_true, List.isEmpty_iff] at hcd
    obtain ⟨⟨hov, hoH⟩, hvn⟩ := hcd
    have hall : ∀ X, OpDone P o t h X (v.froze [] (number 0 H')) h X := by
     intro X σ R w a hy hr next Q hn
     obtain ⟨fn, g1, g2, g3, g4⟩ := hc
     have hfv : a.eval f = .func (.func fid) #[] #[] := by have := hy f; rw [hfid] at this; exact this
     let F := (c.args.toList.map (evA t)).flatMap fun u => u.frozen [] h
     have hvl : VL σ (R.more σ h F w) ((c.args.toList.map (evA t)).map (AV.froze [] h)) (c.args.toList.map a.eval) :=
      froze_vl (VLX := fun R l m => VL σ R l m) hr (fun _ => trivial) (fun _ _ _ _ _ => Iff.rfl) (fun _ _ _ hh => hh) (fun _ _ _ hh => hh) (fun u hu n hn => List.mem_flatMap.2 ⟨u, hu, hn⟩) (vl_map hy c.args.toList)
     have hvl2 : VL (fun _ => none) (R.more σ h F w) ((c.args.toList.map (evA t)).map (AV.froze [] h)) (c.args.toList.map a.eval) := by
      have hrn := renL_none (f := fun _ => none) hnm
      exact renL_vl (σ := σ) (σ' := fun _ => none) (f := fun _ => none) (fun n m b hm => by cases hm) hrn hvl
     have hr2 : HR P (fun _ => none) (R.more σ h F w) (number 0 []) ([] : List (Option Blk)).length w :=
      HR.bare fun _ _ => Ro.more_ro hr
     have hcall := g4 hr2 hvl2
     unfold Oper.wp
     have hex : execOp a.eval o = (do let d ← resolve a.eval c o.type; invoke d.target d.args) := by unfold execOp; rw [ho]
     rw [hex, call_run g1 g2 g3 hf hfv, Oper.upon_enter]
     have harr : c.args.map a.eval = (c.args.toList.map a.eval).toArray := by rw [← Array.toList_map, Array.toArray_toList]
     rw [harr]
     refine Calls.mono hcall fun e w' hh => ?_
     obtain ⟨cv, σe, R', rfl, q1, q2, q3⟩ := hh
     obtain ⟨p0, p1, p2⟩ := call_give hr q3 (fun _ _ => Ro.more_ro hr) (fun _ _ => Ro.more_rr) q2 hoH (v.frozen [] (number 0 H'))
     have hfr := froze_vv (old := []) (F := v.frozen [] (number 0 H')) p0 (fun n hn => hn) (own_vv (R' := R) hov q1)
     refine hn cv w' σ _ (ren_vv (σ := σe) (f := fun _ => none) (fun n m b hm => by cases hm) (ren_none hvn) hfr) p1 p2
    exact ⟨_, _, _, hk, hall x, Nat.le_refl _, fun _ => Adds.refl, fun _ => ⟨rfl, rfl, hall⟩, fun _ _ _ _ => rfl⟩
    | true =>
    rw [hq] at he
    simp only [cond_true] at he
    obtain ⟨v, H', hk, hc, hquiet, _⟩ := hE he
    have := hquiet hq
    subst this
    have hpl := (cond_some hk).1
    replace hk := (cond_some hk).2
    have hall : ∀ X, OpDone P o t h X v h X := by
     intro X σ R w a hy hr next Q hn
     obtain ⟨fn, g1, g2, g3, g4⟩ := hc
     have hfv : a.eval f = .func (.func fid) #[] #[] := by have := hy f; rw [hfid] at this; exact this
     let F := (c.args.toList.map (evA t)).flatMap fun u => u.frozen [] h
     have hvl : VL σ (R.more σ h F w) ((c.args.toList.map (evA t)).map (AV.froze [] h)) (c.args.toList.map a.eval) :=
      froze_vl (VLX := fun R l m => VL σ R l m) hr (fun _ => trivial) (fun _ _ _ _ _ => Iff.rfl) (fun _ _ _ hh => hh) (fun _ _ _ hh => hh) (fun u hu n hn => List.mem_flatMap.2 ⟨u, hu, hn⟩) (vl_map hy c.args.toList)
     have hvl2 : VL (fun _ => none) (R.more σ h F w) ((c.args.toList.map (evA t)).map (AV.froze [] h)) (c.args.toList.map a.eval) := by
      have hrn := renL_none (f := fun _ => none) hnm
      exact renL_vl (σ := σ) (σ' := fun _ => none) (f := fun _ => none) (fun n m b hm => by cases hm) hrn hvl
     have hr2 : HR P (fun _ => none) (R.more σ h F w) (number 0 []) ([] : List (Option Blk)).length w :=
      HR.bare fun _ _ => Ro.more_ro hr
     have hcall := g4 hr2 hvl2
     unfold Oper.wp
     have hex : execOp a.eval o = (do let d ← resolve a.eval c o.type; invoke d.target d.args) := by unfold execOp; rw [ho]
     rw [hex, call_run g1 g2 g3 hf hfv, Oper.upon_enter]
     have harr : c.args.map a.eval = (c.args.toList.map a.eval).toArray := by rw [← Array.toList_map, Array.toArray_toList]
     rw [harr]
     refine Calls.mono hcall fun e w' hh => ?_
     obtain ⟨cv, σe, R', rfl, q1, q2, q3⟩ := hh
     obtain ⟨p1, p2⟩ := call_lent hr (fun _ => rfl) q3 (fun _ _ => Ro.more_ro hr) (fun _ _ => Ro.more_rr) q2.ro
     exact hn cv w' σ R (plain_vv hpl q1) p1 p2
    exact ⟨_, _, _, hk, hall x, Nat.le_refl _, fun _ => Adds.refl, fun _ => ⟨rfl, rfl, hall⟩, fun _ _ _ _ => rfl⟩
   | false =>
   rw [hln] at he
   simp only [cond_false] at he
   unfold ownA at he
   dsimp only at he
   split at he
   ·rename_i args' ha
    split at he
    ·rename_i H hp
     have use : ∀ {v v' : AV} {H' : List (Option Blk)} {h' : Hp} {x x' : Nat}, ACalls P fid args' H v H' →
       (∀ {σ R w σe R' w'}, HR P σ R h x w → HR P σe R' (number 0 H') H'.length w' → Ext (σ.at_ (reach h fuelN ((c.args.toList.map (evA t)).flatMap AV.names) [])) R (number 0 H) H.length w σe R' (number 0 H') H'.length w' →
        ∃ σ', (∀ {cv}, VV σe R' v cv → VV σ' R' v' cv) ∧ HR P σ' R' h' x' w' ∧ Ext σ R h x w σ' R' h' x' w') → OpDone P o t h x v' h' x' := by
      intro v v' H' h' x x' hc hback σ R w a hy hr next Q hn
      obtain ⟨fn, g1, g2, g3, g4⟩ := hc
      have hfv : a.eval f = .func (.func fid) #[] #[] := by have := hy f; rw [hfid] at this; exact this
      have hd := (reach_spec h fuelN ((c.args.toList.map (evA t)).flatMap AV.names) [] (by simp)).1
      have hcall := g4 (HR.pull hr hd hp) (renL_vl (tie_idx _) ha (vl_map hy c.args.toList))
      unfold Oper.wp
      have hex : execOp a.eval o = (do let d ← resolve a.eval c o.type; invoke d.target d.args) := by unfold execOp; rw [ho]
      rw [hex, call_run g1 g2 g3 hf hfv, Oper.upon_enter]
      have harr : c.args.map a.eval = (c.args.toList.map a.eval).toArray := by rw [← Array.toList_map, Array.toArray_toList]
      rw [harr]
      refine Calls.mono hcall fun e w' hh => ?_
      obtain ⟨cv, σe, R', rfl, q1, q2, q3⟩ := hh
      obtain ⟨σ', p1, p2, p3⟩ := hback hr q2 q3
      exact hn cv w' σ' R' (p1 q1) p2 p3
     have hd := (reach_spec h fuelN ((c.args.toList.map (evA t)).flatMap AV.names) [] (by simp)).1
     cases hq : E.q fid with
     | true =>
      rw [hq] at he
      simp only [cond_true] at he
      obtain ⟨v, H', hk, hc, hquiet, _⟩ := hE he
      have := hquiet hq
      subst this
      split at hk
      ·rename_i v' hv
       have hall : ∀ X, OpDone P o t h X v' h X := fun X => use hc fun hr q2 q3 => by
        obtain ⟨p1, p2, p3⟩ := call_quiet hr hd hp q2 q3
        exact ⟨_, fun hh => ren_vv p1 hv hh, p2, p3⟩
       exact ⟨_, _, _, hk, hall x, Nat.le_refl _, fun _ => Adds.refl, fun _ => ⟨rfl, rfl, hall⟩, fun _ _ _ _ => rfl⟩
      ·cases hk
     | false =>
      rw [hq] at he
      simp only [cond_false] at he
      have h1 := (cond_some he).1
      replace he := (cond_some he).2
      obtain ⟨v, H', hk, hc, _, hadds⟩ := hE he
      have hfr := (cond_some hk).1
      replace hk := (cond_some hk).2
      split at hk
      ·rename_i h' hb
       split at hk
       ·rename_i v' hv
        have hfn : (E.w fid).2 = false := by simp [Env.w, hq, hln]
        refine ⟨_, _, _, hk, use hc fun hr q2 q3 => ?_, by omega, fun hw => ?_, fun hw => ?_, fun _ m hm hn => ?_⟩
        rotate_left
        ·rw [ho] at hw
         simp only [clsW, hf] at hw
         cases f with
         | func f' =>
          have : f' = fid := by have : AV.fn f' = AV.fn fid := hfid; cases this; rfl
          subst this
          dsimp only at hw
          have ha : E.a f' = true := by
           simpa [Env.w, hq, hln] using hw
          obtain ⟨N, hN⟩ := hadds ha
          have hpl := (pull_spec hp).1
          have hnl : H'.length - (reach h fuelN ((c.args.toList.map (evA t)).flatMap AV.names) []).length = N.length := by rw [hN, List.length_append]; omega
          rw [ha] at hfr
          simp only [Bool.not_true, Bool.false_or] at hfr
          rw [hnl] at hb hfr ⊢
          rw [hN] at hb
          refine ⟨by omega, fun n hn => ?_, fun n h1 h2 => ?_⟩
          ·refine adds_back (f := fun n => idxN (reach h fuelN ((c.args.toList.map (evA t)).flatMap AV.names) []) n 0) (fun n m hm => ?_) (news_nodup _ _) hp hb n fun hh => ?_
           ·have hi := idx0 hm
            rw [nthN_get] at hi ⊢
            rw [List.getElem?_append_left (List.getElem?_eq_some_iff.1 hi).1]
            exact hi
           ·have := news_mem.1 hh; omega
          ·have := List.all_eq_true.1 hfr n (news_mem.2 ⟨h1, h2⟩)
           exact freshB_spec0 this
         | _ => exact absurd hdyn (by simp [isFn, hfn])
        ·rw [ho] at hw
         simp only [clsE, hf] at hw
         cases f with
         | func f' =>
          have : f' = fid := by have : AV.fn f' = AV.fn fid := hfid; cases this; rfl
          subst this
          dsimp only at hw
          rw [hfn] at hw
          simp at hw
         | _ => exact absurd hdyn (by simp [isFn, hfn])
        ·refine (giveBack_get hb (back_nodup hd (allLt_spec h1))).2.1 m fun hh => ?_
         rcases List.mem_append.1 hh with hh | hh
         ·refine hn ?_
          unfold touched
          rw [ho]
          simp only [isCallV, hf, cond_true]
          rw [List.flatMap_map] at hh
          exact hh
         ·have := (news_mem.1 hh).1; omega
        obtain ⟨p1, p2, p3⟩ := call_back hr hd (.inl (allLt_spec h1)) hp q2 q3 hb
        exact ⟨_, fun hh => ren_vv p1 hv hh, p2, p3⟩
       ·cases hk
      ·cases hk
    ·cases he
   ·cases he
  ·cases he
 ·rename_i hc
  split at he
  ·rename_i ty y hty hy'
   obtain ⟨v, hk, hr'⟩ := lenA_sound (tr := o.type) hT he
   have hall : ∀ X, OpDone P o t h X v h X := fun X => OpDone.reads (fun a => Builtin.len_ #[ty] o.type #[a.eval y]) (fun a => ?_) fun hy hr => hr' hr (hy y)
   exact ⟨v, h, x, hk, hall x, Nat.le_refl _, fun _ => Adds.refl, fun _ => ⟨rfl, rfl, hall⟩, fun _ _ _ _ => rfl⟩
   have e1 : c.args = #[y] := by rw [← Array.toArray_toList (xs := c.args), hy']
   have e2 : c.argTypes = #[ty] := by rw [← Array.toArray_toList (xs := c.argTypes), hty]
   simp [execOp, ho, resolve, hc, invoke, builtin, e1, e2]
  ·cases he
 ·rename_i hc
  split at he
  ·rename_i y z hy'
   split at he
   ·rename_i ka p kb q hp hq
    obtain ⟨hkk, he2⟩ := cond_some he
    have hkk : ka = kb := of_decide_eq_true hkk
    subst hkk
    have e1 : c.args = #[y, z] := by rw [← Array.toArray_toList (xs := c.args), hy']
    have hall : ∀ X, OpDone P o t h X (.int ka (maxA p q)) h X := fun X => OpDone.reads (fun a => Builtin.max_ c.argTypes o.type #[a.eval y, a.eval z]) (fun a => by simp [execOp, ho, resolve, hc, invoke, builtin, e1]) fun {σ R w a} hy hr => by
     have h1 := hy y
     have h2 := hy z
     rw [hp] at h1
     rw [hq] at h2
     have h1 : a.eval y = .int ka p := h1
     have h2 : a.eval z = .int ka q := h2
     exact ⟨.int ka (maxA p q), by simp [Builtin.max_, Builtin.max2, h1, h2, maxA], rfl⟩
    exact ⟨_, h, x, he2, hall x, Nat.le_refl _, fun _ => Adds.refl, fun _ => ⟨rfl, rfl, hall⟩, fun _ _ _ _ => rfl⟩
   ·cases he
  ·cases he
 ·rename_i hc
  split at he
  ·rename_i y z hy'
   split at he
   ·rename_i ka p kb q hp hq
    obtain ⟨hkk, he2⟩ := cond_some he
    have hkk : ka = kb := of_decide_eq_true hkk
    subst hkk
    have e1 : c.args = #[y, z] := by rw [← Array.toArray_toList (xs := c.args), hy']
    have hall : ∀ X, OpDone P o t h X (.int ka (minA p q)) h X := fun X => OpDone.reads (fun a => Builtin.min_ c.argTypes o.type #[a.eval y, a.eval z]) (fun a => by simp [execOp, ho, resolve, hc, invoke, builtin, e1]) fun {σ R w a} hy hr => by
     have h1 := hy y
     have h2 := hy z
     rw [hp] at h1
     rw [hq] at h2
     have h1 : a.eval y = .int ka p := h1
     have h2 : a.eval z = .int ka q := h2
     exact ⟨.int ka (minA p q), by simp [Builtin.min_, Builtin.min2, h1, h2, minA], rfl⟩
    exact ⟨_, h, x, he2, hall x, Nat.le_refl _, fun _ => Adds.refl, fun _ => ⟨rfl, rfl, hall⟩, fun _ _ _ _ => rfl⟩
   ·cases he
  ·cases he
 ·rename_i hc
  split at he
  ·rename_i ty ty' y z hty hy'
   obtain ⟨v, h', hk, hr'⟩ := copyA_sound (tr := o.type) hT he
   refine ⟨v, h', x, hk, OpDone.makes (fun a => Builtin.copy_ #[ty, ty'] o.type #[a.eval y, a.eval z]) (fun a => ?_) fun hy hr => hr' hr (hy y) (hy z), Nat.le_refl _, (fun hw => by rw [ho] at hw; simp only [clsW, hc] at hw; cases hw), (fun hw => by rw [ho] at hw; simp only [clsE, hc] at hw; cases hw), fun hh => by rw [ho] at hh; simp [isCallV, hc] at hh⟩
   have e1 : c.args = #[y, z] := by rw [← Array.toArray_toList (xs := c.args), hy']
   have e2 : c.argTypes = #[ty, ty'] := by rw [← Array.toArray_toList (xs := c.argTypes), hty]
   simp [execOp, ho, resolve, hc, invoke, builtin, e1, e2]
  ·cases he
 ·rename_i hc
  split at he
  ·rename_i ty y hty hy'
   obtain ⟨h', hk, hr'⟩ := clearA_sound (tr := o.type) hT he
   refine ⟨_, h', x, hk, OpDone.makes (fun a => Builtin.clear_ #[ty] o.type #[a.eval y]) (fun a => ?_) fun hy hr => hr' hr (hy y), Nat.le_refl _, (fun hw => by rw [ho] at hw; simp only [clsW, hc] at hw; cases hw), (fun hw => by rw [ho] at hw; simp only [clsE, hc] at hw; cases hw), fun hh => by rw [ho] at hh; simp [isCallV, hc] at hh⟩
   have e1 : c.args = #[y] := by rw [← Array.toArray_toList (xs := c.args), hy']
   have e2 : c.argTypes = #[ty] := by rw [← Array.toArray_toList (xs := c.argTypes), hty]
   simp [execOp, ho, resolve, hc, invoke, builtin, e1, e2]
  ·cases he
 ·rename_i hc
  split at he
  ·rename_i ty ty' y z hty hy'
   obtain ⟨v, h', x', hk, hx, _, hr'⟩ := appendA_sound (tr := o.type) hT he
   refine ⟨v, h', x', hk, OpDone.makes (fun a => Builtin.append_ #[ty, ty'] o.type #[a.eval y, a.eval z]) (fun a => ?_) fun hy hr => hr' hr (hy y) (hy z), hx, (fun hw => by rw [ho] at hw; simp only [clsW, hc] at hw; cases hw), (fun hw => by rw [ho] at hw; simp only [clsE, hc] at hw; cases hw), fun hh => by rw [ho] at hh; simp [isCallV, hc] at hh⟩
   have e1 : c.args = #[y, z] := by rw [← Array.toArray_toList (xs := c.args), hy']
   have e2 : c.argTypes = #[ty, ty'] := by rw [← Array.toArray_toList (xs := c.argTypes), hty]
   simp [execOp, ho, resolve, hc, invoke, builtin, e1, e2]
  ·cases he
 ·cases he
theorem intConv_sound (hT : TyOk P T) {src dst : Nat} (hi : intConv T src dst = true) {v : AV} {k : K3 X} (he : convertA T src dst h x v k = some r) :
  ∃ u, k u h x = some r ∧ ∀ {σ R} {w : World} {cv}, VV σ R v cv → Reads P (Go.convert src dst cv) σ R w u := by
 unfold intConv at hi
 rw [Bool.and_eq_true] at hi
 unfold convertA at he
 split at he
 ·rename_i ts td hts htd
  obtain ⟨i1, d1, k1⟩ := hT.is hts
  obtain ⟨i2, d2, k2⟩ := hT.is htd
  have n1 : ts.k.isInt = true := by have := hi.1; unfold isK at this; rw [hts] at this; exact this
  have n2 : td.k.isInt = true := by have := hi.2; unfold isK at this; rw [htd] at this; exact this
  split at he
  ·rename_i k1' ki q n hk1 hk2
   have e1 := k1.int hk1
   have e2 := k2.int hk2
   subst e1 e2
   refine ⟨_, he, fun {σ R w cv} hv => ?_⟩
   obtain rfl : cv = _ := hv
   exact ⟨.int ki (ki.wrap n), by simp [Go.convert, run_underlying k1.und, run_underlying k2.und, Conv.intToInt], rfl⟩
  ·rename_i s hk1 hk2; rw [hk1] at n1; cases n1
  ·rename_i e s l hk1 hk2; rw [hk1] at n1; cases n1
  ·rename_i e n hk1 hk2; rw [hk1] at n1; cases n1
  ·rename_i e n p o len hk1 hk2; rw [hk1] at n1; cases n1
  ·rename_i e s hk1 hk2; rw [hk1] at n1; cases n1
  ·cases he
 ·cases he
theorem freshB_spec (hf : freshB h x = true) : hget h x = none := by
 unfold freshB at hf
 split at hf
 ·assumption
 ·cases hf
theorem aop_sound (hT : TyOk P T) {E : Env X} (hE : EOK P E) {o : Oper} {t : Tm} {k : K3 X} (he : aop T E t o.op o.type h x k = some r) :
  ∃ v h' x', k v h' x' = some r ∧ OpDone P o t h x v h' x' ∧ x ≤ x' ∧ (clsW T E.w o.op = false → Adds h x h' x') ∧ (clsE T E.w o.op = false → h' = h ∧ x' = x ∧ ∀ X, OpDone P o t h X v h X) ∧ (clsP T o.op = true → ∀ h x, OpDone P o t h x v h x) := by
 obtain ⟨dst, op, type, pos, after, guard⟩ := o
 cases op with
 | move y => exact ⟨_, _, _, he, OpDone.reads (fun a => pure (a.eval y)) (fun a => by simp [execOp]) fun hy hr => ⟨_, rfl, hy y⟩, Nat.le_refl _, fun _ => Adds.refl, fun _ => ⟨rfl, rfl, fun x => OpDone.reads (fun a => pure (a.eval y)) (fun a => by simp [execOp]) fun hy hr => ⟨_, rfl, hy y⟩⟩, fun _ h x => OpDone.reads (fun a => pure (a.eval y)) (fun a => by simp [execOp]) fun hy hr => ⟨_, rfl, hy y⟩⟩
 | assign y => exact ⟨_, _, _, he, OpDone.reads (fun a => pure (a.eval y)) (fun a => by simp [execOp]) fun hy hr => ⟨_, rfl, hy y⟩, Nat.le_refl _, fun _ => Adds.refl, fun _ => ⟨rfl, rfl, fun x => OpDone.reads (fun a => pure (a.eval y)) (fun a => by simp [execOp]) fun hy hr => ⟨_, rfl, hy y⟩⟩, fun _ h x => OpDone.reads (fun a => pure (a.eval y)) (fun a => by simp [execOp]) fun hy hr => ⟨_, rfl, hy y⟩⟩
 | pick c y z =>
  simp only [aop] at he
  obtain ⟨v, hk, hr'⟩ := pickA_sound (P := P) he
  exact ⟨_, _, _, hk, OpDone.reads (fun a => do pure (if ← asBool (a.eval c) then a.eval y else a.eval z)) (fun a => by simp [execOp]) fun hy hr => hr' (hy c) (hy y) (hy z), Nat.le_refl _, fun _ => Adds.refl, fun _ => ⟨rfl, rfl, fun x => OpDone.reads (fun a => do pure (if ← asBool (a.eval c) then a.eval y else a.eval z)) (fun a => by simp [execOp]) fun hy hr => hr' (hy c) (hy y) (hy z)⟩, fun _ h x => OpDone.reads (fun a => do pure (if ← asBool (a.eval c) then a.eval y else a.eval z)) (fun a => by simp [execOp]) fun hy hr => hr' (hy c) (hy y) (hy z)⟩
 | alloc e =>
  simp only [aop] at he
  split at he
  ·rename_i ti hti
   have h1 := (cond_some he).1
   replace he := (cond_some he).2
   rw [Bool.and_eq_true] at h1
   have hf := freshB_spec h1.2
   replace h1 := h1.1
   exact ⟨_, _, _, he, OpDone.makes (fun a => Instr.alloc e true (.tuple #[])) (fun a => by simp [execOp]) fun hy hr => alloc_sound hT hti h1 hr, by omega, fun _ => Grows.adds (.inr ⟨_, rfl, rfl⟩) hf, fun hh => by simp [clsE] at hh, fun hh => by simp [clsP] at hh⟩
  ·cases he
 | box e y =>
  simp only [aop] at he
  have h1 := (cond_some he).1
  replace he := (cond_some he).2
  rw [Bool.and_eq_true, List.all_eq_true] at h1
  obtain ⟨h1, hf⟩ := h1
  obtain ⟨b1, b2⟩ := boxRows_adds (T := T) (e := e) (v := evA t y) (h := h) (x := x)
  have hx' : x ≤ (boxRows T e (evA t y) h x).2.2 + 1 := by omega
  refine ⟨_, _, _, he, OpDone.makes (fun a => Instr.box e (a.eval y)) (fun a => by simp [execOp]) fun hy hr => ?_, hx', fun _ => ⟨hx', fun n hn => ?_, fun n h2 h3 => ?_⟩, fun hh => by simp [clsE] at hh, fun hh => by simp [clsP] at hh⟩
  ·obtain ⟨σ', p1, p2, p3⟩ := boxRows_sound hr h1 (hy y)
   exact Makes.after p2 (box_sound h1 p1 p3)
  ·have hn : n < x ∨ (boxRows T e (evA t y) h x).2.2 + 1 ≤ n := hn
   show hget ((_, _) :: _) n = _
   rw [hget_cons, if_neg (show ¬ (boxRows T e (evA t y) h x).2.2 = n by omega)]
   exact b2 n (by omega)
  ·have h3 : n < (boxRows T e (evA t y) h x).2.2 + 1 := h3
   refine freshB_spec (hf n (news_mem.2 ⟨h2, ?_⟩))
   show n < x + ((boxRows T e (evA t y) h x).2.2 + 1 - x)
   omega
 | build e parts =>
  simp only [aop] at he
  obtain ⟨v, hk, hr'⟩ := buildA_sound hT he
  exact ⟨_, _, _, hk, OpDone.reads (fun a => Instr.build e (parts.map fun (i, y) => (i, a.eval y))) (fun a => by simp [execOp]) fun hy hr => hr' (vp_map hy parts), Nat.le_refl _, fun _ => Adds.refl, fun _ => ⟨rfl, rfl, fun x => OpDone.reads (fun a => Instr.build e (parts.map fun (i, y) => (i, a.eval y))) (fun a => by simp [execOp]) fun hy hr => hr' (vp_map hy parts)⟩, fun _ h x => OpDone.reads (fun a => Instr.build e (parts.map fun (i, y) => (i, a.eval y))) (fun a => by simp [execOp]) fun hy hr => hr' (vp_map hy parts)⟩
 | buildSlice e len parts =>
  simp only [aop] at he
  have hf := freshB_spec (by simpa using (cond_none he).1)
  replace he := (cond_none he).2
  obtain ⟨v, h', x', hk, hx, had, hr'⟩ := buildRowA_sound hT he
  exact ⟨_, _, _, hk, OpDone.makes (fun a => Instr.buildSlice e len (parts.map fun (i, y) => (i, a.eval y))) (fun a => by simp [execOp]) fun hy hr => hr' hr (vp_map hy parts), hx, fun hw => (had (by simpa [clsW] using hw)).adds hf, fun hh => by simp [clsE] at hh, fun hh => by simp [clsP] at hh⟩
 | load e y =>
  simp only [aop] at he
  obtain ⟨v, hk, hr'⟩ := loadA_sound hT he
  exact ⟨_, _, _, hk, OpDone.reads (fun a => Instr.loadAt e (a.eval y)) (fun a => by simp [execOp]) fun hy hr => hr' hr (hy y), Nat.le_refl _, fun _ => Adds.refl, fun _ => ⟨rfl, rfl, fun x => OpDone.reads (fun a => Instr.loadAt e (a.eval y)) (fun a => by simp [execOp]) fun hy hr => hr' hr (hy y)⟩, fun hh => by simp [clsP] at hh⟩
 | store e y z =>
  obtain ⟨h', x', hk, hx, _, hr'⟩ := storeR_sound hT he
  refine ⟨_, _, _, hk, ?_, hx, fun hw => by simp [clsW] at hw, fun hw => by simp [clsE, clsW] at hw, fun hh => by simp [clsP] at hh⟩
  intro σ R w a hy hr next Q hn
  obtain ⟨w', σ', q1, q2, q3⟩ := hr' hr (hy y) (hy z)
  unfold Oper.wp
  simp only [execOp]
  simp [q1, Oper.upon, Result.andThen]
  exact hn undef w' σ' R trivial q2 q3
 | nilCheck y =>
  simp only [aop] at he
  split at he
  ·rename_i n p hp
   suffices hall' : ∀ x, OpDone P ⟨dst, .nilCheck y, type, pos, after, guard⟩ t h x (.ptr n p) h x from ⟨_, _, _, he, hall' x, Nat.le_refl _, fun _ => Adds.refl, fun _ => ⟨rfl, rfl, hall'⟩, fun hh => by simp [clsP] at hh⟩
   intro x σ R w a hy hr next Q hn
   have hv := hy y
   rw [hp] at hv
   have := hn _ w σ R hv hr (Ext.refl _ _ _ _ _)
   obtain ⟨B, o, _, _, _, hv⟩ := hv
   unfold Oper.wp
   simp only [execOp, hv]
   rw [hv] at this
   simpa [Oper.upon] using this
  ·rename_i s z p hp
   suffices hall' : ∀ x, OpDone P ⟨dst, .nilCheck y, type, pos, after, guard⟩ t h x (.rop s z p) h x from ⟨_, _, _, he, hall' x, Nat.le_refl _, fun _ => Adds.refl, fun _ => ⟨rfl, rfl, hall'⟩, fun hh => by simp [clsP] at hh⟩
   intro x σ R w a hy hr next Q hn
   have hv := hy y
   rw [hp] at hv
   have := hn _ w σ R hv hr (Ext.refl _ _ _ _ _)
   obtain ⟨ad, c, o, _, _, _, hv⟩ := hv
   unfold Oper.wp
   simp only [execOp, hv]
   rw [hv] at this
   simpa [Oper.upon] using this
  ·cases he
 | binOp op ty y z _ =>
  simp only [aop] at he
  obtain ⟨v, hk, hr'⟩ := binT_sound hT y z he
  exact ⟨_, _, _, hk, OpDone.reads (fun a => Bin P op ty y z (a.eval y) (a.eval z)) (fun a => by simp [execOp, Bin]) fun hy hr => hr' (hy y) (hy z), Nat.le_refl _, fun _ => Adds.refl, fun _ => ⟨rfl, rfl, fun x => OpDone.reads (fun a => Bin P op ty y z (a.eval y) (a.eval z)) (fun a => by simp [execOp, Bin]) fun hy hr => hr' (hy y) (hy z)⟩, fun _ h x => OpDone.reads (fun a => Bin P op ty y z (a.eval y) (a.eval z)) (fun a => by simp [execOp, Bin]) fun hy hr => hr' (hy y) (hy z)⟩
 | unOp op ty y =>
  simp only [aop] at he
  obtain ⟨v, hk, hr'⟩ := un_sound (P := P) he
  exact ⟨_, _, _, hk, OpDone.reads (fun a => Op.unary op (a.eval y)) (fun a => by simp [execOp]) fun hy hr => hr' (hy y), Nat.le_refl _, fun _ => Adds.refl, fun _ => ⟨rfl, rfl, fun x => OpDone.reads (fun a => Op.unary op (a.eval y)) (fun a => by simp [execOp]) fun hy hr => hr' (hy y)⟩, fun _ h x => OpDone.reads (fun a => Op.unary op (a.eval y)) (fun a => by simp [execOp]) fun hy hr => hr' (hy y)⟩
 | convert s d y =>
  simp only [aop] at he
  cases hic : intConv T s d with
  | true =>
   rw [hic, Bool.true_or] at he
   simp only [cond_true] at he
   obtain ⟨v, hk, hr'⟩ := intConv_sound (P := P) hT hic he
   exact ⟨_, _, _, hk, OpDone.reads (fun a => Go.convert s d (a.eval y)) (fun a => by simp [execOp]) fun hy hr => hr' (hy y), Nat.le_refl _, fun _ => Adds.refl, fun _ => ⟨rfl, rfl, fun x => OpDone.reads (fun a => Go.convert s d (a.eval y)) (fun a => by simp [execOp]) fun hy hr => hr' (hy y)⟩, fun _ h x => OpDone.reads (fun a => Go.convert s d (a.eval y)) (fun a => by simp [execOp]) fun hy hr => hr' (hy y)⟩
  | false =>
   rw [hic, Bool.false_or] at he
   cases hst : isK T d TK.isStr with
   | true =>
    rw [hst, cond_true] at he
    obtain ⟨v, hk, hr'⟩ := strConv_sound hT hst he
    exact ⟨_, _, _, hk, OpDone.reads (fun a => Go.convert s d (a.eval y)) (fun a => by simp [execOp]) fun hy hr => hr' hr (hy y), Nat.le_refl _, fun _ => Adds.refl, fun _ => ⟨rfl, rfl, fun x => OpDone.reads (fun a => Go.convert s d (a.eval y)) (fun a => by simp [execOp]) fun hy hr => hr' hr (hy y)⟩, fun hh => by simp [clsP, hic] at hh⟩
   | false =>
   rw [hst] at he
   simp only [cond_false] at he
   have hf := freshB_spec (by simpa using (cond_none he).1)
   replace he := (cond_none he).2
   obtain ⟨v, h', x', hk, had, hr'⟩ := convertA_sound hT he
   exact ⟨_, _, _, hk, OpDone.makes (fun a => Go.convert s d (a.eval y)) (fun a => by simp [execOp]) fun hy hr => hr' hr (hy y), (had.adds hf).le, fun _ => had.adds hf, fun hh => by simp [clsE, hic, hst] at hh, fun hh => by simp [clsP, hic] at hh⟩
 | makeSlice e l c =>
  simp only [aop] at he
  have hf := freshB_spec (by simpa using (cond_none he).1)
  replace he := (cond_none he).2
  obtain ⟨v, h', x', hk, had, hr'⟩ := makeSliceA_sound hT he
  exact ⟨_, _, _, hk, OpDone.makes (fun a => Instr.makeSlice e (a.eval l) (a.eval c)) (fun a => by simp [execOp]) fun hy hr => hr' hr (hy l) (hy c), (had.adds hf).le, fun _ => had.adds hf, fun hh => by simp [clsE] at hh, fun hh => by simp [clsP] at hh⟩
 | slice e y lo hi mx =>
  cases mx with
  | some m => cases he
  | none =>
   simp only [aop] at he
   obtain ⟨v, hk, hr'⟩ := sliceA_sound hT he
   exact ⟨_, _, _, hk, OpDone.reads (fun a => Instr.sliceAt e (a.eval y) (lo.map a.eval) (hi.map a.eval) none) (fun a => by simp [execOp]) fun hy hr => hr' hr (hy y) (vo_map hy lo) (vo_map hy hi), Nat.le_refl _, fun _ => Adds.refl, fun _ => ⟨rfl, rfl, fun x => OpDone.reads (fun a => Instr.sliceAt e (a.eval y) (lo.map a.eval) (hi.map a.eval) none) (fun a => by simp [execOp]) fun hy hr => hr' hr (hy y) (vo_map hy lo) (vo_map hy hi)⟩, fun hh => by simp [clsP] at hh⟩
 | fieldAddr e y f =>
  simp only [aop] at he
  obtain ⟨v, hk, hr'⟩ := fieldAddrA_sound hT he
  exact ⟨_, _, _, hk, OpDone.reads (fun a => Instr.fieldAt e (a.eval y) f) (fun a => by simp [execOp]) fun hy hr => hr' hr (hy y), Nat.le_refl _, fun _ => Adds.refl, fun _ => ⟨rfl, rfl, fun x => OpDone.reads (fun a => Instr.fieldAt e (a.eval y) f) (fun a => by simp [execOp]) fun hy hr => hr' hr (hy y)⟩, fun hh => by simp [clsP] at hh⟩
 | field e y f =>
  simp only [aop] at he
  obtain ⟨v, hk, hr'⟩ := fieldA_sound hT he
  exact ⟨_, _, _, hk, OpDone.reads (fun a => Instr.field e (a.eval y) f) (fun a => by simp [execOp]) fun hy hr => hr' (hy y), Nat.le_refl _, fun _ => Adds.refl, fun _ => ⟨rfl, rfl, fun x => OpDone.reads (fun a => Instr.field e (a.eval y) f) (fun a => by simp [execOp]) fun hy hr => hr' (hy y)⟩, fun _ h x => OpDone.reads (fun a => Instr.field e (a.eval y) f) (fun a => by simp [execOp]) fun hy hr => hr' (hy y)⟩
 | sliceToArrayPointer e y =>
  simp only [aop] at he
  obtain ⟨v, hk, hr'⟩ := toArrA_sound hT he
  exact ⟨_, _, _, hk, OpDone.reads (fun a => Instr.arrayAt e (a.eval y)) (fun a => by simp [execOp]) fun hy hr => hr' (hy y), Nat.le_refl _, fun _ => Adds.refl, fun _ => ⟨rfl, rfl, fun x => OpDone.reads (fun a => Instr.arrayAt e (a.eval y)) (fun a => by simp [execOp]) fun hy hr => hr' (hy y)⟩, fun hh => by simp [clsP] at hh⟩
 | indexAddr e y z =>
  simp only [aop] at he
  obtain ⟨v, hk, hr'⟩ := indexAddrA_sound hT he
  exact ⟨_, _, _, hk, OpDone.reads (fun a => Instr.indexAt e (a.eval y) (a.eval z)) (fun a => by simp [execOp]) fun hy hr => hr' hr (hy y) (hy z), Nat.le_refl _, fun _ => Adds.refl, fun _ => ⟨rfl, rfl, fun x => OpDone.reads (fun a => Instr.indexAt e (a.eval y) (a.eval z)) (fun a => by simp [execOp]) fun hy hr => hr' hr (hy y) (hy z)⟩, fun hh => by simp [clsP] at hh⟩
 | index e y z =>
  simp only [aop] at he
  obtain ⟨v, hk, hr'⟩ := indexA_sound hT he
  exact ⟨_, _, _, hk, OpDone.reads (fun a => Instr.index e (a.eval y) (a.eval z)) (fun a => by simp [execOp]) fun hy hr => hr' (hy y) (hy z), Nat.le_refl _, fun _ => Adds.refl, fun _ => ⟨rfl, rfl, fun x => OpDone.reads (fun a => Instr.index e (a.eval y) (a.eval z)) (fun a => by simp [execOp]) fun hy hr => hr' (hy y) (hy z)⟩, fun _ h x => OpDone.reads (fun a => Instr.index e (a.eval y) (a.eval z)) (fun a => by simp [execOp]) fun hy hr => hr' (hy y) (hy z)⟩
 | extract y i =>
  simp only [aop] at he
  obtain ⟨v, hk, hr'⟩ := extractA_sound (P := P) he
  exact ⟨_, _, _, hk, OpDone.reads (fun a => Instr.extract (a.eval y) i) (fun a => by simp [execOp]) fun hy hr => hr' (hy y), Nat.le_refl _, fun _ => Adds.refl, fun _ => ⟨rfl, rfl, fun x => OpDone.reads (fun a => Instr.extract (a.eval y) i) (fun a => by simp [execOp]) fun hy hr => hr' (hy y)⟩, fun _ h x => OpDone.reads (fun a => Instr.extract (a.eval y) i) (fun a => by simp [execOp]) fun hy hr => hr' (hy y)⟩
 | call c =>
  obtain ⟨v, h', x', hk, h1, h2, h3⟩ := callOp_sound (o := ⟨dst, .call c, type, pos, after, guard⟩) hT hE rfl he
  exact ⟨v, h', x', hk, h1, h2, h3.1, h3.2.1, fun hh => by simp [clsP] at hh⟩
 | makeMap e y =>
  cases y with
  | some m => cases he
  | none =>
   simp only [aop] at he
   have hf := freshB_spec (by simpa using (cond_none he).1)
   replace he := (cond_none he).2
   unfold makeMapA at he
   split at he
   ·exact ⟨_, _, _, he, OpDone.makes (fun a => Instr.makeMap e none) (fun a => by simp [execOp]) fun hy hr => makeMap_sound hr, by omega, fun _ => Grows.adds (.inr ⟨_, rfl, rfl⟩) hf, fun hh => by simp [clsE] at hh, fun hh => by simp [clsP] at hh⟩
   ·cases he
 | lookup e y z cm =>
  cases cm with
  | true => cases he
  | false =>
   simp only [aop] at he
   obtain ⟨v, hk, hr'⟩ := lookupA_sound hT he
   exact ⟨_, _, _, hk, OpDone.reads (fun a => Instr.lookup e (a.eval y) (a.eval z) false) (fun a => by simp [execOp]) fun hy hr => hr' hr (hy y) (hy z), Nat.le_refl _, fun _ => Adds.refl, fun _ => ⟨rfl, rfl, fun x => OpDone.reads (fun a => Instr.lookup e (a.eval y) (a.eval z) false) (fun a => by simp [execOp]) fun hy hr => hr' hr (hy y) (hy z)⟩, fun hh => by simp [clsP] at hh⟩
 | mapUpdate e y z u =>
  simp only [aop] at he
  obtain ⟨h', hk, hr'⟩ := mapUpdateA_sound hT he
  refine ⟨_, _, _, hk, ?_, Nat.le_refl _, fun hw => by simp [clsW] at hw, fun hw => by simp [clsE, clsW] at hw, fun hh => by simp [clsP] at hh⟩
  intro σ R w a hy hr next Q hn
  obtain ⟨w', q1, q2, q3⟩ := hr' hr (hy y) (hy z) (hy u)
  unfold Oper.wp
  simp only [execOp]
  simp [q1, Oper.upon, Result.andThen]
  exact hn undef w' σ R trivial q2 q3
 | _ => cases he
theorem cond_bind {X Y : Type} (c : Bool) (u : Option X) (k : X → Option Y) : (bif c then u else none).bind k = bif c then u.bind k else none := by cases c <;> rfl
theorem load0_nat {X : Type} {ty : Nat} {a : AV} {k : K1 X} : load0 T ty h a k = (load0 T ty h a some).bind k := by
 unfold load0
 split
 ·split
  ·split
   ·rw [cond_bind]; rfl
   ·rfl
  ·rfl
 ·split
  ·rw [cond_bind]; rfl
  ·rfl
 ·rfl
theorem loadA_nat {X : Type} {ty : Nat} {a : AV} {k : K1 X} : loadA T ty h a k = (loadA T ty h a some).bind k := by
 unfold loadA
 split
 ·exact load0_nat
 ·split
  ·rfl
  ·exact load0_nat
theorem fieldAddr0_nat {X : Type} {ty f : Nat} {a : AV} {k : K1 X} : fieldAddr0 T ty f h a k = (fieldAddr0 T ty f h a some).bind k := by
 unfold fieldAddr0
 split
 ·split
  ·split
   ·rw [cond_bind]; rfl
   ·rfl
  ·rfl
 ·split
  ·rw [cond_bind]; rfl
  ·rfl
 ·rfl
theorem fieldAddrA_nat {X : Type} {ty f : Nat} {a : AV} {k : K1 X} : fieldAddrA T ty f h a k = (fieldAddrA T ty f h a some).bind k := by
 unfold fieldAddrA
 split
 ·exact (by rw [fieldAddr0_nat, fieldAddr0_nat (k := fun v => some (liftV _ _ v)), Option.bind_assoc]; rfl)
 ·exact fieldAddr0_nat
theorem inB_bind {X Y : Type} {i : Int} {n : Nat} (u : Option X) (k : X → Option Y) : (inB i n u).bind k = inB i n (u.bind k) := by
 unfold inB; rw [cond_bind, cond_bind]
theorem indexAddr0_nat {X : Type} {ty : Nat} {a i : AV} {k : K1 X} : indexAddr0 T ty h a i k = (indexAddr0 T ty h a i some).bind k := by
 unfold indexAddr0
 split
 ·split
  ·split
   ·split
    ·rw [cond_bind, inB_bind]; rfl
    ·rfl
   ·rfl
  ·split
   ·split
    ·rw [cond_bind, inB_bind]; rfl
    ·rw [cond_bind, inB_bind]; rfl
    ·rfl
   ·rfl
  ·split
   ·split
    ·rw [cond_bind, inB_bind]; rfl
    ·rw [cond_bind, inB_bind]; rfl
    ·rfl
   ·rfl
  ·rw [cond_bind, inB_bind]; rfl
  ·split
   ·rw [cond_bind, inB_bind]; rfl
   ·rfl
  ·rfl
 ·rfl
theorem indexAddrA_nat {X : Type} {ty : Nat} {a i : AV} {k : K1 X} : indexAddrA T ty h a i k = (indexAddrA T ty h a i some).bind k := by
 unfold indexAddrA
 split
 ·exact (by rw [indexAddr0_nat, indexAddr0_nat (k := fun v => some (liftV _ _ v)), Option.bind_assoc]; rfl)
 ·exact (by rw [indexAddr0_nat, indexAddr0_nat (k := fun v => some (liftV _ _ v)), Option.bind_assoc]; rfl)
 ·exact indexAddr0_nat
theorem bound_bind {X Y : Type} {v : Option AV} {n : Nat} {u : Int → Option X} {k : X → Option Y} : (bound v n u).bind k = bound v n fun i => (u i).bind k := by
 unfold bound; split <;> rfl
theorem cuts_bind {X Y : Type} {n : Nat} {lo hi : Option AV} {u : Nat → Nat → Option X} {k : X → Option Y} : (cuts n lo hi u).bind k = cuts n lo hi fun a b => (u a b).bind k := by
 unfold cuts
 rw [bound_bind]
 congr 1
 funext hi'
 rw [bound_bind]
 congr 1
 funext lo'
 unfold toB
 rw [cond_bind, cond_bind, cond_bind, cond_bind]
theorem sliceA_nat {X : Type} {ty : Nat} {a : AV} {lo hi : Option AV} {k : K1 X} : sliceA T ty h a lo hi k = (sliceA T ty h a lo hi some).bind k := by
 unfold sliceA
 split
 ·rw [cond_bind, cuts_bind]; rfl
 ·rw [cond_bind, cuts_bind]; rfl
 ·split
  ·split
   ·rw [cond_bind, cuts_bind]; rfl
   ·rfl
  ·rfl
 ·split
  ·split
   ·rw [cond_bind, cuts_bind]; rfl
   ·rw [cond_bind, cuts_bind]; rfl
   ·rfl
  ·rfl
 ·split
  ·split
   ·rw [cond_bind, cuts_bind]; rfl
   ·rfl
  ·rfl
 ·rfl
theorem len0_nat {X : Type} {ty : Nat} {a : AV} {k : K1 X} : len0 T ty h a k = (len0 T ty h a some).bind k := by
 unfold len0
 split
 ·rw [cond_bind]; rfl
 ·rw [cond_bind]; rfl
 ·rw [cond_bind]; rfl
 ·rw [cond_bind]; rfl
 ·rw [cond_bind]; rfl
 ·split
  ·split
   ·rw [cond_bind]; rfl
   ·rw [cond_bind]; rfl
   ·rfl
  ·rfl
 ·rfl
theorem lenA_nat {X : Type} {ty : Nat} {a : AV} {k : K1 X} : lenA T ty h a k = (lenA T ty h a some).bind k := by
 unfold lenA
 split
 ·exact len0_nat
 ·exact len0_nat
section
variable {X : Type} {h1 h2 : Hp} {a : AV}
theorem view_congr {n i : Nat} (hh : hget h1 n = hget h2 n) : viewA h1 n i = viewA h2 n i := by unfold viewA; rw [hh]
theorem load0_congr (hh : ∀ n ∈ a.names, hget h1 n = hget h2 n) {ty : Nat} {k : K1 X} : load0 T ty h1 a k = load0 T ty h2 a k := by
 unfold load0
 cases a <;> first | rfl | simp only [hh _ (List.mem_singleton_self _)]
theorem loadA_congr (hh : ∀ n ∈ a.names, hget h1 n = hget h2 n) {ty : Nat} {k : K1 X} : loadA T ty h1 a k = loadA T ty h2 a k := by
 unfold loadA
 cases a with
 | ip n i p => simp only [view_congr (hh n (List.mem_singleton_self _))]
 | ptr n p =>
  have hn := hh n (List.mem_singleton_self _)
  have h0 : loadF T ty h1 (.ptr n p) = loadF T ty h2 (.ptr n p) := by
   rcases p with _ | ⟨i, _ | ⟨j, p⟩⟩
   ·rfl
   ·unfold loadF; simp only [hn]
   ·rfl
  simp only [h0]
  split
  ·rfl
  ·exact load0_congr hh
 | _ => exact load0_congr hh
theorem fieldAddr0_congr (hh : ∀ n ∈ a.names, hget h1 n = hget h2 n) {ty f : Nat} {k : K1 X} : fieldAddr0 T ty f h1 a k = fieldAddr0 T ty f h2 a k := by
 unfold fieldAddr0
 cases a <;> first | rfl | simp only [hh _ (List.mem_singleton_self _)]
theorem fieldAddrA_congr (hh : ∀ n ∈ a.names, hget h1 n = hget h2 n) {ty f : Nat} {k : K1 X} : fieldAddrA T ty f h1 a k = fieldAddrA T ty f h2 a k := by
 unfold fieldAddrA
 cases a with
 | ip n i p => simp only [view_congr (hh n (List.mem_singleton_self _))]
 | _ => exact fieldAddr0_congr hh
theorem indexAddr0_congr (hh : ∀ n ∈ a.names, hget h1 n = hget h2 n) {ty : Nat} {i : AV} {k : K1 X} : indexAddr0 T ty h1 a i k = indexAddr0 T ty h2 a i k := by
 unfold indexAddr0
 cases i <;> first | rfl | (cases a <;> first | rfl | simp only [hh _ (List.mem_singleton_self _)])
theorem indexAddrA_congr (hh : ∀ n ∈ a.names, hget h1 n = hget h2 n) {ty : Nat} {i : AV} {k : K1 X} : indexAddrA T ty h1 a i k = indexAddrA T ty h2 a i k := by
 unfold indexAddrA
 cases a with
 | isl n j => simp only [view_congr (hh n (List.mem_singleton_self _))]
 | ip n j p => simp only [view_congr (hh n (List.mem_singleton_self _))]
 | _ => exact indexAddr0_congr hh
theorem sliceA_congr (hh : ∀ n ∈ a.names, hget h1 n = hget h2 n) {ty : Nat} {lo hi : Option AV} {k : K1 X} : sliceA T ty h1 a lo hi k = sliceA T ty h2 a lo hi k := by
 unfold sliceA
 cases a <;> first | rfl | simp only [hh _ (List.mem_singleton_self _)]
theorem len0_congr (hh : ∀ n ∈ a.names, hget h1 n = hget h2 n) {ty : Nat} {k : K1 X} : len0 T ty h1 a k = len0 T ty h2 a k := by
 unfold len0
 cases a <;> first | rfl | simp only [hh _ (List.mem_singleton_self _)]
theorem lenA_congr (hh : ∀ n ∈ a.names, hget h1 n = hget h2 n) {ty : Nat} {k : K1 X} : lenA T ty h1 a k = lenA T ty h2 a k := by
 unfold lenA
 cases a with
 | isl n j => simp only [view_congr (hh n (List.mem_singleton_self _))]
 | _ => exact len0_congr hh
end
theorem aop_rd (hT : TyOk P T) {E : Env X} (hE : EOK P E) {o : Oper} {t : Tm} {k : K3 X} (hr : isRd o.op = true) (he : aop T E t o.op o.type h x k = some r) :
  ∃ v, k v h x = some r ∧ ∀ h' X, (∀ n ∈ opNames t o, hget h' n = hget h n) → OpDone P o t h' X v h' X := by
 obtain ⟨dst, op, type, pos, after, guard⟩ := o
 have mem : ∀ {y : Operand}, y ∈ op.operands.toList → ∀ n ∈ (evA t y).names, n ∈ opNames t ⟨dst, op, type, pos, after, guard⟩ := fun hy n hn => List.mem_flatMap.2 ⟨_, hy, hn⟩
 cases op with
 | load e y =>
  simp only [aop] at he
  rw [loadA_nat] at he
  obtain ⟨v, h1, h2⟩ := Option.bind_eq_some_iff.1 he
  refine ⟨v, h2, fun h' X hh => ?_⟩
  have h3 : loadA T e h' (evA t y) some = some v := by rw [← h1]; exact loadA_congr fun n hn => hh n (mem (by simp [Op.operands]) n hn)
  obtain ⟨v', e1, hr'⟩ := loadA_sound hT h3
  cases e1
  intro σ R w a hy0 hr0 next Q hn
  exact OpDone.reads (P := P) (o := ⟨dst, .load e y, type, pos, after, guard⟩) (t := t) (h := h') (x := X) (v := v) (fun a => Instr.loadAt e (a.eval y)) (fun a => by simp [execOp]) (fun hy hr => hr' hr (hy y)) hy0 hr0 hn
 | fieldAddr e y f =>
  simp only [aop] at he
  rw [fieldAddrA_nat] at he
  obtain ⟨v, h1, h2⟩ := Option.bind_eq_some_iff.1 he
  refine ⟨v, h2, fun h' X hh => ?_⟩
  have h3 : fieldAddrA T e f h' (evA t y) some = some v := by rw [← h1]; exact fieldAddrA_congr fun n hn => hh n (mem (by simp [Op.operands]) n hn)
  obtain ⟨v', e1, hr'⟩ := fieldAddrA_sound hT h3
  cases e1
  intro σ R w a hy0 hr0 next Q hn
  exact OpDone.reads (P := P) (o := ⟨dst, .fieldAddr e y f, type, pos, after, guard⟩) (t := t) (h := h') (x := X) (v := v) (fun a => Instr.fieldAt e (a.eval y) f) (fun a => by simp [execOp]) (fun hy hr => hr' hr (hy y)) hy0 hr0 hn
 | indexAddr e y z =>
  simp only [aop] at he
  rw [indexAddrA_nat] at he
  obtain ⟨v, h1, h2⟩ := Option.bind_eq_some_iff.1 he
  refine ⟨v, h2, fun h' X hh => ?_⟩
  have h3 : indexAddrA T e h' (evA t y) (evA t z) some = some v := by rw [← h1]; exact indexAddrA_congr fun n hn => hh n (mem (by simp [Op.operands]) n hn)
  obtain ⟨v', e1, hr'⟩ := indexAddrA_sound hT h3
  cases e1
  intro σ R w a hy0 hr0 next Q hn
  exact OpDone.reads (P := P) (o := ⟨dst, .indexAddr e y z, type, pos, after, guard⟩) (t := t) (h := h') (x := X) (v := v) (fun a => Instr.indexAt e (a.eval y) (a.eval z)) (fun a => by simp [execOp]) (fun hy hr => hr' hr (hy y) (hy z)) hy0 hr0 hn
 | slice e y lo hi mx =>
  cases mx with
  | some m => cases hr
  | none =>
   simp only [aop] at he
   rw [sliceA_nat] at he
   obtain ⟨v, h1, h2⟩ := Option.bind_eq_some_iff.1 he
   refine ⟨v, h2, fun h' X hh => ?_⟩
   have h3 : sliceA T e h' (evA t y) (lo.map (evA t)) (hi.map (evA t)) some = some v := by rw [← h1]; exact sliceA_congr fun n hn => hh n (mem (by simp [Op.operands]) n hn)
   obtain ⟨v', e1, hr'⟩ := sliceA_sound hT h3
   cases e1
   intro σ R w a hy0 hr0 next Q hn
   exact OpDone.reads (P := P) (o := ⟨dst, .slice e y lo hi none, type, pos, after, guard⟩) (t := t) (h := h') (x := X) (v := v) (fun a => Instr.sliceAt e (a.eval y) (lo.map a.eval) (hi.map a.eval) none) (fun a => by simp [execOp]) (fun hy hr => hr' hr (hy y) (vo_map hy lo) (vo_map hy hi)) hy0 hr0 hn
 | nilCheck y =>
  simp only [aop] at he
  split at he
  ·rename_i n p hp
   refine ⟨_, he, fun h' X _ => ?_⟩
   intro σ R w a hy hr next Q hn
   have hv := hy y
   rw [hp] at hv
   have := hn _ w σ R hv hr (Ext.refl _ _ _ _ _)
   obtain ⟨B, o, _, _, _, hv⟩ := hv
   unfold Oper.wp
   simp only [execOp, hv]
   rw [hv] at this
   simpa [Oper.upon] using this
  ·rename_i s z p hp
   refine ⟨_, he, fun h' X _ => ?_⟩
   intro σ R w a hy hr next Q hn
   have hv := hy y
   rw [hp] at hv
   have := hn _ w σ R hv hr (Ext.refl _ _ _ _ _)
   obtain ⟨ad, c, o, _, _, _, hv⟩ := hv
   unfold Oper.wp
   simp only [execOp, hv]
   rw [hv] at this
   simpa [Oper.upon] using this
  ·cases he
 | call c =>
  simp only [isRd] at hr
  have hc : c.callee = .builtin .len := by
   split at hr
   ·assumption
   ·cases hr
  simp only [aop, callOp, hc] at he
  split at he
  ·rename_i ty y hty hy'
   rw [lenA_nat] at he
   obtain ⟨v, h1, h2⟩ := Option.bind_eq_some_iff.1 he
   have e1 : c.args = #[y] := by rw [← Array.toArray_toList (xs := c.args), hy']
   have e2 : c.argTypes = #[ty] := by rw [← Array.toArray_toList (xs := c.argTypes), hty]
   refine ⟨v, h2, fun h' X hh => ?_⟩
   have h3 : lenA T ty h' (evA t y) some = some v := by
    rw [← h1]
    refine lenA_congr fun n hn => hh n (mem ?_ n hn)
    simp only [Op.operands, Call.operands, Array.toList_append, List.mem_append]
    exact .inr (by rw [hy']; simp)
   obtain ⟨v', e3, hr'⟩ := lenA_sound (tr := type) hT h3
   cases e3
   intro σ R w a hy0 hr0 next Q hn
   exact OpDone.reads (P := P) (o := ⟨dst, .call c, type, pos, after, guard⟩) (t := t) (h := h') (x := X) (v := v) (fun a => Builtin.len_ #[ty] type #[a.eval y]) (fun a => by simp [execOp, resolve, hc, invoke, builtin, e1, e2]) (fun hy hr => hr' hr (hy y)) hy0 hr0 hn
  ·cases he
 | _ => cases hr
theorem rd_cls {q : Qs} {op : Op} (hr : isRd op = true) : clsE T q op = false ∧ isLoc op = false ∧ clsW T q op = false := by
 cases op with
 | load _ _ => exact ⟨rfl, rfl, rfl⟩
 | fieldAddr _ _ _ => exact ⟨rfl, rfl, rfl⟩
 | indexAddr _ _ _ => exact ⟨rfl, rfl, rfl⟩
 | slice _ _ _ _ m => cases m <;> first | exact ⟨rfl, rfl, rfl⟩ | cases hr
 | nilCheck _ => exact ⟨rfl, rfl, rfl⟩
 | call c =>
  simp only [isRd] at hr
  split at hr
  ·rename_i hc
   simp only [clsE, clsW, isApp, isCallV, isSt, isLoc, hc, and_self, Bool.or_self]
  ·cases hr
 | _ => cases hr
theorem aop_sound2 (hT : TyOk P T) {E : Env X} (hE : EOK P E) {o : Oper} {t : Tm} {k : K3 X} (he : aop T E t o.op o.type h x k = some r) :
  ∃ v h' x', k v h' x' = some r ∧ OpDone P o t h x v h' x' ∧ x ≤ x' ∧ (clsW T E.w o.op = false → Adds h x h' x') ∧ (clsE T E.w o.op = false → h' = h ∧ x' = x ∧ ∀ X, OpDone P o t h X v h X) ∧ (clsP T o.op = true → ∀ h x, OpDone P o t h x v h x) ∧
   (isLoc o.op = true → ∀ m, m < x → m ∉ touched h t o → hget h' m = hget h m) ∧ (isRd o.op = true → ∀ H X, (∀ n ∈ opNames t o, hget H n = hget h n) → OpDone P o t H X v H X) := by
 cases hd : isRd o.op with
 | true =>
  obtain ⟨v, h1, h2⟩ := aop_rd hT hE hd he
  obtain ⟨c1, c2, c3⟩ := rd_cls (T := T) (q := E.w) hd
  refine ⟨v, h, x, h1, h2 h x (fun _ _ => rfl), Nat.le_refl _, fun _ => Adds.refl, fun _ => ⟨rfl, rfl, fun X => h2 h X (fun _ _ => rfl)⟩, fun hp => ?_, (fun hh => by rw [c2] at hh; cases hh), fun _ => h2⟩
  exfalso
  obtain ⟨dst, op, type, pos, after, guard⟩ := o
  cases op with
  | slice _ _ _ _ m => cases m <;> first | (cases hp; done) | cases hd
  | _ => first | (cases hp; done) | (cases hd; done)
 | false =>
 cases hq : isApp o.op with
 | false =>
  cases hv : isCallV o.op with
  | false =>
   cases hst : isSt o.op with
   | false =>
    obtain ⟨v, h', x', h1, h2, h3, h4, h5, h6⟩ := aop_sound hT hE he
    exact ⟨v, h', x', h1, h2, h3, h4, h5, h6, (fun hh => by unfold isLoc at hh; rw [hq, hv, hst] at hh; cases hh), fun hh => by cases hh⟩
   | true =>
    obtain ⟨dst, op, type, pos, after, guard⟩ := o
    cases op with
    | store e y z =>
     simp only [aop] at he
     obtain ⟨h', x', hk, hx, hl, hr'⟩ := storeR_sound hT he
     refine ⟨_, _, _, hk, ?_, hx, (fun hw => by simp [clsW] at hw), (fun hw => by simp [clsE, clsW] at hw), (fun hh => by simp [clsP] at hh), (fun _ m h1 h2 => ?_), fun hh => by cases hh⟩
     ·intro σ R w a hy hr next Q hn
      obtain ⟨w', σ', q1, q2, q3⟩ := hr' hr (hy y) (hy z)
      unfold Oper.wp
      simp only [execOp]
      simp [q1, Oper.upon, Result.andThen]
      exact hn undef w' σ' R trivial q2 q3
     ·have h3 : m ∉ (evA t y).names ++ (evA t z).names := by simpa only [touched, isCallV, isSt, stNames, cond_false, cond_true] using h2
      rw [List.mem_append, not_or] at h3
      exact hl m h1 h3.1 h3.2
    | _ => cases hst
  | true =>
   obtain ⟨dst, op, type, pos, after, guard⟩ := o
   cases op with
   | call c =>
    simp only [aop] at he
    obtain ⟨v, h', x', hk, h1, h2, h3, h4, h5⟩ := callOp_sound (o := ⟨dst, .call c, type, pos, after, guard⟩) hT hE rfl he
    exact ⟨v, h', x', hk, h1, h2, h3, h4, (fun hh => by simp [clsP] at hh), fun _ => h5 hv, fun hh => by cases hh⟩
   | _ => cases hv
 | true =>
  obtain ⟨dst, op, type, pos, after, guard⟩ := o
  cases op with
  | call c =>
   simp only [isApp] at hq
   have hc : c.callee = .builtin .append := by
    split at hq
    ·assumption
    ·cases hq
   simp only [aop, callOp, hc] at he
   split at he
   ·rename_i ty ty' y z hty hy'
    obtain ⟨v, h', x', hk, hx, hloc, hr'⟩ := appendA_sound (tr := type) hT he
    have hw : clsW T E.w (.call c) = true := by simp only [clsW, hc]
    refine ⟨v, h', x', hk, OpDone.makes (fun a => Builtin.append_ #[ty, ty'] type #[a.eval y, a.eval z]) (fun a => ?_) fun hy hr => hr' hr (hy y) (hy z), hx, (fun hh => by rw [hw] at hh; cases hh), (fun hh => by simp only [clsE, hc] at hh; cases hh), (fun hh => by simp [clsP] at hh), (fun _ m h1 h2 => by
     have h3 : m ∉ (evA t y).names ++ (bif famOf h (evA t z) then (evA t z).names else []) := by simpa only [touched, isCallV, isSt, hc, appNames, hy', cond_false] using h2
     rw [List.mem_append, not_or] at h3
     exact hloc m h1 h3.1 fun hf => by rw [hf] at h3; exact h3.2), fun hh => by cases hh⟩
    have e1 : c.args = #[y, z] := by rw [← Array.toArray_toList (xs := c.args), hy']
    have e2 : c.argTypes = #[ty, ty'] := by rw [← Array.toArray_toList (xs := c.argTypes), hty]
    simp [execOp, resolve, hc, invoke, builtin, e1, e2]
   ·cases he
  | _ => cases hq
end Go.Proofs.YtfcloeflcpcheaaGreat.Eng
