/-
The engine, twenty-fourth text: contracts of functions by their plain mirrors. Plain lemmas.
Conditions: the mirrors' equations.
-/
import Derived.Test.YtfcloeflcpcheaaGreatEngW
set_option linter.unusedVariables false
set_option linter.unusedSimpArgs false
set_option linter.unusedSectionVars false
namespace Go.Proofs.YtfcloeflcpcheaaGreat.Eng
variable {P : Program} {T : Types} {X : Type} {r : X}
@[reducible] def aden : List Pat → Type
 | [] => Unit
 | p :: l => p.den × aden l
def instA : (l : List Pat) → aden l → List AV
 | [], _ => []
 | p :: l, x => p.inst x.1 :: instA l x.2
def mtchA : (l : List Pat) → List AV → Option (aden l)
 | [], [] => some ()
 | p :: l, v :: m => match p.mtch v with | some x => (match mtchA l m with | some y => some (x, y) | none => none) | none => none
 | _, _ => none
def mtchB : (l : List (Option (Pat × Nat))) → List (Option Blk) → Option (hden l)
 | [], [] => some ()
 | none :: l, none :: h => mtchB l h
 | some (p, e) :: l, some b :: h => bif Nat.beq b.e e then (match p.mtch b.c with | some x => (match mtchB l h with | some y => some (x, y) | none => none) | none => none) else none
 | _, _ => none
theorem mtchA_inst : ∀ {l : List Pat} {m : List AV} {x : aden l}, mtchA l m = some x → m = instA l x
 | [], [], x, hh => rfl
 | [], _ :: _, x, hh => by cases hh
 | p :: l, [], x, hh => by cases hh
 | p :: l, v :: m, x, hh => by
  simp only [mtchA] at hh
  split at hh
  ·rename_i y hy
   split at hh
   ·rename_i z hz
    cases hh
    rw [Pat.mtch_inst hy, mtchA_inst hz]; rfl
   ·cases hh
  ·cases hh
theorem mtchB_inst : ∀ {l : List (Option (Pat × Nat))} {h : List (Option Blk)} {x : hden l}, mtchB l h = some x → h = instH l x
 | [], [], x, hh => rfl
 | [], _ :: _, x, hh => by cases hh
 | none :: l, [], x, hh => by cases hh
 | some _ :: l, [], x, hh => by cases hh
 | none :: l, none :: h, x, hh => by simp only [mtchB] at hh; rw [mtchB_inst hh]; rfl
 | none :: l, some b :: h, x, hh => by cases hh
 | some (p, e) :: l, none :: h, x, hh => by cases hh
 | some (p, e) :: l, some b :: h, x, hh => by
  simp only [mtchB] at hh
  obtain ⟨h1, hh⟩ := cond_some hh
  split at hh
  ·rename_i y hy
   split at hh
   ·rename_i z hz
    cases hh
    obtain ⟨c, e'⟩ := b
    have h2 : e' = e := Nat.eq_of_beq_eq_true h1
    have h3 : c = p.inst y := Pat.mtch_inst hy
    subst h2 h3
    rw [mtchB_inst hz]; rfl
   ·cases hh
  ·cases hh
abbrev KF (X : Type) := AV → List (Option Blk) → Option X
def Env.base (q ln a : FuncId → Bool) : Env X := ⟨fun _ _ _ _ => none, q, ln, a⟩
theorem EOK.base (q ln a : FuncId → Bool) : EOK P (Env.base (X := X) q ln a) := fun he => by cases he
def Env.add (E : Env X) (f0 : FuncId) (ps : List Pat) (hs : List (Option (Pat × Nat))) (p : aden ps × hden hs → KF X → Option X) : Env X :=
 ⟨fun f args H k => bif Nat.beq f f0 then (match mtchA ps args with
   | some x => (match mtchB hs H with | some y => p (x, y) k | none => E.run f args H k)
   | none => E.run f args H k) else E.run f args H k, E.q, E.ln, E.a⟩
def Good (P : Program) (q a : FuncId → Bool) (f0 : FuncId) (ps : List Pat) (hs : List (Option (Pat × Nat))) (p : aden ps × hden hs → KF X → Option X) : Prop :=
 ∀ {x : aden ps × hden hs} {k : KF X} {r : X}, p x k = some r → ∃ v H', k v H' = some r ∧ ACalls P f0 (instA ps x.1) (instH hs x.2) v H' ∧ (q f0 = true → H' = instH hs x.2) ∧ (a f0 = true → ∃ N, H' = instH hs x.2 ++ N)
theorem EOK.add {E : Env X} (hE : EOK P E) {f0 : FuncId} {ps : List Pat} {hs : List (Option (Pat × Nat))} {p : aden ps × hden hs → KF X → Option X} (hg : Good P E.q E.a f0 ps hs p) : EOK P (E.add f0 ps hs p) := by
 intro f args H k r he
 simp only [Env.add] at he
 cases hq : Nat.beq f f0 with
 | false => rw [hq] at he; exact hE he
 | true =>
  rw [hq] at he
  simp only [cond_true] at he
  have hf := Nat.eq_of_beq_eq_true hq
  subst hf
  split at he
  ·rename_i x hx
   split at he
   ·rename_i y hy
    obtain ⟨v, H', h1, h2, h3⟩ := hg he
    rw [mtchA_inst hx, mtchB_inst hy]
    exact ⟨v, H', h1, h2, h3⟩
   ·exact hE he
  ·exact hE he
def bodyOf (f : Func) : Code := match f.body with | some c => c | none => .skip
def loopsIn : Code → List (Nat × Code)
 | .seq a b => loopsIn a ++ loopsIn b
 | .cond _ a b => loopsIn a ++ loopsIn b
 | .block _ a => loopsIn a
 | .loop a => (firstRegion a, a) :: loopsIn a
 | _ => []
def loopAt (i : Nat) (c : Code) : Code := match (loopsIn c).find? (fun q => Nat.beq q.1 i) with | some q => q.2 | none => .skip
theorem LOK.all {m : Nat} {E : Env X} {D : List Oper → Bool} {L : Loops X} : ∀ {c : Code}, (∀ q ∈ loopsIn c, ∀ {s k r}, L q.1 s k = some r → ∃ live lo n, clean m live s (fun s => iter m live lo (aexec T E D L q.2) n s k) = some r) → LOK m T E D L c
 | .seq a b, hh => ⟨LOK.all fun q hq => hh q (List.mem_append_left _ hq), LOK.all fun q hq => hh q (List.mem_append_right _ hq)⟩
 | .cond _ a b, hh => ⟨LOK.all fun q hq => hh q (List.mem_append_left _ hq), LOK.all fun q hq => hh q (List.mem_append_right _ hq)⟩
 | .block _ a, hh => LOK.all (c := a) hh
 | .loop a, hh => ⟨L, LOK.all fun q hq => hh q (List.mem_cons_of_mem _ hq), fun {s k r} he => hh (firstRegion a, a) (List.mem_cons_self ..) he⟩
 | .skip, _ => trivial
 | .region _ _ _, _ => trivial
 | .exit _, _ => trivial
 | .ret, _ => trivial
 | .scope _, _ => trivial
 | .label _, _ => trivial
 | .goto _, _ => trivial
 | .refuse _, _ => trivial
 | .rangeFunc _ _ _ _, _ => trivial
def Loops.none : Loops X := fun _ _ _ => Option.none
def Loops.add (L : Loops X) (i : Nat) (l : St → (Exit → St → Option X) → Option X) : Loops X := fun id s k => bif Nat.beq id i then l s k else L id s k
theorem loops_nil {m : Nat} {E : Env X} {D : List Oper → Bool} {L : Loops X} {c : Code} (hc : loopsIn c = []) : LOK m T E D L c := LOK.all fun q hq => by rw [hc] at hq; cases hq
def Rounds (m : Nat) (T : Types) (E : Env X) (D : List Oper → Bool) (L : Loops X) (i : Nat) (b : Code) : Prop :=
 ∀ {s k r}, L i s k = some r → ∃ live lo n, clean m live s (fun s => iter m live lo (aexec T E D L b) n s k) = some r
theorem rounds_of {m : Nat} {E : Env X} {D : List Oper → Bool} {L : Loops X} {i : Nat} {b : Code} {live : Live} {lo : Exit → Live} {p : SPat} {n : Nat} {l : p.den → (Exit → St → Option X) → Option X}
  (hL : ∀ s k, L i s k = loopBy m live p l s k) (hl : ∀ x k, iter m live lo (aexec T E D L b) n (p.inst x) k = l x k) : Rounds m T E D L i b :=
 fun {s k r} he => ⟨live, lo, n, loopBy_ok hl (by rw [← hL]; exact he)⟩
theorem rounds_none {m : Nat} {E : Env X} {D : List Oper → Bool} {L : Loops X} {i : Nat} {b : Code} (hL : ∀ s k, L i s k = Option.none) : Rounds m T E D L i b := fun {s k r} he => by rw [hL] at he; cases he
theorem loops_all {m : Nat} {E : Env X} {D : List Oper → Bool} {L : Loops X} {c : Code} {ls : List (Nat × Code)} (hc : loopsIn c = ls) (hh : ∀ q ∈ ls, Rounds m T E D L q.1 q.2) : LOK m T E D L c :=
 LOK.all fun q hq => by rw [hc] at hq; exact hh q hq
theorem instH_length : ∀ (hs : List (Option (Pat × Nat))) (x : hden hs), (instH hs x).length = hs.length
 | [], x => rfl
 | none :: l, x => by simp [instH, instH_length l x]
 | some (p, e) :: l, x => by simp [instH, instH_length l x.2]
theorem good_loud (hm : P.follows .mixedOrders = true) (hT : TyOk P T) {E : Env X} (hE : EOK P E) {L : Loops X} {fz : Bool} {f : FuncId} {fn : Func} {ps : List Pat} {hs : List (Option (Pat × Nat))} {p : aden ps × hden hs → KF X → Option X}
  (hf : P.funcs[f]? = some fn) (hn : (fn.name == "runtime.NumGoroutine") = false) (hb : fn.body.isSome = true) (hq : E.q f = false) (ha : E.a f = false) (hL : LOK hs.length T E (drawAny T E.w) L (bodyOf fn))
  (hp : ∀ x (k : KF X), fnrun T E (drawAny T E.w) L fz fn (instA ps x.1) (instH hs x.2) k = p x k) : Good P E.q E.a f ps hs p := by
 intro x k r he
 obtain ⟨c, hc⟩ := Option.isSome_iff_exists.1 hb
 have hbo : bodyOf fn = c := by unfold bodyOf; rw [hc]
 rw [← hp] at he
 obtain ⟨v, H', h1, h2⟩ := fnrun_sound hT hE hf hn hc (DOK.of hm hT hE) (by rw [instH_length, ← hbo]; exact hL) he
 exact ⟨v, H', h1, h2, (fun hh => by rw [hq] at hh; cases hh), fun hh => by rw [ha] at hh; cases hh⟩
open Classical in
theorem good_quiet (hm : P.follows .mixedOrders = true) (hT : TyOk P T) {E : Env X} (hE : EOK P E) {L : Loops X} {fz : Bool} {f : FuncId} {fn : Func} {ps : List Pat} {hs : List (Option (Pat × Nat))} {p : aden ps × hden hs → (AV → Option X) → Option X}
  (hf : P.funcs[f]? = some fn) (hn : (fn.name == "runtime.NumGoroutine") = false) (hb : fn.body.isSome = true) (hL : LOK hs.length T E (drawAny T E.w) L (bodyOf fn))
  (hp : ∀ x (k : KF X), fnrun T E (drawAny T E.w) L fz fn (instA ps x.1) (instH hs x.2) k = p x (fun v => k v (instH hs x.2))) : Good P E.q E.a f ps hs (fun x k => p x (fun v => k v (instH hs x.2))) := by
 intro x k r he
 obtain ⟨c, hc⟩ := Option.isSome_iff_exists.1 hb
 have hbo : bodyOf fn = c := by unfold bodyOf; rw [hc]
 have he' : fnrun T E (drawAny T E.w) L fz fn (instA ps x.1) (instH hs x.2) (fun v H' => if H' = instH hs x.2 then k v H' else none) = some r := by
  rw [hp]
  simpa using he
 obtain ⟨v, H', h1, h2⟩ := fnrun_sound hT hE hf hn hc (DOK.of hm hT hE) (by rw [instH_length, ← hbo]; exact hL) he'
 split at h1
 ·rename_i e
  subst e
  exact ⟨v, _, h1, h2, fun _ => rfl, fun _ => ⟨[], by simp⟩⟩
 ·cases h1
open Classical in
theorem good_adds (hm : P.follows .mixedOrders = true) (hT : TyOk P T) {E : Env X} (hE : EOK P E) {L : Loops X} {fz : Bool} {f : FuncId} {fn : Func} {ps : List Pat} {hs : List (Option (Pat × Nat))} {p : aden ps × hden hs → KF X → Option X}
  (hf : P.funcs[f]? = some fn) (hn : (fn.name == "runtime.NumGoroutine") = false) (hb : fn.body.isSome = true) (hq : E.q f = false) (hL : LOK hs.length T E (drawAny T E.w) L (bodyOf fn))
  (hp : ∀ x (k : KF X), fnrun T E (drawAny T E.w) L fz fn (instA ps x.1) (instH hs x.2) k = p x (fun v N => k v (instH hs x.2 ++ N))) : Good P E.q E.a f ps hs (fun x k => p x (fun v N => k v (instH hs x.2 ++ N))) := by
 intro x k r he
 obtain ⟨c, hc⟩ := Option.isSome_iff_exists.1 hb
 have hbo : bodyOf fn = c := by unfold bodyOf; rw [hc]
 have he' : fnrun T E (drawAny T E.w) L fz fn (instA ps x.1) (instH hs x.2) (fun v H' => if ∃ N, H' = instH hs x.2 ++ N then k v H' else none) = some r := by
  rw [hp]
  simpa using he
 obtain ⟨v, H', h1, h2⟩ := fnrun_sound hT hE hf hn hc (DOK.of hm hT hE) (by rw [instH_length, ← hbo]; exact hL) he'
 split at h1
 ·rename_i e
  exact ⟨v, _, h1, h2, (fun hh => by rw [hq] at hh; cases hh), fun _ => e⟩
 ·cases h1
theorem good_law_loud {q a : FuncId → Bool} {f : FuncId} {ps : List Pat} {p : aden ps × hden [] → KF AV → Option AV} (hg : Good P q a f ps [] p) {x : aden ps} (hx : p (x, ()) (fun v _ => some v) = some (.bool true)) :
  ∃ H', ACalls P f (instA ps x) [] (.bool true) H' := by
 obtain ⟨v, H', h1, h2, _⟩ := hg hx
 cases h1
 exact ⟨H', h2⟩
theorem good_law {q a : FuncId → Bool} {f : FuncId} {ps : List Pat} {p : aden ps × hden [] → (AV → Option AV) → Option AV} (hg : Good P q a f ps [] (fun x k => p x (fun v => k v (instH [] x.2)))) {x : aden ps} (hx : p (x, ()) some = some (.bool true)) :
  ∃ H', ACalls P f (instA ps x) [] (.bool true) H' := by
 obtain ⟨v, H', h1, h2, _⟩ := hg (x := (x, ())) (k := fun v _ => some v) hx
 cases h1
 exact ⟨H', h2⟩
structure EK (P : Program) (E : Env X) : Prop where
 ok : EOK P E
structure GD (P : Program) (q a : FuncId → Bool) (f0 : FuncId) (ps : List Pat) (hs : List (Option (Pat × Nat))) (p : aden ps × hden hs → KF X → Option X) : Prop where
 ok : Good P q a f0 ps hs p
theorem ek_base (q ln a : FuncId → Bool) : EK P (Env.base (X := X) q ln a) := ⟨EOK.base q ln a⟩
theorem ek_add {E : Env X} (hE : EK P E) {f0 : FuncId} {ps : List Pat} {hs : List (Option (Pat × Nat))} {p : aden ps × hden hs → KF X → Option X} (hg : GD P E.q E.a f0 ps hs p) : EK P (E.add f0 ps hs p) := ⟨EOK.add hE.ok hg.ok⟩
theorem gd_loud (hm : P.follows .mixedOrders = true) (hT : TyOk P T) {E : Env X} (hE : EK P E) {L : Loops X} {fz : Bool} {f : FuncId} {fn : Func} {ps : List Pat} {hs : List (Option (Pat × Nat))} {p : aden ps × hden hs → KF X → Option X}
  (hf : P.funcs[f]? = some fn) (hn : (fn.name == "runtime.NumGoroutine") = false) (hb : fn.body.isSome = true) (hq : E.q f = false) (ha : E.a f = false) (hL : LOK hs.length T E (drawAny T E.w) L (bodyOf fn))
  (hp : ∀ x (k : KF X), fnrun T E (drawAny T E.w) L fz fn (instA ps x.1) (instH hs x.2) k = p x k) : GD P E.q E.a f ps hs p := ⟨good_loud hm hT hE.ok hf hn hb hq ha hL hp⟩
theorem gd_quiet (hm : P.follows .mixedOrders = true) (hT : TyOk P T) {E : Env X} (hE : EK P E) {L : Loops X} {fz : Bool} {f : FuncId} {fn : Func} {ps : List Pat} {hs : List (Option (Pat × Nat))} {p : aden ps × hden hs → (AV → Option X) → Option X}
  (hf : P.funcs[f]? = some fn) (hn : (fn.name == "runtime.NumGoroutine") = false) (hb : fn.body.isSome = true) (hL : LOK hs.length T E (drawAny T E.w) L (bodyOf fn))
  (hp : ∀ x (k : KF X), fnrun T E (drawAny T E.w) L fz fn (instA ps x.1) (instH hs x.2) k = p x (fun v => k v (instH hs x.2))) : GD P E.q E.a f ps hs (fun x k => p x (fun v => k v (instH hs x.2))) := ⟨good_quiet hm hT hE.ok hf hn hb hL hp⟩
theorem gd_adds (hm : P.follows .mixedOrders = true) (hT : TyOk P T) {E : Env X} (hE : EK P E) {L : Loops X} {fz : Bool} {f : FuncId} {fn : Func} {ps : List Pat} {hs : List (Option (Pat × Nat))} {p : aden ps × hden hs → KF X → Option X}
  (hf : P.funcs[f]? = some fn) (hn : (fn.name == "runtime.NumGoroutine") = false) (hb : fn.body.isSome = true) (hq : E.q f = false) (hL : LOK hs.length T E (drawAny T E.w) L (bodyOf fn))
  (hp : ∀ x (k : KF X), fnrun T E (drawAny T E.w) L fz fn (instA ps x.1) (instH hs x.2) k = p x (fun v N => k v (instH hs x.2 ++ N))) : GD P E.q E.a f ps hs (fun x k => p x (fun v N => k v (instH hs x.2 ++ N))) := ⟨good_adds hm hT hE.ok hf hn hb hq hL hp⟩
theorem gd_law {q a : FuncId → Bool} {f : FuncId} {ps : List Pat} {p : aden ps × hden [] → KF AV → Option AV} (hg : GD P q a f ps [] p) {x : aden ps} (hx : p (x, ()) (fun v _ => some v) = some (.bool true)) :
  ∃ H', ACalls P f (instA ps x) [] (.bool true) H' := good_law_loud hg.ok hx
end Go.Proofs.YtfcloeflcpcheaaGreat.Eng
