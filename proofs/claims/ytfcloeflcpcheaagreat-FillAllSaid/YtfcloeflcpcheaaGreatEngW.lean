/-
The engine, twenty-third text: loops as plain functions. Patterns of states; a loop's own function. Plain lemmas.
Conditions: none.
-/
import Derived.Test.YtfcloeflcpcheaaGreatEngV
set_option linter.unusedVariables false
set_option linter.unusedSimpArgs false
set_option linter.unusedSectionVars false
namespace Go.Proofs.YtfcloeflcpcheaaGreat.Eng
variable {X : Type} {r : X}
inductive Pat where
 | any | int (k : IntKind) | bool | str | nilp | nils | ptr (n : Nat) (p : List Nat) | sl (n : Nat) | ss (n : Nat) (p : List Nat) | mp (n : Nat)
 | rop (s : Sch) (p : List Nat) | ros (s : Sch) | node (f : Pat) | fnil | fcons (a b : Pat) | vec (s : Sch) (n : Nat) | lst (s : Sch) | tup (f : Pat) | fn (f : FuncId) | kvs (k v : Sch) | nilm | fam (e : Nat) (s : Sch)
@[reducible] def Pat.den : Pat → Type
 | .int _ => Int | .bool => Bool | .str => ByteArray | .ss _ _ => Nat × Nat | .rop s _ => s.den | .ros s => List s.den | .node f => f.den | .fcons a b => a.den × b.den
 | .vec s _ => Nat → s.den | .lst s => List s.den | .tup f => f.den | .kvs k v => List (k.den × v.den) | .fam _ s => List (List s.den) | _ => Unit
def Pat.inst : (p : Pat) → p.den → AV
 | .any, _ => .any | .int k, x => .int k x | .bool, x => .bool x | .str, x => .str x | .nilp, _ => .nilp | .nils, _ => .nils | .ptr n p, _ => .ptr n p | .sl n, _ => .sl n | .ss n p, x => .ss n p x.1 x.2 | .mp n, _ => .mp n
 | .rop s p, x => .rop s x p | .ros s, x => .ros s x | .node f, x => .node (f.inst x) | .fnil, _ => .fnil | .fcons a b, x => .fcons (a.inst x.1) (b.inst x.2) | .vec s n, x => .vec s n x | .lst s, x => .lst s x | .tup f, x => .tup (f.inst x) | .fn f, _ => .fn f | .nilm, _ => .nilm | .kvs k v, x => .kvs k v x | .fam e s, x => .fam e s x
def eqNs : List Nat → List Nat → Bool
 | [], [] => true
 | a :: l, b :: m => Nat.beq a b && eqNs l m
 | _, _ => false
def Pat.mtch : (p : Pat) → AV → Option p.den
 | .any, .any => some ()
 | .int k, .int k' n => bif decide (k' = k) then some n else none
 | .bool, .bool b => some b
 | .str, .str s => some s
 | .nilp, .nilp => some ()
 | .nils, .nils => some ()
 | .nilm, .nilm => some ()
 | .ptr n p, .ptr n' p' => bif Nat.beq n' n && eqNs p' p then some () else none
 | .sl n, .sl n' => bif Nat.beq n' n then some () else none
 | .ss n p, .ss n' p' o l => bif Nat.beq n' n && eqNs p' p then some (o, l) else none
 | .mp n, .mp n' => bif Nat.beq n' n then some () else none
 | .rop s p, .rop s' x p' => if h : s' = s then (bif eqNs p' p then some (h ▸ x) else none) else none
 | .ros s, .ros s' l => if h : s' = s then some (h ▸ l) else none
 | .node f, .node v => f.mtch v
 | .fnil, .fnil => some ()
 | .fcons a b, .fcons u v => match a.mtch u with | some x => (match b.mtch v with | some y => some (x, y) | none => none) | none => none
 | .vec s n, .vec s' n' f => if h : s' = s then (bif Nat.beq n' n then some (h ▸ f) else none) else none
 | .lst s, .lst s' l => if h : s' = s then some (h ▸ l) else none
 | .tup f, .tup v => f.mtch v
 | .fn f, .fn f' => bif Nat.beq f' f then some () else none
 | .fam e s, .fam e' s' l => if h : s' = s then (bif Nat.beq e' e then some (h ▸ l) else none) else none
 | .kvs k v, .kvs k' v' l => if h : k' = k ∧ v' = v then some (h.1 ▸ h.2 ▸ l) else none
 | _, _ => none
theorem eqNs_eq : ∀ {l m : List Nat}, eqNs l m = true → l = m
 | [], [], _ => rfl
 | a :: l, b :: m, hh => by
  simp only [eqNs, Bool.and_eq_true] at hh
  rw [Nat.eq_of_beq_eq_true hh.1, eqNs_eq hh.2]
 | [], _ :: _, hh => by cases hh
 | _ :: _, [], hh => by cases hh
theorem Pat.mtch_inst : ∀ {p : Pat} {v : AV} {x : p.den}, p.mtch v = some x → v = p.inst x := by
 intro p
 induction p with
 | any => intro v x hh; cases v <;> first | rfl | cases hh
 | int k =>
  intro v x hh
  cases v <;> simp only [Pat.mtch, reduceCtorEq] at hh
  rename_i k' n
  by_cases e : k' = k
  ·subst e; simp at hh; subst hh; rfl
  ·simp [e] at hh
 | bool => intro v x hh; cases v <;> simp only [Pat.mtch, reduceCtorEq] at hh; cases hh; rfl
 | str => intro v x hh; cases v <;> simp only [Pat.mtch, reduceCtorEq] at hh; cases hh; rfl
 | nilp => intro v x hh; cases v <;> first | rfl | cases hh
 | nils => intro v x hh; cases v <;> first | rfl | cases hh
 | nilm => intro v x hh; cases v <;> first | rfl | cases hh
 | fnil => intro v x hh; cases v <;> first | rfl | cases hh
 | ptr n p =>
  intro v x hh
  cases v <;> simp only [Pat.mtch, reduceCtorEq] at hh
  have h1 := (cond_some hh).1
  simp only [Bool.and_eq_true] at h1
  rw [Nat.eq_of_beq_eq_true h1.1, eqNs_eq h1.2]; rfl
 | sl n =>
  intro v x hh
  cases v <;> simp only [Pat.mtch, reduceCtorEq] at hh
  rw [Nat.eq_of_beq_eq_true (cond_some hh).1]; rfl
 | mp n =>
  intro v x hh
  cases v <;> simp only [Pat.mtch, reduceCtorEq] at hh
  rw [Nat.eq_of_beq_eq_true (cond_some hh).1]; rfl
 | fn n =>
  intro v x hh
  cases v <;> simp only [Pat.mtch, reduceCtorEq] at hh
  rw [Nat.eq_of_beq_eq_true (cond_some hh).1]; rfl
 | ss n p =>
  intro v x hh
  cases v <;> simp only [Pat.mtch, reduceCtorEq] at hh
  obtain ⟨h1, h2⟩ := cond_some hh
  cases h2
  simp only [Bool.and_eq_true] at h1
  rw [Nat.eq_of_beq_eq_true h1.1, eqNs_eq h1.2]; rfl
 | rop s p =>
  intro v x hh
  cases v <;> simp only [Pat.mtch, reduceCtorEq] at hh
  split at hh
  ·rename_i e; subst e
   obtain ⟨h1, h2⟩ := cond_some hh
   cases h2
   rw [eqNs_eq h1]; rfl
  ·cases hh
 | ros s =>
  intro v x hh
  cases v <;> simp only [Pat.mtch, reduceCtorEq] at hh
  split at hh
  ·rename_i e; subst e; cases hh; rfl
  ·cases hh
 | lst s =>
  intro v x hh
  cases v <;> simp only [Pat.mtch, reduceCtorEq] at hh
  split at hh
  ·rename_i e; subst e; cases hh; rfl
  ·cases hh
 | fam e s =>
  intro v x hh
  cases v <;> simp only [Pat.mtch, reduceCtorEq] at hh
  split at hh
  ·rename_i q
   subst q
   have h1 := (cond_some hh).1
   replace hh := (cond_some hh).2
   cases hh
   rw [Nat.eq_of_beq_eq_true h1]; rfl
  ·cases hh
 | kvs k u =>
  intro v x hh
  cases v <;> simp only [Pat.mtch, reduceCtorEq] at hh
  split at hh
  ·rename_i e; obtain ⟨rfl, rfl⟩ := e; cases hh; rfl
  ·cases hh
 | vec s n =>
  intro v x hh
  cases v <;> simp only [Pat.mtch, reduceCtorEq] at hh
  split at hh
  ·rename_i e; subst e
   obtain ⟨h1, h2⟩ := cond_some hh
   cases h2
   rw [Nat.eq_of_beq_eq_true h1]; rfl
  ·cases hh
 | node f ih => intro v x hh; cases v <;> simp only [Pat.mtch, reduceCtorEq] at hh; rw [ih hh]; rfl
 | tup f ih => intro v x hh; cases v <;> simp only [Pat.mtch, reduceCtorEq] at hh; rw [ih hh]; rfl
 | fcons a b iha ihb =>
  intro v x hh
  cases v <;> simp only [Pat.mtch, reduceCtorEq] at hh
  split at hh
  ·rename_i u1 hu1
   split at hh
   ·rename_i u2 hu2
    cases hh
    have e1 := iha hu1
    have e2 := ihb hu2
    subst e1 e2
    rfl
   ·cases hh
  ·cases hh
structure SPat where
 t : List (Nat × Pat)
 h : List (Option (Pat × Nat))
@[reducible] def tden : List (Nat × Pat) → Type
 | [] => Unit
 | (_, p) :: l => p.den × tden l
@[reducible] def hden : List (Option (Pat × Nat)) → Type
 | [] => Unit
 | none :: l => hden l
 | some (p, _) :: l => p.den × hden l
@[reducible] def SPat.den (p : SPat) : Type := tden p.t × hden p.h
def instT : (l : List (Nat × Pat)) → tden l → Tm
 | [], _ => []
 | (i, p) :: l, x => (i, p.inst x.1) :: instT l x.2
def instH : (l : List (Option (Pat × Nat))) → hden l → List (Option Blk)
 | [], _ => []
 | none :: l, x => none :: instH l x
 | some (p, e) :: l, x => some ⟨p.inst x.1, e⟩ :: instH l x.2
def SPat.inst (p : SPat) (x : p.den) : St := ⟨instT p.t x.1, number 0 (instH p.h x.2), p.h.length⟩
def mtchT : (l : List (Nat × Pat)) → Tm → Option (tden l)
 | [], [] => some ()
 | (i, p) :: l, (j, v) :: t => bif Nat.beq j i then (match p.mtch v with | some x => (match mtchT l t with | some y => some (x, y) | none => none) | none => none) else none
 | _, _ => none
def mtchH : Nat → (l : List (Option (Pat × Nat))) → Hp → Option (hden l)
 | _, [], [] => some ()
 | n, none :: l, (i, none) :: h => bif Nat.beq i n then mtchH (n + 1) l h else none
 | n, some (p, e) :: l, (i, some b) :: h => bif Nat.beq i n && Nat.beq b.e e then (match p.mtch b.c with | some x => (match mtchH (n + 1) l h with | some y => some (x, y) | none => none) | none => none) else none
 | _, _, _ => none
def SPat.mtch (p : SPat) (s : St) : Option p.den :=
 bif Nat.beq s.x p.h.length then (match mtchT p.t s.t with | some x => (match mtchH 0 p.h s.h with | some y => some (x, y) | none => none) | none => none) else none
theorem mtchT_inst : ∀ {l : List (Nat × Pat)} {t : Tm} {x : tden l}, mtchT l t = some x → t = instT l x
 | [], [], x, hh => rfl
 | [], _ :: _, x, hh => by cases hh
 | (i, p) :: l, [], x, hh => by cases hh
 | (i, p) :: l, (j, v) :: t, x, hh => by
  simp only [mtchT] at hh
  obtain ⟨h1, hh⟩ := cond_some hh
  split at hh
  ·rename_i y hy
   split at hh
   ·rename_i z hz
    cases hh
    rw [Nat.eq_of_beq_eq_true h1, Pat.mtch_inst hy, mtchT_inst hz]; rfl
   ·cases hh
  ·cases hh
theorem mtchH_inst : ∀ {l : List (Option (Pat × Nat))} {n : Nat} {h : Hp} {x : hden l}, mtchH n l h = some x → h = number n (instH l x)
 | [], n, [], x, hh => rfl
 | [], n, _ :: _, x, hh => by cases hh
 | none :: l, n, [], x, hh => by cases hh
 | some _ :: l, n, [], x, hh => by cases hh
 | none :: l, n, (i, none) :: h, x, hh => by
  simp only [mtchH] at hh
  obtain ⟨h1, hh⟩ := cond_some hh
  rw [Nat.eq_of_beq_eq_true h1, mtchH_inst hh]; rfl
 | none :: l, n, (i, some b) :: h, x, hh => by cases hh
 | some (p, e) :: l, n, (i, none) :: h, x, hh => by cases hh
 | some (p, e) :: l, n, (i, some b) :: h, x, hh => by
  simp only [mtchH] at hh
  obtain ⟨h1, hh⟩ := cond_some hh
  simp only [Bool.and_eq_true] at h1
  split at hh
  ·rename_i y hy
   split at hh
   ·rename_i z hz
    cases hh
    obtain ⟨c, e'⟩ := b
    have h2 : e' = e := Nat.eq_of_beq_eq_true h1.2
    have h3 : c = p.inst y := Pat.mtch_inst hy
    subst h2 h3
    rw [Nat.eq_of_beq_eq_true h1.1, mtchH_inst hz]; rfl
   ·cases hh
  ·cases hh
theorem SPat.mtch_inst {p : SPat} {s : St} {x : p.den} (hh : p.mtch s = some x) : s = p.inst x := by
 unfold SPat.mtch at hh
 obtain ⟨h1, hh⟩ := cond_some hh
 split at hh
 ·rename_i a ha
  split at hh
  ·rename_i b hb
   cases hh
   obtain ⟨t, h, n⟩ := s
   have h2 : n = p.h.length := Nat.eq_of_beq_eq_true h1
   have h3 : t = instT p.t a := mtchT_inst ha
   have h4 : h = number 0 (instH p.h b) := mtchH_inst hb
   subst h2 h3 h4
   rfl
  ·cases hh
 ·cases hh
def loopBy (m : Nat) (live : Live) (p : SPat) (l : p.den → (Exit → St → Option X) → Option X) : St → (Exit → St → Option X) → Option X :=
 fun s k => clean m live s fun s' => match p.mtch s' with | some x => l x k | none => none
theorem loopBy_ok {m : Nat} {live : Live} {lo : Exit → Live} {p : SPat} {l : p.den → (Exit → St → Option X) → Option X} {F : St → (Exit → St → Option X) → Option X} {n : Nat}
  (hl : ∀ x k, iter m live lo F n (p.inst x) k = l x k) {s : St} {k : Exit → St → Option X} (he : loopBy m live p l s k = some r) : clean m live s (fun s => iter m live lo F n s k) = some r := by
 unfold loopBy clean cleanGo at he
 unfold clean cleanGo
 dsimp only at he ⊢
 split at he
 ·rename_i H hp
  split at he
  ·rename_i x hx
   rw [SPat.mtch_inst hx, hl]; exact he
  ·cases he
 ·cases he
theorem iter_eq {m : Nat} {live : Live} {lo : Exit → Live} {p : SPat} {F : St → (Exit → St → Option X) → Option X} {K : Type} {ks : K → Exit → St → Option X} {l : Nat → p.den → K → Option X} {B : (p.den → Option X) → p.den → K → Option X}
  (h0 : ∀ x k, l 0 x k = none) (h1 : ∀ n x k, l (n + 1) x k = B (fun y => l n y k) x k)
  (hs : ∀ n x k, iter m live lo F (n + 1) (p.inst x) (ks k) = B (fun y => iter m live lo F n (p.inst y) (ks k)) x k) : ∀ n x k, iter m live lo F n (p.inst x) (ks k) = l n x k
 | 0, x, k => (h0 x k).symm
 | n + 1, x, k => by
  rw [hs, h1]
  congr 1
  funext y
  exact iter_eq h0 h1 hs n y k
end Go.Proofs.YtfcloeflcpcheaaGreat.Eng
