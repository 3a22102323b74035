/-
The engine, twentieth text: regions that draw their order. Plain lemmas.
Conditions: the program's operations follow mixed orders.
-/
import Derived.Test.YtfcloeflcpcheaaGreatEngS
import Derived.Orders
set_option linter.unusedVariables false
set_option linter.unusedSimpArgs false
namespace Go.Proofs.YtfcloeflcpcheaaGreat.Eng
variable {P : Program} {T : Types} {σ σ' : Sg} {R R' : Ro} {h h' : Hp} {x x' : Nat} {w w' : World} {X : Type} {r : X} {N : Nat}
theorem aop_congr {E : Env X} {t t' : Tm} {o : Op} {ty : Nat} {k : K3 X} (hh : ∀ y ∈ o.operands.toList, evA t y = evA t' y) : aop T E t o ty h x k = aop T E t' o ty h x k := by
 have one : ∀ {y : Operand} {f : AV → Option X}, y ∈ o.operands.toList → f (evA t y) = f (evA t' y) := fun hy => by rw [hh _ hy]
 cases o with
 | pick c a b => simp only [aop, hh c (by simp [Op.operands]), hh a (by simp [Op.operands]), hh b (by simp [Op.operands])]
 | build e parts =>
  simp only [aop]
  congr 1
  refine List.map_congr_left fun q hq => ?_
  rw [hh q.2 (by simp only [Op.operands, List.mem_map]; exact ⟨q, hq, rfl⟩)]
 | buildSlice e len parts =>
  have hm : (parts.toList.map fun q => (q.1, evA t q.2)) = parts.toList.map fun q => (q.1, evA t' q.2) := List.map_congr_left fun q hq => by
   rw [hh q.2 (by simp only [Op.operands, List.mem_map]; exact ⟨q, hq, rfl⟩)]
  simp only [aop, hm]
 | slice e y lo hi mx =>
  cases mx with
  | some _ => rfl
  | none =>
   have h1 : lo.map (evA t) = lo.map (evA t') := by
    cases lo with
    | none => rfl
    | some l => simp only [Option.map_some, hh l (by simp [Op.operands])]
   have h2 : hi.map (evA t) = hi.map (evA t') := by
    cases hi with
    | none => rfl
    | some l => simp only [Option.map_some, hh l (by simp [Op.operands])]
   simp only [aop, hh y (by simp [Op.operands]), h1, h2]
 | call c =>
  simp only [aop, callOp]
  have hargs : ∀ y ∈ c.args.toList, evA t y = evA t' y := fun y hy => hh y (by
   simp only [Op.operands, Call.operands, Array.toList_append, List.mem_append]; exact .inr hy)
  have hm : c.args.toList.map (evA t) = c.args.toList.map (evA t') := List.map_congr_left hargs
  split
  ·rename_i f hf
   rw [hh f (by simp only [Op.operands, Call.operands, hf, Array.toList_append, List.mem_append]; exact .inl (by simp)), hm]
  ·split
   ·rename_i a b ha hb
    rw [hargs _ (by rw [hb]; simp)]
   ·rfl
  ·split
   ·rename_i a b hb
    rw [hargs a (by rw [hb]; simp), hargs b (by rw [hb]; simp)]
   ·rfl
  ·split
   ·rename_i a b hb
    rw [hargs a (by rw [hb]; simp), hargs b (by rw [hb]; simp)]
   ·rfl
  ·split
   ·rename_i a b c d ha hb
    rw [hargs c (by rw [hb]; simp), hargs d (by rw [hb]; simp)]
   ·rfl
  ·split
   ·rename_i a b ha hb
    rw [hargs _ (by rw [hb]; simp)]
   ·rfl
  ·split
   ·rename_i a b c d ha hb
    rw [hargs c (by rw [hb]; simp), hargs d (by rw [hb]; simp)]
   ·rfl
  ·rfl
 | move a => simp only [aop, hh a (by simp [Op.operands])]
 | assign a => simp only [aop, hh a (by simp [Op.operands])]
 | box e a => simp only [aop, hh a (by simp [Op.operands])]
 | load e a => simp only [aop, hh a (by simp [Op.operands])]
 | store e a v => simp only [aop, hh a (by simp [Op.operands]), hh v (by simp [Op.operands])]
 | nilCheck a => simp only [aop, hh a (by simp [Op.operands])]
 | binOp op e a v f => simp only [aop, hh a (by simp [Op.operands]), hh v (by simp [Op.operands])]
 | unOp op e a => simp only [aop, hh a (by simp [Op.operands])]
 | convert s d a => simp only [aop, hh a (by simp [Op.operands])]
 | makeSlice e a v => simp only [aop, hh a (by simp [Op.operands]), hh v (by simp [Op.operands])]
 | fieldAddr e a f => simp only [aop, hh a (by simp [Op.operands])]
 | field e a f => simp only [aop, hh a (by simp [Op.operands])]
 | indexAddr e a v => simp only [aop, hh a (by simp [Op.operands]), hh v (by simp [Op.operands])]
 | index e a v => simp only [aop, hh a (by simp [Op.operands]), hh v (by simp [Op.operands])]
 | extract a i => simp only [aop, hh a (by simp [Op.operands])]
 | sliceToArrayPointer e a => simp only [aop, hh a (by simp [Op.operands])]
 | makeMap e m => cases m <;> rfl
 | lookup e a v c =>
  cases c with
  | true => rfl
  | false => simp only [aop, hh a (by simp [Op.operands]), hh v (by simp [Op.operands])]
 | mapUpdate e a v u => simp only [aop, hh a (by simp [Op.operands]), hh v (by simp [Op.operands]), hh u (by simp [Op.operands])]
 | _ => rfl
theorem tmpsOf_mem : ∀ {l : List Operand} {i : Nat}, Operand.tmp i ∈ l → i ∈ tmpsOf l
 | y :: l, i, hh => by
  simp only [List.mem_cons] at hh
  rcases hh with rfl | hh
  ·simp [tmpsOf]
  ·have := tmpsOf_mem hh
   cases y <;> simp [tmpsOf, this]
def restr (t : Tm) (L : List Nat) : Tm := L.map fun y => (y, tget t y)
theorem restr_get {t : Tm} : ∀ (L : List Nat) (y : Nat), (y ∈ L → tget (restr t L) y = tget t y) ∧ (y ∉ L → tget (restr t L) y = .any)
 | [], y => ⟨fun hh => by simp at hh, fun _ => rfl⟩
 | i :: L, y => by
  obtain ⟨h1, h2⟩ := restr_get (t := t) L y
  simp only [restr, List.map_cons, tget_cons] at h1 h2 ⊢
  refine ⟨fun hh => ?_, fun hh => ?_⟩
  ·by_cases e : i = y
   ·subst e; rw [if_pos rfl]
   ·rw [if_neg e]; exact h1 (by simp only [List.mem_cons] at hh; exact hh.resolve_left (Ne.symm e))
  ·simp only [List.mem_cons, not_or] at hh
   rw [if_neg (Ne.symm hh.1)]; exact h2 hh.2
def Known (all : List Oper) (o : Oper) (t : Tm) (b : Bool) : Prop :=
 (o.guard = none ∧ b = true) ∨ (∃ j q d c, o.guard = some (j, q) ∧ dstOf all j = some d ∧ tget t d = .bool c ∧ b = (c == q)) ∨ ∃ j q d f, o.guard = some (j, q) ∧ dstOf all j = some d ∧ tget t d = .tup f ∧ b = false
theorem resvd_op {rs : Bool} {o : Oper} (hh : resvd T rs o = true) : ∃ e ti, o.guard = none ∧ o.op = .alloc e ∧ tyGet T e = some ti ∧ (ti.zero.cell || ti.zero.agg) = true ∧ resvOf T o = some ⟨ti.zero, e⟩ := by
 unfold resvd at hh
 rw [Bool.and_eq_true] at hh
 obtain ⟨b, hb⟩ := Option.isSome_iff_exists.1 hh.2
 have hb0 := hb
 unfold resvOf at hb
 split at hb
 ·rename_i e hg ho
  split at hb
  ·rename_i ti hti
   have h1 := (cond_some hb).1
   have h2 := (cond_some hb).2
   cases h2
   exact ⟨e, ti, hg, ho, hti, h1, hb0⟩
  ·cases hb
 ·cases hb
theorem resvd_W {q : Qs} {rs : Bool} {o : Oper} (hw : clsW T q o.op = true) : resvd T rs o = false := by
 cases hh : resvd T rs o with
 | false => rfl
 | true => obtain ⟨e, ti, _, ho, _⟩ := resvd_op hh; rw [ho] at hw; cases hw
structure Step (P : Program) (T : Types) (q : Qs) (rs : Bool) (all : List Oper) (nm : Nat) (o : Oper) (s s' : St) : Prop where
 le : s.x ≤ s'.x
 adds : clsW T q o.op = false → Adds s.h s.x s'.h s'.x
 eq : clsE' T q rs o = false → s'.h = s.h ∧ s'.x = s.x
 loc : isLoc o.op = true → ∀ m, m < s.x → m ∉ touched s.h s.t o → hget s'.h m = hget s.h m
 rsv : resvd T rs o = true → ∀ y, tget s'.t y = if o.dst = some y then .ptr nm [] else tget s.t y
 does : resvd T rs o = false → ∃ v b, Known all o s.t b ∧ (∀ y, tget s'.t y = if o.dst = some y then v else tget s.t y) ∧
  (b = true → OpDone P o (restr s.t (looks all o)) s.h s.x v s'.h s'.x ∧ (clsE T q o.op = false → ∀ x, OpDone P o (restr s.t (looks all o)) s.h x v s.h x) ∧ (clsP T o.op = true → ∀ h x, OpDone P o (restr s.t (looks all o)) h x v h x) ∧
   (isRd o.op = true → ∀ H X, (∀ n ∈ opNames s.t o, hget H n = hget s.h n) → OpDone P o (restr s.t (looks all o)) H X v H X)) ∧
  (b = false → v = .tup .fnil ∧ s'.h = s.h ∧ s'.x = s.x)
theorem putA_get (d : Option Nat) (v : AV) (t : Tm) (y : Nat) : tget (putA d v t) y = if d = some y then v else tget t y := by
 cases d with
 | none => simp [putA]
 | some d =>
  simp only [putA, tget_cons]
  by_cases e : d = y
  ·subst e; simp
  ·rw [if_neg e, if_neg (by simpa using e)]
theorem constAV_names (v : Value) : (constAV v).names = [] := by
 unfold constAV
 split <;> first | rfl | skip
 ·rename_i n c
  cases Nat.beq n 0 && Nat.beq c 0 <;> rfl
 ·rename_i f a b
  cases a.toList.isEmpty && b.toList.isEmpty <;> rfl
theorem ev_names {t : Tm} {L : List Nat} {y : Operand} {m : Nat} (hL : ∀ i, y = .tmp i → i ∈ L) (hh : ∀ i ∈ L, m ∉ (tget t i).names) : m ∉ (evA (restr t L) y).names := by
 cases y with
 | tmp i =>
  show m ∉ (tget (restr t L) i).names
  rw [(restr_get L i).1 (hL i rfl)]
  exact hh i (hL i rfl)
 | const v => show m ∉ (constAV v).names; rw [constAV_names]; simp
 | func f => show m ∉ (AV.fn f).names; simp [AV.names]
 | global g => show m ∉ AV.any.names; simp [AV.names]
def rop1 {R : Type} (T : Types) (E : Env R) (all : List Oper) (o : Oper) (s : St) (k : St → Option R) : Option R :=
  match o.guard with
  | none => aop T E s.t o.op o.type s.h s.x fun v h x => k ⟨putA o.dst v s.t, h, x⟩
  | some (j, b) =>
   match dstOf all j with
   | none => none
   | some d =>
    match tget s.t d with
    | .bool c =>
     bif c then
      (bif b then aop T E ((d, .bool true) :: s.t) o.op o.type s.h s.x fun v h x => k ⟨putA o.dst v ((d, .bool true) :: s.t), h, x⟩
       else k ⟨putA o.dst (.tup .fnil) ((d, .bool true) :: s.t), s.h, s.x⟩)
     else
      (bif b then k ⟨putA o.dst (.tup .fnil) ((d, .bool false) :: s.t), s.h, s.x⟩
       else aop T E ((d, .bool false) :: s.t) o.op o.type s.h s.x fun v h x => k ⟨putA o.dst v ((d, .bool false) :: s.t), h, x⟩)
    | .tup _ => k ⟨putA o.dst (.tup .fnil) s.t, s.h, s.x⟩
    | _ => none
theorem rop1_step (hT : TyOk P T) {E : Env X} (hE : EOK P E) (all : List Oper) {rs : Bool} {nm : Nat} {o : Oper} {s : St} {k : St → Option X} (hrs : resvd T rs o = false) (he : rop1 T E all o s k = some r) :
  ∃ s', k s' = some r ∧ Step P T E.w rs all nm o s s' := by
 have hcls : clsE' T E.w rs o = clsE T E.w o.op := by simp [clsE', hrs]
 have run : ∀ {t : Tm}, (∀ y, tget t y = tget s.t y) → Known all o s.t true → (aop T E t o.op o.type s.h s.x fun v h x => k ⟨putA o.dst v t, h, x⟩) = some r → ∃ s', k s' = some r ∧ Step P T E.w rs all nm o s s' := by
  intro t ht hk he
  have htm : ∀ y ∈ o.op.operands.toList, ∀ i, y = .tmp i → i ∈ looks all o := fun y hy i hi => by
   subst hi
   unfold looks; exact List.mem_append_left _ (tmpsOf_mem hy)
  have hcg : ∀ y ∈ o.op.operands.toList, evA t y = evA (restr s.t (looks all o)) y := fun y hy => by
   cases y with
   | tmp i =>
    show tget t i = tget (restr s.t (looks all o)) i
    rw [ht i, (restr_get (looks all o) i).1 (htm _ hy i rfl)]
   | _ => rfl
  rw [aop_congr hcg] at he
  obtain ⟨v, h', x', h1, h2, h3, h4, h5, h6, h7, h8⟩ := aop_sound2 hT hE he
  have hev : ∀ y ∈ o.op.operands.toList, evA (restr s.t (looks all o)) y = evA s.t y := fun y hy => by
   cases y with
   | tmp i => exact (restr_get (looks all o) i).1 (htm _ hy i rfl)
   | _ => rfl
  refine ⟨⟨putA o.dst v t, h', x'⟩, h1, h3, h4, fun hh => ?_, fun ha m hm hn => ?_, (fun hh => by rw [hrs] at hh; cases hh), fun _ => ⟨v, true, hk, fun y => by rw [putA_get, ht y], fun _ => ⟨h2, fun hh => ?_, h6, fun hd H X hH => h8 hd H X fun n hn => hH n ?_⟩, fun hh => by cases hh⟩⟩
  ·rw [hcls] at hh; exact ⟨(h5 hh).1, (h5 hh).2.1⟩
  ·refine h7 ha m hm fun hh => hn ?_
   unfold touched at hh ⊢
   cases hv : isCallV o.op with
   | true =>
    rw [hv, cond_true] at hh
    rw [cond_true]
    split at hh
    ·rename_i c hc
     rw [show (c.args.toList.flatMap fun a => (evA s.t a).names) = c.args.toList.flatMap fun a => (evA (restr s.t (looks all o)) a).names by
      rw [List.flatMap_def, List.flatMap_def]
      congr 1
      exact List.map_congr_left fun a ha => by rw [hev a (by rw [hc]; simp only [Op.operands, Call.operands, Array.toList_append, List.mem_append]; exact .inr ha)]]
     exact hh
    ·cases hh
   | false =>
    rw [hv, cond_false] at hh
    rw [cond_false]
    cases hst : isSt o.op with
    | true =>
     rw [hst, cond_true] at hh
     rw [cond_true]
     unfold stNames at hh ⊢
     split at hh
     ·rename_i e y z hop
      rw [hev y (by rw [hop]; simp [Op.operands]), hev z (by rw [hop]; simp [Op.operands])] at hh
      exact hh
     ·cases hh
    | false =>
    rw [hst, cond_false] at hh
    rw [cond_false]
    unfold appNames at hh ⊢
    split at hh
    ·rename_i c hc
     split at hh
     ·rename_i a b hl
      rw [hev a (by rw [hc]; simp only [Op.operands, Call.operands, Array.toList_append, List.mem_append]; exact .inr (by rw [hl]; simp)),
       hev b (by rw [hc]; simp only [Op.operands, Call.operands, Array.toList_append, List.mem_append]; exact .inr (by rw [hl]; simp))] at hh
      exact hh
     ·rename_i a l hno hl
      rw [hev a (by rw [hc]; simp only [Op.operands, Call.operands, Array.toList_append, List.mem_append]; exact .inr (by rw [hl]; simp))] at hh
      exact hh
     ·cases hh
    ·cases hh
  rotate_left
  ·unfold opNames at hn ⊢
   obtain ⟨y, hy, hyn⟩ := List.mem_flatMap.1 hn
   rw [hev y hy] at hyn
   exact List.mem_flatMap.2 ⟨y, hy, hyn⟩
  ·obtain ⟨rfl, rfl, h7⟩ := h5 hh
   exact h7
 have skip : ∀ {t : Tm}, (∀ y, tget t y = tget s.t y) → Known all o s.t false → k ⟨putA o.dst (.tup .fnil) t, s.h, s.x⟩ = some r → ∃ s', k s' = some r ∧ Step P T E.w rs all nm o s s' := by
  intro t ht hk he
  exact ⟨_, he, Nat.le_refl _, fun _ => Adds.refl, fun _ => ⟨rfl, rfl⟩, fun _ _ _ _ => rfl, (fun hh => by rw [hrs] at hh; cases hh), fun _ => ⟨.tup .fnil, false, hk, fun y => by rw [putA_get, ht y], (fun hh => by cases hh), fun _ => ⟨rfl, rfl, rfl⟩⟩⟩
 unfold rop1 at he
 split at he
 ·rename_i hg
  exact run (fun _ => rfl) (.inl ⟨hg, rfl⟩) he
 ·rename_i j b hg
  split at he
  ·cases he
  ·rename_i d hdj
   split at he
   ·rename_i c hc
    have ht : ∀ {q : Bool}, c = q → ∀ y, tget ((d, AV.bool q) :: s.t) y = tget s.t y := fun e y => by
     subst e
     rw [tget_cons]
     by_cases e : d = y
     ·subst e; rw [if_pos rfl, hc]
     ·rw [if_neg e]
    cases c with
    | true =>
     cases b with
     | true => exact run (ht rfl) (.inr (.inl ⟨j, true, d, true, hg, hdj, hc, rfl⟩)) he
     | false => exact skip (ht rfl) (.inr (.inl ⟨j, false, d, true, hg, hdj, hc, rfl⟩)) he
    | false =>
     cases b with
     | true => exact skip (ht rfl) (.inr (.inl ⟨j, true, d, false, hg, hdj, hc, rfl⟩)) he
     | false => exact run (ht rfl) (.inr (.inl ⟨j, false, d, false, hg, hdj, hc, rfl⟩)) he
   ·rename_i f hc
    exact skip (fun _ => rfl) (.inr (.inr ⟨j, b, d, f, hg, hdj, hc, rfl⟩)) he
   ·cases he
theorem glue_steps {q : Qs} {rs : Bool} {all os : List Oper} {o : Oper} {s s' : St} {nm nm' : Nat → Nat} {K : St → Prop} (h0 : Step P T q rs all (nm 0) o s s') (hnm : ∀ j, nm (j + 1) = nm' j)
  (hh : ∃ st : Nat → St, st 0 = s' ∧ K (st os.length) ∧ ∀ j o, os[j]? = some o → Step P T q rs all (nm' j) o (st j) (st (j + 1))) :
  ∃ st : Nat → St, st 0 = s ∧ K (st (o :: os).length) ∧ ∀ j o', (o :: os)[j]? = some o' → Step P T q rs all (nm j) o' (st j) (st (j + 1)) := by
 obtain ⟨st, h1, h2, h3⟩ := hh
 refine ⟨fun j => match j with | 0 => s | j + 1 => st j, rfl, h2, fun j o' hj => ?_⟩
 cases j with
 | zero => simp at hj; subst hj; show Step P T q rs all (nm 0) o s (st 0); rw [h1]; exact h0
 | succ j => rw [hnm]; exact h3 j o' (by simpa using hj)
def tl (st : Nat → St) : List Oper → List (List Nat)
 | [] => []
 | o :: os => touched (st 0).h (st 0).t o :: tl (fun j => st (j + 1)) os
theorem tl_get : ∀ {os : List Oper} {st : Nat → St} {j : Nat} {o : Oper}, os[j]? = some o → (tl st os).getD j [] = touched (st j).h (st j).t o
 | [], st, j, o, hj => by simp at hj
 | a :: os, st, 0, o, hj => by
  have e : a = o := by simpa using hj
  rw [tl, List.getD_cons_zero, e]
 | a :: os, st, j + 1, o, hj => by
  rw [tl, List.getD_cons_succ]
  exact tl_get (st := fun j => st (j + 1)) (by simpa using hj)
theorem glue_any {Q : Nat → Oper → St → St → Prop} {os : List Oper} {o : Oper} {s s' : St} {K K' : (Nat → St) → Prop} (h0 : Q 0 o s s') (hK : ∀ st : Nat → St, st 0 = s' → K' st → K (fun j => match j with | 0 => s | j + 1 => st j))
  (hh : ∃ st : Nat → St, st 0 = s' ∧ K' st ∧ ∀ j o, os[j]? = some o → Q (j + 1) o (st j) (st (j + 1))) :
  ∃ st : Nat → St, st 0 = s ∧ K st ∧ ∀ j o', (o :: os)[j]? = some o' → Q j o' (st j) (st (j + 1)) := by
 obtain ⟨st, h1, h2, h3⟩ := hh
 refine ⟨fun j => match j with | 0 => s | j + 1 => st j, rfl, hK st h1 h2, fun j o' hj => ?_⟩
 cases j with
 | zero => simp at hj; subst hj; show Q 0 o s (st 0); rw [h1]; exact h0
 | succ j => exact h3 j o' (by simpa using hj)
theorem rops_steps (hT : TyOk P T) {E : Env X} (hE : EOK P E) (all : List Oper) : ∀ {os : List Oper} {s : St} {k : St → Option X}, rops T E all os s k = some r →
  ∃ st : Nat → St, st 0 = s ∧ k (st os.length) = some r ∧ ∀ j o, os[j]? = some o → Step P T E.w false all 0 o (st j) (st (j + 1))
 | [], s, k, he => ⟨fun _ => s, rfl, he, fun j o hj => by simp at hj⟩
 | o :: os, s, k, he => by
  have he : rop1 T E all o s (fun s' => rops T E all os s' k) = some r := by rw [← he, rops]; rfl
  obtain ⟨s', h1, h2⟩ := rop1_step (nm := 0) (rs := false) hT hE all rfl he
  exact glue_steps (nm := fun _ => 0) (nm' := fun _ => 0) (K := fun s => k s = some r) h2 (fun _ => rfl) (rops_steps hT hE all h1)
def nmAt (T : Types) (n : Nat) (os : List Oper) (j : Nat) : Nat := n + ((os.take j).filter fun o => (resvOf T o).isSome).length
theorem ropsV_steps (hT : TyOk P T) {E : Env X} (hE : EOK P E) (all : List Oper) {x0 : Nat} : ∀ {os : List Oper} {B : List (List Nat)} {jj n : Nat} {s : St} {k : St → List (List Nat) → Option X}, ropsV T E all x0 B jj n os s k = some r →
  ∃ st : Nat → St, st 0 = s ∧ k (st os.length) (B ++ tl st os) = some r ∧ ∀ j o, os[j]? = some o → Step P T E.w true all (nmAt T n os j) o (st j) (st (j + 1)) ∧ (resvd T true o = false → okCall T all x0 (st j).h (st j).t (jj + j) o = true)
 | [], B, jj, n, s, k, he => ⟨fun _ => s, rfl, (by have he : k s B = some r := he; simpa [tl] using he), fun j o hj => by simp at hj⟩
 | o :: os, B, jj, n, s, k, he => by
  have hK : ∀ {s' : St} (st : Nat → St), st 0 = s' → k (st os.length) ((B ++ [touched s.h s.t o]) ++ tl st os) = some r → k ((fun j => match j with | 0 => s | j + 1 => st j : Nat → St) (o :: os).length) (B ++ tl (fun j => match j with | 0 => s | j + 1 => st j) (o :: os)) = some r := fun st _ h => by
   rw [List.append_assoc] at h
   exact h
  cases hq : resvOf T o with
  | some b =>
   have he : ropsV T E all x0 (B ++ [touched s.h s.t o]) (jj + 1) (n + 1) os ⟨putA o.dst (.ptr n []) s.t, s.h, s.x⟩ k = some r := by rw [← he, ropsV, hq]
   have hrs : resvd T true o = true := by simp [resvd, hq]
   obtain ⟨e, ti, g1, g2, _⟩ := resvd_op hrs
   obtain ⟨st, q1, q2, q3⟩ := ropsV_steps hT hE all he
   refine glue_any (Q := fun j o' s s' => Step P T E.w true all (nmAt T n (o :: os) j) o' s s' ∧ (resvd T true o' = false → okCall T all x0 s.h s.t (jj + j) o' = true)) (K := fun st => k (st (o :: os).length) (B ++ tl st (o :: os)) = some r) (s' := ⟨putA o.dst (.ptr n []) s.t, s.h, s.x⟩) ⟨⟨Nat.le_refl _, fun _ => Adds.refl, fun _ => ⟨rfl, rfl⟩, fun _ _ _ _ => rfl, fun _ y => ?_, fun hh => ?_⟩, fun hh => ?_⟩ hK ⟨st, q1, q2, fun j o' hj => ?_⟩
   ·rw [putA_get]; rfl
   ·rw [hrs] at hh; cases hh
   ·rw [hrs] at hh; cases hh
   ·have := q3 j o' hj
    rw [show nmAt T n (o :: os) (j + 1) = nmAt T (n + 1) os j by simp [nmAt, hq]; omega, show jj + (j + 1) = jj + 1 + j by omega]
    exact this
  | none =>
   have he1 : (bif okCall T all x0 s.h s.t jj o then rop1 T E all o s (fun s' => ropsV T E all x0 (B ++ [touched s.h s.t o]) (jj + 1) n os s' k) else none) = some r := by rw [← he, ropsV, hq]; rfl
   have hok := (cond_some he1).1
   replace he1 := (cond_some he1).2
   obtain ⟨s', h1, h2⟩ := rop1_step (nm := nmAt T n (o :: os) 0) (rs := true) hT hE all (by simp [resvd, hq]) he1
   obtain ⟨st, q1, q2, q3⟩ := ropsV_steps hT hE all h1
   refine glue_any (Q := fun j o' s s' => Step P T E.w true all (nmAt T n (o :: os) j) o' s s' ∧ (resvd T true o' = false → okCall T all x0 s.h s.t (jj + j) o' = true)) (K := fun st => k (st (o :: os).length) (B ++ tl st (o :: os)) = some r) ⟨h2, fun _ => hok⟩ hK ⟨st, q1, q2, fun j o' hj => ?_⟩
   have := q3 j o' hj
   rw [show nmAt T n (o :: os) (j + 1) = nmAt T n os j by simp [nmAt, hq], show jj + (j + 1) = jj + 1 + j by omega]
   exact this
theorem okGo_spec {m : Nat} {L : List Nat} : ∀ {ps : List Oper} {i0 n0 : Nat}, okGo T m L i0 n0 ps = true → ∀ i p, ps[i]? = some p → (resvOf T p).isSome = true → m.testBit (i0 + i) = true ∨ nmAt T n0 ps i ∉ L
 | [], i0, n0, _, i, p, hi, _ => by simp at hi
 | q :: ps, i0, n0, hh, i, p, hi, hp => by
  cases hq : resvOf T q with
  | some b =>
   simp only [okGo, hq, Bool.and_eq_true, Bool.or_eq_true, Bool.not_eq_true'] at hh
   cases i with
   | zero =>
    have e0 : nmAt T n0 (q :: ps) 0 = n0 := by simp [nmAt]
    rw [e0]
    rcases hh.1 with h1 | h1
    ·exact .inl h1
    ·exact .inr fun hm => by rw [memN_mem.2 hm] at h1; cases h1
   | succ i =>
    have := okGo_spec hh.2 i p (by simpa using hi) hp
    rwa [show i0 + 1 + i = i0 + (i + 1) by omega, show nmAt T (n0 + 1) ps i = nmAt T n0 (q :: ps) (i + 1) by simp [nmAt, hq]; omega] at this
  | none =>
   simp only [okGo, hq] at hh
   cases i with
   | zero =>
    simp at hi
    subst hi
    rw [hq] at hp; cases hp
   | succ i =>
    have := okGo_spec hh i p (by simpa using hi) hp
    rwa [show i0 + 1 + i = i0 + (i + 1) by omega, show nmAt T n0 ps i = nmAt T n0 (q :: ps) (i + 1) by simp [nmAt, hq]] at this
theorem resvGo_spec : ∀ (os : List Oper) (h : Hp) (x : Nat), (resvGo T os h x).2 = nmAt T x os os.length ∧ (∀ j o b, os[j]? = some o → resvOf T o = some b → hget (resvGo T os h x).1 (nmAt T x os j) = some b) ∧
  (∀ n, n < x ∨ (resvGo T os h x).2 ≤ n → hget (resvGo T os h x).1 n = hget h n)
 | [], h, x => ⟨by simp [resvGo, nmAt], fun j o b hj => by simp at hj, fun _ _ => rfl⟩
 | o :: os, h, x => by
  cases hq : resvOf T o with
  | some b =>
   obtain ⟨h1, h2, h3⟩ := resvGo_spec os ((x, some b) :: h) (x + 1)
   have hgo : resvGo T (o :: os) h x = resvGo T os ((x, some b) :: h) (x + 1) := by rw [resvGo, hq]
   have hnm : ∀ j, nmAt T x (o :: os) (j + 1) = nmAt T (x + 1) os j := fun j => by simp [nmAt, hq]; omega
   have hge : x + 1 ≤ (resvGo T os ((x, some b) :: h) (x + 1)).2 := by rw [h1]; unfold nmAt; omega
   rw [hgo]
   refine ⟨by rw [h1, List.length_cons, hnm], fun j o' b' hj hb => ?_, fun n hn => ?_⟩
   ·cases j with
    | zero =>
     simp at hj; subst hj
     rw [hq] at hb; cases hb
     have : nmAt T x (o :: os) 0 = x := by simp [nmAt]
     rw [this, h3 x (.inl (by omega)), hget_cons, if_pos rfl]
    | succ j => rw [hnm]; exact h2 j o' b' (by simpa using hj) hb
   ·rw [h3 n (by omega), hget_cons, if_neg (by omega)]
  | none =>
   obtain ⟨h1, h2, h3⟩ := resvGo_spec os h x
   have hgo : resvGo T (o :: os) h x = resvGo T os h x := by rw [resvGo, hq]
   have hnm : ∀ j, nmAt T x (o :: os) (j + 1) = nmAt T x os j := fun j => by simp [nmAt, hq]
   rw [hgo]
   refine ⟨by rw [h1, List.length_cons, hnm], fun j o' b' hj hb => ?_, h3⟩
   cases j with
   | zero => simp at hj; subst hj; rw [hq] at hb; cases hb
   | succ j => rw [hnm]; exact h2 j o' b' (by simpa using hj) hb
theorem nmAt_mono {n : Nat} : ∀ {os : List Oper} {i j : Nat}, i ≤ j → nmAt T n os i ≤ nmAt T n os j := fun {os i j} h => by
 unfold nmAt
 have : ((os.take i).filter fun o => (resvOf T o).isSome).length ≤ ((os.take j).filter fun o => (resvOf T o).isSome).length := by
  refine List.Sublist.length_le (List.Sublist.filter _ ?_)
  rw [show os.take i = (os.take j).take i by rw [List.take_take, Nat.min_eq_left h]]
  exact List.take_sublist _ _
 omega
theorem nmAt_succ {n : Nat} {os : List Oper} {j : Nat} {o : Oper} (hj : os[j]? = some o) (hr : (resvOf T o).isSome = true) : nmAt T n os (j + 1) = nmAt T n os j + 1 := by
 unfold nmAt
 rw [List.take_add_one, hj]
 simp [List.filter_append, hr]; omega
theorem nmAt_inj {n : Nat} {os : List Oper} {i j : Nat} {o p : Oper} (hi : os[i]? = some o) (hj : os[j]? = some p) (ho : (resvOf T o).isSome = true) (hp : (resvOf T p).isSome = true) (he : nmAt T n os i = nmAt T n os j) : i = j := by
 rcases Nat.lt_trichotomy i j with h | h | h
 ·have := nmAt_succ (n := n) hi ho
  have := nmAt_mono (T := T) (n := n) (os := os) (show i + 1 ≤ j by omega)
  omega
 ·exact h
 ·have := nmAt_succ (n := n) hj hp
  have := nmAt_mono (T := T) (n := n) (os := os) (show j + 1 ≤ i by omega)
  omega
inductive Before (all : List Oper) : Nat → Nat → Prop where
 | edge {i j : Nat} {o : Oper} : all[j]? = some o → i ∈ edgesOf o → Before all i j
 | trans {i j k : Nat} {o : Oper} : all[k]? = some o → j ∈ edgesOf o → Before all i j → Before all i k
theorem ancB_bit {acc : List Nat} : ∀ {l : List Nat} {i : Nat}, (ancB acc l).testBit i = true → ∃ e ∈ l, i = e ∨ (acc.getD e 0).testBit i = true
 | [], i, hh => by simp [ancB] at hh
 | e :: l, i, hh => by
  simp only [ancB, Nat.testBit_or, Bool.or_eq_true] at hh
  rcases hh with (hh | hh) | hh
  ·rw [Nat.one_shiftLeft] at hh
   have : i = e := by
    rw [Nat.testBit_two_pow] at hh
    exact (of_decide_eq_true hh).symm
   exact ⟨e, by simp, .inl this⟩
  ·exact ⟨e, by simp, .inr hh⟩
  ·obtain ⟨e', h1, h2⟩ := ancB_bit hh
   exact ⟨e', by simp [h1], h2⟩
theorem ancsGo_spec (all : List Oper) : ∀ (os : List Oper) (acc : List Nat), (∀ j o, os[j]? = some o → all[acc.length + j]? = some o) →
  (∀ j i, (acc.getD j 0).testBit i = true → Before all i j) → ∀ j i, ((ancsGo os acc).getD j 0).testBit i = true → Before all i j
 | [], acc, _, ha => ha
 | o :: os, acc, ho, ha => by
  refine ancsGo_spec all os (acc ++ [ancB acc (edgesOf o)]) (fun j o' hj => ?_) (fun j i hb => ?_)
  ·have := ho (j + 1) o' (by simpa using hj)
   rw [List.length_append, List.length_singleton, show acc.length + 1 + j = acc.length + (j + 1) by omega]; exact this
  ·by_cases hj : j < acc.length
   ·refine ha j i ?_
    rw [List.getD_eq_getElem?_getD, List.getElem?_append_left hj] at hb
    rw [List.getD_eq_getElem?_getD]; exact hb
   ·by_cases hj' : j = acc.length
    ·subst hj'
     rw [List.getD_eq_getElem?_getD, List.getElem?_append_right (Nat.le_refl _)] at hb
     simp only [Nat.sub_self, List.getElem?_cons_zero, Option.getD_some] at hb
     have h0 := ho 0 o (by simp)
     rw [Nat.add_zero] at h0
     obtain ⟨e, h1, h2⟩ := ancB_bit hb
     rcases h2 with rfl | h2
     ·exact .edge h0 h1
     ·exact .trans h0 h1 (ha e i h2)
    ·rw [List.getD_eq_getElem?_getD, List.getElem?_append_right (by omega)] at hb
     rw [List.getElem?_eq_none (by simp; omega)] at hb
     simp at hb
theorem rowOk_spec {q : Qs} {rs : Bool} {all : List Oper} {m : Nat} {p : Oper} : ∀ {l : List Oper} {i0 : Nat}, rowOk T q rs all m p i0 l = true → ∀ i o, l[i]? = some o → (clash T q rs all o p = true → m.testBit (i0 + i) = true) ∧ (clsW T q o.op = true → isLoc o.op = false → resvd T rs p = false)
 | [], i0, _, i, o, hi => by simp at hi
 | a :: l, i0, hh, i, o, hi => by
  simp only [rowOk, Bool.and_eq_true, Bool.or_eq_true, Bool.not_eq_true'] at hh
  cases i with
  | zero =>
   simp at hi; subst hi
   refine ⟨fun hc => ?_, fun hw ha => ?_⟩
   ·rcases hh.1.1 with h1 | h1
    ·exact h1
    ·rw [h1] at hc; cases hc
   ·have := hh.1.2
    rw [hw, ha] at this
    simpa using this
  | succ i =>
   have := rowOk_spec hh.2 i o (by simpa using hi)
   rwa [show i0 + 1 + i = i0 + (i + 1) by omega] at this
theorem drawGo_spec {q : Qs} {rs : Bool} {all : List Oper} {A : List Nat} : ∀ {l : List Oper} {j0 : Nat}, drawGo T q rs all A j0 l = true → ∀ j p, l[j]? = some p →
  (∀ e ∈ edgesOf p, e < j0 + j) ∧ ∀ i o, i < j0 + j → all[i]? = some o → (clash T q rs all o p = true → (A.getD (j0 + j) 0).testBit i = true) ∧ (clsW T q o.op = true → isLoc o.op = false → resvd T rs p = false)
 | [], j0, _, j, p, hj => by simp at hj
 | a :: l, j0, hh, j, p, hj => by
  simp only [drawGo, Bool.and_eq_true, List.all_eq_true] at hh
  cases j with
  | zero =>
   simp at hj; subst hj
   refine ⟨fun e he => Nat.blt_eq.mp (hh.1.1 e he), fun i o hi ho => ?_⟩
   have := rowOk_spec hh.1.2 i o (by rw [List.getElem?_take, if_pos (by omega)]; exact ho)
   simpa using this
  | succ j =>
   have := drawGo_spec hh.2 j p (by simpa using hj)
   rw [show j0 + 1 + j = j0 + (j + 1) by omega] at this
   exact this
structure Draws (T : Types) (q : Qs) (rs : Bool) (all : List Oper) : Prop where
 back : ∀ j p, all[j]? = some p → ∀ e ∈ edgesOf p, e < j
 clash : ∀ i j o p, i < j → all[i]? = some o → all[j]? = some p → clash T q rs all o p = true → Before all i j
 late : ∀ (i j : Nat) (o p : Oper), i < j → all[i]? = some o → all[j]? = some p → clsW T q o.op = true → isLoc o.op = false → resvd T rs p = false
theorem drawOk_spec {q : Qs} {rs : Bool} {all : List Oper} (hh : drawOk T q rs all = true) : Draws T q rs all := by
 unfold drawOk at hh
 refine ⟨fun j p hj e he => ?_, fun i j o p hij hi hj hc => ?_, fun i j o p hij hi hj => ((drawGo_spec hh j p hj).2 i o (by omega) hi).2⟩
 ·have := (drawGo_spec hh j p hj).1 e he; omega
 ·have := ((drawGo_spec hh j p hj).2 i o (by omega) hi).1 hc
  rw [Nat.zero_add] at this
  exact ancsGo_spec all all [] (fun j o hj => by simpa using hj) (fun j i hb => by simp at hb) j i this
structure Apart (x : Nat) (so sp : St) (o p : Oper) : Prop where
 ap : isLoc o.op = true → isRd p.op = true → ∀ m ∈ opNames sp.t p, m < x ∧ m ∉ touched so.h so.t o
 rd : isRd o.op = true → isLoc p.op = true → ∀ m ∈ opNames so.t o, m < x ∧ m ∉ touched sp.h sp.t p
theorem apart_spec {x : Nat} {l m : List Nat} (hh : apart x l m = true) : ∀ n ∈ l, n < x ∧ n ∉ m := by
 intro n hn
 unfold apart at hh
 have := List.all_eq_true.1 hh n hn
 rw [Bool.and_eq_true, Bool.not_eq_true'] at this
 refine ⟨Nat.blt_eq.mp this.1, fun hm => ?_⟩
 rw [memN_mem.2 hm] at this
 cases this.2
theorem pairRow_spec {all : List Oper} {x : Nat} {t : Tm} {B : List (List Nat)} {m j : Nat} {p : Oper} : ∀ {l : List Oper} {i0 : Nat}, pairRow all x t B m j p i0 l = true → ∀ i o, l[i]? = some o → m.testBit (i0 + i) = true ∨ pairOk all x t (B.getD (i0 + i) []) (B.getD j []) (i0 + i) j o p = true
 | [], i0, _, i, o, hi => by simp at hi
 | a :: l, i0, hh, i, o, hi => by
  simp only [pairRow, Bool.and_eq_true, Bool.or_eq_true] at hh
  cases i with
  | zero => simp at hi; subst hi; exact hh.1
  | succ i =>
   have := pairRow_spec hh.2 i o (by simpa using hi)
   rwa [show i0 + 1 + i = i0 + (i + 1) by omega] at this
theorem pairsGo_spec {all : List Oper} {A : List Nat} {x : Nat} {t : Tm} {B : List (List Nat)} : ∀ {l : List Oper} {j0 : Nat}, pairsGo all A x t B j0 l = true → ∀ j p, l[j]? = some p → ∀ i o, i < j0 + j → all[i]? = some o → (A.getD (j0 + j) 0).testBit i = true ∨ pairOk all x t (B.getD i []) (B.getD (j0 + j) []) i (j0 + j) o p = true
 | [], j0, _, j, p, hj => by simp at hj
 | a :: l, j0, hh, j, p, hj => by
  simp only [pairsGo, Bool.and_eq_true] at hh
  cases j with
  | zero =>
   simp at hj; subst hj
   intro i o hi ho
   have := pairRow_spec hh.1 i o (by rw [List.getElem?_take, if_pos (by omega)]; exact ho)
   simpa using this
  | succ j =>
   have := pairsGo_spec hh.2 j p (by simpa using hj)
   rw [show j0 + 1 + j = j0 + (j + 1) by omega] at this
   exact this
section
variable {q : Qs} {rs : Bool} {all : List Oper} {nm : Nat → Nat} {st : Nat → St}
theorem tget_step {j : Nat} {o : Oper} (hs : Step P T q rs all (nm j) o (st j) (st (j + 1))) {y : Nat} (hy : o.dst ≠ some y) : tget (st (j + 1)).t y = tget (st j).t y := by
 cases hrv : resvd T rs o with
 | true => rw [hs.rsv hrv y, if_neg hy]
 | false =>
  obtain ⟨v, b, _, hu, _⟩ := hs.does hrv
  rw [hu y, if_neg hy]
theorem tget_last (hst : ∀ j o, all[j]? = some o → Step P T q rs all (nm j) o (st j) (st (j + 1))) {y i : Nat} : ∀ d, i + d ≤ all.length → (∀ k o, i ≤ k → k < i + d → all[k]? = some o → o.dst ≠ some y) → tget (st (i + d)).t y = tget (st i).t y
 | 0, _, _ => rfl
 | d + 1, hl, hh => by
  obtain ⟨o, ho⟩ : ∃ o, all[i + d]? = some o := ⟨all[i + d], by rw [List.getElem?_eq_getElem (by omega)]⟩
  exact (tget_step (hst (i + d) o ho) (hh (i + d) o (by omega) (by omega) ho)).trans (tget_last hst d (by omega) fun k o' h1 h2 => hh k o' h1 (by omega))
theorem stable_get (hst : ∀ j o, all[j]? = some o → Step P T q rs all (nm j) o (st j) (st (j + 1))) {i : Nat} {o : Oper} (ho : all[i]? = some o) (hs : stable all i o = true) : ∀ y ∈ o.op.operands.toList, evA (st all.length).t y = evA (st i).t y := by
 intro y hy
 cases y with
 | tmp k =>
  have hil : i < all.length := (List.getElem?_eq_some_iff.1 ho).1
  have := tget_last hst (y := k) (i := i) (all.length - i) (by omega) fun j o' h1 h2 ho' hd => by
   have hm : o' ∈ all.drop i := by
    rw [List.mem_iff_getElem?]
    exact ⟨j - i, by rw [List.getElem?_drop, show i + (j - i) = j by omega]; exact ho'⟩
   have := List.all_eq_true.1 hs o' hm
   rw [hd] at this
   simp only [Bool.not_eq_true'] at this
   rw [memN_mem.2 (tmpsOf_mem hy)] at this
   cases this
  rw [show i + (all.length - i) = all.length by omega] at this
  exact this
 | _ => rfl
theorem opNames_eq {t t' : Tm} {o : Oper} (hh : ∀ y ∈ o.op.operands.toList, evA t y = evA t' y) : opNames t o = opNames t' o := by
 unfold opNames
 rw [List.flatMap_def, List.flatMap_def]
 congr 1
 exact List.map_congr_left fun y hy => by rw [hh y hy]
theorem appNames_eq {h : Hp} {t t' : Tm} {o : Oper} (hh : ∀ y ∈ o.op.operands.toList, evA t y = evA t' y) : appNames h t o = appNames h t' o := by
 unfold appNames
 split
 ·rename_i c hc
  split
  ·rename_i a b hl
   rw [hh a (by rw [hc]; simp only [Op.operands, Call.operands, Array.toList_append, List.mem_append]; exact .inr (by rw [hl]; simp)),
    hh b (by rw [hc]; simp only [Op.operands, Call.operands, Array.toList_append, List.mem_append]; exact .inr (by rw [hl]; simp))]
  ·rename_i a l _ hl
   rw [hh a (by rw [hc]; simp only [Op.operands, Call.operands, Array.toList_append, List.mem_append]; exact .inr (by rw [hl]; simp))]
  ·rfl
 ·rfl
theorem pairs_apart (hst : ∀ j o, all[j]? = some o → Step P T q rs all (nm j) o (st j) (st (j + 1))) {x : Nat} (hh : pairsGo all (ancsGo all []) x (st all.length).t (tl st all) 0 all = true) :
  ∀ i j o p, i < j → all[i]? = some o → all[j]? = some p → Before all i j ∨ Apart x (st i) (st j) o p := by
 intro i j o p hij ho hp
 have h1 := pairsGo_spec hh j p hp i o (by omega) ho
 rw [Nat.zero_add] at h1
 rcases h1 with h1 | h1
 ·exact .inl (ancsGo_spec all all [] (fun j o hj => by simpa using hj) (fun j i hb => by simp at hb) j i h1)
 ·right
  unfold pairOk at h1
  rw [tl_get ho, tl_get hp, Bool.and_eq_true] at h1
  refine ⟨fun a b m hm => ?_, fun a b m hm => ?_⟩
  ·have := h1.1
   rw [a, b] at this
   simp only [Bool.and_self, Bool.not_true, Bool.false_or, Bool.and_eq_true] at this
   obtain ⟨s2, s3⟩ := this
   rw [opNames_eq (stable_get hst hp s2)] at s3
   exact apart_spec s3 m hm
  ·have := h1.2
   rw [a, b] at this
   simp only [Bool.and_self, Bool.not_true, Bool.false_or, Bool.and_eq_true] at this
   obtain ⟨s1, s3⟩ := this
   rw [opNames_eq (stable_get hst ho s1)] at s3
   exact apart_spec s3 m hm
end
section
variable {q : Qs} {rs : Bool} {all : List Oper} {o p : Oper}
theorem clsW_E {op : Op} (hw : clsW T q op = true) : clsE T q op = true := by
 cases op with
 | call c =>
  simp only [clsW, clsE] at hw ⊢
  split at hw
  ·simp at hw ⊢; exact .inl hw
  all_goals first | rfl | cases hw
 | _ => first | rfl | (cases hw; done) | exact hw
theorem clsW_E' (hw : clsW T q o.op = true) : clsE' T q rs o = true := by simp [clsE', resvd_W hw, clsW_E hw]
theorem clash_E (h1 : clsE' T q rs o = true) (h2 : clsE' T q rs p = true) : clash T q rs all o p = true := by simp [clash, h1, h2]
theorem clash_W1 (h1 : clsW T q o.op = true) (h2 : clsP' T rs p = false) (h3 : (rs && isLoc o.op && isRd p.op) = false) : clash T q rs all o p = true := by simp only [clash, h1, h2, h3]; simp
theorem clash_W2 (h1 : clsP' T rs o = false) (h2 : clsW T q p.op = true) (h3 : (rs && isRd o.op && isLoc p.op) = false) : clash T q rs all o p = true := by simp only [clash, h1, h2, h3]; simp
theorem clash_V (h1 : resvd T rs o = true) (h2 : clsW T q p.op = true) (h3 : isLoc p.op = false) : clash T q rs all o p = true := by simp [clash, h1, h2, h3]
theorem clash_hit1 {d : Nat} (h1 : o.dst = some d) (h2 : d ∈ looks all p) : clash T q rs all o p = true := by
 have : hits all o p = true := by unfold hits; rw [h1]; simp [memN_mem.2 h2]
 simp [clash, this]
theorem clash_hit2 {d : Nat} (h1 : o.dst = some d) (h2 : p.dst = some d) : clash T q rs all o p = true := by
 have : hits all o p = true := by unfold hits; rw [h1, h2]; simp
 simp [clash, this]
theorem clash_hit3 {d : Nat} (h1 : p.dst = some d) (h2 : d ∈ looks all o) : clash T q rs all o p = true := by
 have : hits all o p = true := by unfold hits; rw [h1]; simp [memN_mem.2 h2]
 simp [clash, this]
end
end Go.Proofs.YtfcloeflcpcheaaGreat.Eng
