/-
The engine, twentieth text: regions that draw their order. Plain lemmas.
Conditions: the program's operations follow mixed orders.
-/
import Derived.Test.YtjehpceomlnicaaEngS
import Derived.Orders
set_option linter.unusedVariables false
set_option linter.unusedSimpArgs false
namespace Go.Proofs.Ytjehpceomlnicaa.Eng
variable {P : Program} {T : Types} {σ σ' : Sg} {R R' : Ro} {h h' : Hp} {x x' : Nat} {w w' : World} {X : Type} {r : X} {N : Nat}

/-! ### an operation looks at its operands alone -/
theorem aop_congr {E : Env X} {t t' : Tm} {o : Op} {ty : Nat} {k : K3 X} (hh : ∀ y ∈ o.operands.toList, evA t y = evA t' y) : aop T E t o ty h x k = aop T E t' o ty h x k := by
  have one : ∀ {y : Operand} {f : AV → Option X}, y ∈ o.operands.toList → f (evA t y) = f (evA t' y) := fun hy => by rw [hh _ hy]
  cases o with
  | pick c a b => simp only [aop, hh c (by simp [Op.operands]), hh a (by simp [Op.operands]), hh b (by simp [Op.operands])]
  | build e parts =>
    simp only [aop]
    congr 1
    refine List.map_congr_left fun q hq => ?_
    rw [hh q.2 (by simp only [Op.operands, List.mem_map]; exact ⟨q, hq, rfl⟩)]
  | buildSlice e len parts =>
    have hm : (parts.toList.map fun q => (q.1, evA t q.2)) = parts.toList.map fun q => (q.1, evA t' q.2) := List.map_congr_left fun q hq => by
      rw [hh q.2 (by simp only [Op.operands, List.mem_map]; exact ⟨q, hq, rfl⟩)]
    simp only [aop, hm]
  | slice e y lo hi mx =>
    cases mx with
    | some _ => rfl
    | none =>
      have h1 : lo.map (evA t) = lo.map (evA t') := by
        cases lo with
        | none => rfl
        | some l => simp only [Option.map_some, hh l (by simp [Op.operands])]
      have h2 : hi.map (evA t) = hi.map (evA t') := by
        cases hi with
        | none => rfl
        | some l => simp only [Option.map_some, hh l (by simp [Op.operands])]
      simp only [aop, hh y (by simp [Op.operands]), h1, h2]
  | call c =>
    simp only [aop, callOp]
    have hargs : ∀ y ∈ c.args.toList, evA t y = evA t' y := fun y hy => hh y (by
      simp only [Op.operands, Call.operands, Array.toList_append, List.mem_append]; exact .inr hy)
    have hm : c.args.toList.map (evA t) = c.args.toList.map (evA t') := List.map_congr_left hargs
    split
    · rename_i f hf
      rw [hh f (by simp only [Op.operands, Call.operands, hf, Array.toList_append, List.mem_append]; exact .inl (by simp)), hm]
    · split
      · rename_i a b ha hb
        rw [hargs _ (by rw [hb]; simp)]
      · rfl
    · split
      · rename_i a b hb
        rw [hargs a (by rw [hb]; simp), hargs b (by rw [hb]; simp)]
      · rfl
    · split
      · rename_i a b hb
        rw [hargs a (by rw [hb]; simp), hargs b (by rw [hb]; simp)]
      · rfl
    · split
      · rename_i a b ha hb
        rw [hargs _ (by rw [hb]; simp)]
      · rfl
    · split
      · rename_i a b c d ha hb
        rw [hargs c (by rw [hb]; simp), hargs d (by rw [hb]; simp)]
      · rfl
    · rfl
  | move a => simp only [aop, hh a (by simp [Op.operands])]
  | assign a => simp only [aop, hh a (by simp [Op.operands])]
  | box e a => simp only [aop, hh a (by simp [Op.operands])]
  | load e a => simp only [aop, hh a (by simp [Op.operands])]
  | store e a v => simp only [aop, hh a (by simp [Op.operands]), hh v (by simp [Op.operands])]
  | nilCheck a => simp only [aop, hh a (by simp [Op.operands])]
  | binOp op e a v f => simp only [aop, hh a (by simp [Op.operands]), hh v (by simp [Op.operands])]
  | unOp op e a => simp only [aop, hh a (by simp [Op.operands])]
  | convert s d a => simp only [aop, hh a (by simp [Op.operands])]
  | makeSlice e a v => simp only [aop, hh a (by simp [Op.operands]), hh v (by simp [Op.operands])]
  | fieldAddr e a f => simp only [aop, hh a (by simp [Op.operands])]
  | field e a f => simp only [aop, hh a (by simp [Op.operands])]
  | indexAddr e a v => simp only [aop, hh a (by simp [Op.operands]), hh v (by simp [Op.operands])]
  | index e a v => simp only [aop, hh a (by simp [Op.operands]), hh v (by simp [Op.operands])]
  | extract a i => simp only [aop, hh a (by simp [Op.operands])]
  | makeMap e m => cases m <;> rfl
  | lookup e a v c =>
    cases c with
    | true => rfl
    | false => simp only [aop, hh a (by simp [Op.operands]), hh v (by simp [Op.operands])]
  | mapUpdate e a v u => simp only [aop, hh a (by simp [Op.operands]), hh v (by simp [Op.operands]), hh u (by simp [Op.operands])]
  | _ => rfl
theorem tmpsOf_mem : ∀ {l : List Operand} {i : Nat}, Operand.tmp i ∈ l → i ∈ tmpsOf l
  | y :: l, i, hh => by
    simp only [List.mem_cons] at hh
    rcases hh with rfl | hh
    · simp [tmpsOf]
    · have := tmpsOf_mem hh
      cases y <;> simp [tmpsOf, this]
def restr (t : Tm) (L : List Nat) : Tm := L.map fun y => (y, tget t y)
theorem restr_get {t : Tm} : ∀ (L : List Nat) (y : Nat), (y ∈ L → tget (restr t L) y = tget t y) ∧ (y ∉ L → tget (restr t L) y = .any)
  | [], y => ⟨fun hh => by simp at hh, fun _ => rfl⟩
  | i :: L, y => by
    obtain ⟨h1, h2⟩ := restr_get (t := t) L y
    simp only [restr, List.map_cons, tget_cons] at h1 h2 ⊢
    refine ⟨fun hh => ?_, fun hh => ?_⟩
    · by_cases e : i = y
      · subst e; rw [if_pos rfl]
      · rw [if_neg e]; exact h1 (by simp only [List.mem_cons] at hh; exact hh.resolve_left (Ne.symm e))
    · simp only [List.mem_cons, not_or] at hh
      rw [if_neg (Ne.symm hh.1)]; exact h2 hh.2

/-! ### the text's order -/
def Known (all : List Oper) (o : Oper) (t : Tm) (b : Bool) : Prop :=
  (o.guard = none ∧ b = true) ∨ (∃ j q d c, o.guard = some (j, q) ∧ dstOf all j = some d ∧ tget t d = .bool c ∧ b = (c == q)) ∨ ∃ j q d f, o.guard = some (j, q) ∧ dstOf all j = some d ∧ tget t d = .tup f ∧ b = false
structure Step (P : Program) (T : Types) (q : FuncId → Bool) (all : List Oper) (o : Oper) (s s' : St) : Prop where
  le : s.x ≤ s'.x
  adds : clsW q o.op = false → Adds s.h s.x s'.h s'.x
  eq : clsE T q o.op = false → s'.h = s.h ∧ s'.x = s.x
  does : ∃ v b, Known all o s.t b ∧ (∀ y, tget s'.t y = if o.dst = some y then v else tget s.t y) ∧
    (b = true → OpDone P o (restr s.t (looks all o)) s.h s.x v s'.h s'.x ∧ (clsE T q o.op = false → ∀ x, OpDone P o (restr s.t (looks all o)) s.h x v s.h x) ∧ (clsP T o.op = true → ∀ h x, OpDone P o (restr s.t (looks all o)) h x v h x)) ∧
    (b = false → v = .tup .fnil ∧ s'.h = s.h ∧ s'.x = s.x)
theorem putA_get (d : Option Nat) (v : AV) (t : Tm) (y : Nat) : tget (putA d v t) y = if d = some y then v else tget t y := by
  cases d with
  | none => simp [putA]
  | some d =>
    simp only [putA, tget_cons]
    by_cases e : d = y
    · subst e; simp
    · rw [if_neg e, if_neg (by simpa using e)]
theorem rops_steps (hT : TyOk P T) {E : Env X} (hE : EOK P E) (all : List Oper) : ∀ {os : List Oper} {s : St} {k : St → Option X}, rops T E all os s k = some r →
    ∃ st : Nat → St, st 0 = s ∧ k (st os.length) = some r ∧ ∀ j o, os[j]? = some o → Step P T E.q all o (st j) (st (j + 1))
  | [], s, k, he => ⟨fun _ => s, rfl, he, fun j o hj => by simp at hj⟩
  | o :: os, s, k, he => by
    have glue : ∀ {s' : St}, Step P T E.q all o s s' → rops T E all os s' k = some r →
        ∃ st : Nat → St, st 0 = s ∧ k (st (o :: os).length) = some r ∧ ∀ j o', (o :: os)[j]? = some o' → Step P T E.q all o' (st j) (st (j + 1)) := by
      intro s' hs he
      obtain ⟨st, h1, h2, h3⟩ := rops_steps hT hE all he
      refine ⟨fun j => match j with | 0 => s | j + 1 => st j, rfl, h2, fun j o' hj => ?_⟩
      cases j with
      | zero => simp at hj; subst hj; show Step P T E.q all o s (st 0); rw [h1]; exact hs
      | succ j => exact h3 j o' (by simpa using hj)
    have run : ∀ {t : Tm}, (∀ y, tget t y = tget s.t y) → Known all o s.t true → (aop T E t o.op o.type s.h s.x fun v h x => rops T E all os ⟨putA o.dst v t, h, x⟩ k) = some r →
        ∃ st : Nat → St, st 0 = s ∧ k (st (o :: os).length) = some r ∧ ∀ j o', (o :: os)[j]? = some o' → Step P T E.q all o' (st j) (st (j + 1)) := by
      intro t ht hk he
      have hcg : ∀ y ∈ o.op.operands.toList, evA t y = evA (restr s.t (looks all o)) y := fun y hy => by
        cases y with
        | tmp i =>
          show tget t i = tget (restr s.t (looks all o)) i
          rw [ht i, (restr_get (looks all o) i).1 (by unfold looks; exact List.mem_append_left _ (tmpsOf_mem hy))]
        | _ => rfl
      rw [aop_congr hcg] at he
      obtain ⟨v, h', x', h1, h2, h3, h4, h5, h6⟩ := aop_sound hT hE he
      exact glue (s' := ⟨putA o.dst v t, h', x'⟩) ⟨h3, h4, fun hh => ⟨(h5 hh).1, (h5 hh).2.1⟩, v, true, hk, fun y => by rw [putA_get, ht y], fun _ => ⟨h2, fun hh => by
        obtain ⟨rfl, rfl, h7⟩ := h5 hh
        exact h7, h6⟩, fun hh => by cases hh⟩ h1
    have skip : ∀ {t : Tm}, (∀ y, tget t y = tget s.t y) → Known all o s.t false → rops T E all os ⟨putA o.dst (.tup .fnil) t, s.h, s.x⟩ k = some r →
        ∃ st : Nat → St, st 0 = s ∧ k (st (o :: os).length) = some r ∧ ∀ j o', (o :: os)[j]? = some o' → Step P T E.q all o' (st j) (st (j + 1)) := by
      intro t ht hk he
      exact glue (s' := ⟨putA o.dst (.tup .fnil) t, s.h, s.x⟩) ⟨Nat.le_refl _, fun _ => Adds.refl, fun _ => ⟨rfl, rfl⟩, .tup .fnil, false, hk, fun y => by rw [putA_get, ht y], (fun hh => by cases hh), fun _ => ⟨rfl, rfl, rfl⟩⟩ he
    unfold rops at he
    split at he
    · rename_i hg
      exact run (fun _ => rfl) (.inl ⟨hg, rfl⟩) he
    · rename_i j b hg
      split at he
      · cases he
      · rename_i d hdj
        split at he
        · rename_i c hc
          have ht : ∀ {q : Bool}, c = q → ∀ y, tget ((d, AV.bool q) :: s.t) y = tget s.t y := fun e y => by
            subst e
            rw [tget_cons]
            by_cases e : d = y
            · subst e; rw [if_pos rfl, hc]
            · rw [if_neg e]
          cases c with
          | true =>
            cases b with
            | true => exact run (ht rfl) (.inr (.inl ⟨j, true, d, true, hg, hdj, hc, rfl⟩)) he
            | false => exact skip (ht rfl) (.inr (.inl ⟨j, false, d, true, hg, hdj, hc, rfl⟩)) he
          | false =>
            cases b with
            | true => exact skip (ht rfl) (.inr (.inl ⟨j, true, d, false, hg, hdj, hc, rfl⟩)) he
            | false => exact run (ht rfl) (.inr (.inl ⟨j, false, d, false, hg, hdj, hc, rfl⟩)) he
        · rename_i f hc
          exact skip (fun _ => rfl) (.inr (.inr ⟨j, b, d, f, hg, hdj, hc, rfl⟩)) he
        · cases he

/-! ### the check -/
inductive Before (all : List Oper) : Nat → Nat → Prop where
  | edge {i j : Nat} {o : Oper} : all[j]? = some o → i ∈ edgesOf o → Before all i j
  | trans {i j k : Nat} {o : Oper} : all[k]? = some o → j ∈ edgesOf o → Before all i j → Before all i k
theorem ancB_bit {acc : List Nat} : ∀ {l : List Nat} {i : Nat}, (ancB acc l).testBit i = true → ∃ e ∈ l, i = e ∨ (acc.getD e 0).testBit i = true
  | [], i, hh => by simp [ancB] at hh
  | e :: l, i, hh => by
    simp only [ancB, Nat.testBit_or, Bool.or_eq_true] at hh
    rcases hh with (hh | hh) | hh
    · rw [Nat.one_shiftLeft] at hh
      have : i = e := by
        rw [Nat.testBit_two_pow] at hh
        exact (of_decide_eq_true hh).symm
      exact ⟨e, by simp, .inl this⟩
    · exact ⟨e, by simp, .inr hh⟩
    · obtain ⟨e', h1, h2⟩ := ancB_bit hh
      exact ⟨e', by simp [h1], h2⟩
theorem ancsGo_spec (all : List Oper) : ∀ (os : List Oper) (acc : List Nat), (∀ j o, os[j]? = some o → all[acc.length + j]? = some o) →
    (∀ j i, (acc.getD j 0).testBit i = true → Before all i j) → ∀ j i, ((ancsGo os acc).getD j 0).testBit i = true → Before all i j
  | [], acc, _, ha => ha
  | o :: os, acc, ho, ha => by
    refine ancsGo_spec all os (acc ++ [ancB acc (edgesOf o)]) (fun j o' hj => ?_) (fun j i hb => ?_)
    · have := ho (j + 1) o' (by simpa using hj)
      rw [List.length_append, List.length_singleton, show acc.length + 1 + j = acc.length + (j + 1) by omega]; exact this
    · by_cases hj : j < acc.length
      · refine ha j i ?_
        rw [List.getD_eq_getElem?_getD, List.getElem?_append_left hj] at hb
        rw [List.getD_eq_getElem?_getD]; exact hb
      · by_cases hj' : j = acc.length
        · subst hj'
          rw [List.getD_eq_getElem?_getD, List.getElem?_append_right (Nat.le_refl _)] at hb
          simp only [Nat.sub_self, List.getElem?_cons_zero, Option.getD_some] at hb
          have h0 := ho 0 o (by simp)
          rw [Nat.add_zero] at h0
          obtain ⟨e, h1, h2⟩ := ancB_bit hb
          rcases h2 with rfl | h2
          · exact .edge h0 h1
          · exact .trans h0 h1 (ha e i h2)
        · rw [List.getD_eq_getElem?_getD, List.getElem?_append_right (by omega)] at hb
          rw [List.getElem?_eq_none (by simp; omega)] at hb
          simp at hb
theorem rowOk_spec {q : FuncId → Bool} {all : List Oper} {m : Nat} {p : Oper} : ∀ {l : List Oper} {i0 : Nat}, rowOk T q all m p i0 l = true → ∀ i o, l[i]? = some o → clash T q all o p = true → m.testBit (i0 + i) = true
  | [], i0, _, i, o, hi, _ => by simp at hi
  | a :: l, i0, hh, i, o, hi, hc => by
    simp only [rowOk, Bool.and_eq_true, Bool.or_eq_true, Bool.not_eq_true'] at hh
    cases i with
    | zero =>
      simp at hi; subst hi
      rcases hh.1 with h1 | h1
      · exact h1
      · rw [h1] at hc; cases hc
    | succ i =>
      have := rowOk_spec hh.2 i o (by simpa using hi) hc
      rwa [show i0 + 1 + i = i0 + (i + 1) by omega] at this
theorem drawGo_spec {q : FuncId → Bool} {all : List Oper} {A : List Nat} : ∀ {l : List Oper} {j0 : Nat}, drawGo T q all A j0 l = true → ∀ j p, l[j]? = some p →
    (∀ e ∈ edgesOf p, e < j0 + j) ∧ ∀ i o, i < j0 + j → all[i]? = some o → clash T q all o p = true → (A.getD (j0 + j) 0).testBit i = true
  | [], j0, _, j, p, hj => by simp at hj
  | a :: l, j0, hh, j, p, hj => by
    simp only [drawGo, Bool.and_eq_true, List.all_eq_true] at hh
    cases j with
    | zero =>
      simp at hj; subst hj
      refine ⟨fun e he => Nat.blt_eq.mp (hh.1.1 e he), fun i o hi ho hc => ?_⟩
      have := rowOk_spec hh.1.2 i o (by rw [List.getElem?_take, if_pos (by omega)]; exact ho) hc
      simpa using this
    | succ j =>
      have := drawGo_spec hh.2 j p (by simpa using hj)
      rw [show j0 + 1 + j = j0 + (j + 1) by omega] at this
      exact this
structure Draws (T : Types) (q : FuncId → Bool) (all : List Oper) : Prop where
  back : ∀ j p, all[j]? = some p → ∀ e ∈ edgesOf p, e < j
  clash : ∀ i j o p, i < j → all[i]? = some o → all[j]? = some p → clash T q all o p = true → Before all i j
theorem drawOk_spec {q : FuncId → Bool} {all : List Oper} (hh : drawOk T q all = true) : Draws T q all := by
  unfold drawOk at hh
  refine ⟨fun j p hj e he => ?_, fun i j o p hij hi hj hc => ?_⟩
  · have := (drawGo_spec hh j p hj).1 e he; omega
  · have := (drawGo_spec hh j p hj).2 i o (by omega) hi hc
    rw [Nat.zero_add] at this
    exact ancsGo_spec all all [] (fun j o hj => by simpa using hj) (fun j i hb => by simp at hb) j i this
/-! ### what clashes -/
section
variable {q : FuncId → Bool} {all : List Oper} {o p : Oper}
theorem clsW_E {op : Op} (hw : clsW q op = true) : clsE T q op = true := by
  cases op <;> first | rfl | (cases hw; done) | exact hw
theorem clash_E (h1 : clsE T q o.op = true) (h2 : clsE T q p.op = true) : clash T q all o p = true := by simp [clash, h1, h2]
theorem clash_W1 (h1 : clsW q o.op = true) (h2 : clsP T p.op = false) : clash T q all o p = true := by simp [clash, h1, h2]
theorem clash_W2 (h1 : clsP T o.op = false) (h2 : clsW q p.op = true) : clash T q all o p = true := by simp [clash, h1, h2]
theorem clash_hit1 {d : Nat} (h1 : o.dst = some d) (h2 : d ∈ looks all p) : clash T q all o p = true := by
  have : hits all o p = true := by unfold hits; rw [h1]; simp [memN_mem.2 h2]
  simp [clash, this]
theorem clash_hit2 {d : Nat} (h1 : o.dst = some d) (h2 : p.dst = some d) : clash T q all o p = true := by
  have : hits all o p = true := by unfold hits; rw [h1, h2]; simp
  simp [clash, this]
theorem clash_hit3 {d : Nat} (h1 : p.dst = some d) (h2 : d ∈ looks all o) : clash T q all o p = true := by
  have : hits all o p = true := by unfold hits; rw [h1]; simp [memN_mem.2 h2]
  simp [clash, this]
end
end Go.Proofs.Ytjehpceomlnicaa.Eng
