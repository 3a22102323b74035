/-
The engine, eighth text: numbers, strings, slices of slices, and what writes or makes memory. Plain lemmas.
Conditions: none.
-/
import Derived.Test.YtfcloeflcpcheaaGreatEngG
set_option linter.unusedVariables false
set_option linter.unusedSimpArgs false
namespace Go.Proofs.YtfcloeflcpcheaaGreat.Eng
variable {P : Program} {T : Types} {σ σ' : Sg} {R R' : Ro} {h h' : Hp} {x x' : Nat} {w w' : World} {X : Type} {r : X}
theorem cond_some {b : Bool} {u : Option X} (he : (bif b then u else none) = some r) : b = true ∧ u = some r := by
 cases b
 ·cases he
 ·exact ⟨rfl, he⟩
theorem cond_none {b : Bool} {u : Option X} (he : (bif b then none else u) = some r) : b = false ∧ u = some r := by
 cases b
 ·exact ⟨rfl, he⟩
 ·cases he
theorem eqGuard_plain {op : BinOp} {t : TypeId} {ox oy : Operand} {a b : Value} (ha : ∀ l, a ≠ .agg l) (hb : a ≠ .nilIface) (w : World) : (eqGuard op t ox oy a b).run P w = .ok () w := by
 cases a <;> first | exact absurd rfl hb | exact absurd rfl (ha _) | (unfold eqGuard; cases op <;> rfl)
def Bin (P : Program) (op : BinOp) (t : TypeId) (ox oy : Operand) (a b : Value) : Sem Value := do eqGuard op t ox oy a b; Go.binOp op t a b
theorem Bin_plain {op : BinOp} {t : TypeId} {ox oy : Operand} {a b : Value} (ha : ∀ l, a ≠ .agg l) (hb : a ≠ .nilIface) (w : World) : (Bin P op t ox oy a b).run P w = (Go.binOp op t a b).run P w := by
 unfold Bin
 rw [Sem.run_bind, eqGuard_plain ha hb]
 rfl
theorem binI_sound {op : BinOp} {ka kb : IntKind} {a b : Int} {k : K1 X} (t : TypeId) (he : binI op ka a kb b k = some r) :
  ∃ v, k v = some r ∧ (v.cell || v.agg) = true ∧ ∀ {σ R} {w : World}, ∃ cv, (Go.binOp op t (.int ka a) (.int kb b)).run P w = .ok cv w ∧ V0 σ R v cv := by
 cases op <;> simp only [binI] at he
 case shl =>
  obtain ⟨h1, he⟩ := cond_none he
  simp only [decide_eq_false_iff_not] at h1
  exact ⟨_, he, rfl, fun {σ R w} => ⟨_, by simp [Go.binOp, Op.shift, h1]; rfl, rfl⟩⟩
 case shr =>
  obtain ⟨h1, he⟩ := cond_none he
  simp only [decide_eq_false_iff_not] at h1
  exact ⟨_, he, rfl, fun {σ R w} => ⟨_, by simp [Go.binOp, Op.shift, h1]; rfl, rfl⟩⟩
 all_goals
  obtain ⟨h1, he1⟩ := cond_some he
  clear he
  simp only [decide_eq_true_eq] at h1
  subst h1
  have he := he1
  clear he1
 case quo =>
  obtain ⟨h2, he⟩ := cond_none he
  simp only [decide_eq_false_iff_not] at h2
  exact ⟨_, he, rfl, fun {σ R w} => ⟨_, by simp [Go.binOp, Op.intDiv, h2]; rfl, rfl⟩⟩
 case rem =>
  obtain ⟨h2, he⟩ := cond_none he
  simp only [decide_eq_false_iff_not] at h2
  exact ⟨_, he, rfl, fun {σ R w} => ⟨_, by simp [Go.binOp, Op.intDiv, h2]; rfl, rfl⟩⟩
 all_goals
  exact ⟨_, he, rfl, fun {σ R w} => ⟨_, by simp only [Go.binOp, ne_eq, not_true_eq_false, if_false]; rfl, rfl⟩⟩
theorem binS_sound {op : BinOp} {a b : ByteArray} {k : K1 X} (t : TypeId) (he : binS op a b k = some r) :
  ∃ v, k v = some r ∧ (v.cell || v.agg) = true ∧ ∀ {σ R} {w : World}, ∃ cv, (Go.binOp op t (.string a) (.string b)).run P w = .ok cv w ∧ V0 σ R v cv := by
 cases op <;> simp only [binS, reduceCtorEq] at he
 case add =>
  obtain ⟨h1, he⟩ := cond_some he
  have h1' := of_decide_eq_true h1
  unfold maxI64 at h1'
  refine ⟨_, he, rfl, fun {σ R w} => ⟨_, ?_, rfl⟩⟩
  have h2 : ¬ (((a.size + b.size : Nat) : Int) > IntKind.i64.max) := by
   show ¬ (((a.size + b.size : Nat) : Int) > 9223372036854775807); omega
  simp only [Go.binOp, Op.stringOp]
  rw [if_neg h2]
  rfl
 all_goals
  exact ⟨_, he, rfl, fun {σ R w} => ⟨_, by simp only [Go.binOp, Op.stringOp]; rfl, rfl⟩⟩
theorem eqlK_some {op : BinOp} {o : Option Bool} {k : K1 X} (he : eqlK op o k = some r) : ∃ b, o = some b ∧ ((op = .eql ∧ k (.bool b) = some r) ∨ (op = .neq ∧ k (.bool (!b)) = some r)) := by
 unfold eqlK at he
 cases o with
 | none => cases he
 | some b =>
  refine ⟨b, rfl, ?_⟩
  cases op <;> simp only [reduceCtorEq] at he
  ·exact .inl ⟨rfl, he⟩
  ·exact .inr ⟨rfl, he⟩
theorem equal_bool {t : TypeId} (hu : P.underlying t = some .bool) (w : World) {a b : Bool} : (Op.equal t (.bool a) (.bool b)).run P w = .ok (a == b) w := by
 show (Op.equalIn (9999 + 1) t (.bool a) (.bool b)).run P w = .ok (a == b) w
 generalize 9999 = d
 simp [Op.equalIn, run_underlying hu]
theorem equal_nil_nil {t e : TypeId} (hu : P.underlying t = some (.pointer e)) (w : World) : (Op.equal t (.pointer none) (.pointer none)).run P w = .ok true w := by
 show (Op.equalIn (9999 + 1) t (.pointer none) (.pointer none)).run P w = .ok true w
 generalize 9999 = d
 simp [Op.equalIn, run_underlying hu]
theorem equal_nil_ptr {t e : TypeId} (hu : P.underlying t = some (.pointer e)) (w : World) {a : Addr} : (Op.equal t (.pointer none) (.pointer (some a))).run P w = .ok false w := by
 show (Op.equalIn (9999 + 1) t (.pointer none) (.pointer (some a))).run P w = .ok false w
 generalize 9999 = d
 simp [Op.equalIn, run_underlying hu]
theorem equal_ptr_nil {t e : TypeId} (hu : P.underlying t = some (.pointer e)) (w : World) {a : Addr} : (Op.equal t (.pointer (some a)) (.pointer none)).run P w = .ok false w := by
 show (Op.equalIn (9999 + 1) t (.pointer (some a)) (.pointer none)).run P w = .ok false w
 generalize 9999 = d
 simp [Op.equalIn, run_underlying hu]
theorem eql_run {t : TypeId} {a b : Value} {q : Bool} (hq : (Op.equal t a b).run P w = .ok q w) (ha : Go.binOp .eql t a b = (do pure (.bool (← Op.equal t a b))) := by rfl) : (Go.binOp .eql t a b).run P w = .ok (.bool q) w := by
 rw [ha]; simp [hq]
theorem neq_run {t : TypeId} {a b : Value} {q : Bool} (hq : (Op.equal t a b).run P w = .ok q w) (ha : Go.binOp .neq t a b = (do pure (.bool (!(← Op.equal t a b)))) := by rfl) : (Go.binOp .neq t a b).run P w = .ok (.bool (!q)) w := by
 rw [ha]; simp [hq]
theorem bin_sound {op : BinOp} {x y : AV} {k : K1 X} (t : TypeId) (ox oy : Operand) (hT : ∀ {n p}, (x = .ptr n p ∨ y = .ptr n p ∨ x = .nilp) → ∃ e, P.underlying t = some (.pointer e)) (hB : ∀ {b}, x = .bool b → P.underlying t = some .bool) (he : bin op x y k = some r) :
  ∃ v, k v = some r ∧ (v.cell || v.agg) = true ∧ ∀ {σ R} {w : World} {cx cy}, VV σ R x cx → VV σ R y cy → ∃ cv, (Bin P op t ox oy cx cy).run P w = .ok cv w ∧ V0 σ R v cv := by
 unfold bin at he
 split at he
 ·obtain ⟨v, h1, h2, h3⟩ := binI_sound (P := P) t he
  refine ⟨v, h1, h2, fun {σ R w cx cy} hx hy => ?_⟩
  obtain rfl : cx = _ := hx
  obtain rfl : cy = _ := hy
  rw [Bin_plain (by intro l h; cases h) (by intro h; cases h)]
  exact h3
 ·obtain ⟨v, h1, h2, h3⟩ := binS_sound (P := P) t he
  refine ⟨v, h1, h2, fun {σ R w cx cy} hx hy => ?_⟩
  obtain rfl : cx = _ := hx
  obtain rfl : cy = _ := hy
  rw [Bin_plain (by intro l h; cases h) (by intro h; cases h)]
  exact h3
 ·rename_i a b
  have hu := hB rfl
  obtain ⟨q, hq, he⟩ := eqlK_some he
  cases hq
  rcases he with ⟨rfl, he⟩ | ⟨rfl, he⟩
  ·refine ⟨_, he, rfl, fun {σ R w cx cy} hx hy => ?_⟩
   obtain rfl : cx = _ := hx
   obtain rfl : cy = _ := hy
   rw [Bin_plain (by intro l h; cases h) (by intro h; cases h)]
   exact ⟨_, eql_run (equal_bool hu w), rfl⟩
  ·refine ⟨_, he, rfl, fun {σ R w cx cy} hx hy => ?_⟩
   obtain rfl : cx = _ := hx
   obtain rfl : cy = _ := hy
   rw [Bin_plain (by intro l h; cases h) (by intro h; cases h)]
   exact ⟨_, neq_run (equal_bool hu w), rfl⟩
 ·obtain ⟨e, hu⟩ := hT (n := 0) (p := []) (.inr (.inr rfl))
  obtain ⟨q, hq, he⟩ := eqlK_some he
  cases hq
  rcases he with ⟨rfl, he⟩ | ⟨rfl, he⟩
  ·refine ⟨_, he, rfl, fun {σ R w cx cy} hx hy => ?_⟩
   obtain rfl : cx = _ := hx
   obtain rfl : cy = _ := hy
   rw [Bin_plain (by intro l h; cases h) (by intro h; cases h)]
   exact ⟨_, eql_run (equal_nil_nil hu w), rfl⟩
  ·refine ⟨_, he, rfl, fun {σ R w cx cy} hx hy => ?_⟩
   obtain rfl : cx = _ := hx
   obtain rfl : cy = _ := hy
   rw [Bin_plain (by intro l h; cases h) (by intro h; cases h)]
   exact ⟨_, neq_run (equal_nil_nil hu w), rfl⟩
 ·obtain ⟨e, hu⟩ := hT (.inl rfl)
  obtain ⟨q, hq, he⟩ := eqlK_some he
  cases hq
  rcases he with ⟨rfl, he⟩ | ⟨rfl, he⟩
  ·refine ⟨_, he, rfl, fun {σ R w cx cy} hx hy => ?_⟩
   obtain ⟨B, o, _, _, _, rfl⟩ := hx
   obtain rfl : cy = _ := hy
   rw [Bin_plain (by intro l h; cases h) (by intro h; cases h)]
   exact ⟨_, eql_run (equal_ptr_nil hu w), rfl⟩
  ·refine ⟨_, he, rfl, fun {σ R w cx cy} hx hy => ?_⟩
   obtain ⟨B, o, _, _, _, rfl⟩ := hx
   obtain rfl : cy = _ := hy
   rw [Bin_plain (by intro l h; cases h) (by intro h; cases h)]
   exact ⟨_, neq_run (equal_ptr_nil hu w), rfl⟩
 ·obtain ⟨e, hu⟩ := hT (n := 0) (p := []) (.inr (.inr rfl))
  obtain ⟨q, hq, he⟩ := eqlK_some he
  cases hq
  rcases he with ⟨rfl, he⟩ | ⟨rfl, he⟩
  ·refine ⟨_, he, rfl, fun {σ R w cx cy} hx hy => ?_⟩
   obtain rfl : cx = _ := hx
   obtain ⟨B, o, _, _, _, rfl⟩ := hy
   rw [Bin_plain (by intro l h; cases h) (by intro h; cases h)]
   exact ⟨_, eql_run (equal_nil_ptr hu w), rfl⟩
  ·refine ⟨_, he, rfl, fun {σ R w cx cy} hx hy => ?_⟩
   obtain rfl : cx = _ := hx
   obtain ⟨B, o, _, _, _, rfl⟩ := hy
   rw [Bin_plain (by intro l h; cases h) (by intro h; cases h)]
   exact ⟨_, neq_run (equal_nil_ptr hu w), rfl⟩
 ·cases he
end Go.Proofs.YtfcloeflcpcheaaGreat.Eng
