/-
The engine, last text: how many bytes a law's texts have at most. Plain lemmas.
Conditions: none.
-/
import Derived.Test.YtnfhngcdddjilaaEngY
import Derived.SizedLaws
set_option linter.unusedVariables false
set_option linter.unusedSimpArgs false
namespace Go.Proofs.Ytnfhngcdddjilaa.Eng
variable {P : Program} {T : Types} {σ : Sg} {w : World} {H : Type} {enc : TypeId × Value → H} {spare : Nat → Bool}
theorem weigh_one {t : TypeId} {ts : List TypeId} {d : DataW H} {r : List (DataW H)} (hh : (DataW.weightsEach P (t :: ts) (d :: r)).all (fun n => decide (n ≤ reachBytes)) = true) :
    (∀ x ∈ d.weights P t, x ≤ reachBytes) ∧ (DataW.weightsEach P ts r).all (fun n => decide (n ≤ reachBytes)) = true := by
  have e : DataW.weightsEach P (t :: ts) (d :: r) = d.weights P t ++ DataW.weightsEach P ts r := by rw [DataW.weightsEach]
  rw [e, List.all_append, Bool.and_eq_true] at hh
  exact ⟨fun x hx => of_decide_eq_true (List.all_eq_true.1 hh.1 x hx), hh.2⟩
theorem weigh_all {e : TypeId} : ∀ {l : List (DataW H)} {d : DataW H}, d ∈ l → ∀ x ∈ d.weights P e, x ∈ DataW.weightsAll P e l
  | a :: l, d, hd, x, hx => by
    rw [DataW.weightsAll, List.mem_append]
    rcases List.mem_cons.1 hd with rfl | hd
    · exact .inl hx
    · exact .inr (weigh_all hd x hx)
theorem size_str1 (hT : TyOk P T) {t : TypeId} (hs : schOk T .str t [] 0 = true) {s : ByteArray} {fuel : Nat} {y : DataW H × List MemPlace} (hd : DataW.trod enc P w 0 spare true fuel t [.string s] = some y)
    (hz : ∀ x ∈ y.1.weights P t, x ≤ reachBytes) : s.size ≤ reachBytes := by
  have hu := isStr_spec hT hs
  cases fuel with
  | zero => simp [DataW.trod] at hd
  | succ n =>
    unfold DataW.trod at hd
    rw [hu] at hd
    dsimp only at hd
    split at hd
    · cases hd
      have := hz s.data.toList.length (by rw [DataW.weights]; simp)
      simpa using this
    · cases hd
theorem size_str (hT : TyOk P T) {t : TypeId} (hs : schOk T .str t [] 0 = true) {s : ByteArray} {v : Value} {d : DataW H} {ps : List MemPlace} (hv : VV σ (Rall w) (toAV .str s) v) (hd : DataW.Trod enc P w 0 spare true t v d ps)
    (hz : ∀ x ∈ d.weights P t, x ≤ reachBytes) : s.size ≤ reachBytes := by
  obtain ⟨fuel, hd⟩ := hd
  have hv : v = .string s := hv
  subst hv
  exact size_str1 hT hs hd hz
theorem size_strs (hT : TyOk P T) {t : TypeId} (hs : schOk T (.sl .str) t [] 0 = true) {l : List ByteArray} {v : Value} {d : DataW H} {ps : List MemPlace} (hv : VV σ (Rall w) (toAV (.sl .str) l) v) (hd : DataW.Trod enc P w 0 spare true t v d ps)
    (hz : ∀ x ∈ d.weights P t, x ≤ reachBytes) : ∀ s ∈ l, s.size ≤ reachBytes := by
  obtain ⟨fuel, hd⟩ := hd
  simp only [schOk, Bool.and_eq_true, Bool.not_eq_true'] at hs
  obtain ⟨h1, h3⟩ := hs
  split at h3
  · rename_i ti hti
    obtain ⟨i, dd, hi⟩ := hT.is hti
    split at h3
    · rename_i e hk
      have := hi.slice hk
      subst this
      simp only [Bool.and_eq_true] at h3
      obtain ⟨h5, h6⟩ := h3
      have hsz := szOk_spec hT h5
      obtain ⟨A, cap, hcv, g1, g2, g3⟩ := hv
      simp only [List.cons.injEq, and_true] at hcv
      subst hcv
      intro s hsl
      obtain ⟨j, hj, rfl⟩ := List.mem_iff_getElem.1 hsl
      obtain ⟨ad, rfl, g4⟩ := g3 (by omega)
      rcases DataW.trod_slice hi.und hd with ⟨hc, _⟩ | ⟨a, len, cap', elems, rest, n, _, hc, hy, q1, q2, q3, q4, q5, _⟩
      · cases hc
      · have hc : [Value.slice (some ad) l.length cap] = [Value.slice (some a) len cap'] := hc
        simp only [List.cons.injEq, Value.slice.injEq, Option.some.injEq, and_true] at hc
        obtain ⟨rfl, rfl, rfl⟩ := hc
        have := q5 j hj
        rw [List.getElem?_eq_getElem (by omega), hsz] at this
        obtain ⟨c, hc, hdd⟩ := Option.bind_eq_some_iff.1 this
        obtain ⟨_, k1, k2⟩ := World.cells?_some hc
        obtain ⟨c', ⟨r1, r2⟩, r3⟩ := g4 j hj
        have r3 : c' = [Value.string (l.getD j (Sch.zero .str))] := r3
        have e0 : c = c' := by
          apply List.ext_getElem?
          intro i
          by_cases hi : i < c'.length
          · have hr := r2 i c'[i] (List.getElem?_eq_getElem hi)
            have hr : w.cell? ((ad.add (j * Sch.str.w)).add i) = some c'[i] := hr
            have hk := k2 i (by rw [r1] at hi; exact hi)
            rw [List.getElem?_eq_getElem hi, ← hr]
            exact hk.symm
          · rw [r1] at hi
            rw [List.getElem?_eq_none (show c.length ≤ i by rw [k1]; omega), List.getElem?_eq_none (show c'.length ≤ i by rw [r1]; omega)]
        rw [e0, r3] at hdd
        have hl : l.getD j (Sch.zero .str) = l[j] := by simp [List.getD_eq_getElem?_getD, hj]
        rw [hl] at hdd
        refine size_str1 hT h6 hdd fun x hx => hz x ?_
        have hd1 : d = .slice (elems.map (·.1)) (rest.map (·.1)) := congrArg Prod.fst hy
        rw [hd1, DataW.weights, hi.und]
        simp only [List.mem_cons, List.mem_append]
        exact .inr (.inl (weigh_all (List.mem_map.2 ⟨elems[j], List.getElem_mem _, rfl⟩) x hx))
    · cases h3
  · cases h3
end Go.Proofs.Ytnfhngcdddjilaa.Eng
