/-
The engine, twenty-first text: whatever order a region draws, it comes to what the text's order comes to. Plain lemmas.
Conditions: the program's operations follow mixed orders.
-/
import Derived.Test.YtjehpceomlnicaaEngT
set_option linter.unusedVariables false
set_option linter.unusedSimpArgs false
set_option linter.unusedSectionVars false
namespace Go.Proofs.Ytjehpceomlnicaa.Eng
variable {P : Program} {T : Types} {σ σ' : Sg} {R R' : Ro} {h h' : Hp} {x x' : Nat} {w w' : World} {X : Type} {r : X} {N : Nat}

/-! ### memory, of which a part is known -/
theorem HR.sub {h1 : Hp} (hr : HR P σ R h x w) (hs : ∀ n b k, σ n = some b → hget h1 n = some k → hget h n = some k) : HR P σ R h1 x w := by
  have hal : ∀ n b, σ n = some b → Alive h1 n → Alive h n := fun n b hn hl => by
    obtain ⟨k, hk⟩ := Option.ne_none_iff_exists'.1 hl
    unfold Alive; rw [hs n b k hn hk]; simp
  exact ⟨fun n b k h1 h2 => hr.shp n b k h1 (hs n b k h1 h2), fun n b k h1 h2 => hr.mpb n b k h1 (hs n b k h1 h2), fun n b k h1 h2 => hr.blk n b k h1 (hs n b k h1 h2), hr.dom, fun n m b b' h1 h2 h3 h4 => hr.inj n m b b' h1 h2 (hal n b h1 h3) (hal m b' h2 h4), hr.ro, fun n b a h1 h2 => hr.sep n b a h1 (hal n b h1 h2), hr.lt⟩
theorem HR.frame {h1 : Hp} (hr : HR P σ R h x w) (hs : ∀ n b k, σ n = some b → hget h1 n = some k → hget h n = some k) (hr' : HR P σ' R' h1 x w') (he : Ext σ R h1 x w σ' R' h1 x w') :
    HR P σ' R' h x w' ∧ Ext σ R h x w σ' R' h x w' := by
  have hsg : ∀ n b, σ' n = some b → σ n = some b := fun n b hn => by rw [← he.sg n (hr'.dom n b hn)]; exact hn
  have hal : ∀ n b, σ n = some b → Alive h1 n → Alive h n := fun n b hn hl => by
    obtain ⟨k, hk⟩ := Option.ne_none_iff_exists'.1 hl
    unfold Alive; rw [hs n b k hn hk]; simp
  have other : ∀ n b m b', σ n = some b → Alive h n → b.nil = false → ¬ Alive h1 n → σ m = some b' → Alive h1 m → b'.nil = false → b'.g ≠ b.g := by
    intro n b m b' h1 h2 h3 h4 h5 h6 h7 e
    have := hr.inj m n b' b h5 h1 (hal m b' h5 h6) h2 h7 h3 e
    subst this
    exact h4 h6
  refine ⟨⟨fun n b k hn hk => hr.shp n b k (hsg n b hn) hk, fun n b k hn hk hnl hmp => ?_, fun n b k hn hk hnl hmp => ?_, hr'.dom, fun n m b b' hn hm => hr.inj n m b b' (hsg n b hn) (hsg m b' hm), hr'.ro, fun n b a hn ha hnl hR => ?_, fun n b hn hnl => Nat.lt_of_lt_of_le (hr.lt n b (hsg n b hn) hnl) he.fr.size⟩,
    ⟨⟨he.fr.os, he.fr.tape, he.fr.output, he.fr.size, fun i hi hne => he.fr.block i hi fun n b hn ha => hne n b hn (hal n b hn ha)⟩, he.le, he.sg, he.rr, fun a hR => ?_, fun n b hn ha hnl => .inl ⟨n, b, hsg n b hn, ha, hnl, rfl⟩⟩⟩
  · by_cases ha : Alive h1 n
    · obtain ⟨k', hk'⟩ := Option.ne_none_iff_exists'.1 ha
      have := hs n b k' (hsg n b hn) hk'
      rw [hk] at this; cases this
      exact hr'.mpb n b k hn hk' hnl hmp
    · have hah : Alive h n := by unfold Alive; rw [hk]; simp
      exact (hr.mpb n b k (hsg n b hn) hk hnl hmp).heap (he.fr.block b.g (hr.lt n b (hsg n b hn) hnl) fun m b' hm ham hml => other n b m b' (hsg n b hn) hah hnl ha hm ham hml)
  · by_cases ha : Alive h1 n
    · obtain ⟨k', hk'⟩ := Option.ne_none_iff_exists'.1 ha
      have := hs n b k' (hsg n b hn) hk'
      rw [hk] at this; cases this
      exact hr'.blk n b k hn hk' hnl hmp
    · have hah : Alive h n := by unfold Alive; rw [hk]; simp
      obtain ⟨q1, cs, fr, q2, q3, q4, q5⟩ := hr.blk n b k (hsg n b hn) hk hnl hmp
      refine ⟨q1, cs, fr, ?_, q3, VC.mono (fun m bm hm => (he.sg m (hr.dom m bm hm)).trans hm) he.rr q4, q5⟩
      rw [he.fr.block b.g (hr.lt n b (hsg n b hn) hnl) fun m b' hm ham hml => other n b m b' (hsg n b hn) hah hnl ha hm ham hml]
      exact q2
  · by_cases hal1 : Alive h1 n
    · exact hr'.sep n b a hn hal1 hnl hR
    · rcases he.rfoot a hR with h2 | ⟨m, b', p1, p2, p3, p4⟩ | hge
      · exact hr.sep n b a (hsg n b hn) ha hnl h2
      · exact fun e => other n b m b' (hsg n b hn) ha hnl hal1 p1 p2 p3 (p4.trans e)
      · have := hr.lt n b (hsg n b hn) hnl; omega
  · rcases he.rfoot a hR with h2 | ⟨m, b', p1, p2, p3, p4⟩ | hge
    · exact .inl h2
    · exact .inr (.inl ⟨m, b', p1, hal m b' p1 p2, p3, p4⟩)
    · exact .inr (.inr hge)

/-! ### whatever has been done so far -/
def In (S : Array Bool) (j : Nat) : Prop := S[j]? = some true
section
variable {q : FuncId → Bool} {all : List Oper} {st : Nat → St} {σs : Sg} {Rs : Ro} {ws : World}
structure Mem (P : Program) (T : Types) (q : FuncId → Bool) (all : List Oper) (st : Nat → St) (σs : Sg) (Rs : Ro) (ws : World) (S : Array Bool) (σ : Sg) (R : Ro) (w : World) (e : Nat) : Prop where
  le : e ≤ all.length
  done : ∀ i o, i < e → all[i]? = some o → clsE T q o.op = true → In S i
  next : ∀ o, all[e]? = some o → clsE T q o.op = true ∧ ¬ In S e
  hr : HR P σ R (st e).h (st e).x w
  ext : Ext σs Rs (st 0).h (st 0).x ws σ R (st e).h (st e).x w
structure Inv (P : Program) (N : Nat) (T : Types) (q : FuncId → Bool) (all : List Oper) (st : Nat → St) (σs : Sg) (Rs : Ro) (ws : World) (S : Array Bool) (σ : Sg) (R : Ro) (a : Act) (w : World) : Prop where
  size : S.size = all.length
  closed : ∀ j p, In S j → all[j]? = some p → ∀ e ∈ edgesOf p, In S e
  tm0 : ∀ y, (∀ j p, In S j → all[j]? = some p → p.dst ≠ some y) → VV σ R (tget (st 0).t y) (a.tmps.getD y undef)
  tm1 : ∀ j p y, In S j → all[j]? = some p → p.dst = some y → (∀ i o, In S i → all[i]? = some o → j < i → o.dst ≠ some y) → VV σ R (tget (st (j + 1)).t y) (a.tmps.getD y undef)
  len : a.tmps.size = N
  df : a.defers = []
  mem : ∃ e, Mem P T q all st σs Rs ws S σ R w e
theorem before_in {S : Array Bool} (hc : ∀ j p, In S j → all[j]? = some p → ∀ e ∈ edgesOf p, In S e) {i j : Nat} (hb : Before all i j) : In S j → In S i := by
  induction hb with
  | edge h1 h2 => exact fun hj => hc _ _ hj h1 _ h2
  | trans h1 h2 _ ih => exact fun hj => ih (hc _ _ hj h1 _ h2)
theorem ready_in {S : Array Bool} (hc : ∀ j p, In S j → all[j]? = some p → ∀ e ∈ edgesOf p, In S e) {i j : Nat} {o : Oper} (ho : all[j]? = some o) (hr : ∀ e ∈ edgesOf o, In S e) (hb : Before all i j) : In S i := by
  cases hb with
  | edge h1 h2 => rw [ho] at h1; cases h1; exact hr _ h2
  | trans h1 h2 h3 => rw [ho] at h1; cases h1; exact before_in hc h3 (hr _ h2)
variable (hst : ∀ j o, all[j]? = some o → Step P T q all o (st j) (st (j + 1)))
include hst
theorem last_write (y : Nat) : ∀ j, j ≤ all.length → ((∀ i o, i < j → all[i]? = some o → o.dst ≠ some y) ∧ tget (st j).t y = tget (st 0).t y) ∨
    ∃ L o, L < j ∧ all[L]? = some o ∧ o.dst = some y ∧ (∀ i o, L < i → i < j → all[i]? = some o → o.dst ≠ some y) ∧ tget (st j).t y = tget (st (L + 1)).t y
  | 0, _ => .inl ⟨fun i o hi => by omega, rfl⟩
  | j + 1, hj => by
    obtain ⟨o, ho⟩ : ∃ o, all[j]? = some o := ⟨all[j], by rw [List.getElem?_eq_getElem (by omega)]⟩
    obtain ⟨v, b, _, hu, _⟩ := (hst j o ho).does
    by_cases hd : o.dst = some y
    · exact .inr ⟨j, o, by omega, ho, hd, fun i o h1 h2 => by omega, rfl⟩
    · have hk : tget (st (j + 1)).t y = tget (st j).t y := by rw [hu y, if_neg hd]
      rcases last_write y j (by omega) with ⟨h1, h2⟩ | ⟨L, oL, h1, h2, h3, h4, h5⟩
      · refine .inl ⟨fun i oi hi hoi => ?_, hk.trans h2⟩
        by_cases e : i = j
        · subst e; rw [ho] at hoi; cases hoi; exact hd
        · exact h1 i oi (by omega) hoi
      · refine .inr ⟨L, oL, by omega, h2, h3, fun i oi hL hi hoi => ?_, hk.trans h5⟩
        by_cases e : i = j
        · subst e; rw [ho] at hoi; cases hoi; exact hd
        · exact h4 i oi hL (by omega) hoi
theorem still {m : Nat} : ∀ d, m + d ≤ all.length → (∀ i o, m ≤ i → i < m + d → all[i]? = some o → clsE T q o.op = false) → (st (m + d)).h = (st m).h ∧ (st (m + d)).x = (st m).x
  | 0, _, _ => ⟨rfl, rfl⟩
  | d + 1, hl, hh => by
    obtain ⟨h1, h2⟩ := still d (by omega) fun i o a b => hh i o a (by omega)
    obtain ⟨o, ho⟩ : ∃ o, all[m + d]? = some o := ⟨all[m + d], by rw [List.getElem?_eq_getElem (by omega)]⟩
    obtain ⟨h3, h4⟩ := (hst (m + d) o ho).eq (hh _ o (by omega) (by omega) ho)
    exact ⟨h3.trans h1, h4.trans h2⟩
theorem adding {m : Nat} : ∀ d, m + d ≤ all.length → (∀ i o, m ≤ i → i < m + d → all[i]? = some o → clsW q o.op = false) → Adds (st m).h (st m).x (st (m + d)).h (st (m + d)).x
  | 0, _, _ => Adds.refl
  | d + 1, hl, hh => by
    obtain ⟨o, ho⟩ : ∃ o, all[m + d]? = some o := ⟨all[m + d], by rw [List.getElem?_eq_getElem (by omega)]⟩
    exact (adding d (by omega) fun i o a b => hh i o a (by omega)).trans ((hst (m + d) o ho).adds (hh _ o (by omega) (by omega) ho))
omit hst in
theorem next_eff (T : Types) (q : FuncId → Bool) (all : List Oper) : ∀ (d m : Nat), m + d = all.length → ∃ e, m ≤ e ∧ e ≤ all.length ∧ (∀ i o, m ≤ i → i < e → all[i]? = some o → clsE T q o.op = false) ∧ ∀ o, all[e]? = some o → clsE T q o.op = true
  | 0, m, hm => ⟨m, by omega, by omega, fun i o h1 h2 => by omega, fun o ho => by rw [List.getElem?_eq_none (by omega)] at ho; cases ho⟩
  | d + 1, m, hm => by
    obtain ⟨o, ho⟩ : ∃ o, all[m]? = some o := ⟨all[m], by rw [List.getElem?_eq_getElem (by omega)]⟩
    cases hq : clsE T q o.op with
    | true => exact ⟨m, by omega, by omega, fun i o h1 h2 => by omega, fun o' ho' => by rw [ho] at ho'; cases ho'; exact hq⟩
    | false =>
      obtain ⟨e, h1, h2, h3, h4⟩ := next_eff T q all d (m + 1) (by omega)
      refine ⟨e, by omega, h2, fun i oi h5 h6 h7 => ?_, h4⟩
      by_cases hi : i = m
      · subst hi; rw [ho] at h7; cases h7; exact hq
      · exact h3 i oi (by omega) h6 h7
variable (hD : Draws T q all)
include hD
theorem Inv.look {S : Array Bool} {a : Act} (hI : Inv P N T q all st σs Rs ws S σ R a w) {j : Nat} {o : Oper} (ho : all[j]? = some o) (hr : ∀ e ∈ edgesOf o, In S e) (hn : ¬ In S j) {y : Nat} (hy : y ∈ looks all o) :
    VV σ R (tget (st j).t y) (a.tmps.getD y undef) := by
  have hjl : j < all.length := (List.getElem?_eq_some_iff.1 ho).1
  have late : ∀ i oi, j < i → all[i]? = some oi → oi.dst = some y → ¬ In S i := fun i oi hij hoi hd hS =>
    hn (before_in hI.closed (hD.clash j i o oi hij ho hoi (clash_hit3 hd hy)) hS)
  rcases last_write hst y j (by omega) with ⟨h1, h2⟩ | ⟨L, oL, h1, h2, h3, h4, h5⟩
  · rw [h2]
    refine hI.tm0 y fun i oi hS hoi hd => ?_
    rcases Nat.lt_trichotomy i j with hij | hij | hij
    · exact h1 i oi hij hoi hd
    · subst hij; exact hn hS
    · exact late i oi hij hoi hd hS
  · rw [h5]
    have hL : In S L := ready_in hI.closed ho hr (hD.clash L j oL o h1 h2 ho (clash_hit1 h3 hy))
    refine hI.tm1 L oL y hL h2 h3 fun i oi hS hoi hLi hd => ?_
    rcases Nat.lt_trichotomy i j with hij | hij | hij
    · exact h4 i oi hLi hij hoi hd
    · subst hij; exact hn hS
    · exact late i oi hij hoi hd hS
omit hst hD in
theorem in_set {S : Array Bool} {j i : Nat} (hj : j < S.size) : In (S.setIfInBounds j true) i ↔ i = j ∨ In S i := by
  unfold In
  rw [Array.getElem?_setIfInBounds]
  by_cases e : j = i
  · subst e; simp [hj]
  · rw [if_neg e]
    exact ⟨.inr, fun hh => hh.resolve_left (Ne.symm e)⟩
theorem Inv.after {S : Array Bool} {a : Act} (hI : Inv P N T q all st σs Rs ws S σ R a w) {j : Nat} {o : Oper} (ho : all[j]? = some o) (hr : ∀ e ∈ edgesOf o, In S e) (hn : ¬ In S j) (hdst : DstOk N o)
    {v : AV} {cv : Value} (hu : ∀ y, tget (st (j + 1)).t y = if o.dst = some y then v else tget (st j).t y) (hv : VV σ' R' v cv) (keep : ∀ {b u}, VV σ R b u → VV σ' R' b u)
    (hm : ∃ e, Mem P T q all st σs Rs ws (S.setIfInBounds j true) σ' R' w' e) : Inv P N T q all st σs Rs ws (S.setIfInBounds j true) σ' R' (a.put o.dst cv) w' := by
  have hjl : j < all.length := (List.getElem?_eq_some_iff.1 ho).1
  have hjS : j < S.size := by rw [hI.size]; exact hjl
  have hin : ∀ {i}, In (S.setIfInBounds j true) i ↔ i = j ∨ In S i := in_set hjS
  have hother : ∀ y, o.dst ≠ some y → (a.put o.dst cv).tmps.getD y undef = a.tmps.getD y undef := fun y hy => by
    cases hd : o.dst with
    | none => rfl
    | some d =>
      have hne : d ≠ y := fun e => hy (by rw [hd, e])
      simp only [Act.put, Array.getD_eq_getD_getElem?, Array.getElem?_setIfInBounds, if_neg hne]
  refine ⟨by simp [hI.size], fun i p hi hp e he => ?_, fun y hy => ?_, fun i p y hi hp hd hlast => ?_, ?_, ?_, hm⟩
  · rcases hin.1 hi with rfl | hi
    · rw [ho] at hp; cases hp; exact hin.2 (.inr (hr e he))
    · exact hin.2 (.inr (hI.closed i p hi hp e he))
  · rw [hother y (hy j o (hin.2 (.inl rfl)) ho)]
    exact keep (hI.tm0 y fun i p hi hp => hy i p (hin.2 (.inr hi)) hp)
  · rcases hin.1 hi with rfl | hiS
    · rw [ho] at hp; cases hp
      rw [hu y, if_pos hd]
      have hyN := hdst y hd
      rw [← hI.len] at hyN
      rw [hd]
      simpa [Act.put, Array.getD, hyN] using hv
    · by_cases hdj : o.dst = some y
      · rcases Nat.lt_trichotomy i j with hij | hij | hij
        · exact absurd hdj (hlast j o (hin.2 (.inl rfl)) ho hij)
        · subst hij; exact absurd hiS hn
        · exact absurd (before_in hI.closed (hD.clash j i o p hij ho hp (clash_hit2 hdj hd)) hiS) hn
      · rw [hother y hdj]
        exact keep (hI.tm1 i p y hiS hp hd fun i' o' hS' ho' hlt => hlast i' o' (hin.2 (.inr hS')) ho' hlt)
  · rw [← hI.len]
    cases o.dst <;> simp [Act.put]
  · rw [← hI.df]
    cases o.dst <;> simp [Act.put]
/-- Memory behind an operation that makes or changes some: it is the one that had to come. -/
theorem Mem.eff {S : Array Bool} (hc : ∀ j p, In S j → all[j]? = some p → ∀ e ∈ edgesOf p, In S e) (hsz : S.size = all.length) {e : Nat} (hM : Mem P T q all st σs Rs ws S σ R w e) {j : Nat} {o : Oper} (ho : all[j]? = some o) (hr : ∀ e ∈ edgesOf o, In S e) (hn : ¬ In S j) (hE : clsE T q o.op = true) : e = j ∧
    ∀ {σ' R' w'}, HR P σ' R' (st (j + 1)).h (st (j + 1)).x w' → Ext σs Rs (st 0).h (st 0).x ws σ' R' (st (j + 1)).h (st (j + 1)).x w' → ∃ e', Mem P T q all st σs Rs ws (S.setIfInBounds j true) σ' R' w' e' := by
  have hjl : j < all.length := (List.getElem?_eq_some_iff.1 ho).1
  have hjS : j < S.size := by rw [hsz]; exact hjl
  have hin : ∀ {i}, In (S.setIfInBounds j true) i ↔ i = j ∨ In S i := in_set hjS
  have hej : e = j := by
    rcases Nat.lt_trichotomy e j with hlt | heq | hlt
    · obtain ⟨oe, hoe⟩ : ∃ oe, all[e]? = some oe := ⟨all[e], by rw [List.getElem?_eq_getElem (by omega)]⟩
      obtain ⟨h1, h2⟩ := hM.next oe hoe
      exact absurd (ready_in hc ho hr (hD.clash e j oe o hlt hoe ho (clash_E h1 hE))) h2
    · exact heq
    · exact absurd (hM.done j o hlt ho hE) hn
  refine ⟨hej, fun {σ' R' w'} h1 h2 => ?_⟩
  obtain ⟨e', g1, g2, g3, g4⟩ := next_eff T q all (all.length - (j + 1)) (j + 1) (by omega)
  obtain ⟨g5, g6⟩ := still hst (m := j + 1) (e' - (j + 1)) (by omega) fun i oi a b => g3 i oi a (by omega)
  rw [show j + 1 + (e' - (j + 1)) = e' by omega] at g5 g6
  refine ⟨e', g2, fun i oi hi hoi hEi => ?_, fun oe hoe => ⟨g4 oe hoe, fun hS => ?_⟩, by rw [g5, g6]; exact h1, by rw [g5, g6]; exact h2⟩
  · rcases Nat.lt_trichotomy i j with hij | hij | hij
    · exact hin.2 (.inr (hM.done i oi (by omega) hoi hEi))
    · exact hin.2 (.inl hij)
    · have := g3 i oi (by omega) hi hoi
      rw [hEi] at this; cases this
  · rcases hin.1 hS with h3 | h3
    · omega
    · exact hn (before_in hc (hD.clash j e' o oe (by omega) ho hoe (clash_E hE (g4 oe hoe))) h3)
theorem Mem.still {S : Array Bool} (hsz : S.size = all.length) {e : Nat} (hM : Mem P T q all st σs Rs ws S σ R w e) {j : Nat} {o : Oper} (ho : all[j]? = some o) (hE : clsE T q o.op = false) (h1 : HR P σ' R' (st e).h (st e).x w') (h2 : Ext σ R (st e).h (st e).x w σ' R' (st e).h (st e).x w') :
    Mem P T q all st σs Rs ws (S.setIfInBounds j true) σ' R' w' e := by
  have hjl : j < all.length := (List.getElem?_eq_some_iff.1 ho).1
  have hjS : j < S.size := by rw [hsz]; exact hjl
  have hin : ∀ {i}, In (S.setIfInBounds j true) i ↔ i = j ∨ In S i := in_set hjS
  refine ⟨hM.le, fun i oi hi hoi hEi => hin.2 (.inr (hM.done i oi hi hoi hEi)), fun oe hoe => ⟨(hM.next oe hoe).1, fun hS => ?_⟩, h1, hM.ext.trans h2⟩
  rcases hin.1 hS with h3 | h3
  · subst h3; rw [ho] at hoe; cases hoe
    have := (hM.next o ho).1
    rw [hE] at this; cases this
  · exact (hM.next oe hoe).2 h3
theorem Inv.step {S : Array Bool} {a : Act} (hI : Inv P N T q all st σs Rs ws S σ R a w) {j : Nat} {o : Oper} (ho : all[j]? = some o) (hr : ∀ e ∈ edgesOf o, In S e) (hn : ¬ In S j) (hdst : DstOk N o)
    {K : Act → World → Prop} {Q : Exit → Act → World → Prop} (hK : ∀ {σ' R' a' w'}, Inv P N T q all st σs Rs ws (S.setIfInBounds j true) σ' R' a' w' → K a' w') : wpOp P all.toArray Q j K a w := by
  unfold wpOp
  have ho' : all.toArray[j]? = some o := by simpa using ho
  rw [ho']
  dsimp only
  have hjl : j < all.length := (List.getElem?_eq_some_iff.1 ho).1
  obtain ⟨v, b, hkn, hu, hrun, hskip⟩ := (hst j o ho).does
  have hlook := fun y hy => hI.look hst hD ho hr hn (y := y) hy
  have hw : Region.wanted o (yielded all.toArray a.tmps) = b := by
    rcases hkn with ⟨hg, rfl⟩ | ⟨i, q', d, c, hg, hd, hc, rfl⟩ | ⟨i, q', d, f, hg, hd, hc, rfl⟩
    · unfold Region.wanted; rw [hg]
    · have := hlook d (by unfold looks; rw [hg]; simp [hd])
      rw [hc] at this
      exact wanted_is hg hd this
    · have := hlook d (by unfold looks; rw [hg]; simp [hd])
      rw [hc] at this
      obtain ⟨vs, hv, _⟩ := this
      exact wanted_not hg hd hv
  have htm : ∀ y, VV σ R (evA (restr (st j).t (looks all o)) y) (a.eval y) := by
    refine tm_ev fun y => ?_
    by_cases hy : y ∈ looks all o
    · rw [(restr_get _ y).1 hy]; exact hlook y hy
    · rw [(restr_get _ y).2 hy]; trivial
  obtain ⟨e, hM⟩ := hI.mem
  cases b with
  | false =>
    rw [hw, if_neg (by simp)]
    obtain ⟨rfl, h1, h2⟩ := hskip rfl
    refine hK (hI.after hst hD ho hr hn hdst hu (undef_vv : VV σ R (.tup .fnil) undef) (fun hh => hh) ?_)
    cases hE : clsE T q o.op with
    | true =>
      obtain ⟨rfl, hmk⟩ := hM.eff hst hD hI.closed hI.size ho hr hn hE
      exact hmk (by rw [h1, h2]; exact hM.hr) (by rw [h1, h2]; exact hM.ext)
    | false => exact ⟨e, hM.still hst hD hI.size ho hE hM.hr (Ext.refl _ _ _ _ _)⟩
  | true =>
    rw [hw, if_pos rfl]
    refine .inl ?_
    obtain ⟨hdone, hread, hpure⟩ := hrun rfl
    cases hE : clsE T q o.op with
    | true =>
      obtain ⟨rfl, hmk⟩ := hM.eff hst hD hI.closed hI.size ho hr hn hE
      refine hdone htm hM.hr fun cv w' σ' R' hv hr' hx => hK (hI.after hst hD ho hr hn hdst hu hv (fun hh => hx.vv hM.hr hh) (hmk hr' (hM.ext.trans hx)))
    | false =>
      cases hP : clsP T o.op with
      | true =>
        refine hpure hP _ _ htm hM.hr fun cv w' σ' R' hv hr' hx => hK (hI.after hst hD ho hr hn hdst hu hv (fun hh => hx.vv hM.hr hh) ⟨e, hM.still hst hD hI.size ho hE hr' hx⟩)
      | false =>
        have hWj : clsW q o.op = false := by
          cases hq : clsW q o.op with
          | false => rfl
          | true => rw [clsW_E hq] at hE; cases hE
        have hsub : ∀ n b k, σ n = some b → hget (st j).h n = some k → hget (st e).h n = some k := by
          intro n bn k hnb hk
          rcases Nat.lt_trichotomy j e with hlt | heq | hlt
          · have ha := adding hst (m := j) (e - j) (by have := hM.le; omega) fun i oi h1 h2 hoi => by
              by_cases hij : i = j
              · subst hij; rw [ho] at hoi; cases hoi; exact hWj
              · cases hq : clsW q oi.op with
                | false => rfl
                | true => exact absurd (before_in hI.closed (hD.clash j i o oi (by omega) ho hoi (clash_W2 hP hq)) (hM.done i oi (by omega) hoi (clsW_E hq))) hn
            rw [show j + (e - j) = e by omega] at ha
            by_cases hnx : n < (st j).x ∨ (st e).x ≤ n
            · rw [ha.same n hnx]; exact hk
            · have := ha.new n (by omega) (by omega)
              rw [this] at hk; cases hk
          · subst heq; exact hk
          · obtain ⟨oe, hoe⟩ : ∃ oe, all[e]? = some oe := ⟨all[e], by rw [List.getElem?_eq_getElem (by omega)]⟩
            obtain ⟨g1, g2⟩ := hM.next oe hoe
            have ha := adding hst (m := e) (j - e) (by omega) fun i oi h1 h2 hoi => by
              cases hq : clsW q oi.op with
              | false => rfl
              | true =>
                have hin : In S i := ready_in hI.closed ho hr (hD.clash i j oi o (by omega) hoi ho (clash_W1 hq hP))
                by_cases hie : i = e
                · subst hie; exact absurd hin g2
                · exact absurd (before_in hI.closed (hD.clash e i oe oi (by omega) hoe hoi (clash_E g1 (clsW_E hq))) hin) g2
            rw [show e + (j - e) = j by omega] at ha
            rw [← ha.same n (.inl (hM.hr.dom n bn hnb))]; exact hk
        refine hread hE _ htm (hM.hr.sub hsub) fun cv w' σ' R' hv hr' hx => ?_
        obtain ⟨k1, k2⟩ := hM.hr.frame hsub hr' hx
        exact hK (hI.after hst hD ho hr hn hdst hu hv (fun hh => k2.vv hM.hr hh) ⟨e, hM.still hst hD hI.size ho hE k1 k2⟩)
/-! ### all orders -/
omit hst hD
def unl : List Bool → Nat
  | [] => 0
  | b :: l => (if b then 0 else 1) + unl l
theorem unl_set : ∀ {l : List Bool} {j : Nat}, l[j]? = some false → unl (l.set j true) + 1 = unl l
  | [], j, hh => by simp at hh
  | b :: l, 0, hh => by
    simp at hh; subst hh
    simp [unl]; omega
  | b :: l, j + 1, hh => by
    have := unl_set (l := l) (j := j) (by simpa using hh)
    simp only [List.set_cons_succ, unl]
    omega
theorem unl_zero : ∀ {l : List Bool}, unl l = 0 → ∀ (j : Nat) b, l[j]? = some b → b = true
  | [], _, j, b, hj => by simp at hj
  | a :: l, hh, j, b, hj => by
    simp only [unl] at hh
    cases j with
    | zero =>
      simp at hj; subst hj
      cases a with
      | true => rfl
      | false => simp at hh
    | succ j => exact unl_zero (l := l) (by omega) j b (by simpa using hj)
theorem unl_rep : ∀ n, unl (List.replicate n false) = n
  | 0 => rfl
  | n + 1 => by simp only [List.replicate_succ, unl, unl_rep n]; simp; omega
theorem edges_ready {o : Oper} {S : Array Bool} : (o.after.all fun e => !Region.binds .any e || S.getD e.on false) = true ↔ ∀ e ∈ edgesOf o, In S e := by
  have hg : ∀ i, S.getD i false = true ↔ In S i := fun i => by
    unfold In
    rw [Array.getD_eq_getD_getElem?]
    cases hq : S[i]? with
    | none => simp
    | some b => simp
  rw [← Array.all_toList, List.all_eq_true]
  unfold edgesOf
  constructor
  · intro hh e he
    obtain ⟨d, hd, rfl⟩ := List.mem_map.1 he
    obtain ⟨h1, h2⟩ := List.mem_filter.1 hd
    have := hh d h1
    rw [h2] at this
    exact (hg _).1 (by simpa using this)
  · intro hh e he
    cases hq : Region.binds .any e with
    | false => rfl
    | true => simpa using (hg _).2 (hh e.on (List.mem_map.2 ⟨e, List.mem_filter.2 ⟨he, hq⟩, rfl⟩))
theorem ready_iff {S : Array Bool} {j : Nat} (hsz : S.size = all.length) : j ∈ Region.ready .any all.toArray S ↔ ∃ o, all[j]? = some o ∧ ¬ In S j ∧ ∀ e ∈ edgesOf o, In S e := by
  unfold Region.ready
  rw [List.mem_filter]
  simp only [List.size_toArray, List.mem_range, Bool.and_eq_true, List.getElem?_toArray]
  have hnot : j < all.length → ((!S.getD j true) = true ↔ ¬ In S j) := fun hj => by
    unfold In
    rw [Array.getD_eq_getD_getElem?]
    have : j < S.size := by omega
    rw [Array.getElem?_eq_getElem this]
    simp
  constructor
  · rintro ⟨h1, h2, h3⟩
    obtain ⟨o, ho⟩ : ∃ o, all[j]? = some o := ⟨all[j], by rw [List.getElem?_eq_getElem h1]⟩
    rw [ho] at h3
    exact ⟨o, ho, (hnot h1).1 h2, edges_ready.1 (by simpa using h3)⟩
  · rintro ⟨o, ho, h2, h3⟩
    have h1 := (List.getElem?_eq_some_iff.1 ho).1
    rw [ho]
    exact ⟨h1, (hnot h1).2 h2, by simpa using edges_ready.2 h3⟩
include hst hD
theorem all_done {S : Array Bool} (hsz : S.size = all.length) (hr : Region.ready .any all.toArray S = []) : ∀ j, j < all.length → In S j := by
  intro j
  induction j using Nat.strongRecOn with
  | _ j ih =>
    intro hj
    obtain ⟨o, ho⟩ : ∃ o, all[j]? = some o := ⟨all[j], by rw [List.getElem?_eq_getElem hj]⟩
    by_cases hin : In S j
    · exact hin
    · have : j ∈ Region.ready .any all.toArray S := (ready_iff hsz).2 ⟨o, ho, hin, fun e he => ih e (hD.back j o ho e he) (by have := hD.back j o ho e he; omega)⟩
      rw [hr] at this; simp at this
theorem Inv.finish {S : Array Bool} {a : Act} (hI : Inv P N T q all st σs Rs ws S σ R a w) (hall : ∀ j, j < all.length → In S j) : SR P N σ R (st all.length) a w ∧ Ext σs Rs (st 0).h (st 0).x ws σ R (st all.length).h (st all.length).x w := by
  obtain ⟨e, hM⟩ := hI.mem
  have he : e = all.length := by
    rcases Nat.lt_or_ge e all.length with hlt | hge
    · obtain ⟨oe, hoe⟩ : ∃ oe, all[e]? = some oe := ⟨all[e], by rw [List.getElem?_eq_getElem hlt]⟩
      exact absurd (hall e hlt) (hM.next oe hoe).2
    · have := hM.le; omega
  subst he
  refine ⟨⟨fun y => ?_, hI.len, hI.df, hM.hr⟩, hM.ext⟩
  rcases last_write hst y all.length (Nat.le_refl _) with ⟨h1, h2⟩ | ⟨L, oL, h1, h2, h3, h4, h5⟩
  · rw [h2]
    exact hI.tm0 y fun i oi _ hoi => h1 i oi (List.getElem?_eq_some_iff.1 hoi).1 hoi
  · rw [h5]
    exact hI.tm1 L oL y (hall L h1) h2 h3 fun i oi _ hoi hlt => h4 i oi hlt (List.getElem?_eq_some_iff.1 hoi).1 hoi
theorem Inv.orders (hdst : ∀ o ∈ all, DstOk N o) {Q : Exit → Act → World → Prop} (hQ : ∀ {σ R a w}, SR P N σ R (st all.length) a w → Ext σs Rs (st 0).h (st 0).x ws σ R (st all.length).h (st all.length).x w → Q .normal a w) :
    ∀ (fuel : Nat) {S : Array Bool} {σ : Sg} {R : Ro} {a : Act} {w : World}, Inv P N T q all st σs Rs ws S σ R a w → unl S.toList ≤ fuel → wpAny P .any all.toArray Q fuel S a w
  | 0, S, σ, R, a, w, hI, hf => by
    have hall : ∀ j, j < all.length → In S j := fun j hj => by
      have hjS : j < S.size := by rw [hI.size]; exact hj
      unfold In
      rw [Array.getElem?_eq_getElem hjS]
      have := unl_zero (l := S.toList) (by omega) j S[j] (by rw [Array.getElem?_toList, Array.getElem?_eq_getElem hjS])
      rw [this]
    refine ⟨?_, ?_⟩
    · cases hq : Region.ready .any all.toArray S with
      | nil => rfl
      | cons j l =>
        have : j ∈ Region.ready .any all.toArray S := by rw [hq]; simp
        obtain ⟨o, ho, h1, _⟩ := (ready_iff hI.size).1 this
        exact absurd (hall j (List.getElem?_eq_some_iff.1 ho).1) h1
    · obtain ⟨h1, h2⟩ := hI.finish hst hD hall
      exact hQ h1 h2
  | fuel + 1, S, σ, R, a, w, hI, hf => by
    refine ⟨fun hr => ?_, fun j hj => ?_⟩
    · obtain ⟨h1, h2⟩ := hI.finish hst hD (all_done hst hD hI.size hr)
      exact hQ h1 h2
    · obtain ⟨o, ho, h1, h2⟩ := (ready_iff hI.size).1 hj
      refine hI.step hst hD ho h2 h1 (hdst o (List.mem_of_getElem? ho)) fun {σ' R' a' w'} hI' => Inv.orders hdst hQ fuel hI' ?_
      have hjS : j < S.size := by rw [hI.size]; exact (List.getElem?_eq_some_iff.1 ho).1
      have hS : S.toList[j]? = some false := by
        rw [Array.getElem?_toList, Array.getElem?_eq_getElem hjS]
        cases hq : S[j] with
        | false => rfl
        | true => exact absurd (by unfold In; rw [Array.getElem?_eq_getElem hjS, hq]) h1
      have := unl_set hS
      rw [Array.toList_setIfInBounds]
      omega
end
theorem DOK.of (hm : P.follows .mixedOrders = true) (hT : TyOk P T) {E : Env X} (hE : EOK P E) : DOK P N T E (drawOk T E.q) := by
  intro id ops s k r hd hdst he
  obtain ⟨st, h0, hk, hst⟩ := rops_steps hT hE ops.toList he
  have hD := drawOk_spec hd
  refine ⟨st ops.toList.length, hk, fun {σ0 R0 h0' m w0 σ R a w} hx hs Q hq => wp_region_any hm ?_⟩
  have hops : ops = ops.toList.toArray := by simp
  rw [hops]
  have hnone : ∀ i, ¬ In (Array.replicate ops.toList.length false) i := fun i hi => by
    unfold In at hi
    rw [Array.getElem?_replicate] at hi
    split at hi <;> simp at hi
  have hdr : HR P σ R s.h s.x w.drew := hs.hr.drew
  have hstart : Inv P N T E.q ops.toList st σ R w (Array.replicate ops.toList.length false) σ R a w.drew := by
    refine ⟨by simp, fun j p hj => absurd hj (hnone j), fun y _ => by rw [h0]; exact hs.tm y, fun j p y hj => absurd hj (hnone j), hs.len, hs.df, ?_⟩
    obtain ⟨e, g1, g2, g3, g4⟩ := next_eff T E.q ops.toList ops.toList.length 0 (by omega)
    obtain ⟨g5, g6⟩ := still hst (m := 0) e (by omega) fun i oi a b => g3 i oi a (by omega)
    rw [Nat.zero_add] at g5 g6
    refine ⟨e, g2, fun i o hi ho hE' => ?_, fun o ho => ⟨g4 o ho, hnone e⟩, by rw [g5, g6, h0]; exact hdr, by rw [g5, g6, h0]; exact Ext.drew⟩
    have := g3 i o (by omega) hi ho
    rw [hE'] at this; cases this
  have := Inv.orders hst hD hdst (Q := Q) (fun {σ' R' a' w'} h1 h2 => by
    rw [h0] at h2
    exact hq σ' R' a' w' h1 (hx.trans h2)) ops.toList.length hstart (by rw [Array.toList_replicate, unl_rep]; exact Nat.le_refl _)
  simpa using this
end Go.Proofs.Ytjehpceomlnicaa.Eng
