/-
The engine, sixteenth text: memory handed to a call, and given back; memory at a loop's head. Plain lemmas.
Conditions: none.
-/
import Derived.Test.YtfcloeflcpcheaaGreatEngO
import Derived.MapKept
set_option linter.unusedVariables false
set_option linter.unusedSimpArgs false
namespace Go.Proofs.YtfcloeflcpcheaaGreat.Eng
variable {P : Program} {T : Types} {σ σ' : Sg} {R R' : Ro} {h h' : Hp} {x x' : Nat} {w w' : World} {X : Type} {r : X}
theorem pull_spec {f : Nat → Option Nat} : ∀ {L : List Nat} {H : List (Option Blk)}, pull h f L = some H →
  H.length = L.length ∧ ∀ i n, nthN L i = some n → (hget h n = none ∧ H[i]? = some none) ∨ ∃ b b', hget h n = some b ∧ b.ren f = some b' ∧ H[i]? = some (some b')
 | [], H, hp => by cases hp; exact ⟨rfl, fun i n hn => by simp [nthN] at hn⟩
 | m :: L, H, hp => by
  unfold pull at hp
  split at hp
  ·rename_i b hb
   split at hp
   ·rename_i b' hb'
    split at hp
    ·rename_i q hq
     cases hp
     obtain ⟨h1, h2⟩ := pull_spec hq
     refine ⟨by simp [h1], fun i n hn => ?_⟩
     cases i with
     | zero => simp only [nthN, Option.some.injEq] at hn; subst hn; exact .inr ⟨b, b', hb, hb', by simp⟩
     | succ i => simpa using h2 i n hn
    ·cases hp
   ·cases hp
  ·rename_i hb
   split at hp
   ·rename_i q hq
    cases hp
    obtain ⟨h1, h2⟩ := pull_spec hq
    refine ⟨by simp [h1], fun i n hn => ?_⟩
    cases i with
    | zero => simp only [nthN, Option.some.injEq] at hn; subst hn; exact .inl ⟨hb, by simp⟩
    | succ i => simpa using h2 i n hn
   ·cases hp
def Sg.at_ (σ : Sg) (L : List Nat) : Sg := fun i => (nthN L i).bind σ
theorem Sg.at_some {L : List Nat} {i : Nat} {b : Bk} (hh : σ.at_ L i = some b) : ∃ n, nthN L i = some n ∧ σ n = some b := by
 unfold Sg.at_ at hh
 cases hq : nthN L i with
 | none => rw [hq] at hh; cases hh
 | some n => rw [hq] at hh; exact ⟨n, rfl, hh⟩
theorem Pc.at_some {L : List Nat} {i : Nat} {b : Bk} (hh : Pc (σ.at_ L) i b) : ∃ n, nthN L i = some n ∧ Pc σ n b := by
 obtain ⟨B, h1, h2⟩ := hh
 obtain ⟨n, h3, h4⟩ := Sg.at_some h1
 exact ⟨n, h3, B, h4, h2⟩
theorem ren_fam {f : Nat → Option Nat} {a : AV} {e : Nat} {s : Sch} {l : List (List s.den)} (hh : a.ren f = some (.fam e s l)) : a = .fam e s l := by
 cases a <;> simp only [AV.ren] at hh
 all_goals first
  | (cases hh; done)
  | (cases hh; rfl)
  | (split at hh <;> cases hh)
  | (split at hh; (focus split at hh <;> cases hh); cases hh)
theorem tie_idx (L : List Nat) : Tie (fun n => idxN L n 0) σ (σ.at_ L) := by
 intro n m b hm hn
 unfold Sg.at_
 rw [idx0 hm]; exact hn
theorem blk_ren {f : Nat → Option Nat} {b b' : Blk} (hh : b.ren f = some b') : b.c.ren f = some b'.c ∧ b'.e = b.e := by
 unfold Blk.ren at hh
 split at hh <;> cases hh
 exact ⟨‹_›, rfl⟩
theorem ren_w {f : Nat → Option Nat} {a a' : AV} (hh : a.ren f = some a') : a'.w = a.w := by rw [← AV.shp_w, ren_shp hh, AV.shp_w]
theorem ren_isMap {f : Nat → Option Nat} {a a' : AV} (hh : a.ren f = some a') : a'.isMap = a.isMap := by
 cases a <;> simp only [AV.ren] at hh
 all_goals first
  | (cases hh; rfl)
  | (split at hh <;> cases hh <;> rfl)
  | (split at hh; (focus split at hh <;> cases hh <;> rfl); cases hh)
theorem ren_map {f : Nat → Option Nat} {a a' : AV} (hh : a.ren f = some a') (hm : a.isMap = true) : a' = a := by
 cases a <;> first | (cases hm; done) | (simp only [AV.ren] at hh; cases hh; rfl)
section
variable {L : List Nat} {H : List (Option Blk)}
theorem pull_get (hp : pull h (fun n => idxN L n 0) L = some H) {i : Nat} {k : Blk} (hk : hget (number 0 H) i = some k) : ∃ n b, nthN L i = some n ∧ hget h n = some b ∧ b.ren (fun n => idxN L n 0) = some k := by
 obtain ⟨h1, h2⟩ := pull_spec hp
 rw [hget_number0] at hk
 cases hq : nthN L i with
 | none =>
  rw [nthN_get, List.getElem?_eq_none_iff] at hq
  rw [List.getElem?_eq_none (by omega)] at hk; cases hk
 | some n =>
  rcases h2 i n hq with ⟨_, h3⟩ | ⟨b, b', h3, h4, h5⟩
  ·rw [h3] at hk; cases hk
  ·rw [h5] at hk; cases hk; exact ⟨n, b, rfl, h3, h4⟩
theorem pull_alive (hp : pull h (fun n => idxN L n 0) L = some H) {i : Nat} (ha : Alive (number 0 H) i) : ∃ n, nthN L i = some n ∧ Alive h n := by
 obtain ⟨k, hk⟩ := Option.ne_none_iff_exists'.1 ha
 obtain ⟨n, b, h1, h2, _⟩ := pull_get hp hk
 exact ⟨n, h1, by unfold Alive; rw [h2]; simp⟩
theorem HR.pull (hr : HR P σ R h x w) (hd : L.Nodup) (hp : pull h (fun n => idxN L n 0) L = some H) : HR P (σ.at_ L) R (number 0 H) H.length w := by
 have hl := (pull_spec hp).1
 refine ⟨?_, ?_, ?_, ?_, ?_, hr.ro, ?_, ?_, ?_⟩
 ·intro i b k hi hk
  obtain ⟨n, hn, hs⟩ := Sg.at_some hi
  obtain ⟨n', b0, hn', hb0, hb1⟩ := pull_get hp hk
  rw [hn] at hn'; cases hn'
  obtain ⟨h1, h2⟩ := hr.shp n b b0 hs hb0
  obtain ⟨h3, h4⟩ := blk_ren hb1
  exact ⟨(ren_shp h3).trans h1, h4.trans h2⟩
 ·intro i b k hi hk hnl hmp
  obtain ⟨n, hn, hs⟩ := Sg.at_some hi
  obtain ⟨n', b0, hn', hb0, hb1⟩ := pull_get hp hk
  rw [hn] at hn'; cases hn'
  obtain ⟨h6, h7⟩ := blk_ren hb1
  rw [ren_isMap h6] at hmp
  have := hr.mpb n b b0 hs hb0 hnl hmp
  rw [ren_map h6 hmp]; exact this
 ·intro i b k hi hk hnl hmp
  obtain ⟨n, hn, hs⟩ := Sg.at_some hi
  obtain ⟨n', b0, hn', hb0, hb1⟩ := pull_get hp hk
  rw [hn] at hn'; cases hn'
  obtain ⟨h6, h7⟩ := blk_ren hb1
  rw [ren_isMap h6] at hmp
  obtain ⟨h1, cs, fr, h2, h3, h4, h5⟩ := hr.blk n b b0 hs hb0 hnl hmp
  exact ⟨h1, cs, fr, h2, h3, by rw [ren_w h6]; exact ren_vc (tie_idx L) h6 h4, h5⟩
 ·intro i b hi
  obtain ⟨n, hn, hs⟩ := Sg.at_some hi
  rw [nthN_get] at hn
  obtain ⟨h1, _⟩ := List.getElem?_eq_some_iff.1 hn
  omega
 ·intro i j b b' hi hj hai haj hl1 hl2 hg
  obtain ⟨n, hn, hs⟩ := Pc.at_some hi
  obtain ⟨m, hm, hs'⟩ := Pc.at_some hj
  obtain ⟨n', hn', han⟩ := pull_alive hp hai
  obtain ⟨m', hm', ham⟩ := pull_alive hp haj
  rw [hn] at hn'; cases hn'
  rw [hm] at hm'; cases hm'
  have := hr.inj n m b b' hs hs' han ham hl1 hl2 hg
  subst this
  exact nth_inj hd hn hm
 ·intro i b a hi hai hnl hR
  obtain ⟨n, hn, hs⟩ := Pc.at_some hi
  obtain ⟨n', hn', han⟩ := pull_alive hp hai
  rw [hn] at hn'; cases hn'
  exact hr.sep n b a hs han hnl hR
 ·intro i b hi hnl
  obtain ⟨n, hn, hs⟩ := Pc.at_some hi
  exact hr.lt n b hs hnl
 ·intro i b k e s l hi hk hc
  obtain ⟨n, hn, hs⟩ := Sg.at_some hi
  obtain ⟨n', b0, hn', hb0, hb1⟩ := pull_get hp hk
  rw [hn] at hn'; cases hn'
  obtain ⟨h6, h7⟩ := blk_ren hb1
  rw [hc] at h6
  exact hr.own n b b0 e s l hs hb0 (ren_fam h6)
theorem Ext.pull {σ0 : Sg} {R0 : Ro} {h0 : Hp} {m : Nat} {w0 : World} (he : Ext σ0 R0 h0 m w0 σ R h x w) (hm : ∀ n, n < m → nthN L n = some n) (hp : pull h (fun n => idxN L n 0) L = some H) :
  Ext σ0 R0 h0 m w0 (σ.at_ L) R (number 0 H) H.length w := by
 have hl := (pull_spec hp).1
 refine ⟨he.fr, ?_, fun n hn => ?_, he.rr, he.rfoot, fun i b hi hai hnl => ?_⟩
 ·rcases Nat.eq_zero_or_pos m with h0 | h0
  ·omega
  ·have := hm (m - 1) (by omega)
   rw [nthN_get] at this
   obtain ⟨h1, _⟩ := List.getElem?_eq_some_iff.1 this
   omega
 ·unfold Sg.at_
  rw [hm n hn]; exact he.sg n hn
 ·obtain ⟨n, hn, hs⟩ := Pc.at_some hi
  obtain ⟨n', hn', han⟩ := pull_alive hp hai
  rw [hn] at hn'; cases hn'
  exact he.foot n b hs han hnl
end
theorem giveBack_get {f : Nat → Option Nat} : ∀ {B : List Nat} {H : List (Option Blk)} {h h' : Hp}, giveBack f B H h = some h' → B.Nodup →
  H.length = B.length ∧ (∀ n, n ∉ B → hget h' n = hget h n) ∧ ∀ i n, nthN B i = some n → (H[i]? = some none ∧ hget h' n = none) ∨ ∃ b b', H[i]? = some (some b) ∧ b.ren f = some b' ∧ hget h' n = some b'
 | [], [], h, h', hh, hd => by cases hh; exact ⟨rfl, fun _ _ => rfl, fun i n hn => by simp [nthN] at hn⟩
 | [], _ :: _, h, h', hh, hd => by simp [giveBack] at hh
 | m :: B, [], h, h', hh, hd => by simp [giveBack] at hh
 | m :: B, some b :: H, h, h', hh, hd => by
  unfold giveBack at hh
  split at hh
  ·rename_i b' hb'
   split at hh <;> cases hh
   rename_i g hg
   rw [List.nodup_cons] at hd
   obtain ⟨h1, h2, h3⟩ := giveBack_get hg hd.2
   refine ⟨by simp [h1], fun n hn => ?_, fun i n hn => ?_⟩
   ·simp only [List.mem_cons, not_or] at hn
    rw [hget_cons, if_neg (Ne.symm hn.1)]; exact h2 n hn.2
   ·cases i with
    | zero => simp only [nthN, Option.some.injEq] at hn; subst hn; exact .inr ⟨b, b', by simp, hb', by rw [hget_cons, if_pos rfl]⟩
    | succ i =>
     simp only [nthN] at hn
     have hne : m ≠ n := fun e => by
      subst e
      rw [nthN_get] at hn
      exact hd.1 (List.mem_of_getElem? hn)
     rw [hget_cons, if_neg hne]
     simpa using h3 i n hn
  ·cases hh
 | m :: B, none :: H, h, h', hh, hd => by
  unfold giveBack at hh
  split at hh <;> cases hh
  rename_i g hg
  rw [List.nodup_cons] at hd
  obtain ⟨h1, h2, h3⟩ := giveBack_get hg hd.2
  refine ⟨by simp [h1], fun n hn => ?_, fun i n hn => ?_⟩
  ·simp only [List.mem_cons, not_or] at hn
   rw [hget_cons, if_neg (Ne.symm hn.1)]; exact h2 n hn.2
  ·cases i with
   | zero => simp only [nthN, Option.some.injEq] at hn; subst hn; exact .inl ⟨by simp, by rw [hget_cons, if_pos rfl]⟩
   | succ i =>
    simp only [nthN] at hn
    have hne : m ≠ n := fun e => by
     subst e
     rw [nthN_get] at hn
     exact hd.1 (List.mem_of_getElem? hn)
    rw [hget_cons, if_neg hne]
    simpa using h3 i n hn
theorem allLt_spec : ∀ {L : List Nat} {x : Nat}, allLt x L = true → ∀ n ∈ L, n < x
 | [], x, hh, n, hn => by simp at hn
 | m :: L, x, hh, n, hn => by
  unfold allLt at hh
  cases hq : Nat.blt m x with
  | false => rw [hq] at hh; cases hh
  | true =>
   rw [hq] at hh
   simp only [List.mem_cons] at hn
   rcases hn with rfl | hn
   ·exact Nat.blt_eq.mp hq
   ·exact allLt_spec hh n hn
def Sg.back (σ σe : Sg) (x n : Nat) : Sg := fun m => if m < x then σ m else σe (n + (m - x))
section
variable {L : List Nat} {H H' : List (Option Blk)} {σe : Sg}
theorem nth_append {L1 L2 : List Nat} {i n : Nat} (hh : nthN (L1 ++ L2) i = some n) : (i < L1.length ∧ nthN L1 i = some n) ∨ (L1.length ≤ i ∧ nthN L2 (i - L1.length) = some n) := by
 rw [nthN_get] at hh
 by_cases hi : i < L1.length
 ·rw [List.getElem?_append_left hi] at hh; exact .inl ⟨hi, by rw [nthN_get]; exact hh⟩
 ·rw [List.getElem?_append_right (by omega)] at hh; exact .inr ⟨by omega, by rw [nthN_get]; exact hh⟩
theorem nth_mem {L1 : List Nat} {i n : Nat} (hh : nthN L1 i = some n) : n ∈ L1 := by rw [nthN_get] at hh; exact List.mem_of_getElem? hh
theorem mem_nth {L1 : List Nat} {n : Nat} (hh : n ∈ L1) : ∃ i, nthN L1 i = some n := by
 obtain ⟨i, hi⟩ := List.mem_iff_getElem?.1 hh
 exact ⟨i, by rw [nthN_get]; exact hi⟩
theorem back_nodup {L : List Nat} {x k : Nat} (hd : L.Nodup) (hx : ∀ n ∈ L, n < x) : (L ++ news x k).Nodup := by
 rw [List.nodup_append]
 exact ⟨hd, news_nodup _ _, fun a ha b hb e => by
  subst e
  have := hx a ha; have := (news_mem.1 hb).1; omega⟩
theorem call_back (hr : HR P σ R h x w) (hd : L.Nodup) (hx : (∀ n ∈ L, n < x) ∨ H'.length = L.length) (hp : pull h (fun n => idxN L n 0) L = some H)
  (hre : HR P σe R' (number 0 H') H'.length w') (hee : Ext (σ.at_ L) R (number 0 H) H.length w σe R' (number 0 H') H'.length w')
  (hb : giveBack (nthN (L ++ news x (H'.length - L.length))) (L ++ news x (H'.length - L.length)) H' h = some h') :
  Tie (nthN (L ++ news x (H'.length - L.length))) σe (σ.back σe x L.length) ∧ HR P (σ.back σe x L.length) R' h' (x + (H'.length - L.length)) w' ∧ Ext σ R h x w (σ.back σe x L.length) R' h' (x + (H'.length - L.length)) w' := by
 have hHl := (pull_spec hp).1
 have hle := hee.le
 generalize hB : L ++ news x (H'.length - L.length) = B at hb ⊢
 have hBd : B.Nodup := by
  subst hB
  rw [List.nodup_append]
  exact ⟨hd, news_nodup _ _, fun a ha b hb' e => by
   subst e
   rcases hx with hx | hx
   ·have := hx a ha; have := (news_mem.1 hb').1; omega
   ·rw [hx, Nat.sub_self] at hb'; simp [news] at hb'⟩
 obtain ⟨g1, g2, g3⟩ := giveBack_get hb hBd
 -- what a name of B is
 have hBn : ∀ i n, nthN B i = some n → σ.back σe x L.length n = σe i := by
  intro i n hn
  rw [← hB] at hn
  rcases nth_append hn with ⟨hi, hn⟩ | ⟨hi, hn⟩
  ·have he : σe i = σ n := by
    rw [hee.sg i (by omega)]; unfold Sg.at_; rw [hn]; rfl
   unfold Sg.back
   by_cases hlt : n < x
   ·rw [if_pos hlt, he]
   ·rw [if_neg hlt, he]
    have h1 : σ n = none := by
     cases hq : σ n with
     | none => rfl
     | some b => exact absurd (hr.dom n b hq) hlt
    rw [h1]
    rcases hx with hx | hx
    ·exact absurd (hx n (nth_mem hn)) hlt
    ·cases hq : σe (L.length + (n - x)) with
     | none => rfl
     | some b => have := hre.dom _ b hq; omega
  ·rw [news_get] at hn
   split at hn
   ·cases hn
    unfold Sg.back; rw [if_neg (by omega)]; congr 1; omega
   ·cases hn
 have hBm : ∀ n b, n ∉ B → σ.back σe x L.length n = some b → n < x ∧ σ n = some b ∧ n ∉ L := by
  intro n b hn hs
  unfold Sg.back at hs
  by_cases hlt : n < x
  ·rw [if_pos hlt] at hs
   exact ⟨hlt, hs, fun hm => hn (by rw [← hB]; exact List.mem_append_left _ hm)⟩
  ·rw [if_neg hlt] at hs
   have := hre.dom _ _ hs
   exact absurd (by rw [← hB]; exact List.mem_append_right _ (news_mem.2 ⟨by omega, by omega⟩)) hn
 have hBp : ∀ i n b, nthN B i = some n → Pc (σ.back σe x L.length) n b → Pc σe i b := fun i n b hn hh => hh.mono fun B' h => by rw [← hBn i n hn]; exact h
 have hBq : ∀ n b, n ∉ B → Pc (σ.back σe x L.length) n b → Pc σ n b := fun n b hn hh => hh.mono fun B' h => (hBm n B' hn h).2.1
 have hmono : ∀ n b, σ n = some b → σ.back σe x L.length n = some b := fun n b hn => by
  unfold Sg.back; rw [if_pos (hr.dom n b hn)]; exact hn
 have htie : Tie (nthN B) σe (σ.back σe x L.length) := fun i n b hn hs => by rw [hBn i n hn]; exact hs
 -- old blocks that were not handed on
 have hold : ∀ n b, n ∉ B → Pc (σ.back σe x L.length) n b → Alive h' n → b.nil = false → Alive h n ∧ b.g < w.heap.size ∧ ∀ m b', Pc (σ.at_ L) m b' → Alive (number 0 H) m → b'.nil = false → b'.g ≠ b.g := by
  intro n b hn hs ha hnl
  have q2 := hBq n b hn hs
  have q3 : n ∉ L := by obtain ⟨B', z1, _⟩ := hs; exact (hBm n B' hn z1).2.2
  have ha' : Alive h n := by unfold Alive at ha ⊢; rw [← g2 n hn]; exact ha
  refine ⟨ha', hr.lt n b q2 hnl, fun m b' hm ham hnl' e => ?_⟩
  obtain ⟨n', hn', hs'⟩ := Pc.at_some hm
  obtain ⟨n2, hn2, ha2⟩ := pull_alive hp ham
  rw [hn'] at hn2; cases hn2
  have := hr.inj n' n b' b hs' q2 ha2 ha' hnl' hnl e
  subst this
  exact q3 (nth_mem hn')
 have hal : ∀ i n, nthN B i = some n → Alive h' n → Alive (number 0 H') i := by
  intro i n hn ha
  rcases g3 i n hn with ⟨_, e⟩ | ⟨b, b', h1, h2, h3⟩
  ·exact absurd e ha
  ·unfold Alive; rw [hget_number0, h1]; simp
 have hkey : ∀ i n b m b', nthN B i = some n → Pc σe i b → Alive h' n → b.nil = false → m ∉ B → Pc (σ.back σe x L.length) m b' → Alive h' m → b'.nil = false → b.g ≠ b'.g := by
  intro i n b m b' hn hs ha hnl hm hs' ha' hnl' e
  obtain ⟨q1, q2, q3⟩ := hold m b' hm hs' ha' hnl'
  rcases hee.foot i b hs (hal i n hn ha) hnl with ⟨p, bp, p1, p2, p3, p4⟩ | hge
  ·exact q3 p bp p1 p2 p3 (p4.trans e)
  ·omega
 refine ⟨htie, ⟨?_, ?_, ?_, ?_, ?_, hre.ro, ?_, ?_, ?_⟩, ⟨⟨hee.fr.os, hee.fr.tape, hee.fr.output, hee.fr.size, ?_⟩, by omega, fun n hn => by unfold Sg.back; rw [if_pos hn], hee.rr, ?_, ?_⟩⟩
 ·intro n b k hs hk
  by_cases hn : n ∈ B
  ·obtain ⟨i, hi⟩ := mem_nth hn
   rw [hBn i n hi] at hs
   rcases g3 i n hi with ⟨_, e⟩ | ⟨b0, b1, h1, h2, h3⟩
   ·rw [e] at hk; cases hk
   ·rw [h3] at hk; cases hk
    obtain ⟨h4, h5⟩ := hre.shp i b b0 hs (by rw [hget_number0, h1]; rfl)
    obtain ⟨h6, h7⟩ := blk_ren h2
    exact ⟨(ren_shp h6).trans h4, h7.trans h5⟩
  ·obtain ⟨q1, q2, q3⟩ := hBm n b hn hs
   rw [g2 n hn] at hk
   exact hr.shp n b k q2 hk
 ·intro n b k hs hk hnl hmp
  by_cases hn : n ∈ B
  ·obtain ⟨i, hi⟩ := mem_nth hn
   rw [hBn i n hi] at hs
   rcases g3 i n hi with ⟨_, e⟩ | ⟨b0, b1, h1, h2, h3⟩
   ·rw [e] at hk; cases hk
   ·rw [h3] at hk; cases hk
    obtain ⟨h6, h7⟩ := blk_ren h2
    rw [ren_isMap h6] at hmp
    have := hre.mpb i b b0 hs (by rw [hget_number0, h1]; rfl) hnl hmp
    rw [ren_map h6 hmp]; exact this
  ·have ha : Alive h' n := by unfold Alive; rw [hk]; simp
   obtain ⟨q1, q2, q3⟩ := hBm n b hn hs
   obtain ⟨p1, p2, p3⟩ := hold n b hn (.of hs) ha hnl
   rw [g2 n hn] at hk
   exact (hr.mpb n b k q2 hk hnl hmp).heap (hee.fr.block b.g p2 p3)
 ·intro n b k hs hk hnl hmp
  by_cases hn : n ∈ B
  ·obtain ⟨i, hi⟩ := mem_nth hn
   rw [hBn i n hi] at hs
   rcases g3 i n hi with ⟨_, e⟩ | ⟨b0, b1, h1, h2, h3⟩
   ·rw [e] at hk; cases hk
   ·rw [h3] at hk; cases hk
    obtain ⟨h6, h7⟩ := blk_ren h2
    rw [ren_isMap h6] at hmp
    obtain ⟨h4, cs, fr, h5, h5', h5'', h5'''⟩ := hre.blk i b b0 hs (by rw [hget_number0, h1]; rfl) hnl hmp
    exact ⟨h4, cs, fr, h5, h5', by rw [ren_w h6]; exact ren_vc htie h6 h5'', h5'''⟩
  ·have ha : Alive h' n := by unfold Alive; rw [hk]; simp
   obtain ⟨q1, q2, q3⟩ := hBm n b hn hs
   obtain ⟨p1, p2, p3⟩ := hold n b hn (.of hs) ha hnl
   rw [g2 n hn] at hk
   obtain ⟨h4, cs, fr, h5, h5', h5'', h5'''⟩ := hr.blk n b k q2 hk hnl hmp
   refine ⟨h4, cs, fr, ?_, h5', VC.mono hmono hee.rr h5'', h5'''⟩
   rw [hee.fr.block b.g p2 p3]; exact h5
 ·intro n b hs
  by_cases hn : n ∈ B
  ·rw [← hB] at hn
   rcases List.mem_append.1 hn with hn | hn
   ·rcases hx with hx | hx
    ·have := hx n hn; omega
    ·unfold Sg.back at hs
     by_cases hlt : n < x
     ·omega
     ·rw [if_neg hlt] at hs
      have := hre.dom _ _ hs; omega
   ·have := (news_mem.1 hn).2; omega
  ·have := (hBm n b hn hs).1; omega
 ·intro n m b b' hs hs' ha ha' hnl hnl' e
  by_cases hn : n ∈ B
  ·obtain ⟨i, hi⟩ := mem_nth hn
   replace hs := hBp i n b hi hs
   by_cases hm : m ∈ B
   ·obtain ⟨j, hj⟩ := mem_nth hm
    replace hs' := hBp j m b' hj hs'
    have := hre.inj i j b b' hs hs' (hal i n hi ha) (hal j m hj ha') hnl hnl' e
    subst this
    rw [hi] at hj; cases hj; rfl
   ·exact absurd e (hkey i n b m b' hi hs ha hnl hm hs' ha' hnl')
  ·by_cases hm : m ∈ B
   ·obtain ⟨j, hj⟩ := mem_nth hm
    replace hs' := hBp j m b' hj hs'
    exact absurd e.symm (hkey j m b' n b hj hs' ha' hnl' hn hs ha hnl)
   ·exact hr.inj n m b b' (hBq n b hn hs) (hBq m b' hm hs') (hold n b hn hs ha hnl).1 (hold m b' hm hs' ha' hnl').1 hnl hnl' e
 ·intro n b a hs ha hnl hR
  by_cases hn : n ∈ B
  ·obtain ⟨i, hi⟩ := mem_nth hn
   exact hre.sep i b a (hBp i n b hi hs) (hal i n hi ha) hnl hR
  ·obtain ⟨q1, q2, q3⟩ := hold n b hn hs ha hnl
   rcases hee.rfoot a hR with h1 | ⟨m, b', p1, p2, p3, p4⟩ | hge
   ·exact hr.sep n b a (hBq n b hn hs) q1 hnl h1
   ·exact fun e => q3 m b' p1 p2 p3 (p4.trans e)
   ·omega
 ·intro n b hs hnl
  by_cases hn : n ∈ B
  ·obtain ⟨i, hi⟩ := mem_nth hn
   exact hre.lt i b (hBp i n b hi hs) hnl
  ·exact Nat.lt_of_lt_of_le (hr.lt n b (hBq n b hn hs) hnl) hee.fr.size
 ·intro n b k e s l hs hk hc
  by_cases hn : n ∈ B
  ·obtain ⟨i, hi⟩ := mem_nth hn
   rw [hBn i n hi] at hs
   rcases g3 i n hi with ⟨_, e⟩ | ⟨b0, b1, h1, h2, h3⟩
   ·rw [e] at hk; cases hk
   ·rw [h3] at hk; cases hk
    obtain ⟨h6, h7⟩ := blk_ren h2
    rw [hc] at h6
    exact hre.own i b b0 e s l hs (by rw [hget_number0, h1]; rfl) (ren_fam h6)
  ·have ha : Alive h' n := by unfold Alive; rw [hk]; simp
   obtain ⟨q1, q2, q3⟩ := hBm n b hn hs
   have hk' := hk
   rw [g2 n hn] at hk'
   refine (hr.own n b k e s l q2 hk' hc).mono hee.rr |>.heap fun c hc1 hcn => ?_
   obtain ⟨p1, p2, p3⟩ := hold n c hn ⟨b, hs, hc1⟩ ha hcn
   exact hee.fr.block c.g p2 p3
 ·intro i hi hne
  refine hee.fr.block i hi fun m b hm ham hnl => ?_
  obtain ⟨n, hn, hs⟩ := Pc.at_some hm
  obtain ⟨n2, hn2, ha2⟩ := pull_alive hp ham
  rw [hn] at hn2; cases hn2
  exact hne n b hs ha2 hnl
 ·intro a hR
  rcases hee.rfoot a hR with h1 | ⟨m, b', p1, p2, p3, p4⟩ | hge
  ·exact .inl h1
  ·obtain ⟨n, hn, hs⟩ := Pc.at_some p1
   obtain ⟨n2, hn2, ha2⟩ := pull_alive hp p2
   rw [hn] at hn2; cases hn2
   exact .inr (.inl ⟨n, b', hs, ha2, p3, p4⟩)
  ·exact .inr (.inr hge)
 ·intro n b hs ha hnl
  by_cases hn : n ∈ B
  ·obtain ⟨i, hi⟩ := mem_nth hn
   replace hs := hBp i n b hi hs
   rcases hee.foot i b hs (hal i n hi ha) hnl with ⟨m, b', p1, p2, p3, p4⟩ | hge
   ·obtain ⟨n1, hn1, hs1⟩ := Pc.at_some p1
    obtain ⟨n2, hn2, ha2⟩ := pull_alive hp p2
    rw [hn1] at hn2; cases hn2
    exact .inl ⟨n1, b', hs1, ha2, p3, p4⟩
   ·exact .inr hge
  ·exact .inl ⟨n, b, hBq n b hn hs, (hold n b hn hs ha hnl).1, hnl, rfl⟩
theorem HR.congr (hr : HR P σ R h x w) (hh : ∀ n, hget h n = hget h' n) : HR P σ R h' x w := by
 have hal : ∀ n, Alive h' n → Alive h n := fun n ha => by unfold Alive at ha ⊢; rw [hh n]; exact ha
 exact ⟨fun n b k h1 h2 => hr.shp n b k h1 (by rw [hh n]; exact h2), fun n b k h1 h2 => hr.mpb n b k h1 (by rw [hh n]; exact h2), fun n b k h1 h2 => hr.blk n b k h1 (by rw [hh n]; exact h2), hr.dom, fun n m b b' h1 h2 h3 h4 => hr.inj n m b b' h1 h2 (hal n h3) (hal m h4), hr.ro, fun n b a h1 h2 => hr.sep n b a h1 (hal n h2), hr.lt, fun n b k e s l h1 h2 => hr.own n b k e s l h1 (by rw [hh n]; exact h2)⟩
theorem ren_inv {f g : Nat → Option Nat} (hfg : ∀ n m, f n = some m → g m = some n) : ∀ {a a' : AV}, a.ren f = some a' → a'.ren g = some a := by
 intro a
 induction a with
 | node q ih =>
  intro a' hh
  simp only [AV.ren] at hh
  split at hh <;> cases hh
  simp only [AV.ren, ih ‹_›]
 | fcons a b iha ihb =>
  intro a' hh
  simp only [AV.ren] at hh
  split at hh
  ·split at hh <;> cases hh
   simp only [AV.ren, iha ‹_›, ihb ‹_›]
  ·cases hh
 | tup q ih =>
  intro a' hh
  simp only [AV.ren] at hh
  split at hh <;> cases hh
  simp only [AV.ren, ih ‹_›]
 | ptr n p => intro a' hh; simp only [AV.ren] at hh; split at hh <;> cases hh; simp only [AV.ren, hfg _ _ ‹_›]
 | sl n => intro a' hh; simp only [AV.ren] at hh; split at hh <;> cases hh; simp only [AV.ren, hfg _ _ ‹_›]
 | ss n p o l => intro a' hh; simp only [AV.ren] at hh; split at hh <;> cases hh; simp only [AV.ren, hfg _ _ ‹_›]
 | mp n => intro a' hh; simp only [AV.ren] at hh; split at hh <;> cases hh; simp only [AV.ren, hfg _ _ ‹_›]
 | isl n i => intro a' hh; simp only [AV.ren] at hh; split at hh <;> cases hh; simp only [AV.ren, hfg _ _ ‹_›]
 | ip n i p => intro a' hh; simp only [AV.ren] at hh; split at hh <;> cases hh; simp only [AV.ren, hfg _ _ ‹_›]
 | _ => intro a' hh; simp only [AV.ren] at hh; cases hh; rfl
theorem quiet_back {f g : Nat → Option Nat} (hfg : ∀ n m, f n = some m → g m = some n) : ∀ {L : List Nat} {H : List (Option Blk)}, pull h f L = some H → ∃ h', giveBack g L H h = some h' ∧ ∀ n, hget h' n = hget h n
 | [], H, hp => by cases hp; exact ⟨h, rfl, fun _ => rfl⟩
 | m :: L, H, hp => by
  unfold pull at hp
  split at hp
  ·rename_i b hb
   split at hp
   ·rename_i b' hb'
    split at hp <;> cases hp
    rename_i q hq
    obtain ⟨h', h1, h2⟩ := quiet_back hfg hq
    have h3 : b'.ren g = some b := by
     unfold Blk.ren at hb' ⊢
     split at hb' <;> cases hb'
     rename_i c hc
     simp only [ren_inv hfg hc]
    refine ⟨(m, some b) :: h', by simp only [giveBack, h3, h1], fun n => ?_⟩
    rw [hget_cons]
    by_cases e : m = n
    ·subst e; rw [if_pos rfl, hb]
    ·rw [if_neg e]; exact h2 n
   ·cases hp
  ·rename_i hb
   split at hp <;> cases hp
   rename_i q hq
   obtain ⟨h', h1, h2⟩ := quiet_back hfg hq
   refine ⟨(m, none) :: h', by simp only [giveBack, h1], fun n => ?_⟩
   rw [hget_cons]
   by_cases e : m = n
   ·subst e; rw [if_pos rfl, hb]
   ·rw [if_neg e]; exact h2 n
theorem adds_back {f g : Nat → Option Nat} (hfg : ∀ n m, f n = some m → g m = some n) {M : List Nat} {N : List (Option Blk)} (hM : M.Nodup) : ∀ {L : List Nat} {H : List (Option Blk)} {h' : Hp}, pull h f L = some H → giveBack g (L ++ M) (H ++ N) h = some h' → ∀ n, n ∉ M → hget h' n = hget h n
 | [], H, h', hp, hb, n, hn => by
  cases hp
  exact (giveBack_get hb hM).2.1 n hn
 | m :: L, H, h', hp, hb, n, hn => by
  unfold pull at hp
  split at hp
  ·rename_i b hbk
   split at hp
   ·rename_i b' hb'
    split at hp <;> cases hp
    rename_i q hq
    have h3 : b'.ren g = some b := by
     unfold Blk.ren at hb' ⊢
     split at hb' <;> cases hb'
     rename_i c hc
     simp only [ren_inv hfg hc]
    simp only [List.cons_append, giveBack, h3] at hb
    split at hb
    ·rename_i h1 hg
     cases hb
     rw [hget_cons]
     by_cases e : m = n
     ·subst e; rw [if_pos rfl, hbk]
     ·rw [if_neg e]; exact adds_back hfg hM hq hg n hn
    ·cases hb
   ·cases hp
  ·rename_i hbk
   split at hp <;> cases hp
   rename_i q hq
   simp only [List.cons_append, giveBack] at hb
   split at hb
   ·rename_i h1 hg
    cases hb
    rw [hget_cons]
    by_cases e : m = n
    ·subst e; rw [if_pos rfl, hbk]
    ·rw [if_neg e]; exact adds_back hfg hM hq hg n hn
   ·cases hb
theorem call_quiet (hr : HR P σ R h x w) (hd : L.Nodup) (hp : pull h (fun n => idxN L n 0) L = some H)
  (hre : HR P σe R' (number 0 H) H.length w') (hee : Ext (σ.at_ L) R (number 0 H) H.length w σe R' (number 0 H) H.length w') :
  Tie (nthN L) σe (σ.back σe x L.length) ∧ HR P (σ.back σe x L.length) R' h x w' ∧ Ext σ R h x w (σ.back σe x L.length) R' h x w' := by
 have hl := (pull_spec hp).1
 obtain ⟨h', h1, h2⟩ := quiet_back (g := nthN L) (fun n m hm => idx0 hm) hp
 have h3 : L ++ news x (H.length - L.length) = L := by rw [hl, Nat.sub_self]; simp [news]
 obtain ⟨q1, q2, q3⟩ := call_back (h' := h') hr hd (.inr hl) hp hre hee (by rw [h3]; exact h1)
 rw [h3] at q1
 rw [hl, Nat.sub_self, Nat.add_zero] at q2 q3
 have hal : ∀ n, Alive h n → Alive h' n := fun n ha => by unfold Alive at ha ⊢; rw [h2 n]; exact ha
 exact ⟨q1, q2.congr h2, q3.fr, q3.le, q3.sg, q3.rr, q3.rfoot, fun n b hn ha => q3.foot n b hn (hal n ha)⟩
end
theorem HR.grow (hr : HR P σ R h x w) (hrr : ∀ a v, R a = some v → R' a = some v) (hro : ∀ a v, R' a = some v → w.cell? a = some v)
  (hsep : ∀ n b a, Pc σ n b → Alive h n → b.nil = false → R' a ≠ none → a.block ≠ b.g) : HR P σ R' h x w := by
 refine ⟨hr.shp, hr.mpb, fun n b k h1 h2 h3 hmp => ?_, hr.dom, hr.inj, hro, hsep, hr.lt, fun n b k e s l h1 h2 h3 => (hr.own n b k e s l h1 h2 h3).mono hrr⟩
 obtain ⟨q1, cs, fr, q2, q3, q4, q5⟩ := hr.blk n b k h1 h2 h3 hmp
 exact ⟨q1, cs, fr, q2, q3, VC.mono (fun _ _ h => h) hrr q4, q5⟩
def Held (σ : Sg) (h : Hp) (F : List Nat) (g : Nat) : Prop := ∃ n b, n ∈ F ∧ σ n = some b ∧ Alive h n ∧ b.nil = false ∧ b.g = g
open Classical in
noncomputable def Ro.more (R : Ro) (σ : Sg) (h : Hp) (F : List Nat) (w : World) : Ro := fun a =>
 match R a with
 | some v => some v
 | none => if Held σ h F a.block then w.cell? a else none
theorem Ro.more_rr {F : List Nat} {a : Addr} {v : Value} (hh : R a = some v) : R.more σ h F w a = some v := by unfold Ro.more; rw [hh]
theorem Ro.more_ro (hr : HR P σ R h x w) {F : List Nat} {a : Addr} {v : Value} (hh : R.more σ h F w a = some v) : w.cell? a = some v := by
 unfold Ro.more at hh
 split at hh
 ·cases hh; exact hr.ro _ _ ‹_›
 ·split at hh
  ·exact hh
  ·cases hh
theorem Ro.more_foot {F : List Nat} {a : Addr} (hh : R.more σ h F w a ≠ none) : R a ≠ none ∨ Held σ h F a.block := by
 unfold Ro.more at hh
 split at hh
 ·rename_i hq; exact .inl (by rw [hq]; simp)
 ·split at hh
  ·exact .inr ‹_›
  ·exact absurd rfl hh
theorem Ro.more_held (hr : HR P σ R h x w) {F : List Nat} {a : Addr} {v : Value} (hF : Held σ h F a.block) (hc : w.cell? a = some v) : R.more σ h F w a = some v := by
 unfold Ro.more
 split
 ·rename_i u hu
  rw [hr.ro _ _ hu] at hc
  exact hc
 ·rw [if_pos hF]; exact hc
section
variable {old F : List Nat}
theorem asData_ros {a v : AV} (hh : asData h a = some v) : ∃ s l, v = .ros s l := by
 unfold asData at hh
 split at hh
 ·split at hh
  ·split at hh
   ·cases hh; exact ⟨_, _, rfl⟩
   ·cases hh
  ·cases hh
 ·split at hh
  ·split at hh
   ·have := (cond_none hh).2; cases this; exact ⟨_, _, rfl⟩
   ·have := (cond_none hh).2; cases this; exact ⟨_, _, rfl⟩
   ·cases hh
  ·cases hh
 ·cases hh
theorem part_v1 (hr : HR P σ R h x w) {n o len : Nat} {p : List Nat} {v : Value} {s : Sch} {m : List s.den} (he : elems h s (.ss n p o len) = some m) (hw0 : s.w ≠ 0) (hn : n ∈ F) (ha : Alive h n) (hv : V1 σ R (.ss n p o len) v) :
  V1 σ (R.more σ h F w) (.ros s m) v := by
 obtain ⟨A, c, news, h1, h2, h3⟩ := elems_spec he hr (show VV σ R (.ss n p o len) v from hv) hw0
 obtain ⟨B, N, s2, a, cap, o0, g1, g2, g3, g4, g5, g6, g7, g8, _⟩ := hv
 rw [h1] at g5
 simp only [Value.slice.injEq] at g5
 obtain ⟨rfl, hl, rfl⟩ := g5
 subst h1
 refine ⟨A, c, rfl, by omega, g7, fun hp => ?_⟩
 obtain ⟨ad, hA, h4⟩ := h3 hp
 obtain ⟨g9, g10⟩ := g8 (by omega)
 rw [hA] at g9
 simp only [Option.some.injEq] at g9
 subst g9
 have hheld : Held σ h F B.g := ⟨n, B, hn, g1, ha, g10, rfl⟩
 refine ⟨_, hA, fun i hi => ⟨cut news (i * s.w) s.w, ⟨?_, fun j u hu => ?_⟩, SC.mono (fun _ _ => Ro.more_rr) (h2.2 i hi)⟩⟩
 ·exact SC.length (h2.2 i hi)
 ·rw [cut_get] at hu
  split at hu
  ·refine Ro.more_held hr (by rw [addr_add, addr_add]; exact hheld) ?_
   rw [add_of_add]
   exact h4 _ _ hu
  ·cases hu
theorem asData_v1 (hr : HR P σ R h x w) {a d : AV} {v : Value} (hd : asData h a = some d) (hF : ∀ n ∈ a.names, n ∈ F) (hv : V1 σ R a v) : V1 σ (R.more σ h F w) d v := by
 unfold asData at hd
 split at hd
 ·rename_i n
  split at hd
  ·rename_i b hb
   obtain ⟨c, e⟩ := b
   split at hd
   ·rename_i s l hc
    cases hd
    dsimp only at hc
    subst hc
    obtain ⟨B, sh, len, cap, h1, h2, h3, h4, h5, h6, h7⟩ := hv
    have hsh := (hr.shp n B ⟨.lst s l, e⟩ h1 hb).1
    rw [h2] at hsh
    simp only [AV.shp, Shp.arr.injEq] at hsh
    obtain ⟨rfl, hss⟩ := hsh
    refine ⟨_, cap, by rw [h3], h4, h6, fun hp => ?_⟩
    have hnl : B.nil = false := by
     cases hq : B.nil with
     | false => rfl
     | true => have := h7 hq; omega
    have hal : Alive h n := by unfold Alive; rw [hb]; simp
    have hheld : Held σ h F B.g := ⟨n, B, hF n (List.mem_singleton_self n), h1, hal, hnl, rfl⟩
    obtain ⟨q1, cs, fr, q2, q3, q4, q5⟩ := hr.blk n B ⟨.lst s l, e⟩ h1 hb hnl rfl
    rw [hnl]
    refine ⟨_, rfl, fun i hi => ?_⟩
    have hq4 : SC R (.arr l.length s) (fun i => l.getD i s.zero) ((cs.toList.drop B.o).take (l.length * s.w)) := q4
    refine ⟨cut ((cs.toList.drop B.o).take (l.length * s.w)) (i * s.w) s.w, ⟨?_, fun j u hu => ?_⟩, SC.mono (fun _ _ => Ro.more_rr) (hq4.2 i hi)⟩
    ·exact SC.length (hq4.2 i hi)
    ·refine Ro.more_held hr (by rw [addr_add, addr_add]; exact hheld) ?_
     rw [addr_add]
     exact cut_cells q2 (mul_in hi) j u hu
   ·cases hd
  ·cases hd
 ·rename_i n p o len
  split at hd
  ·rename_i b hb
   have hal : Alive h n := by unfold Alive; rw [hb]; simp
   have hn : n ∈ F := hF n (List.mem_singleton_self n)
   split at hd
   ·rename_i s l hc
    obtain ⟨q1, q2⟩ := cond_none hd
    cases q2
    exact part_v1 hr (by simp [elems, hb, hc]) (fun e => by rw [e] at q1; cases q1) hn hal hv
   ·rename_i s N f hc
    obtain ⟨q1, q2⟩ := cond_none hd
    cases q2
    exact part_v1 hr (by simp [elems, hb, hc]) (fun e => by rw [e] at q1; cases q1) hn hal hv
   ·cases hd
  ·cases hd
 ·cases hd
def AV.row : AV → Bool
 | .sl _ => true | .ss _ _ _ _ => true | _ => false
theorem froze_row {a : AV} (ha : a.row = true) (hF : ∀ n ∈ a.frozen old h, n ∈ F) : a.froze old h = a ∨ ∃ s l, a.froze old h = .ros s l ∧ asData h a = some (.ros s l) ∧ ∀ n ∈ a.names, n ∈ F := by
 cases a with
 | sl n =>
  simp only [AV.froze, AV.frozen] at hF ⊢
  cases hm : memN old n with
  | true => exact .inl rfl
  | false =>
   simp only [hm, cond_false] at hF ⊢
   cases hd : asData h (.sl n) with
   | none => exact .inl rfl
   | some d =>
    obtain ⟨s, l, rfl⟩ := asData_ros hd
    rw [hd] at hF
    exact .inr ⟨s, l, rfl, rfl, hF⟩
 | ss n p o len =>
  simp only [AV.froze, AV.frozen] at hF ⊢
  cases hm : memN old n with
  | true => exact .inl rfl
  | false =>
   simp only [hm, cond_false] at hF ⊢
   cases hd : asData h (.ss n p o len) with
   | none => exact .inl rfl
   | some d =>
    obtain ⟨s, l, rfl⟩ := asData_ros hd
    rw [hd] at hF
    exact .inr ⟨s, l, rfl, rfl, hF⟩
 | _ => cases ha
theorem row_vc {a : AV} (ha : a.row = true) {cs : List Value} : VC σ R a cs ↔ ∃ u, cs = [u] ∧ V1 σ R a u := by cases a <;> first | exact Iff.rfl | cases ha
theorem row_v0 {a : AV} (ha : a.row = true) {v : Value} : V0 σ R a v ↔ V1 σ R a v := by cases a <;> first | exact Iff.rfl | cases ha
theorem row_vv {a : AV} (ha : a.row = true) {v : Value} : VV σ R a v ↔ V1 σ R a v := by cases a <;> first | exact Iff.rfl | cases ha
theorem froze_r1 (hr : HR P σ R h x w) {a : AV} (ha : a.row = true) (hF : ∀ n ∈ a.frozen old h, n ∈ F) {v : Value} (hv : V1 σ R a v) :
  V1 σ (R.more σ h F w) (a.froze old h) v ∧ (a.froze old h = a ∨ ∃ s l, a.froze old h = .ros s l) := by
 rcases froze_row ha hF with h1 | ⟨s, l, h1, h2, h3⟩
 ·rw [h1]; exact ⟨V1.mono (fun _ _ h => h) (fun _ _ => Ro.more_rr) hv, .inl rfl⟩
 ·rw [h1]; exact ⟨asData_v1 hr h2 h3 hv, .inr ⟨s, l, rfl⟩⟩
theorem froze_rc (hr : HR P σ R h x w) {a : AV} (ha : a.row = true) (hF : ∀ n ∈ a.frozen old h, n ∈ F) {cs : List Value} (hv : VC σ R a cs) : VC σ (R.more σ h F w) (a.froze old h) cs := by
 obtain ⟨u, rfl, hu⟩ := (row_vc ha).1 hv
 obtain ⟨h1, h2⟩ := froze_r1 hr ha hF hu
 rcases h2 with h2 | ⟨s, l, h2⟩
 ·rw [h2] at h1 ⊢; exact (row_vc ha).2 ⟨u, rfl, h1⟩
 ·rw [h2] at h1 ⊢; exact ⟨u, rfl, h1⟩
theorem froze_r0 (hr : HR P σ R h x w) {a : AV} (ha : a.row = true) (hF : ∀ n ∈ a.frozen old h, n ∈ F) {v : Value} (hv : V0 σ R a v) : V0 σ (R.more σ h F w) (a.froze old h) v ∧ VV σ (R.more σ h F w) (a.froze old h) v := by
 obtain ⟨h1, h2⟩ := froze_r1 hr ha hF ((row_v0 ha).1 hv)
 rcases h2 with h2 | ⟨s, l, h2⟩
 ·rw [h2] at h1 ⊢; exact ⟨(row_v0 ha).2 h1, (row_vv ha).2 h1⟩
 ·rw [h2] at h1 ⊢; exact ⟨h1, h1⟩
theorem froze_vc (hr : HR P σ R h x w) : ∀ {a : AV} {cs : List Value}, (∀ n ∈ a.frozen old h, n ∈ F) → VC σ R a cs → VC σ (R.more σ h F w) (a.froze old h) cs := by
 intro a
 induction a with
 | node f ih => intro cs hF hv; exact ih hF hv
 | fcons a b iha ihb =>
  intro cs hF hv
  obtain ⟨c1, c2, rfl, h1, h2⟩ := hv
  simp only [AV.frozen, List.mem_append] at hF
  exact ⟨c1, c2, rfl, iha (fun n hn => hF n (.inl hn)) h1, ihb (fun n hn => hF n (.inr hn)) h2⟩
 | tup f ih => intro cs hF hv; obtain ⟨u, _, hu⟩ := hv; exact hu.elim
 | sl n => intro cs hF hv; exact froze_rc hr rfl hF hv
 | ss n p o len => intro cs hF hv; exact froze_rc hr rfl hF hv
 | _ => intro cs hF hv; exact VC.mono (fun _ _ h => h) (fun _ _ => Ro.more_rr) hv
theorem froze_v0 (hr : HR P σ R h x w) {a : AV} {v : Value} (hF : ∀ n ∈ a.frozen old h, n ∈ F) (hv : V0 σ R a v) : V0 σ (R.more σ h F w) (a.froze old h) v := by
 have keep : V0 σ (R.more σ h F w) a v := V0.mono (fun _ _ h => h) (fun _ _ => Ro.more_rr) hv
 cases a with
 | node f => obtain ⟨cs, h1, h2⟩ := hv; exact ⟨cs, h1, froze_vc hr hF h2⟩
 | sl n => exact (froze_r0 hr rfl hF hv).1
 | ss n p o len => exact (froze_r0 hr rfl hF hv).1
 | fcons a b => exact hv.elim
 | tup f => exact hv.elim
 | _ => exact keep
theorem froze_vt (hr : HR P σ R h x w) : ∀ {a : AV} {vs : List Value}, (∀ n ∈ a.frozen old h, n ∈ F) → VT σ R a vs → VT σ (R.more σ h F w) (a.froze old h) vs := by
 intro a
 induction a with
 | fnil => intro vs hF hv; exact hv
 | fcons a b iha ihb =>
  intro vs hF hv
  obtain ⟨u, vs', rfl, h1, h2⟩ := hv
  simp only [AV.frozen, List.mem_append] at hF
  exact ⟨u, vs', rfl, froze_v0 hr (fun n hn => hF n (.inl hn)) h1, ihb (fun n hn => hF n (.inr hn)) h2⟩
 | _ => intro vs hF hv; exact hv.elim
theorem froze_vv (hr : HR P σ R h x w) {a : AV} {v : Value} (hF : ∀ n ∈ a.frozen old h, n ∈ F) (hv : VV σ R a v) : VV σ (R.more σ h F w) (a.froze old h) v := by
 cases a with
 | tup f => obtain ⟨vs, h1, h2⟩ := hv; exact ⟨vs, h1, froze_vt hr hF h2⟩
 | sl n => exact (froze_r0 hr rfl hF hv).2
 | ss n p o len => exact (froze_r0 hr rfl hF hv).2
 | fcons a b => exact hv.elim
 | node f => exact froze_v0 hr hF (show V0 σ R (.node f) v from hv)
 | _ => exact VV.mono (fun _ _ h => h) (fun _ _ => Ro.more_rr) hv
end
theorem plain_sc : ∀ {s : Sch} {d : s.den} {cs : List Value}, s.plain = true → SC R s d cs → SC R' s d cs := by
 intro s
 induction s with
 | fcons a b iha ihb =>
  rintro d cs hp ⟨c1, c2, rfl, h1, h2⟩
  simp only [Sch.plain, Bool.and_eq_true] at hp
  exact ⟨c1, c2, rfl, iha hp.1 h1, ihb hp.2 h2⟩
 | stru f ih => intro d cs hp h; exact ih hp h
 | arr n s ih => rintro d cs hp ⟨h1, h2⟩; exact ⟨h1, fun i hi => ih hp (h2 i hi)⟩
 | sl s ih => intro d cs hp; cases hp
 | _ => intro d cs hp h; exact h
theorem plain_v1 {a : AV} {v : Value} (hp : a.plain = true) (hv : V1 σ R a v) : V1 σ' R' a v := by
 cases a <;> first | exact hv | exact absurd hp (by simp [AV.plain])
theorem plain_vc : ∀ {a : AV} {cs : List Value}, a.plain = true → VC σ R a cs → VC σ' R' a cs := by
 intro a
 induction a with
 | node f ih => intro cs hp h; exact ih hp h
 | fnil => intro cs hp h; exact h
 | fcons a b iha ihb =>
  rintro cs hp ⟨c1, c2, rfl, h1, h2⟩
  simp only [AV.plain, Bool.and_eq_true] at hp
  exact ⟨c1, c2, rfl, iha hp.1 h1, ihb hp.2 h2⟩
 | vec s n f => intro cs hp h; exact plain_sc (s := .arr n s) hp h
 | lst s l => intro cs hp; cases hp
 | fam e s l => intro cs hp; cases hp
 | tup f => rintro cs hp ⟨u, rfl, hu⟩; exact hu.elim
 | _ => rintro cs hp ⟨u, rfl, hu⟩; exact ⟨u, rfl, plain_v1 hp hu⟩
theorem plain_v0 {a : AV} {v : Value} (hp : a.plain = true) (hv : V0 σ R a v) : V0 σ' R' a v := by
 cases a with
 | any => trivial
 | node f => obtain ⟨cs, h1, h2⟩ := hv; exact ⟨cs, h1, plain_vc hp h2⟩
 | vec s n f => obtain ⟨cs, h1, h2⟩ := hv; exact ⟨cs, h1, plain_sc (s := .arr n s) hp h2⟩
 | _ => simp only [V0] at hv ⊢; exact plain_v1 hp hv
theorem plain_vt : ∀ {a : AV} {vs : List Value}, a.plain = true → VT σ R a vs → VT σ' R' a vs := by
 intro a
 induction a with
 | fnil => intro vs hp h; exact h
 | fcons a b _ ihb =>
  rintro vs hp ⟨v, vs', rfl, h1, h2⟩
  simp only [AV.plain, Bool.and_eq_true] at hp
  exact ⟨v, vs', rfl, plain_v0 hp.1 h1, ihb hp.2 h2⟩
 | _ => intro vs hp h; exact h.elim
theorem plain_vv {a : AV} {v : Value} (hp : a.plain = true) (hv : VV σ R a v) : VV σ' R' a v := by
 cases a with
 | tup f => obtain ⟨vs, h1, h2⟩ := hv; exact ⟨vs, h1, plain_vt hp h2⟩
 | _ => simp only [VV] at hv ⊢; exact plain_v0 hp hv
theorem HR.bare {R : Ro} (hro : ∀ a v, R a = some v → w.cell? a = some v) : HR P (fun _ => none) R (number 0 []) ([] : List (Option Blk)).length w := by
 refine ⟨?_, ?_, ?_, ?_, ?_, hro, ?_, ?_, ?_⟩
 ·intro n b k hh; cases hh
 ·intro n b k hh; cases hh
 ·intro n b k hh; cases hh
 ·intro n b hh; cases hh
 ·intro n m b b' hh; obtain ⟨_, hh, _⟩ := hh; cases hh
 ·intro n b a hh; obtain ⟨_, hh, _⟩ := hh; cases hh
 ·intro n b hh; obtain ⟨_, hh, _⟩ := hh; cases hh
 ·intro n b k e s l hh; cases hh
theorem call_lent (hr : HR P σ R h x w) {σ2 : Sg} {R1 R2 : Ro} {x2 : Nat} (hsg : ∀ n, σ2 n = none) (hee : Ext σ2 R1 (number 0 []) x2 w σ' R2 h' x' w') (hro : ∀ a v, R1 a = some v → w.cell? a = some v) (hR : ∀ a v, R a = some v → R1 a = some v) (hr2 : ∀ a v, R2 a = some v → w'.cell? a = some v) : HR P σ R h x w' ∧ Ext σ R h x w σ R h x w' := by
 have hkeep : ∀ i, i < w.heap.size → w'.heap[i]? = w.heap[i]? := fun i hi => hee.fr.block i hi fun n b hn => by obtain ⟨_, hn, _⟩ := hn; rw [hsg n] at hn; cases hn
 refine ⟨⟨hr.shp, fun n b k h1 h2 h3 hmp => (hr.mpb n b k h1 h2 h3 hmp).heap (hkeep b.g (hr.lt n b (.of h1) h3)), fun n b k h1 h2 h3 hmp => ?_, hr.dom, hr.inj, fun a v hh => hr2 a v (hee.rr a v (hR a v hh)), hr.sep, fun n b h1 h2 => Nat.lt_of_lt_of_le (hr.lt n b h1 h2) hee.fr.size, fun n b k e s l h1 h2 h3 => hr.keep h1 h2 h3 fun c p1 p2 => hkeep c.g (hr.lt n c p1 p2)⟩, ⟨⟨hee.fr.os, hee.fr.tape, hee.fr.output, hee.fr.size, fun i hi _ => hkeep i hi⟩, Nat.le_refl _, fun _ _ => rfl, fun _ _ hh => hh, fun _ hh => .inl hh, fun n b hn ha hl => .inl ⟨n, b, hn, ha, hl, rfl⟩⟩⟩
 obtain ⟨q1, cs, fr, q2, q3, q4, q5⟩ := hr.blk n b k h1 h2 h3 hmp
 exact ⟨q1, cs, fr, by rw [hkeep b.g (hr.lt n b (.of h1) h3)]; exact q2, q3, q4, q5⟩
theorem own_v1 {a : AV} {v : Value} (hp : a.own = true) (hv : V1 σ R a v) : V1 σ R' a v := by
 cases a <;> first | exact hv | exact absurd hp (by simp [AV.own])
theorem own_vc : ∀ {a : AV} {cs : List Value}, a.own = true → VC σ R a cs → VC σ R' a cs := by
 intro a
 induction a with
 | node f ih => intro cs hp h; exact ih hp h
 | fnil => intro cs hp h; exact h
 | fcons a b iha ihb =>
  rintro cs hp ⟨c1, c2, rfl, h1, h2⟩
  simp only [AV.own, Bool.and_eq_true] at hp
  exact ⟨c1, c2, rfl, iha hp.1 h1, ihb hp.2 h2⟩
 | vec s n f => intro cs hp h; exact plain_sc (s := .arr n s) hp h
 | lst s l => intro cs hp h; exact plain_sc (s := .arr l.length s) hp h
 | fam e s l => intro cs hp h; exact h
 | tup f => rintro cs hp ⟨u, rfl, hu⟩; exact hu.elim
 | _ => rintro cs hp ⟨u, rfl, hu⟩; exact ⟨u, rfl, own_v1 hp hu⟩
theorem own_v0 {a : AV} {v : Value} (hp : a.own = true) (hv : V0 σ R a v) : V0 σ R' a v := by
 cases a with
 | any => trivial
 | node f => obtain ⟨cs, h1, h2⟩ := hv; exact ⟨cs, h1, own_vc hp h2⟩
 | vec s n f => obtain ⟨cs, h1, h2⟩ := hv; exact ⟨cs, h1, plain_sc (s := .arr n s) hp h2⟩
 | _ => simp only [V0] at hv ⊢; exact own_v1 hp hv
theorem own_vt : ∀ {a : AV} {vs : List Value}, a.own = true → VT σ R a vs → VT σ R' a vs := by
 intro a
 induction a with
 | fnil => intro vs hp h; exact h
 | fcons a b _ ihb =>
  rintro vs hp ⟨v, vs', rfl, h1, h2⟩
  simp only [AV.own, Bool.and_eq_true] at hp
  exact ⟨v, vs', rfl, own_v0 hp.1 h1, ihb hp.2 h2⟩
 | _ => intro vs hp h; exact h.elim
theorem own_vv {a : AV} {v : Value} (hp : a.own = true) (hv : VV σ R a v) : VV σ R' a v := by
 cases a with
 | tup f => obtain ⟨vs, h1, h2⟩ := hv; exact ⟨vs, h1, own_vt hp h2⟩
 | _ => simp only [VV] at hv ⊢; exact own_v0 hp hv
theorem ownH_spec : ∀ {H : List (Option Blk)} {b : Blk}, ownH H = true → some b ∈ H → b.c.own = true
 | some c :: l, b, hh, hm => by
  simp only [ownH, Bool.and_eq_true] at hh
  simp only [List.mem_cons, Option.some.injEq] at hm
  rcases hm with rfl | hm
  ·exact hh.1
  ·exact ownH_spec hh.2 hm
 | none :: l, b, hh, hm => by
  simp only [List.mem_cons, reduceCtorEq, false_or] at hm
  exact ownH_spec (H := l) hh hm
theorem call_give (hr : HR P σ R h x w) {σe : Sg} {R1 R2 : Ro} {H' : List (Option Blk)} (hee : Ext (fun _ => none) R1 (number 0 []) ([] : List (Option Blk)).length w σe R2 (number 0 H') H'.length w') (hro : ∀ a v, R1 a = some v → w.cell? a = some v) (hR : ∀ a v, R a = some v → R1 a = some v)
  (hre : HR P σe R2 (number 0 H') H'.length w') (hown : ownH H' = true) (F : List Nat) :
  HR P σe R (number 0 H') H'.length w' ∧ HR P σ (R.more σe (number 0 H') F w') h x w' ∧ Ext σ R h x w σ (R.more σe (number 0 H') F w') h x w' := by
 obtain ⟨p1, p2⟩ := call_lent hr (fun _ => rfl) hee hro hR hre.ro
 have hfar : ∀ n b, Pc σe n b → Alive (number 0 H') n → b.nil = false → w.heap.size ≤ b.g := fun n b hn ha hl => by
  rcases hee.foot n b hn ha hl with ⟨m, b', q1, _⟩ | hh
  ·obtain ⟨_, q1, _⟩ := q1; cases q1
  ·exact hh
 have hnear : ∀ a, R a ≠ none → a.block < w.heap.size := fun a ha => by
  obtain ⟨v, hv⟩ := Option.ne_none_iff_exists'.1 ha
  exact block_lt_of_cell (hr.ro a v hv)
 have hre' : HR P σe R (number 0 H') H'.length w' := by
  have hin : ∀ n k, hget (number 0 H') n = some k → some k ∈ H' := fun n k h2 => by
   rw [hget_number0] at h2
   cases h6 : H'[n]? with
   | none => rw [h6] at h2; cases h2
   | some u => rw [h6] at h2; simp at h2; subst h2; exact List.mem_of_getElem? h6
  refine ⟨hre.shp, hre.mpb, fun n b k h1 h2 h3 hmp => ?_, hre.dom, hre.inj, p1.ro, fun n b a h1 h2 h3 h4 e => ?_, hre.lt, fun n b k e s l h1 h2 h3 => ?_⟩
  ·obtain ⟨q1, cs, fr, q2, q3, q4, q5⟩ := hre.blk n b k h1 h2 h3 hmp
   exact ⟨q1, cs, fr, q2, q3, own_vc (ownH_spec hown (hin n k h2)) q4, q5⟩
  ·have := hfar n b h1 h2 h3
   have := hnear a h4
   omega
  ·have ho := hre.own n b k e s l h1 h2 h3
   have hpl := ownH_spec hown (hin n k h2)
   rw [h3] at hpl
   exact ⟨ho.len, fun i c hi => ⟨(ho.row i c hi).sh, (ho.row i c hi).e, fun hn => by
    obtain ⟨q1, cs, fr, q2, q3, q4, q5⟩ := (ho.row i c hi).blk hn
    exact ⟨q1, cs, fr, q2, q3, plain_sc (s := .arr (l.getD i []).length s) hpl q4, q5⟩⟩, ho.cell, ho.in1, ho.out⟩
 refine ⟨hre', HR.grow p1 (fun _ _ => Ro.more_rr) (fun _ _ => Ro.more_ro hre') fun n b a h1 h2 h3 h4 e => ?_, p2.fr, p2.le, p2.sg, fun _ _ => Ro.more_rr, fun a ha => ?_, p2.foot⟩
 ·rcases Ro.more_foot h4 with h6 | ⟨m, b', _, hm2, hm3, hm4, hm5⟩
  ·exact hr.sep n b a h1 h2 h3 h6 e
  ·have := hfar m b' (.of hm2) hm3 hm4
   have := hr.lt n b h1 h3
   omega
 ·rcases Ro.more_foot ha with h6 | ⟨m, b', _, hm2, hm3, hm4, hm5⟩
  ·exact .inl h6
  ·have := hfar m b' (.of hm2) hm3 hm4
   exact .inr (.inr (by omega))
theorem froze_vl (hr : HR P σ R h x w) {F : List Nat} {VLX : Ro → List AV → List Value → Prop} (h0 : ∀ R, VLX R [] []) (h1 : ∀ R a l v m, VLX R (a :: l) (v :: m) ↔ VV σ R a v ∧ VLX R l m) (h2 : ∀ R a l, ¬ VLX R (a :: l) []) (h3 : ∀ R v m, ¬ VLX R [] (v :: m)) :
  ∀ {l : List AV} {m : List Value}, (∀ a ∈ l, ∀ n ∈ a.frozen [] h, n ∈ F) → VLX R l m → VLX (R.more σ h F w) (l.map (AV.froze [] h)) m
 | [], [], _, _ => h0 _
 | [], _ :: _, _, hv => absurd hv (h3 _ _ _)
 | _ :: _, [], _, hv => absurd hv (h2 _ _ _)
 | a :: l, v :: m, hF, hv => by
  obtain ⟨q1, q2⟩ := (h1 _ _ _ _ _).1 hv
  exact (h1 _ _ _ _ _).2 ⟨froze_vv hr (hF a (List.mem_cons_self ..)) q1, froze_vl hr h0 h1 h2 h3 (fun b hb => hF b (List.mem_cons_of_mem _ hb)) q2⟩
open Go.MapKept in
theorem sc_key {t : Nat} {tk : TI} {i : TypeInfo} {d : TypeDesc} (k : TyIs P t tk i d) {s : Sch} (hs : tk.k.isSc s = true) (x : s.den) : IsKey d (toVal s x) := by
 unfold TK.isSc at hs
 split at hs
 ·rename_i k1 k2 hk
  have := k.int hk
  subst this
  have : k2 = k1 := of_decide_eq_true hs
  subst this
  rfl
 ·rename_i hk
  have := k.kind
  rw [hk] at this
  simp only [kindB] at this
  cases d <;> first | trivial | cases this
 ·rename_i hk
  have := k.str hk
  subst this
  trivial
 ·cases hs
theorem sc_same {t : Nat} {tk : TI} {i : TypeInfo} {d : TypeDesc} (k : TyIs P t tk i d) {s : Sch} (hs : tk.k.isSc s = true) (x y : s.den) : Instr.sameNow d (toVal s x) (toVal s y) = some (schEq s x y) := by
 unfold TK.isSc at hs
 split at hs
 ·rename_i k1 k2 hk
  have := k.int hk
  subst this
  simp [toVal, Instr.sameNow, schEq]
 ·rename_i hk
  have := k.kind
  rw [hk] at this
  simp only [kindB] at this
  cases d <;> first | rfl | cases this
 ·rename_i hk
  have := k.str hk
  subst this
  rfl
 ·cases hs
def kvIdx (ks : Sch) {α : Type} (key : ks.den) : List (ks.den × α) → Nat → Option (Nat × α)
 | [], _ => none
 | p :: l, i => bif schEq ks key p.1 then some (i, p.2) else kvIdx ks key l (i + 1)
theorem kvGet_idx {ks : Sch} {α : Type} {key : ks.den} : ∀ (l : List (ks.den × α)) (i : Nat), kvGet ks key l = (kvIdx ks key l i).map (·.2)
 | [], _ => rfl
 | p :: l, i => by
  unfold kvGet kvIdx
  cases schEq ks key p.1 with
  | true => rfl
  | false => exact kvGet_idx l (i + 1)
theorem kvPut_none {ks : Sch} {α : Type} {key : ks.den} {v : α} : ∀ (l : List (ks.den × α)) (i : Nat), kvIdx ks key l i = none → kvPut ks key v l = l ++ [(key, v)]
 | [], _, _ => rfl
 | p :: l, i, hh => by
  unfold kvIdx at hh
  unfold kvPut
  cases hq : schEq ks key p.1 with
  | true => rw [hq] at hh; cases hh
  | false => rw [hq] at hh; simp only [cond_false, List.cons_append]; rw [kvPut_none l (i + 1) hh]
theorem kvPut_some {ks : Sch} {α : Type} {key : ks.den} {v u : α} : ∀ (l : List (ks.den × α)) (i j : Nat), kvIdx ks key l i = some (j, u) → i ≤ j ∧ j - i < l.length ∧ kvPut ks key v l = l.set (j - i) (key, v) ∧ ∃ p, l[j - i]? = some p ∧ schEq ks key p.1 = true
 | [], _, _, hh => by cases hh
 | p :: l, i, j, hh => by
  unfold kvIdx at hh
  unfold kvPut
  cases hq : schEq ks key p.1 with
  | true =>
   rw [hq] at hh
   simp only [cond_true, Option.some.injEq, Prod.mk.injEq] at hh
   obtain ⟨rfl, rfl⟩ := hh
   simp [hq]
  | false =>
   rw [hq] at hh
   simp only [cond_false] at hh ⊢
   obtain ⟨h1, h2, h3, p', h4, h5⟩ := kvPut_some (v := v) l (i + 1) j hh
   have e : j - i = (j - (i + 1)) + 1 := by omega
   refine ⟨by omega, by simp; omega, ?_, p', ?_, h5⟩
   ·rw [h3, e, List.set_cons_succ]
   ·rw [e]; simpa using h4
theorem es_find {t : Nat} {tk : TI} {i : TypeInfo} {d : TypeDesc} (k : TyIs P t tk i d) {ks vs : Sch} (hs : tk.k.isSc ks = true) (key : ks.den) : ∀ (l : List (ks.den × vs.den)) (es : List MapEntry) (n : Nat), es.map (fun e => (e.key, e.val)) = l.map (fun p => (toVal ks p.1, toVal vs p.2)) →
  Instr.findNow d (toVal ks key) es n = some ((kvIdx ks key l n).map fun q => (q.1, toVal vs q.2))
 | [], [], _, _ => rfl
 | [], _ :: _, _, hh => by cases hh
 | _ :: _, [], _, hh => by cases hh
 | p :: l, e :: es, n, hh => by
  simp only [List.map_cons, List.cons.injEq, Prod.mk.injEq] at hh
  obtain ⟨⟨h1, h2⟩, h3⟩ := hh
  unfold Instr.findNow kvIdx
  rw [h1, sc_same k hs]
  cases schEq ks key p.1 with
  | true => simp [h2]
  | false => simpa using es_find k hs key l es (n + 1) h3
theorem sc_v0 {s : Sch} (hs : s.sc = true) {v : AV} {x : s.den} {cv : Value} (ho : ofAV s v = some x) (hv : VV σ R v cv) : cv = toVal s x := by
 cases s <;> simp only [Sch.sc, Bool.false_eq_true] at hs
 ·cases v <;> simp only [ofAV, reduceCtorEq] at ho
  split at ho
  ·cases ho; rename_i e; subst e; exact hv
  ·cases ho
 ·cases v <;> simp only [ofAV, reduceCtorEq] at ho
  cases ho; exact hv
 ·cases v <;> simp only [ofAV, reduceCtorEq] at ho
  cases ho; exact hv
theorem sc_vv {s : Sch} (hs : s.sc = true) (x : s.den) : VV σ R (toAV s x) (toVal s x) := by
 cases s <;> simp only [Sch.sc, Bool.false_eq_true] at hs <;> rfl
theorem mapTy_spec (hT : TyOk P T) {ty : Nat} {ks vs : Sch} (hm : mapTy T ty = some (ks, vs)) :
  ∃ kt et tk te ik ie dk de, P.underlying ty = some (.map kt et) ∧ TyIs P kt tk ik dk ∧ TyIs P et te ie de ∧ ks.sc = true ∧ vs.sc = true ∧ tk.k.isSc ks = true ∧ te.k.isSc vs = true ∧ te.sch = some vs := by
 unfold mapTy at hm
 split at hm
 ·rename_i ti hti
  split at hm
  ·rename_i kt et hk
   split at hm
   ·rename_i tk te htk hte
    split at hm
    ·rename_i ks' vs' hks hvs
     obtain ⟨h1, h2⟩ := cond_some hm
     cases h2
     simp only [Bool.and_eq_true] at h1
     obtain ⟨⟨⟨q1, q2⟩, q3⟩, q4⟩ := h1
     obtain ⟨i, d, hi⟩ := hT.is hti
     obtain ⟨ik, dk, hik⟩ := hT.is htk
     obtain ⟨ie, de, hie⟩ := hT.is hte
     have := hi.map hk
     subst this
     exact ⟨kt, et, tk, te, ik, ie, dk, de, hi.und, hik, hie, q1, q2, q3, q4, hvs⟩
    ·cases hm
   ·cases hm
  ·cases hm
 ·cases hm
theorem sc_zero {t : Nat} {te : TI} {ie : TypeInfo} {de : TypeDesc} (k : TyIs P t te ie de) {vs : Sch} (h1 : te.k.isSc vs = true) (h2 : te.sch = some vs) (w : World) : (zeroValue t).run P w = .ok (toVal vs vs.zero) w := by
 obtain ⟨_, v, hv, hz⟩ := k.sch vs h2
 have hag : te.k.agg = false := by
  unfold TK.isSc at h1
  split at h1 <;> simp_all [TK.agg]
 have hne := k.one hag v hv
 have hc : v.cells.toList = [v] := by cases v <;> first | rfl | exact absurd rfl (hne _)
 rw [hc] at hz
 have hval : v = toVal vs vs.zero := by
  unfold TK.isSc at h1
  split at h1
  ·cases v <;> simp [zeroB.schB] at hz
   obtain ⟨rfl, rfl⟩ := hz; rfl
  ·cases v <;> simp [zeroB.schB] at hz
   subst hz; rfl
  ·cases v <;> simp [zeroB.schB] at hz
   rename_i s
   show Value.string s = Value.string _
   congr 1
   exact bytes_ext hz
  ·cases h1
 subst hval
 simp [zeroValue, typeInfo, k.info, hv]
theorem HR.allocMap (hr : HR P σ R h x w) {ks vs : Sch} {e : Nat} :
  HR P (Sg.put σ x ⟨w.heap.size, 0, .one, e, false, 0, []⟩) R ((x, some ⟨.kvs ks vs [], e⟩) :: h) (x + 1) (w.alloc (.map #[] 0)) ∧
  Ext σ R h x w (Sg.put σ x ⟨w.heap.size, 0, .one, e, false, 0, []⟩) R ((x, some ⟨.kvs ks vs [], e⟩) :: h) (x + 1) (w.alloc (.map #[] 0)) := by
 have hs : ∀ n b, σ n = some b → Sg.put σ x ⟨w.heap.size, 0, .one, e, false, 0, []⟩ n = some b := fun n b hn => by
  have := hr.dom n b hn
  unfold Sg.put; rw [if_neg (by omega)]; exact hn
 have hal : ∀ n, n ≠ x → (Alive ((x, some ⟨.kvs ks vs [], e⟩) :: h) n ↔ Alive h n) := fun n hn => by
  unfold Alive; rw [hget_cons, if_neg (Ne.symm hn)]
 refine ⟨⟨?_, ?_, ?_, ?_, ?_, ?_, ?_, ?_, ?_⟩, ⟨⟨rfl, rfl, rfl, by rw [alloc_size]; omega, fun i hi _ => heap_alloc_old w _ i hi⟩, by omega, fun n hn => by unfold Sg.put; rw [if_neg (by omega)], fun _ _ h => h, fun _ h => .inl h, ?_⟩⟩
 ·intro n b k hn hk
  rw [hget_cons] at hk
  by_cases e1 : n = x
  ·subst e1
   rw [if_pos rfl] at hk
   cases hk
   simp only [Sg.put, if_true, Option.some.injEq] at hn
   subst hn
   exact ⟨rfl, rfl⟩
  ·rw [if_neg (Ne.symm e1)] at hk
   simp only [Sg.put, if_neg e1] at hn
   exact hr.shp n b k hn hk
 ·intro n b k hn hk hnl hmp
  rw [hget_cons] at hk
  by_cases e1 : n = x
  ·subst e1
   rw [if_pos rfl] at hk
   cases hk
   simp only [Sg.put, if_true, Option.some.injEq] at hn
   subst hn
   exact ⟨ks, vs, [], #[], 0, rfl, heap_alloc_new w _, rfl⟩
  ·rw [if_neg (Ne.symm e1)] at hk
   simp only [Sg.put, if_neg e1] at hn
   exact (hr.mpb n b k hn hk hnl hmp).heap (heap_alloc_old w _ _ (hr.lt n b (.of hn) hnl))
 ·intro n b k hn hk hnl hmp
  rw [hget_cons] at hk
  by_cases e1 : n = x
  ·subst e1
   rw [if_pos rfl] at hk
   cases hk
   cases hmp
  ·rw [if_neg (Ne.symm e1)] at hk
   simp only [Sg.put, if_neg e1] at hn
   obtain ⟨h3, cs', fr', h4, h5, h6, h7⟩ := hr.blk n b k hn hk hnl hmp
   exact ⟨h3, cs', fr', by rw [heap_alloc_old w _ _ (hr.lt n b (.of hn) hnl)]; exact h4, h5, VC.mono hs (fun _ _ h => h) h6, h7⟩
 ·intro n b hn
  by_cases e1 : n = x
  ·omega
  ·simp only [Sg.put, if_neg e1] at hn
   have := hr.dom n b hn; omega
 ·intro n m b b' hn hm ha hb hl1 hl2 hg
  by_cases e1 : n = x
  ·by_cases e2 : m = x
   ·omega
   ·subst e1
    replace hn := hn.put_eq rfl
    have := hr.lt m b' (hm.put_ne e2) hl2
    subst hn
    simp only at hg
    omega
  ·by_cases e2 : m = x
   ·subst e2
    replace hm := hm.put_eq rfl
    have := hr.lt n b (hn.put_ne e1) hl1
    subst hm
    simp only at hg
    omega
   ·replace hn := hn.put_ne e1
    replace hm := hm.put_ne e2
    exact hr.inj n m b b' hn hm ((hal n e1).1 ha) ((hal m e2).1 hb) hl1 hl2 hg
 ·intro a v ha
  exact World.cell_alloc _ (hr.ro a v ha)
 ·intro n b a hn ha hl1 hR
  by_cases e1 : n = x
  ·subst e1
   replace hn := hn.put_eq rfl
   subst hn
   obtain ⟨v, hv⟩ := Option.ne_none_iff_exists'.1 hR
   have := block_lt_of_cell (hr.ro a v hv)
   simp only; omega
  ·replace hn := hn.put_ne e1
   exact hr.sep n b a hn ((hal n e1).1 ha) hl1 hR
 ·intro n b hn hl1
  rw [alloc_size]
  by_cases e1 : n = x
  ·subst e1
   replace hn := hn.put_eq rfl
   subst hn; simp
  ·replace hn := hn.put_ne e1
   have := hr.lt n b hn hl1; omega
 ·intro n b k e' s l hn hk hc'
  rw [hget_cons] at hk
  by_cases e1 : n = x
  ·rw [if_pos e1.symm] at hk
   cases hk
   exact absurd hc' (by intro hh; cases hh)
  ·rw [if_neg (Ne.symm e1)] at hk
   simp only [Sg.put, if_neg e1] at hn
   exact hr.keep hn hk hc' fun c h1 h2 => heap_alloc_old w _ _ (hr.lt n c h1 h2)
 ·intro n b hn ha hl1
  by_cases e1 : n = x
  ·subst e1
   replace hn := hn.put_eq rfl
   subst hn; exact .inr (Nat.le_refl _)
  ·replace hn := hn.put_ne e1
   exact .inl ⟨n, b, hn, (hal n e1).1 ha, hl1, rfl⟩
def setObjAt (w : World) (g : Nat) (o : Obj) : World := { w with heap := w.heap.setIfInBounds g o }
theorem HR.setMap (hr : HR P σ R h x w) {n : Nat} {b : Bk} {k : Blk} (hn : σ n = some b) (hk : hget h n = some k) (hnl : b.nil = false) (hm0 : k.c.isMap = true) {o : Obj} (hg : w.heap[b.g]? = some o) {ks vs : Sch} {l : List (ks.den × vs.den)} {es : Array MapEntry} {clock : Nat}
  (hes : ES ks vs l es) :
  HR P σ R ((n, some ⟨.kvs ks vs l, k.e⟩) :: h) x (setObjAt w b.g (.map es clock)) ∧ Ext σ R h x w σ R ((n, some ⟨.kvs ks vs l, k.e⟩) :: h) x (setObjAt w b.g (.map es clock)) := by
 have hne' := Go.MapKept.heap_set (o' := .map es clock) hg
 have hal : ∀ m, (Alive ((n, some ⟨.kvs ks vs l, k.e⟩) :: h) m ↔ Alive h m) := fun m => by
  unfold Alive; rw [hget_cons]
  by_cases e : n = m
  ·subst e; simp [hk]
  ·rw [if_neg e]
 have hna : Alive h n := by unfold Alive; simp [hk]
 have hsz : (setObjAt w b.g (.map es clock)).heap.size = w.heap.size := by simp [setObjAt]
 have hshk := hr.shp n b k hn hk
 have h1s : k.c.shp = .one := by
  obtain ⟨c, e⟩ := k
  cases c <;> first | rfl | cases hm0
 refine ⟨⟨?_, ?_, ?_, hr.dom, ?_, ?_, ?_, ?_, ?_⟩, ⟨⟨rfl, rfl, rfl, by rw [hsz]; omega, fun i hi hne => ?_⟩, by omega, fun _ _ => rfl, fun _ _ h => h, fun _ h => .inl h, fun m b' hm ha hl1 => .inl ⟨m, b', hm, (hal m).1 ha, hl1, rfl⟩⟩⟩
 ·intro m b' k' hm hk'
  rw [hget_cons] at hk'
  by_cases e1 : n = m
  ·subst e1
   rw [if_pos rfl] at hk'
   cases hk'
   have : b' = b := by rw [hn] at hm; cases hm; rfl
   subst this
   exact ⟨by rw [← hshk.1, h1s]; rfl, hshk.2⟩
  ·rw [if_neg e1] at hk'
   exact hr.shp m b' k' hm hk'
 ·intro m b' k' hm hk' hnl' hmp
  rw [hget_cons] at hk'
  by_cases e1 : n = m
  ·subst e1
   rw [if_pos rfl] at hk'
   cases hk'
   have : b' = b := by rw [hn] at hm; cases hm; rfl
   subst this
   exact ⟨ks, vs, l, es, clock, rfl, hne'.1, hes⟩
  ·rw [if_neg e1] at hk'
   exact (hr.mpb m b' k' hm hk' hnl' hmp).heap (hne'.2 b'.g (fun e => e1 (hr.inj n m b b' (.of hn) (.of hm) hna (by unfold Alive; simp [hk']) hnl hnl' e.symm)))
 ·intro m b' k' hm hk' hnl' hmp
  rw [hget_cons] at hk'
  by_cases e1 : n = m
  ·subst e1
   rw [if_pos rfl] at hk'
   cases hk'
   cases hmp
  ·rw [if_neg e1] at hk'
   obtain ⟨h3, cs2, fr', h4, h5, h6, h7⟩ := hr.blk m b' k' hm hk' hnl' hmp
   refine ⟨h3, cs2, fr', ?_, h5, h6, h7⟩
   exact (hne'.2 b'.g (fun e => e1 (hr.inj n m b b' (.of hn) (.of hm) hna (by unfold Alive; simp [hk']) hnl hnl' e.symm))).trans h4
 ·intro m m' b1 b2 h1 h2 h3 h4 hl1 hl2 h5
  exact hr.inj m m' b1 b2 h1 h2 ((hal m).1 h3) ((hal m').1 h4) hl1 hl2 h5
 ·intro a v ha
  have := hr.ro a v ha
  have hne := hr.sep n b a (.of hn) hna hnl (by simp [ha])
  unfold World.cell? at this ⊢
  have e : (setObjAt w b.g (.map es clock)).heap[a.block]? = w.heap[a.block]? := hne'.2 a.block hne
  rw [e]; exact this
 ·intro m b' a hm ha hl1 hR
  exact hr.sep m b' a hm ((hal m).1 ha) hl1 hR
 ·intro m b' hm hl1
  rw [hsz]; exact hr.lt m b' hm hl1
 ·intro m b' k' e' s2 l2 hm hk' hc'
  rw [hget_cons] at hk'
  by_cases e1 : n = m
  ·rw [if_pos e1] at hk'
   cases hk'
   cases hc'
  ·rw [if_neg e1] at hk'
   exact hr.keep hm hk' hc' fun c p1 p2 => hne'.2 c.g (fun e => e1 (hr.inj n m b c (.of hn) p1 hna (by unfold Alive; simp [hk']) hnl p2 e.symm))
 ·exact hne'.2 i (fun e => hne n b (.of hn) hna hnl e.symm)
theorem makeMap_sound (hr : HR P σ R h x w) {e : Nat} {ks vs : Sch} : Makes P (Instr.makeMap e none) σ R h x w (.mp x) ((x, some ⟨.kvs ks vs [], e⟩) :: h) (x + 1) := by
 obtain ⟨r1, r2⟩ := hr.allocMap (ks := ks) (vs := vs) (e := e)
 refine ⟨.map (some w.heap.size), w.alloc (.map #[] 0), _, R, ?_, ⟨⟨w.heap.size, 0, .one, e, false, 0, []⟩, by simp [Sg.put], rfl, rfl⟩, r1, r2⟩
 simp [Instr.makeMap, newObj, Sem.run, Result.andThen]
theorem lookupA_sound (hT : TyOk P T) {ty : Nat} {m i : AV} {k : K1 X} (he : lookupA T ty h m i k = some r) :
  ∃ v, k v = some r ∧ ∀ {σ R x w cm ci}, HR P σ R h x w → VV σ R m cm → VV σ R i ci → ∃ cv, (Instr.lookup ty cm ci false).run P w = .ok cv w ∧ VV σ R v cv := by
 unfold lookupA at he
 split at he
 ·rename_i n
  split at he
  ·rename_i b hb
   split at he
   ·rename_i ks vs l hc
    obtain ⟨hm, he⟩ := cond_some he
    have hm := of_decide_eq_true hm
    split at he
    ·rename_i key hkey
     refine ⟨_, he, fun {σ R x w cm ci} hr hvm hvi => ?_⟩
     obtain ⟨kt, et, tk, te, ik, ie, dk, de, g1, g2, g3, g4, g5, g6, g7, g8⟩ := mapTy_spec hT hm
     obtain ⟨B, h1, hnl, rfl⟩ := hvm
     obtain rfl := sc_v0 g4 hkey hvi
     ·obtain ⟨ks', vs', l', es, clock, q1, q2, q3⟩ := hr.mpb n B b h1 hb hnl (by rw [hc]; rfl)
      rw [hc] at q1
      cases q1
      have hf := es_find g2 g6 key l es.toList 0 q3
      refine ⟨toVal vs ((kvGet ks key l).getD vs.zero), ?_, sc_vv g5 _⟩
      rw [kvGet_idx l 0]
      cases hx : kvIdx ks key l 0 with
      | none =>
       rw [hx] at hf
       simp [Instr.lookup, run_underlying g1, Go.MapKept.run_getObj_map q2, Go.MapKept.run_checkKey g2.und (sc_key g2 g6 key), Go.MapKept.run_findKey g2.und hf, sc_zero g3 g7 g8, Result.andThen]
      | some q =>
       rw [hx] at hf
       simp [Instr.lookup, run_underlying g1, Go.MapKept.run_getObj_map q2, Go.MapKept.run_checkKey g2.und (sc_key g2 g6 key), Go.MapKept.run_findKey g2.und hf, Result.andThen]
    ·cases he
   ·cases he
  ·cases he
 ·cases he
theorem mapUpdateA_sound (hT : TyOk P T) {ty : Nat} {m i v : AV} {k : K3 X} (he : mapUpdateA T ty h x m i v k = some r) :
  ∃ h', k .any h' x = some r ∧ ∀ {σ R w cm ci cv}, HR P σ R h x w → VV σ R m cm → VV σ R i ci → VV σ R v cv → ∃ w', (Instr.mapUpdate ty cm ci cv).run P w = .ok () w' ∧ HR P σ R h' x w' ∧ Ext σ R h x w σ R h' x w' := by
 unfold mapUpdateA at he
 split at he
 ·rename_i n
  split at he
  ·rename_i b hb
   split at he
   ·rename_i ks vs l hc
    obtain ⟨hm, he⟩ := cond_some he
    have hm := of_decide_eq_true hm
    split at he
    ·rename_i key y hkey hy
     refine ⟨_, he, fun {σ R w cm ci cv} hr hvm hvi hvv => ?_⟩
     obtain ⟨kt, et, tk, te, ik, ie, dk, de, g1, g2, g3, g4, g5, g6, g7, g8⟩ := mapTy_spec hT hm
     obtain ⟨B, h1, hnl, rfl⟩ := hvm
     obtain rfl := sc_v0 g4 hkey hvi
     obtain rfl := sc_v0 g5 hy hvv
     have hmp : b.c.isMap = true := by rw [hc]; rfl
     obtain ⟨ks', vs', l', es, clock, q1, q2, q3⟩ := hr.mpb n B b h1 hb hnl hmp
     rw [hc] at q1
     cases q1
     have hf := es_find g2 g6 key l es.toList 0 q3
     have hkk := sc_key g2 g6 key
     cases hx : kvIdx ks key l 0 with
     | none =>
      rw [hx] at hf
      obtain ⟨r1, r2⟩ := hr.setMap h1 hb hnl hmp q2 (ks := ks) (vs := vs) (l := kvPut ks key y l) (es := es.push ⟨toVal ks key, toVal vs y, clock⟩) (clock := clock + 1) (by
       unfold ES at q3 ⊢
       rw [kvPut_none l 0 hx, Array.toList_push, List.map_append, List.map_append, q3]; rfl)
      refine ⟨_, ?_, r1, r2⟩
      simp [Instr.mapUpdate, run_underlying g1, Go.MapKept.run_getObj_map q2, Go.MapKept.run_checkKey g2.und hkk, Go.MapKept.run_findKey g2.und hf, Go.MapKept.run_setObj_map _ q2, Result.andThen, setObjAt]
     | some q =>
      obtain ⟨j, u⟩ := q
      rw [hx] at hf
      obtain ⟨p1, p2, p3, p, p4, p5⟩ := kvPut_some (v := y) l 0 j hx
      rw [Nat.sub_zero] at p2 p3 p4
      have hlen : es.toList.length = l.length := by have := congrArg List.length q3; simpa using this
      have hj : ∃ e0, es[j]? = some e0 := ⟨es.toList[j]'(by omega), by simp [Array.getElem?_eq_getElem (show j < es.size by simpa using (by omega : j < es.toList.length))]⟩
      obtain ⟨e0, hj⟩ := hj
      have hj' : es.toList[j]? = some e0 := by simpa using hj
      have hkey0 : e0.key = toVal ks p.1 := by
       have e1 : (es.toList.map fun e => (e.key, e.val))[j]? = some (e0.key, e0.val) := by rw [List.getElem?_map, hj']; rfl
       rw [q3, List.getElem?_map, p4] at e1
       simp only [Option.map_some, Option.some.injEq, Prod.mk.injEq] at e1
       exact e1.1.symm
      have hkeq : toVal ks key = toVal ks p.1 := by
       have hsn := sc_same g2 g6 key p.1
       rw [p5] at hsn
       obtain ⟨r', hr', hiff⟩ := Go.MapKept.sameNow_of_keys hkk (sc_key g2 g6 p.1)
       rw [hsn] at hr'
       cases hr'
       exact hiff.1 rfl
      have h3 : e0.key = toVal ks key := hkey0.trans hkeq.symm
      obtain ⟨r1, r2⟩ := hr.setMap h1 hb hnl hmp q2 (ks := ks) (vs := vs) (l := kvPut ks key y l) (es := es.modify j fun e => { e with key := toVal ks key, val := toVal vs y }) (clock := clock) (by
       unfold ES at q3 ⊢
       rw [p3, Array.toList_modify]
       apply List.ext_getElem?
       intro a
       rw [List.getElem?_map, List.getElem?_map, List.getElem?_modify, List.getElem?_set]
       have e1 : (es.toList.map fun e => (e.key, e.val))[a]? = (l.map fun p => (toVal ks p.1, toVal vs p.2))[a]? := by rw [q3]
       rw [List.getElem?_map, List.getElem?_map] at e1
       by_cases ha : j = a
       ·subst ha
        simp [p2, hj']
       ·simpa [ha] using e1)
      refine ⟨_, ?_, r1, r2⟩
      simp [Instr.mapUpdate, run_underlying g1, Go.MapKept.run_getObj_map q2, Go.MapKept.run_checkKey g2.und hkk, Go.MapKept.run_findKey g2.und hf, hj, h3, Go.MapKept.run_keyThatStays hkk, Go.MapKept.run_setObj_map _ q2, Result.andThen, setObjAt]
    ·cases he
   ·cases he
  ·cases he
 ·cases he
theorem clearA_sound (hT : TyOk P T) {ty tr : Nat} {a : AV} {k : K3 X} (he : clearA T ty h x a k = some r) :
  ∃ h', k (.tup .fnil) h' x = some r ∧ ∀ {σ R} {w : World} {ca}, HR P σ R h x w → VV σ R a ca → Makes P (Builtin.clear_ #[ty] tr #[ca]) σ R h x w (.tup .fnil) h' x := by
 unfold clearA at he
 split at he
 ·rename_i n
  split at he
  ·rename_i b hb
   split at he
   ·rename_i s l hc
    split at he
    ·rename_i ti hti
     split at he
     ·rename_i e hk
      split at he
      ·rename_i te hte
       obtain ⟨hcd, he⟩ := cond_some he
       simp only [Bool.and_eq_true, Bool.not_eq_true', decide_eq_true_eq] at hcd
       obtain ⟨hs, hw⟩ := hcd
       have hw0 : s.w ≠ 0 := fun h0 => by rw [h0] at hw; cases hw
       refine ⟨_, he, fun {σ R w ca} hr ha => ?_⟩
       obtain ⟨i, d, hi⟩ := hT.is hti
       have hd := hi.slice hk
       subst hd
       obtain ⟨i2, d2, hi2⟩ := hT.is hte
       obtain ⟨g1, z, g2, g3⟩ := hi2.sch s hs
       have hzc := schB_sc (R := R) g3
       have hzs : z.cells.size = s.w := by have := SC.length hzc; simpa using this
       obtain ⟨B, s2, len, cap, q1, q2, rfl, q3, q4, q5, q6⟩ := ha
       obtain ⟨hsh, hbe⟩ := hr.shp n B b q1 hb
       rw [hc, q2] at hsh
       simp only [AV.shp, Shp.arr.injEq] at hsh
       obtain ⟨rfl, rfl⟩ := hsh
       have hunit : VV σ R (.tup .fnil) (.tuple #[]) := ⟨#[], rfl, rfl⟩
       have triv : l.length = 0 → (Builtin.clear_ #[ty] tr #[.slice (if B.nil = true then none else some ⟨B.g, B.o, none⟩) l.length cap]).run P w = .ok (.tuple #[]) w → Makes P (Builtin.clear_ #[ty] tr #[.slice (if B.nil = true then none else some ⟨B.g, B.o, none⟩) l.length cap]) σ R h x w (.tup .fnil) ((n, some ⟨.lst s (List.replicate l.length s.zero), b.e⟩) :: h) x := by
        intro h0 hrun
        obtain rfl : l = [] := List.eq_nil_of_length_eq_zero h0
        have hsame : ∀ m, hget h m = hget ((n, some ⟨.lst s (List.replicate ([] : List s.den).length s.zero), b.e⟩) :: h) m := by
         intro m
         rw [hget_cons]
         by_cases e : n = m
         ·subst e; rw [if_pos rfl, hb]; obtain ⟨c, be⟩ := b; dsimp only at hc; subst hc; rfl
         ·rw [if_neg e]
        have hal : ∀ m, Alive ((n, some ⟨.lst s (List.replicate ([] : List s.den).length s.zero), b.e⟩) :: h) m → Alive h m := fun m ha => by unfold Alive at ha ⊢; rw [hsame m]; exact ha
        exact ⟨_, w, σ, R, hrun, hunit, hr.congr hsame, ⟨Fr.refl _ _ _, Nat.le_refl _, fun _ _ => rfl, fun _ _ h => h, fun _ h => .inl h, fun m b' h1 h2 h3 => .inl ⟨m, b', h1, hal m h2, h3, rfl⟩⟩⟩
       cases hnl : B.nil with
       | true =>
        have h0 := q6 hnl
        have hl0 : l.length = 0 := by omega
        rw [hnl] at triv
        refine triv hl0 ?_
        simp [Builtin.clear_, run_underlying hi.und]
       | false =>
        rcases Nat.eq_zero_or_pos l.length with h0 | h0
        ·rw [hnl] at triv
         refine triv h0 ?_
         rw [h0]
         simp [Builtin.clear_, run_underlying hi.und]
        ·obtain ⟨hw1, cs, fr, hg, hsz, hvc, hf⟩ := hr.blk n B b q1 hb hnl (by rw [hc]; rfl)
         have hcap := q4 hnl
         rw [Sch.shp_w] at hcap
         have hle : B.o + l.length * s.w ≤ B.sz := Nat.le_trans (Nat.add_le_add_left (Nat.mul_le_mul_right _ q3) _) hcap
         have hzl : (Builtin.zeroCells z.cells l.length).toList.length = l.length * s.w := by simp [Builtin.zeroCells, hzs]
         have hzsc : SC R (.arr l.length s) (gL s (List.replicate l.length s.zero)) (Builtin.zeroCells z.cells l.length).toList := by
          have := zeros_sc hzc hw0 l.length (Nat.le_refl (l.length * s.w))
          have e1 : madeCells z.cells (l.length * s.w) = Builtin.zeroCells z.cells l.length := by unfold madeCells Builtin.zeroCells; rw [hzs]
          rw [e1, List.take_of_length_le (by omega)] at this
          exact this
         have hst := storeCells_run P B.g B.o B.e fr (Builtin.zeroCells z.cells l.length).toList 0 cs w hg (fun j hj => hf j (by omega)) (by omega) (SC.one hzsc)
         obtain ⟨r1, r2⟩ := hr.set q1 hb hnl (by rw [hc]; rfl) hg (cs' := (cs.toList.take (B.o + 0) ++ (Builtin.zeroCells z.cells l.length).toList ++ cs.toList.drop (B.o + 0 + (Builtin.zeroCells z.cells l.length).toList.length)).toArray) (by simp at hzl ⊢; omega) hf (c' := .lst s (List.replicate l.length s.zero)) (by simp [AV.shp, q2]) (by
          show SC R (.arr (List.replicate l.length s.zero).length s) (gL s (List.replicate l.length s.zero)) _
          rw [List.length_replicate]
          show SC R _ _ (List.take ((List.replicate l.length s.zero).length * s.w) _)
          rw [List.length_replicate]
          have hds := drop_splice (cs := cs.toList) (d := B.o) (o := 0) (vs := (Builtin.zeroCells z.cells l.length).toList) (by simp at hle ⊢; omega)
          rw [hds]
          simp only [List.take_zero, List.nil_append]
          rw [List.take_left' hzl]
          exact hzsc)
         refine ⟨_, _, σ, R, ?_, hunit, r1, r2⟩
         obtain ⟨m, hm⟩ : ∃ m, l.length = m + 1 := ⟨l.length - 1, by omega⟩
         rw [hm] at hst ⊢
         simp [Builtin.clear_, run_underlying hi.und, zeroValue, typeInfo, hi2.info, g2, hst, Result.andThen]
      ·cases he
     ·cases he
    ·cases he
   ·cases he
  ·cases he
 ·cases he
end Go.Proofs.YtfcloeflcpcheaaGreat.Eng
