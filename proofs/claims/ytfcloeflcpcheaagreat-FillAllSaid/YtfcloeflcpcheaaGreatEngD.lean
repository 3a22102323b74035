/-
The engine, fourth text: what it means that an abstract value, or abstract memory, tells of a value, or of memory. Plain lemmas.
Conditions: none.
-/
import Derived.Test.YtfcloeflcpcheaaGreatEngC
import Derived.Below
import Derived.OwnWalk
set_option linter.unusedVariables false
set_option linter.unusedSimpArgs false
namespace Go.Proofs.YtfcloeflcpcheaaGreat.Eng
inductive Shp where
 | one | fnil | fcons (a b : Shp) | node (f : Shp) | arr (n : Nat) (s : Shp)
def Shp.w : Shp → Nat
 | .one => 1 | .fnil => 0 | .fcons a b => a.w + b.w | .node f => f.w | .arr n s => n * s.w
def Sch.shp : Sch → Shp
 | .fnil => .fnil | .fcons a b => .fcons a.shp b.shp | .stru f => .node f.shp | .arr n s => .arr n s.shp | _ => .one
def AV.shp : AV → Shp
 | .node f => .node f.shp | .fnil => .fnil | .fcons a b => .fcons a.shp b.shp | .vec s n _ => .arr n s.shp | .lst s l => .arr l.length s.shp | .fam _ _ l => .arr l.length .one | _ => .one
theorem Sch.shp_w (s : Sch) : s.shp.w = s.w := by induction s <;> simp_all [Sch.shp, Shp.w, Sch.w]
theorem AV.shp_w (v : AV) : v.shp.w = v.w := by induction v <;> simp_all [AV.shp, Shp.w, AV.w, Sch.shp_w]
def Shp.at_ : Shp → List Nat → Option Shp
 | s, [] => some s
 | .node f, i :: p => f.at_ (i :: p)
 | .fcons a _, 0 :: p => a.at_ p
 | .fcons _ b, (j + 1) :: p => b.at_ (j :: p)
 | .arr n s, i :: p => if i < n then s.at_ p else none
 | _, _ => none
def Shp.off : Shp → List Nat → Option Nat
 | _, [] => some 0
 | .node f, i :: p => f.off (i :: p)
 | .fcons a _, 0 :: p => a.off p
 | .fcons a b, (j + 1) :: p => match b.off (j :: p) with | some o => some (a.w + o) | none => none
 | .arr n s, i :: p => if i < n then (match s.off p with | some o => some (i * s.w + o) | none => none) else none
 | _, _ => none
structure Bk where
 g : Nat
 sz : Nat
 sh : Shp
 e : Nat
 nil : Bool := false
 o : Nat := 0
 inn : List Bk := []
abbrev Sg := Nat → Option Bk
abbrev Ro := Addr → Option Value
def Pc (σ : Sg) (n : Nat) (b : Bk) : Prop := ∃ B, σ n = some B ∧ (b = B ∨ b ∈ B.inn)
def RC (R : Ro) (ad : Addr) (n : Nat) (c : List Value) : Prop := c.length = n ∧ ∀ j u, c[j]? = some u → R (ad.add j) = some u
def SC (R : Ro) : (s : Sch) → s.den → List Value → Prop
 | .int k, x, cs => cs = [.int k x]
 | .bool, x, cs => cs = [.bool x]
 | .str, x, cs => cs = [.string x]
 | .fnil, _, cs => cs = []
 | .fcons a b, x, cs => ∃ c1 c2, cs = c1 ++ c2 ∧ SC R a x.1 c1 ∧ SC R b x.2 c2
 | .stru f, x, cs => SC R f x cs
 | .arr n s, x, cs => cs.length = n * s.w ∧ ∀ i, i < n → SC R s (x i) ((cs.drop (i * s.w)).take s.w)
 | .sl s, l, cs => ∃ a cap, cs = [.slice a l.length cap] ∧ l.length ≤ cap ∧ cap ≤ maxLen ∧ (0 < l.length → ∃ ad, a = some ad ∧ ∀ i, i < l.length → ∃ c, RC R (ad.add (i * s.w)) s.w c ∧ SC R s (l.getD i s.zero) c)
def VP0 (R : Ro) (b : Bk) (p : List Nat) (v : Value) : Prop := ∃ o, b.sh.off p = some o ∧ b.nil = false ∧ v = .pointer (some ⟨b.g, b.o + o, none⟩)
def VS0 (b : Bk) (v : Value) : Prop := ∃ s len cap, b.sh = .arr len s ∧ v = .slice (if b.nil then none else some ⟨b.g, b.o, none⟩) len cap ∧ len ≤ cap ∧ (b.nil = false → b.o + cap * s.w ≤ b.sz) ∧ cap ≤ maxLen ∧ (b.nil = true → cap = 0)
def V1 (σ : Sg) (R : Ro) : AV → Value → Prop
 | .int k n, v => v = .int k n
 | .bool b, v => v = .bool b
 | .str s, v => v = .string s
 | .nilp, v => v = .pointer none
 | .nils, v => v = .slice none 0 0
 | .ptr n p, v => ∃ b o, σ n = some b ∧ b.sh.off p = some o ∧ b.nil = false ∧ v = .pointer (some ⟨b.g, b.o + o, none⟩)
 | .sl n, v => ∃ b s len cap, σ n = some b ∧ b.sh = .arr len s ∧ v = .slice (if b.nil then none else some ⟨b.g, b.o, none⟩) len cap ∧ len ≤ cap ∧ (b.nil = false → b.o + cap * s.w ≤ b.sz) ∧ cap ≤ maxLen ∧ (b.nil = true → cap = 0)
 | .ss n p o len, v => ∃ b N s a cap o0, σ n = some b ∧ b.sh.at_ p = some (.arr N s) ∧ b.sh.off p = some o0 ∧ o + len ≤ N ∧ v = .slice a len cap ∧ len ≤ cap ∧ cap ≤ maxLen ∧ (0 < len → a = some ⟨b.g, b.o + (o0 + o * s.w), none⟩ ∧ b.nil = false) ∧ (p = [] → (b.nil = false → ∃ q, a = some ⟨b.g, q, none⟩ ∧ q + cap * s.w ≤ b.sz) ∧ (b.nil = true → a = none ∧ cap = 0))
 | .mp n, v => ∃ b, σ n = some b ∧ b.nil = false ∧ v = .map (some b.g)
 | .rop s x p, v => ∃ ad c o, RC R ad s.w c ∧ SC R s x c ∧ s.shp.off p = some o ∧ v = .pointer (some (ad.add o))
 | .ros s l, v => SC R (.sl s) l [v]
 | .fn f, v => v = .func (.func f) #[] #[]
 | .isl n i, v => ∃ B b, σ n = some B ∧ B.inn[i]? = some b ∧ VS0 b v
 | .ip n i p, v => ∃ B b, σ n = some B ∧ B.inn[i]? = some b ∧ VP0 R b p v
 | .nilm, v => v = .map none
 | _, _ => False
def VC (σ : Sg) (R : Ro) : AV → List Value → Prop
 | .node f, cs => VC σ R f cs
 | .fnil, cs => cs = []
 | .fcons a b, cs => ∃ c1 c2, cs = c1 ++ c2 ∧ VC σ R a c1 ∧ VC σ R b c2
 | .vec s n f, cs => SC R (.arr n s) f cs
 | .lst s l, cs => SC R (.arr l.length s) (fun i => l.getD i s.zero) cs
 | .fam _ _ l, cs => cs.length = l.length ∧ ∀ u ∈ cs, u.oneCell' = true
 | v, cs => ∃ u, cs = [u] ∧ V1 σ R v u
def V0 (σ : Sg) (R : Ro) : AV → Value → Prop
 | .any, _ => True
 | .node f, v => ∃ cs, v = .agg cs ∧ VC σ R f cs.toList
 | .vec s n f, v => ∃ cs, v = .agg cs ∧ SC R (.arr n s) f cs.toList
 | a, v => V1 σ R a v
def VT (σ : Sg) (R : Ro) : AV → List Value → Prop
 | .fnil, vs => vs = []
 | .fcons a b, vs => ∃ v vs', vs = v :: vs' ∧ V0 σ R a v ∧ VT σ R b vs'
 | _, _ => False
def VV (σ : Sg) (R : Ro) : AV → Value → Prop
 | .tup f, v => ∃ vs, v = .tuple vs ∧ VT σ R f vs.toList
 | a, v => V0 σ R a v
def Alive (h : Hp) (n : Nat) : Prop := hget h n ≠ none
def toVal : (s : Sch) → s.den → Value
 | .int k, x => .int k x | .bool, x => .bool x | .str, x => .string x | _, _ => .tuple #[]
def ES (ks vs : Sch) (l : List (ks.den × vs.den)) (es : Array MapEntry) : Prop := es.toList.map (fun e => (e.key, e.val)) = l.map fun p => (toVal ks p.1, toVal vs p.2)
def MapAt (w : World) (b : Bk) (c : AV) : Prop := ∃ ks vs l es clock, c = .kvs ks vs l ∧ w.heap[b.g]? = some (.map es clock) ∧ ES ks vs l es
structure RowAt (w : World) (R : Ro) (b : Bk) (e : Nat) (s : Sch) (r : List s.den) : Prop where
 sh : b.sh = .arr r.length s.shp
 e : b.e = e
 blk : b.nil = false → b.o + b.sh.w ≤ b.sz ∧ ∃ cs fr, w.heap[b.g]? = some (.cells cs b.e fr) ∧ cs.size = b.sz ∧ SC R (.arr r.length s) (fun i => r.getD i s.zero) ((cs.toList.drop b.o).take (r.length * s.w)) ∧ ∀ j, j < b.sz → ¬ (fr.1 ≤ j ∧ j < fr.2)
structure OwnAt (w : World) (R : Ro) (B : Bk) (e : Nat) (s : Sch) (l : List (List s.den)) : Prop where
 len : B.inn.length = l.length
 row : ∀ (i : Nat) (b : Bk), B.inn[i]? = some b → RowAt w R b e s (l.getD i [])
 cell : B.nil = false → ∃ cs t fr, w.heap[B.g]? = some (.cells cs t fr) ∧ ∀ (i : Nat) (b : Bk), B.inn[i]? = some b → ∃ u, cs[B.o + i]? = some u ∧ VS0 b u
 in1 : ∀ (i j : Nat) (b c : Bk), B.inn[i]? = some b → B.inn[j]? = some c → b.nil = false → c.nil = false → b.g = c.g → i = j
 out : ∀ b ∈ B.inn, b.nil = false → B.nil = false → b.g ≠ B.g
structure HR (P : Program) (σ : Sg) (R : Ro) (h : Hp) (x : Nat) (w : World) : Prop where
 shp : ∀ n b k, σ n = some b → hget h n = some k → k.c.shp = b.sh ∧ k.e = b.e
 mpb : ∀ n b k, σ n = some b → hget h n = some k → b.nil = false → k.c.isMap = true → MapAt w b k.c
 blk : ∀ n b k, σ n = some b → hget h n = some k → b.nil = false → k.c.isMap = false → b.o + b.sh.w ≤ b.sz ∧ ∃ cs fr, w.heap[b.g]? = some (.cells cs b.e fr) ∧ cs.size = b.sz ∧ VC σ R k.c ((cs.toList.drop b.o).take k.c.w) ∧ ∀ j, j < b.sz → ¬ (fr.1 ≤ j ∧ j < fr.2)
 dom : ∀ n b, σ n = some b → n < x
 inj : ∀ n m b b', Pc σ n b → Pc σ m b' → Alive h n → Alive h m → b.nil = false → b'.nil = false → b.g = b'.g → n = m
 ro : ∀ a v, R a = some v → w.cell? a = some v
 sep : ∀ n b a, Pc σ n b → Alive h n → b.nil = false → R a ≠ none → a.block ≠ b.g
 lt : ∀ n b, Pc σ n b → b.nil = false → b.g < w.heap.size
 own : ∀ n b k e s l, σ n = some b → hget h n = some k → k.c = .fam e s l → OwnAt w R b e s l
structure Fr (σ : Sg) (h : Hp) (w w' : World) : Prop where
 os : w'.os = w.os
 tape : w'.tape = w.tape
 output : w'.output = w.output
 size : w.heap.size ≤ w'.heap.size
 block : ∀ i, i < w.heap.size → (∀ n b, Pc σ n b → Alive h n → b.nil = false → b.g ≠ i) → w'.heap[i]? = w.heap[i]?
structure Ext (σ : Sg) (R : Ro) (h : Hp) (x : Nat) (w : World) (σ' : Sg) (R' : Ro) (h' : Hp) (x' : Nat) (w' : World) : Prop where
 fr : Fr σ h w w'
 le : x ≤ x'
 sg : ∀ n, n < x → σ' n = σ n
 rr : ∀ a v, R a = some v → R' a = some v
 rfoot : ∀ a, R' a ≠ none → R a ≠ none ∨ (∃ m b', Pc σ m b' ∧ Alive h m ∧ b'.nil = false ∧ b'.g = a.block) ∨ w.heap.size ≤ a.block
 foot : ∀ n b, Pc σ' n b → Alive h' n → b.nil = false → (∃ m b', Pc σ m b' ∧ Alive h m ∧ b'.nil = false ∧ b'.g = b.g) ∨ w.heap.size ≤ b.g
theorem MapAt.heap {w w' : World} {b : Bk} {c : AV} (hh : MapAt w b c) (he : w'.heap[b.g]? = w.heap[b.g]?) : MapAt w' b c := by
 obtain ⟨ks, vs, l, es, clock, h1, h2, h3⟩ := hh
 exact ⟨ks, vs, l, es, clock, h1, by rw [he]; exact h2, h3⟩
variable {P : Program} {σ σ' : Sg} {R R' : Ro} {h h' : Hp} {x x' : Nat} {w w' : World}
theorem Pc.of {n : Nat} {b : Bk} (hh : σ n = some b) : Pc σ n b := ⟨b, hh, .inl rfl⟩
theorem Pc.inn {n i : Nat} {B b : Bk} (hh : σ n = some B) (hi : B.inn[i]? = some b) : Pc σ n b := ⟨B, hh, .inr (List.mem_of_getElem? hi)⟩
theorem Pc.mono {n m : Nat} {b : Bk} (he : ∀ B, σ n = some B → σ' m = some B) (hh : Pc σ n b) : Pc σ' m b := by obtain ⟨B, h1, h2⟩ := hh; exact ⟨B, he B h1, h2⟩
theorem RowAt.heap {b : Bk} {e : Nat} {s : Sch} {r : List s.den} (ho : RowAt w R b e s r) (hh : b.nil = false → w'.heap[b.g]? = w.heap[b.g]?) : RowAt w' R b e s r :=
 ⟨ho.sh, ho.e, fun hn => by obtain ⟨h1, cs, fr, h2, h3⟩ := ho.blk hn; exact ⟨h1, cs, fr, (hh hn).trans h2, h3⟩⟩
theorem OwnAt.heap {B : Bk} {e : Nat} {s : Sch} {l : List (List s.den)} (ho : OwnAt w R B e s l) (hh : ∀ b, (b = B ∨ b ∈ B.inn) → b.nil = false → w'.heap[b.g]? = w.heap[b.g]?) : OwnAt w' R B e s l :=
 ⟨ho.len, fun i b hi => (ho.row i b hi).heap (hh b (.inr (List.mem_of_getElem? hi))), fun hn => by obtain ⟨cs, t, fr, h1, h2⟩ := ho.cell hn; exact ⟨cs, t, fr, (hh B (.inl rfl) hn).trans h1, h2⟩, ho.in1, ho.out⟩
theorem Fr.refl (σ : Sg) (h : Hp) (w : World) : Fr σ h w w := ⟨rfl, rfl, rfl, Nat.le_refl _, fun _ _ _ => rfl⟩
theorem Ext.refl (σ : Sg) (R : Ro) (h : Hp) (x : Nat) (w : World) : Ext σ R h x w σ R h x w :=
 ⟨Fr.refl _ _ _, Nat.le_refl _, fun _ _ => rfl, fun _ _ h => h, fun _ h => .inl h, fun n b hn ha hl => .inl ⟨n, b, hn, ha, hl, rfl⟩⟩
theorem Ext.trans {σ1 σ2 σ3 : Sg} {R1 R2 R3 : Ro} {h1 h2 h3 : Hp} {x1 x2 x3 : Nat} {w1 w2 w3 : World} (a : Ext σ1 R1 h1 x1 w1 σ2 R2 h2 x2 w2) (b : Ext σ2 R2 h2 x2 w2 σ3 R3 h3 x3 w3) : Ext σ1 R1 h1 x1 w1 σ3 R3 h3 x3 w3 := by
 refine ⟨⟨b.fr.os.trans a.fr.os, b.fr.tape.trans a.fr.tape, b.fr.output.trans a.fr.output, Nat.le_trans a.fr.size b.fr.size, fun i hi hn => ?_⟩, Nat.le_trans a.le b.le, fun n hn => ?_, fun u v hu => b.rr _ _ (a.rr _ _ hu), fun u hu => ?_, fun n c hn hc hcl => ?_⟩
 ·refine (b.fr.block i (Nat.lt_of_lt_of_le hi a.fr.size) fun n c hc hal hcl hg => ?_).trans (a.fr.block i hi hn)
  rcases a.foot n c hc hal hcl with ⟨m, b', hm, hma, hml, hg'⟩ | hge
  ·exact hn m b' hm hma hml (hg'.trans hg)
  ·omega
 ·rw [b.sg n (Nat.lt_of_lt_of_le hn a.le), a.sg n hn]
 ·rcases b.rfoot u hu with h2 | ⟨m, b', hm, hma, hml, hg'⟩ | hge
  ·exact a.rfoot u h2
  ·rcases a.foot m b' hm hma hml with ⟨m2, b2, hm2, hma2, hml2, hg2⟩ | hge
   ·exact .inr (.inl ⟨m2, b2, hm2, hma2, hml2, hg2.trans hg'⟩)
   ·exact .inr (.inr (by omega))
  ·exact .inr (.inr (Nat.le_trans a.fr.size hge))
 ·rcases b.foot n c hn hc hcl with ⟨m, b', hm, hma, hml, hg'⟩ | hge
  ·rcases a.foot m b' hm hma hml with ⟨m2, b2, hm2, hma2, hml2, hg2⟩ | hge
   ·exact .inl ⟨m2, b2, hm2, hma2, hml2, hg2.trans hg'⟩
   ·exact .inr (by omega)
  ·exact .inr (Nat.le_trans a.fr.size hge)
theorem SC.mono (hr : ∀ a v, R a = some v → R' a = some v) : ∀ {s : Sch} {d : s.den} {cs : List Value}, SC R s d cs → SC R' s d cs := by
 intro s
 induction s with
 | int k => exact fun h => h
 | bool => exact fun h => h
 | str => exact fun h => h
 | fnil => exact fun h => h
 | fcons a b iha ihb => rintro d cs ⟨c1, c2, rfl, h1, h2⟩; exact ⟨c1, c2, rfl, iha h1, ihb h2⟩
 | stru f ih => intro d cs h; exact ih h
 | arr n s ih => rintro d cs ⟨h1, h2⟩; exact ⟨h1, fun i hi => ih (h2 i hi)⟩
 | sl s ih =>
  rintro d cs ⟨a, cap, rfl, h1, h2, h3⟩
  refine ⟨a, cap, rfl, h1, h2, fun hp => ?_⟩
  obtain ⟨ad, ha, h4⟩ := h3 hp
  refine ⟨ad, ha, fun i hi => ?_⟩
  obtain ⟨c, ⟨hc1, hc2⟩, hc⟩ := h4 i hi
  exact ⟨c, ⟨hc1, fun j u hu => hr _ _ (hc2 j u hu)⟩, ih hc⟩
theorem RowAt.mono (hr : ∀ a v, R a = some v → R' a = some v) {b : Bk} {e : Nat} {s : Sch} {r : List s.den} (ho : RowAt w R b e s r) : RowAt w R' b e s r :=
 ⟨ho.sh, ho.e, fun hn => by obtain ⟨h1, cs, fr, h2, h3, h4, h5⟩ := ho.blk hn; exact ⟨h1, cs, fr, h2, h3, SC.mono (s := .arr r.length s) hr h4, h5⟩⟩
theorem OwnAt.mono (hr : ∀ a v, R a = some v → R' a = some v) {B : Bk} {e : Nat} {s : Sch} {l : List (List s.den)} (ho : OwnAt w R B e s l) : OwnAt w R' B e s l :=
 ⟨ho.len, fun i b hi => (ho.row i b hi).mono hr, ho.cell, ho.in1, ho.out⟩
theorem V1.mono (hs : ∀ n b, σ n = some b → σ' n = some b) (hr : ∀ a v, R a = some v → R' a = some v) {a : AV} {v : Value} (h : V1 σ R a v) : V1 σ' R' a v := by
 cases a with
 | ptr n p => obtain ⟨b, o, h1, h2⟩ := h; exact ⟨b, o, hs _ _ h1, h2⟩
 | sl n => obtain ⟨b, s, len, cap, h1, h2⟩ := h; exact ⟨b, s, len, cap, hs _ _ h1, h2⟩
 | ss n p o len => obtain ⟨b, N, s, a, cap, o0, h1, h2⟩ := h; exact ⟨b, N, s, a, cap, o0, hs _ _ h1, h2⟩
 | mp n => obtain ⟨b, h1, h2⟩ := h; exact ⟨b, hs _ _ h1, h2⟩
 | isl n i => obtain ⟨B, b, h1, h2⟩ := h; exact ⟨B, b, hs _ _ h1, h2⟩
 | ip n i p => obtain ⟨B, b, h1, h2⟩ := h; exact ⟨B, b, hs _ _ h1, h2⟩
 | rop s x p => obtain ⟨ad, c, o, ⟨h1, h1'⟩, h2, h3⟩ := h; exact ⟨ad, c, o, ⟨h1, fun j u hu => hr _ _ (h1' j u hu)⟩, SC.mono hr h2, h3⟩
 | ros s l => exact SC.mono (s := .sl s) hr h
 | _ => exact h
theorem VC.mono (hs : ∀ n b, σ n = some b → σ' n = some b) (hr : ∀ a v, R a = some v → R' a = some v) : ∀ {a : AV} {cs : List Value}, VC σ R a cs → VC σ' R' a cs := by
 intro a
 induction a with
 | node f ih => intro cs h; exact ih h
 | fnil => intro cs h; exact h
 | fcons a b iha ihb => rintro cs ⟨c1, c2, rfl, h1, h2⟩; exact ⟨c1, c2, rfl, iha h1, ihb h2⟩
 | vec s n f => intro cs h; exact SC.mono (s := .arr n s) hr h
 | lst s l => intro cs h; exact SC.mono (s := .arr l.length s) hr h
 | fam e s l => intro cs h; exact h
 | _ => rintro cs ⟨u, rfl, hu⟩; exact ⟨u, rfl, V1.mono hs hr hu⟩
theorem V0.mono (hs : ∀ n b, σ n = some b → σ' n = some b) (hr : ∀ a v, R a = some v → R' a = some v) {a : AV} {v : Value} (h : V0 σ R a v) : V0 σ' R' a v := by
 cases a with
 | any => trivial
 | node f => obtain ⟨cs, h1, h2⟩ := h; exact ⟨cs, h1, VC.mono hs hr h2⟩
 | vec s n f => obtain ⟨cs, h1, h2⟩ := h; exact ⟨cs, h1, SC.mono (s := .arr n s) hr h2⟩
 | _ => simp only [V0] at h ⊢; exact V1.mono hs hr h
theorem VT.mono (hs : ∀ n b, σ n = some b → σ' n = some b) (hr : ∀ a v, R a = some v → R' a = some v) : ∀ {a : AV} {vs : List Value}, VT σ R a vs → VT σ' R' a vs := by
 intro a
 induction a with
 | fnil => intro vs h; exact h
 | fcons a b _ ihb => rintro vs ⟨v, vs', rfl, h1, h2⟩; exact ⟨v, vs', rfl, V0.mono hs hr h1, ihb h2⟩
 | _ => intro vs h; exact h.elim
theorem VV.mono (hs : ∀ n b, σ n = some b → σ' n = some b) (hr : ∀ a v, R a = some v → R' a = some v) {a : AV} {v : Value} (h : VV σ R a v) : VV σ' R' a v := by
 cases a with
 | tup f => obtain ⟨vs, h1, h2⟩ := h; exact ⟨vs, h1, VT.mono hs hr h2⟩
 | _ => simp only [VV] at h ⊢; exact V0.mono hs hr h
theorem Ext.keep (e : Ext σ R h x w σ' R' h' x' w') (hr : HR P σ R h x w) : ∀ n b, σ n = some b → σ' n = some b := fun n b hn => (e.sg n (hr.dom n b hn)).trans hn
theorem Ext.vv (e : Ext σ R h x w σ' R' h' x' w') (hr : HR P σ R h x w) {a : AV} {v : Value} (hv : VV σ R a v) : VV σ' R' a v := VV.mono (e.keep hr) e.rr hv
theorem SC.length : ∀ {s : Sch} {d : s.den} {cs : List Value}, SC R s d cs → cs.length = s.w := by
 intro s
 induction s with
 | int k => rintro d cs h; rw [show cs = _ from h]; rfl
 | bool => rintro d cs h; rw [show cs = _ from h]; rfl
 | str => rintro d cs h; rw [show cs = _ from h]; rfl
 | fnil => rintro d cs h; rw [show cs = _ from h]; rfl
 | fcons a b iha ihb => rintro d cs ⟨c1, c2, rfl, h1, h2⟩; simp [Sch.w, iha h1, ihb h2]
 | stru f ih => intro d cs h; exact ih h
 | arr n s ih => rintro d cs ⟨h1, h2⟩; exact h1
 | sl s ih => rintro d cs ⟨a, cap, rfl, _⟩; rfl
theorem VC.length : ∀ {a : AV} {cs : List Value}, VC σ R a cs → cs.length = a.w := by
 intro a
 induction a with
 | node f ih => intro cs h; exact ih h
 | fnil => rintro cs h; rw [show cs = _ from h]; rfl
 | fcons a b iha ihb => rintro cs ⟨c1, c2, rfl, h1, h2⟩; simp [AV.w, iha h1, ihb h2]
 | vec s n f => intro cs h; exact h.1
 | lst s l => intro cs h; exact h.1
 | fam e s l => intro cs h; exact h.1
 | _ => rintro cs ⟨u, rfl, hu⟩; rfl
theorem toAV_vc : ∀ {s : Sch} {d : s.den} {cs : List Value}, SC R s d cs → VC σ R (toAV s d) cs := by
 intro s
 induction s with
 | int k => rintro d cs h; exact ⟨_, h, rfl⟩
 | bool => rintro d cs h; exact ⟨_, h, rfl⟩
 | str => rintro d cs h; exact ⟨_, h, rfl⟩
 | fnil => rintro d cs h; exact h
 | fcons a b iha ihb => rintro d cs ⟨c1, c2, rfl, h1, h2⟩; exact ⟨c1, c2, rfl, iha h1, ihb h2⟩
 | stru f ih => intro d cs h; exact ih h
 | arr n s ih => intro d cs h; exact h
 | sl s ih =>
  rintro d cs h
  obtain ⟨a, cap, rfl, h1⟩ := h
  exact ⟨_, rfl, a, cap, rfl, h1⟩
theorem ofAV_sc : ∀ {s : Sch} {v : AV} {d : s.den} {cs : List Value}, ofAV s v = some d → VC σ R v cs → SC R s d cs := by
 intro s
 induction s with
 | int k =>
  intro v d cs hv hc
  cases v <;> simp only [ofAV, reduceCtorEq] at hv
  split at hv
  ·cases hv; subst k; obtain ⟨u, rfl, hu⟩ := hc; simp only [V1] at hu; simp [SC, hu]
  ·cases hv
 | bool => intro v d cs hv hc; cases v <;> simp only [ofAV, reduceCtorEq] at hv; cases hv; obtain ⟨u, rfl, hu⟩ := hc; simp only [V1] at hu; simp [SC, hu]
 | str => intro v d cs hv hc; cases v <;> simp only [ofAV, reduceCtorEq] at hv; cases hv; obtain ⟨u, rfl, hu⟩ := hc; simp only [V1] at hu; simp [SC, hu]
 | fnil => intro v d cs hv hc; cases v <;> simp only [ofAV, reduceCtorEq] at hv; exact hc
 | fcons a b iha ihb =>
  intro v d cs hv hc
  cases v <;> simp only [ofAV, reduceCtorEq] at hv
  split at hv
  ·split at hv
   ·cases hv
    obtain ⟨c1, c2, rfl, h1, h2⟩ := hc
    exact ⟨c1, c2, rfl, iha ‹_› h1, ihb ‹_› h2⟩
   ·cases hv
  ·cases hv
 | stru f ih => intro v d cs hv hc; cases v <;> simp only [ofAV, reduceCtorEq] at hv; exact ih hv hc
 | arr n s ih =>
  intro v d cs hv hc
  cases v <;> simp only [ofAV, reduceCtorEq] at hv
  split at hv
  ·rename_i hq; obtain ⟨rfl, rfl⟩ := hq; cases hv; exact hc
  ·cases hv
 | sl s ih =>
  intro v d cs hv hc
  cases v <;> simp only [ofAV, reduceCtorEq] at hv
  ·cases hv; obtain ⟨u, rfl, hu⟩ := hc; simp only [V1] at hu; subst hu; exact ⟨none, 0, rfl, Nat.le_refl _, by simp [maxLen], fun hp => absurd hp (by simp)⟩
  ·split at hv
   ·rename_i hq; subst hq; cases hv; obtain ⟨u, rfl, hu⟩ := hc; exact hu
   ·cases hv
theorem vc_map {a : AV} {cs : List Value} (h : VC σ R a cs) : a.isMap = false := by
 cases a <;> first | rfl | (obtain ⟨u, _, hu⟩ := h; exact hu.elim)
end Go.Proofs.YtfcloeflcpcheaaGreat.Eng
