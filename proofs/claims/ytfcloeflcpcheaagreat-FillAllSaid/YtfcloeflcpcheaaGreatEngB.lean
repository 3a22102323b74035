/-
The engine, second text: one operation, one statement, a function's body, run over abstract values and abstract memory. Nothing is claimed here.
Conditions: none.
-/
import Derived.Test.YtfcloeflcpcheaaGreatEngA
import Derived.Control
set_option linter.unusedVariables false
set_option linter.unusedSimpArgs false
namespace Go.Proofs.YtfcloeflcpcheaaGreat.Eng
def constAV : Value → AV
 | .int k n => .int k n
 | .bool b => .bool b
 | .string s => .str s
 | .pointer none => .nilp
 | .slice none n c => bif Nat.beq n 0 && Nat.beq c 0 then .nils else .any
 | .func (.func f) a b => bif a.toList.isEmpty && b.toList.isEmpty then .fn f else .any
 | _ => .any
def evA (t : Tm) : Operand → AV
 | .tmp i => tget t i
 | .const v => constAV v
 | .func f => .fn f
 | .global _ => .any
def foff : AV → Nat → Option Nat
 | .fcons _ _, 0 => some 0
 | .fcons a b, j + 1 => match foff b j with | some o => some (a.w + o) | none => none
 | _, _ => none
def chainGet : AV → Nat → Option AV
 | .fcons a _, 0 => some a
 | .fcons _ b, j + 1 => chainGet b j
 | _, _ => none
def nthP : List (Nat × Nat) → Nat → Option (Nat × Nat)
 | [], _ => none
 | x :: _, 0 => some x
 | _ :: l, j + 1 => nthP l j
def TK.agg : TK → Bool
 | .stru _ => true | .arr _ _ => true | _ => false
def isK (T : Types) (t : Nat) (f : TK → Bool) : Bool :=
 match tyGet T t with
 | some ti => f ti.k
 | none => false
def TK.isInt : TK → Bool
 | .int _ => true | _ => false
def TK.isStr : TK → Bool
 | .str => true | _ => false
def TK.isSlice : TK → Bool
 | .slice _ => true | _ => false
def TK.isBool : TK → Bool
 | .bool => true | _ => false
def TK.isPtr : TK → Bool
 | .ptr _ => true | _ => false
def TK.isArr (n : Nat) : TK → Bool
 | .arr m _ => Nat.beq m n | _ => false
def TK.isSc : TK → Sch → Bool
 | .int k, .int k' => decide (k' = k)
 | .bool, .bool => true
 | .str, .str => true
 | _, _ => false
def elemTy (T : Types) (ty : Nat) : Option Nat :=
 match tyGet T ty with
 | some ti => (match ti.k with | .arr _ e => some e | _ => none)
 | none => none
def fieldTy (T : Types) (ty f : Nat) : Option Nat :=
 match tyGet T ty with
 | some ti => (match ti.k with | .stru fs => (match nthP fs f with | some q => some q.1 | none => none) | _ => none)
 | none => none
def fieldOk (T : Types) (ty f : Nat) (c : AV) : Bool :=
 match tyGet T ty with
 | some ti => (match ti.k with
  | .stru fs => (match nthP fs f with
   | some q => (match foff c f, tyGet T q.1 with | some o, some tf => Nat.beq o q.2 && !Nat.beq tf.size 0 | _, _ => false)
   | none => false)
  | _ => false)
 | none => false
def arrOk (T : Types) (ty n : Nat) (s : Sch) : Bool :=
 match tyGet T ty with
 | some ti => (match ti.k with
  | .arr m e => (match tyGet T e with | some te => Nat.beq m n && Nat.beq te.size s.w && !Nat.beq s.w 0 | none => false)
  | _ => false)
 | none => false
def sliceOk (T : Types) (ty : Nat) (s : Sch) : Bool :=
 match tyGet T ty with
 | some ti => (match ti.k with
  | .slice e => (match tyGet T e with | some te => Nat.beq te.size s.w && !Nat.beq s.w 0 | none => false)
  | _ => false)
 | none => false
def loadOk (T : Types) (ty : Nat) (v : AV) : Bool :=
 match tyGet T ty with
 | some ti => Nat.beq ti.size v.w && (v.cell || v.agg) && (if ti.k.agg then v.agg else v.cell)
 | none => false
section
variable {R : Type}
structure Env (R : Type) where
 run : FuncId → List AV → List (Option Blk) → (AV → List (Option Blk) → Option R) → Option R
 q : FuncId → Bool
 ln : FuncId → Bool
 a : FuncId → Bool
abbrev Qs := FuncId → Bool × Bool
def Env.w {R : Type} (E : Env R) : Qs := fun f => (E.q f || E.ln f || E.a f, E.q f || E.ln f)
abbrev K3 (R : Type) := AV → Hp → Nat → Option R
def inB (i : Int) (n : Nat) (k : Option R) : Option R := bif decide (0 ≤ i) then (bif decide (i < (n : Int)) then k else none) else none
def toB (i : Int) (n : Nat) (k : Option R) : Option R := bif decide (0 ≤ i) then (bif decide (i ≤ (n : Int)) then k else none) else none
def viewA (h : Hp) (n i : Nat) : Hp :=
 match hget h n with
 | some b => (match b.c with | .fam e s l => [(0, some ⟨.lst s (l.getD i []), e⟩)] | _ => [])
 | none => []
def liftV (n i : Nat) : AV → AV
 | .ptr _ p => .ip n i p
 | _ => .any
def fieldAddr0 (T : Types) (ty f : Nat) (h : Hp) (a : AV) (k : K1 R) : Option R :=
 match a with
 | .ptr n p => (match hget h n with
  | some b => (match aget b.c p with
   | some (.node c) => bif fieldOk T ty f c then k (.ptr n (p ++ [f])) else none
   | _ => none)
  | none => none)
 | .rop s x p => (match sget s x p with
  | some (.node c) => bif fieldOk T ty f c then k (.rop s x (p ++ [f])) else none
  | _ => none)
 | _ => none
def fieldAddrA (T : Types) (ty f : Nat) (h : Hp) (a : AV) (k : K1 R) : Option R :=
 match a with
 | .ip n j p => fieldAddr0 T ty f (viewA h n j) (.ptr 0 p) fun v => k (liftV n j v)
 | a => fieldAddr0 T ty f h a k
def indexAddr0 (T : Types) (ty : Nat) (h : Hp) (a i : AV) (k : K1 R) : Option R :=
 match i with
 | .int _ i => (match a with
  | .ptr n p => (match hget h n with
   | some b => (match aget b.c p with
    | some (.vec s m _) => bif arrOk T ty m s then inB i m (k (.ptr n (p ++ [i.toNat]))) else none
    | _ => none)
   | none => none)
  | .sl n => (match hget h n with
   | some b => (match b.c with
    | .lst s l => bif sliceOk T ty s then inB i l.length (k (.ptr n [i.toNat])) else none
    | .fam _ s l => bif sliceOk T ty (.sl s) then inB i l.length (k (.ptr n [i.toNat])) else none
    | _ => none)
   | none => none)
  | .ss n p o len => (match hget h n with
   | some b => (match aget b.c p with
    | some (.vec s m _) => bif sliceOk T ty s then inB i len (k (.ptr n (p ++ [o + i.toNat]))) else none
    | some (.lst s l) => bif sliceOk T ty s then inB i len (k (.ptr n (p ++ [o + i.toNat]))) else none
    | _ => none)
   | none => none)
  | .ros s l => bif sliceOk T ty s then inB i l.length (k (.rop s (l.getD i.toNat s.zero) [])) else none
  | .rop s x p => (match sget s x p with
   | some (.vec s' m _) => bif arrOk T ty m s' then inB i m (k (.rop s x (p ++ [i.toNat]))) else none
   | _ => none)
  | _ => none)
 | _ => none
def indexAddrA (T : Types) (ty : Nat) (h : Hp) (a i : AV) (k : K1 R) : Option R :=
 match a with
 | .isl n j => indexAddr0 T ty (viewA h n j) (.sl 0) i fun v => k (liftV n j v)
 | .ip n j p => indexAddr0 T ty (viewA h n j) (.ptr 0 p) i fun v => k (liftV n j v)
 | a => indexAddr0 T ty h a i k
def load0 (T : Types) (ty : Nat) (h : Hp) (a : AV) (k : K1 R) : Option R :=
 match a with
 | .ptr n p => (match hget h n with
  | some b => (match aget b.c p with
   | some v => bif loadOk T ty v then k v else none
   | none => none)
  | none => none)
 | .rop s x p => (match sget s x p with
  | some v => bif loadOk T ty v then k v else none
  | none => none)
 | _ => none
def loadF (T : Types) (ty : Nat) (h : Hp) (a : AV) : Option AV :=
 match a with
 | .ptr n [i] => (match hget h n with
  | some b => (match b.c with
   | .fam _ _ _ => bif loadOk T ty (.isl n i) then some (.isl n i) else none
   | _ => none)
  | none => none)
 | _ => none
def loadA (T : Types) (ty : Nat) (h : Hp) (a : AV) (k : K1 R) : Option R :=
 match a with
 | .ip n j p => load0 T ty (viewA h n j) (.ptr 0 p) k
 | a => (match loadF T ty h a with
  | some v => k v
  | none => load0 T ty h a k)
def store0 (T : Types) (ty : Nat) (h : Hp) (x : Nat) (a v : AV) (k : K3 R) : Option R :=
 match a with
 | .ptr n p => (match hget h n with
  | some b => (match aset b.c p v with
   | some c => bif loadOk T ty v then k .any ((n, some ⟨c, b.e⟩) :: h) x else none
   | none => none)
  | none => none)
 | _ => none
def storeF (T : Types) (ty : Nat) (h : Hp) (x : Nat) (n j : Nat) (p : List Nat) (v : AV) (k : K3 R) : Option R :=
 match hget h n with
 | some b => (match b.c with
  | .fam e s l => (match aset (.lst s (l.getD j [])) p v with
   | some (.lst s' r) => if q : s' = s then bif loadOk T ty v && !p.isEmpty then k .any ((n, some ⟨.fam e s (l.set j (q ▸ r)), b.e⟩) :: h) x else none else none
   | _ => none)
  | _ => none)
 | none => none
def storeA (T : Types) (ty : Nat) (h : Hp) (x : Nat) (a v : AV) (k : K3 R) : Option R :=
 match a with
 | .ip n j p => storeF T ty h x n j p v k
 | a => store0 T ty h x a v k
def partOk (T : Types) (ty i : Nat) (z v : AV) : Bool :=
 match z with
 | .node c => (match fieldTy T ty i with
  | some ft => fieldOk T ty i c && loadOk T ft v
  | none => false)
 | .vec s n _ => (match elemTy T ty with
  | some e => arrOk T ty n s && loadOk T e v && Nat.blt i n
  | none => false)
 | _ => false
def setParts (T : Types) (ty : Nat) (c : AV) : List (Nat × AV) → Option AV
 | [] => some c
 | (i, v) :: l => bif partOk T ty i c v then (match aset c [i] v with | some c' => setParts T ty c' l | none => none) else none
def buildA (T : Types) (ty : Nat) (parts : List (Nat × AV)) (k : K1 R) : Option R :=
 match tyGet T ty with
 | some ti => bif ti.zero.agg then (match setParts T ty ti.zero parts with | some c => k c | none => none) else none
 | none => none
def setList (s : Sch) (l : List s.den) : List (Nat × AV) → Option (List s.den)
 | [] => some l
 | (i, v) :: q => match ofAV s v with | some x => bif Nat.blt i l.length && (v.cell || v.agg) then setList s (l.set i x) q else none | none => none
def buildSliceA (T : Types) (ty len : Nat) (parts : List (Nat × AV)) (h : Hp) (x : Nat) (k : K3 R) : Option R :=
 match tyGet T ty with
 | some ti => (match ti.k with
  | .slice e => (match tyGet T e with
   | some te => (match te.sch with
    | some s => (match setList s (List.replicate len s.zero) parts with
     | some l => bif Nat.ble (len * s.w) 16777216 && !Nat.beq s.w 0 && Nat.ble len 16777216 then k (.sl x) ((x, some ⟨.lst s l, e⟩) :: h) (x + 1) else none
     | none => none)
    | none => none)
   | none => none)
  | _ => none)
 | none => none
def elems (h : Hp) (s : Sch) (a : AV) : Option (List s.den) :=
 match a with
 | .nils => some []
 | .ros s' l => if e : s' = s then some (e ▸ l) else none
 | .sl n => (match hget h n with
  | some b => (match b.c with | .lst s' l => if e : s' = s then some (e ▸ l) else none | _ => none)
  | none => none)
 | .ss n p o len => (match hget h n with
  | some b => (match aget b.c p with
   | some (.lst s' l) => if e : s' = s then some ((((e ▸ l : List s.den)).drop o).take len) else none
   | some (.vec s' _ f) => if e : s' = s then some ((List.range len).map fun j => (e ▸ f : Nat → s.den) (o + j)) else none
   | _ => none)
  | none => none)
 | _ => none
def convertA (T : Types) (src dst : Nat) (h : Hp) (x : Nat) (v : AV) (k : K3 R) : Option R :=
 match tyGet T src, tyGet T dst with
 | some ts, some td => (match ts.k, td.k, v with
  | .int _, .int ki, .int _ n => k (.int ki (ki.wrap n)) h x
  | .str, .str, .str s => k (.str s) h x
  | .slice e, .str, .ros s l => (match ofBytes e s l with | some b => k (.str b) h x | none => none)
  | .slice e, .str, .sl n => (match hget h n with
   | some b => (match b.c with
    | .lst s l => (match ofBytes e s l with | some b => k (.str b) h x | none => none)
    | _ => none)
   | none => none)
  | .slice e, .str, .ss n p o len => (match elems h (.int .u8) (.ss n p o len) with
   | some l => (match ofBytes e (.int .u8) l with | some b => k (.str b) h x | none => none)
   | none => none)
  | .str, .slice e, .str s => (match tyGet T e with
   | some te => (match te.k with | .int .u8 => bif decide (s.size ≤ maxI64) then k (.sl x) ((x, some ⟨.lst (.int .u8) (strList s), e⟩) :: h) (x + 1) else none | _ => none)
   | none => none)
  | _, _, _ => none)
 | _, _ => none
where
 ofBytes (e : Nat) : (s : Sch) → List s.den → Option ByteArray
  | .int .u8, l => (match tyGet T e with
   | some te => (match te.k with | .int .u8 => some (listStr l) | _ => none)
   | none => none)
  | _, _ => none
def makeSliceA (T : Types) (ty : Nat) (l c : AV) (h : Hp) (x : Nat) (k : K3 R) : Option R :=
 match l, c with
 | .int _ l, .int _ c => (match tyGet T ty with
  | some ti => (match ti.k with
   | .slice e => (match tyGet T e with
    | some te => (match te.sch with
     | some s => bif Nat.beq s.w 0 then none else bif decide (0 ≤ l) then (bif decide (l ≤ c) then (bif decide ((te.bytes : Int) * c ≤ 281474976710656) then (bif decide (c ≤ 9223372036854775807) then
       k (.sl x) ((x, some ⟨.lst s (List.replicate l.toNat s.zero), e⟩) :: h) (x + 1) else none) else none) else none) else none
     | none => none)
    | none => none)
   | _ => none)
  | none => none)
 | _, _ => none
def mapTy (T : Types) (ty : Nat) : Option (Sch × Sch) :=
 match tyGet T ty with
 | some ti => (match ti.k with
  | .map kt et => (match tyGet T kt, tyGet T et with
   | some tk, some te => (match tk.sch, te.sch with
    | some ks, some vs => bif ks.sc && vs.sc && tk.k.isSc ks && te.k.isSc vs then some (ks, vs) else none
    | _, _ => none)
   | _, _ => none)
  | _ => none)
 | none => none
def makeMapA (T : Types) (ty : Nat) (h : Hp) (x : Nat) (k : K3 R) : Option R :=
 match mapTy T ty with
 | some (ks, vs) => k (.mp x) ((x, some ⟨.kvs ks vs [], ty⟩) :: h) (x + 1)
 | none => none
def lookupA (T : Types) (ty : Nat) (h : Hp) (m i : AV) (k : K1 R) : Option R :=
 match m with
 | .mp n => (match hget h n with
  | some b => (match b.c with
   | .kvs ks vs l => bif decide (mapTy T ty = some (ks, vs)) then (match ofAV ks i with
    | some key => k (toAV vs ((kvGet ks key l).getD vs.zero))
    | none => none) else none
   | _ => none)
  | none => none)
 | _ => none
def mapUpdateA (T : Types) (ty : Nat) (h : Hp) (x : Nat) (m i v : AV) (k : K3 R) : Option R :=
 match m with
 | .mp n => (match hget h n with
  | some b => (match b.c with
   | .kvs ks vs l => bif decide (mapTy T ty = some (ks, vs)) then (match ofAV ks i, ofAV vs v with
    | some key, some y => k .any ((n, some ⟨.kvs ks vs (kvPut ks key y l), b.e⟩) :: h) x
    | _, _ => none) else none
   | _ => none)
  | none => none)
 | _ => none
def bound (v : Option AV) (dflt : Nat) (k : Int → Option R) : Option R :=
 match v with
 | none => k dflt
 | some (.int _ i) => k i
 | some _ => none
def cuts (n : Nat) (lo hi : Option AV) (k : Nat → Nat → Option R) : Option R :=
 bound hi n fun hi' => bound lo 0 fun lo' => toB hi' n (bif decide (0 ≤ lo') then (bif decide (lo' ≤ hi') then k lo'.toNat hi'.toNat else none) else none)
def sliceA (T : Types) (ty : Nat) (h : Hp) (a : AV) (lo hi : Option AV) (k : K1 R) : Option R :=
 match a with
 | .str s => bif isK T ty TK.isStr then cuts s.size lo hi fun l u => k (.str (s.extract l u)) else none
 | .ros s l => bif sliceOk T ty s then cuts l.length lo hi fun a u => k (.ros s ((l.drop a).take (u - a))) else none
 | .sl n => (match hget h n with
  | some b => (match b.c with
   | .lst s l => bif sliceOk T ty s then cuts l.length lo hi fun a u => k (.ss n [] a (u - a)) else none
   | _ => none)
  | none => none)
 | .ss n p o len => (match hget h n with
  | some b => (match aget b.c p with
   | some (.vec s _ _) => bif sliceOk T ty s then cuts len lo hi fun a u => k (.ss n p (o + a) (u - a)) else none
   | some (.lst s _) => bif sliceOk T ty s then cuts len lo hi fun a u => k (.ss n p (o + a) (u - a)) else none
   | _ => none)
  | none => none)
 | .ptr n p => (match hget h n with
  | some b => (match aget b.c p with
   | some (.vec s m _) => bif arrOk T ty m s && Nat.ble m 4194304 then cuts m lo hi fun a u => k (.ss n p a (u - a)) else none
   | _ => none)
  | none => none)
 | _ => none
def indexA (T : Types) (ty : Nat) (a i : AV) (k : K1 R) : Option R :=
 match a, i with
 | .str s, .int _ i => bif isK T ty TK.isStr then inB i s.size (k (.int .u8 (byteAt s i.toNat))) else none
 | .vec s m f, .int _ i => (match elemTy T ty with
  | some e => bif arrOk T ty m s && loadOk T e (toAV s (f i.toNat)) then inB i m (k (toAV s (f i.toNat))) else none
  | none => none)
 | _, _ => none
def fieldA (T : Types) (ty f : Nat) (a : AV) (k : K1 R) : Option R :=
 match a with
 | .node c => (match fieldTy T ty f, aget c [f] with
  | some ft, some v => bif fieldOk T ty f c && loadOk T ft v then k v else none
  | _, _ => none)
 | _ => none
def toArrA (T : Types) (ty : Nat) (a : AV) (k : K1 R) : Option R :=
 match a with
 | .ros s l => (match tyGet T ty with
  | some ti => (match ti.k with
   | .arr n _ => bif Nat.blt 0 n then (bif decide (n ≤ l.length) then k (.rop (.arr n s) (fun i => l.getD i s.zero) []) else none) else none
   | _ => none)
  | none => none)
 | _ => none
def extractA (a : AV) (i : Nat) (k : K1 R) : Option R :=
 match a with
 | .tup c => (match chainGet c i with | some v => k v | none => none)
 | _ => none
def pickA (c a b : AV) (k : K1 R) : Option R :=
 match c with
 | .bool c => (match a, b with | .bool a, .bool b => k (.bool (bif c then a else b)) | a, b => bif c then k a else k b)
 | _ => none
def len0 (T : Types) (ty : Nat) (h : Hp) (a : AV) (k : K1 R) : Option R :=
 match a with
 | .str s => bif isK T ty TK.isStr then k (.int .i64 s.size) else none
 | .ros _ l => bif isK T ty TK.isSlice then k (.int .i64 l.length) else none
 | .nils => bif isK T ty TK.isSlice then k (.int .i64 0) else none
 | .ss _ _ _ len => bif isK T ty TK.isSlice then k (.int .i64 len) else none
 | .vec _ n _ => bif isK T ty (TK.isArr n) then k (.int .i64 n) else none
 | .sl n => (match hget h n with
  | some b => (match b.c with
   | .lst _ l => bif isK T ty TK.isSlice then k (.int .i64 l.length) else none
   | .fam _ _ l => bif isK T ty TK.isSlice then k (.int .i64 l.length) else none
   | _ => none)
  | none => none)
 | _ => none
def lenA (T : Types) (ty : Nat) (h : Hp) (a : AV) (k : K1 R) : Option R :=
 match a with
 | .isl n j => len0 T ty (viewA h n j) (.sl 0) k
 | a => len0 T ty h a k
end
def AV.names : AV → List Nat
 | .ptr n _ => [n] | .sl n => [n] | .ss n _ _ _ => [n] | .mp n => [n] | .isl n _ => [n] | .ip n _ _ => [n]
 | .node f => f.names | .fcons a b => a.names ++ b.names | .tup f => f.names | _ => []
def memN : List Nat → Nat → Bool
 | [], _ => false
 | x :: l, n => bif Nat.beq x n then true else memN l n
def reach (h : Hp) : Nat → List Nat → List Nat → List Nat
 | 0, _, seen => seen
 | _ + 1, [], seen => seen
 | f + 1, n :: todo, seen => bif memN seen n then reach h f todo seen else
   match hget h n with
   | some b => reach h f (b.c.names ++ todo) (seen ++ [n])
   | none => reach h f todo seen
def idxN : List Nat → Nat → Nat → Option Nat
 | [], _, _ => none
 | x :: l, n, i => bif Nat.beq x n then some i else idxN l n (i + 1)
def nthN : List Nat → Nat → Option Nat
 | [], _ => none
 | x :: _, 0 => some x
 | _ :: l, i + 1 => nthN l i
def AV.ren (f : Nat → Option Nat) : AV → Option AV
 | .ptr n p => match f n with | some m => some (.ptr m p) | none => none
 | .sl n => match f n with | some m => some (.sl m) | none => none
 | .ss n p o len => match f n with | some m => some (.ss m p o len) | none => none
 | .mp n => match f n with | some m => some (.mp m) | none => none
 | .isl n i => match f n with | some m => some (.isl m i) | none => none
 | .ip n i p => match f n with | some m => some (.ip m i p) | none => none
 | .node g => match g.ren f with | some g' => some (.node g') | none => none
 | .fcons a b => match a.ren f with | some a' => (match b.ren f with | some b' => some (.fcons a' b') | none => none) | none => none
 | .tup g => match g.ren f with | some g' => some (.tup g') | none => none
 | v => some v
def renL (f : Nat → Option Nat) : List AV → Option (List AV)
 | [] => some []
 | v :: l => match v.ren f with | some v' => (match renL f l with | some l' => some (v' :: l') | none => none) | none => none
def Blk.ren (f : Nat → Option Nat) (b : Blk) : Option Blk := match b.c.ren f with | some c => some ⟨c, b.e⟩ | none => none
def pull (h : Hp) (f : Nat → Option Nat) : List Nat → Option (List (Option Blk))
 | [] => some []
 | n :: q => match hget h n with
  | some b => (match b.ren f with | some b' => (match pull h f q with | some r => some (some b' :: r) | none => none) | none => none)
  | none => (match pull h f q with | some r => some (none :: r) | none => none)
def number {α : Type} : Nat → List α → List (Nat × α)
 | _, [] => []
 | i, x :: l => (i, x) :: number (i + 1) l
def news (x : Nat) : Nat → List Nat
 | 0 => []
 | n + 1 => x :: news (x + 1) n
def giveBack (f : Nat → Option Nat) : List Nat → List (Option Blk) → Hp → Option Hp
 | n :: L, some b :: H, h => (match b.ren f with | some b' => (match giveBack f L H h with | some g => some ((n, some b') :: g) | none => none) | none => none)
 | n :: L, none :: H, h => (match giveBack f L H h with | some g => some ((n, none) :: g) | none => none)
 | [], [], h => some h
 | _, _, _ => none
def allLt (x : Nat) : List Nat → Bool
 | [] => true
 | n :: l => bif Nat.blt n x then allLt x l else false
def fuelN : Nat := 400
def asData (h : Hp) : AV → Option AV
 | .sl n => (match hget h n with | some b => (match b.c with | .lst s l => some (.ros s l) | _ => none) | none => none)
 | .ss n p o len => (match hget h n with
  | some b => (match aget b.c p with
   | some (.lst s l) => bif Nat.beq s.w 0 then none else some (.ros s ((l.drop o).take len))
   | some (.vec s _ f) => bif Nat.beq s.w 0 then none else some (.ros s ((List.range len).map fun j => f (o + j)))
   | _ => none)
  | none => none)
 | _ => none
def AV.froze (old : List Nat) (h : Hp) : AV → AV
 | .sl n => bif memN old n then .sl n else (match asData h (.sl n) with | some v => v | none => .sl n)
 | .ss n p o len => bif memN old n then .ss n p o len else (match asData h (.ss n p o len) with | some v => v | none => .ss n p o len)
 | .node f => .node (f.froze old h) | .fcons a b => .fcons (a.froze old h) (b.froze old h) | .tup f => .tup (f.froze old h)
 | v => v
def AV.frozen (old : List Nat) (h : Hp) : AV → List Nat
 | .sl n => bif memN old n then [] else (match asData h (.sl n) with | some _ => [n] | none => [])
 | .ss n p o len => bif memN old n then [] else (match asData h (.ss n p o len) with | some _ => [n] | none => [])
 | .node f => f.frozen old h | .fcons a b => a.frozen old h ++ b.frozen old h | .tup f => f.frozen old h
 | _ => []
def Sch.plain : Sch → Bool
 | .sl _ => false | .fcons a b => a.plain && b.plain | .stru f => f.plain | .arr _ s => s.plain | _ => true
def AV.plain : AV → Bool
 | .node f => f.plain | .tup f => f.plain | .fcons a b => a.plain && b.plain | .vec s _ _ => s.plain
 | .ptr _ _ => false | .sl _ => false | .ss _ _ _ _ => false | .mp _ => false | .rop _ _ _ => false | .ros _ _ => false | .lst _ _ => false | .kvs _ _ _ => false | .isl _ _ => false | .ip _ _ _ => false | .fam _ _ _ => false
 | _ => true
def AV.own : AV → Bool
 | .node f => f.own | .tup f => f.own | .fcons a b => a.own && b.own | .vec s _ _ => s.plain | .lst s _ => s.plain
 | .rop _ _ _ => false | .ros _ _ => false | .kvs _ _ _ => false | .fam _ s _ => s.plain
 | _ => true
def ownH : List (Option Blk) → Bool
 | [] => true
 | some b :: l => b.c.own && ownH l
 | none :: l => ownH l
section
variable {R : Type}
def freshB (h : Hp) (x : Nat) : Bool := match hget h x with | none => true | some _ => false
def lendA (E : Env R) (f : FuncId) (args : List AV) (h : Hp) (x : Nat) (k : K3 R) : Option R :=
 bif ((args.map (AV.froze [] h)).flatMap AV.names).isEmpty then
  (bif E.q f then E.run f (args.map (AV.froze [] h)) [] (fun v _ => bif v.plain then k v h x else none)
   else E.run f (args.map (AV.froze [] h)) [] (fun v H' => bif v.own && ownH H' && ((v.froze [] (number 0 H')).names).isEmpty then k (v.froze [] (number 0 H')) h x else none))
 else none
def ownA (E : Env R) (f : FuncId) (args : List AV) (h : Hp) (x : Nat) (k : K3 R) : Option R :=
 let L := reach h fuelN (args.flatMap AV.names) []
 match renL (fun n => idxN L n 0) args with
 | some args' => (match pull h (fun n => idxN L n 0) L with
  | some H => bif E.q f then E.run f args' H (fun v _ => match v.ren (nthN L) with | some v' => k v' h x | none => none)
    else bif allLt x L then E.run f args' H (fun v H' =>
     let B := L ++ news x (H'.length - L.length)
     bif !E.a f || (news x (H'.length - L.length)).all (freshB h) then
     (match giveBack (nthN B) B H' h with
     | some h' => (match v.ren (nthN B) with | some v' => k v' h' (x + (H'.length - L.length)) | none => none)
     | none => none) else none) else none
  | none => none)
 | none => none
def callA (E : Env R) (f : FuncId) (args : List AV) (h : Hp) (x : Nat) (k : K3 R) : Option R :=
 bif E.ln f then lendA E f args h x k else ownA E f args h x k
def moreA (T : Types) (t t' : Nat) (h : Hp) (s : Sch) (b : AV) (k : List s.den → Option R) : Option R :=
 bif Nat.beq t t' then (match elems h s b with | some m => k m | none => none) else
  match b with
  | .str y => bif isK T t' TK.isStr then (if q : Sch.int .u8 = s then k (q ▸ strList y) else none) else none
  | .int _ n => bif isK T t' TK.isInt then (bif decide (0 ≤ n) then (bif decide (n ≤ 140737488355328) then k (List.replicate n.toNat s.zero) else none) else none) else none
  | _ => none
def famOf (h : Hp) : AV → Bool
 | .sl m => (match hget h m with | some b => (match b.c with | .fam _ _ _ => true | _ => false) | none => false)
 | _ => false
def appendF (T : Types) (ty ty' : Nat) (h : Hp) (x : Nat) (a b : AV) (k : K3 R) : Option R :=
 match b with
 | .sl m => (match hget h m with
  | some bm => (match bm.c with
   | .fam e s l2 => (match tyGet T ty with
    | some ti => (match ti.k with
     | .slice et => (match tyGet T et with
      | some te => bif Nat.beq ty ty' && Nat.beq te.size 1 && !Nat.beq te.bytes 0 && te.k.isSlice && te.zero.cell then (match a with
       | .nils => bif decide (l2.length * te.bytes ≤ 140737488355328) then k (.sl x) ((x, some ⟨.fam e s l2, et⟩) :: (m, none) :: h) (x + 1) else none
       | .sl n => (match hget h n with
        | some b0 => (match b0.c with
         | .fam e' s' l0 => if q : s' = s then bif decide (((q ▸ l0 : List (List s.den)).length + l2.length) * te.bytes ≤ 140737488355328) && Nat.beq b0.e et && Nat.beq e' e && !Nat.beq n m then k (.sl x) ((x, some ⟨.fam e s ((q ▸ l0 : List (List s.den)) ++ l2), et⟩) :: (m, none) :: (n, none) :: h) (x + 1) else none else none
         | _ => none)
        | none => none)
       | _ => none) else none
      | none => none)
     | _ => none)
    | none => none)
   | _ => none)
  | none => none)
 | _ => none
def append0 (T : Types) (ty ty' : Nat) (h : Hp) (x : Nat) (a b : AV) (k : K3 R) : Option R :=
 match tyGet T ty with
 | some ti => (match ti.k with
  | .slice e => (match tyGet T e with
   | some te => (match te.sch with
    | some s => bif Nat.beq s.w 0 || Nat.beq te.bytes 0 then none else moreA T ty ty' h s b fun m => (match a with
     | .nils => bif decide (m.length * te.bytes ≤ 140737488355328) then k (.sl x) ((x, some ⟨.lst s m, e⟩) :: h) (x + 1) else none
     | .sl n => (match hget h n with
      | some b0 => (match b0.c with
       | .lst s' l0 => if q : s' = s then bif decide (((q ▸ l0 : List s.den).length + m.length) * te.bytes ≤ 140737488355328) && Nat.beq b0.e e then k (.sl x) ((x, some ⟨.lst s ((q ▸ l0 : List s.den) ++ m), e⟩) :: (n, none) :: h) (x + 1) else none else none
       | _ => none)
      | none => none)
     | _ => none)
    | none => none)
   | none => none)
  | _ => none)
 | none => none
def appendA (T : Types) (ty ty' : Nat) (h : Hp) (x : Nat) (a b : AV) (k : K3 R) : Option R :=
 bif famOf h b then appendF T ty ty' h x a b k else append0 T ty ty' h x a b k
def clearA (T : Types) (ty : Nat) (h : Hp) (x : Nat) (a : AV) (k : K3 R) : Option R :=
 match a with
 | .sl n => (match hget h n with
  | some b => (match b.c with
   | .lst s l => (match tyGet T ty with
    | some ti => (match ti.k with
     | .slice e => (match tyGet T e with
      | some te => bif decide (te.sch = some s) && !Nat.beq s.w 0 then k (.tup .fnil) ((n, some ⟨.lst s (List.replicate l.length s.zero), b.e⟩) :: h) x else none
      | none => none)
     | _ => none)
    | none => none)
   | _ => none)
  | none => none)
 | _ => none
def rebaseA (h : Hp) (x : Nat) (v : AV) (k : K3 R) : Option R :=
 match v with
 | .ss n [] o len => (match hget h n with
  | some b => (match b.c with
   | .lst s l => k (.sl x) ((x, some ⟨.lst s ((l.drop o).take len), b.e⟩) :: (n, none) :: h) (x + 1)
   | _ => k v h x)
  | none => none)
 | v => k v h x
def storeR (T : Types) (ty : Nat) (h : Hp) (x : Nat) (a v : AV) (k : K3 R) : Option R := rebaseA h x v fun v h x => storeA T ty h x a v k
def sealL (h : Hp) : List (Nat × AV) → List (Nat × AV) × Hp
 | [] => ([], h)
 | (i, v) :: l => (match v with
  | .sl n => (match asData h (.sl n) with
   | some d => ((i, d) :: (sealL ((n, none) :: h) l).1, (sealL ((n, none) :: h) l).2)
   | none => ((i, v) :: (sealL h l).1, (sealL h l).2))
  | v => ((i, v) :: (sealL h l).1, (sealL h l).2))
def rowsTy (T : Types) (ty : Nat) : Bool := isK T ty fun k => match k with | .slice e => isK T e TK.isSlice | _ => false
def tyFam (T : Types) (ty : Nat) : Option (Nat × Sch) := match tyGet T ty with | some ti => ti.fam | none => none
def buildFamA (T : Types) (ty len e : Nat) (s : Sch) (parts : List (Nat × AV)) (h : Hp) (x : Nat) (k : K3 R) : Option R :=
 match parts with
 | [(0, .sl m)] => (match hget h m with
  | some bm => (match bm.c with
   | .lst s' r => if q : s' = s then (match tyGet T ty with
    | some ti => (match ti.k with
     | .slice et => (match tyGet T et with
      | some te => bif Nat.beq len 1 && Nat.beq te.size 1 && te.k.isSlice && te.zero.cell && Nat.beq bm.e e then k (.sl x) ((x, some ⟨.fam e s [(q ▸ r : List s.den)], et⟩) :: (m, none) :: h) (x + 1) else none
      | none => none)
     | _ => none)
    | none => none) else none
   | _ => none)
  | none => none)
 | _ => none
def buildRowA (T : Types) (ty len : Nat) (parts : List (Nat × AV)) (h : Hp) (x : Nat) (k : K3 R) : Option R :=
 match tyFam T ty with
 | some (e, s) => buildFamA T ty len e s parts h x k
 | none => bif rowsTy T ty then buildSliceA T ty len (sealL h parts).1 (sealL h parts).2 x k else buildSliceA T ty len parts h x k
def rowElem (T : Types) (ft : Nat) : Option (Sch × Nat) :=
 match tyGet T ft with
 | some ti => (match ti.k with
  | .slice e => (match tyGet T e with
   | some te => (match te.sch with | some s => some (s, e) | none => none)
   | none => none)
  | _ => none)
 | none => none
def nilFields (T : Types) : List (Nat × Nat) → AV → Hp → Nat → AV × Hp × Nat
 | q :: fs, .fcons .nils b, h, x => (match rowElem T q.1 with
  | some se => (.fcons (.sl x) (nilFields T fs b ((x, some ⟨.lst se.1 [], se.2⟩) :: h) (x + 1)).1, (nilFields T fs b ((x, some ⟨.lst se.1 [], se.2⟩) :: h) (x + 1)).2)
  | none => (.fcons .nils (nilFields T fs b h x).1, (nilFields T fs b h x).2))
 | _ :: fs, .fcons a b, h, x => (.fcons a (nilFields T fs b h x).1, (nilFields T fs b h x).2)
 | _, c, h, x => (c, h, x)
def boxRows (T : Types) (e : Nat) (v : AV) (h : Hp) (x : Nat) : AV × Hp × Nat :=
 match tyGet T e with
 | some ti => bif ti.rws then (match ti.k, v with
  | .stru fs, .node c => (.node (nilFields T fs c h x).1, (nilFields T fs c h x).2)
  | _, v => (v, h, x)) else (v, h, x)
 | none => (v, h, x)
def copyF {α : Type} (f : Nat → α) (o c : Nat) (m : List α) (z : α) : Nat → α := fun j => bif Nat.ble o j && Nat.blt j (o + c) then m.getD (j - o) z else f j
def copyA (T : Types) (ty ty' : Nat) (h : Hp) (x : Nat) (a b : AV) (k : K3 R) : Option R :=
 bif Nat.beq ty ty' then
  (match tyGet T ty with
  | some ti => (match ti.k with
   | .slice e => (match tyGet T e with
    | some te => (match te.sch with
     | some s => bif Nat.beq s.w 0 then none else (match a with
      | .ss n p o len => (match hget h n with
       | some b0 => (match aget b0.c p with
        | some (.vec s' N f) => if q : s' = s then (match elems h s b with
          | some m => bif decide (0 < Nat.min m.length len) then
            (match aset b0.c p (.vec s N (copyF (q ▸ f : Nat → s.den) o (Nat.min m.length len) m s.zero)) with
            | some c => k (.int .i64 (Nat.min m.length len)) ((n, some ⟨c, b0.e⟩) :: h) x
            | none => none) else k (.int .i64 0) h x
          | none => none) else none
        | _ => none)
       | none => none)
      | _ => none)
     | none => none)
    | none => none)
   | _ => none)
  | none => none) else none
end
end Go.Proofs.YtfcloeflcpcheaaGreat.Eng
