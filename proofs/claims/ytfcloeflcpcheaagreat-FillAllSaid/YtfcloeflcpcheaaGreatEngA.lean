/-
The engine, first text: abstract values, abstract memory, and a function that runs a function's code over them. Nothing is claimed here.
Conditions: none.
-/
import GoSem.Core.Code
import GoSem.Dispatch
set_option linter.unusedVariables false
set_option linter.unusedSimpArgs false
namespace Go.Proofs.YtfcloeflcpcheaaGreat.Eng
inductive Sch where
 | int (k : IntKind) | bool | str | fnil | fcons (a b : Sch) | stru (f : Sch) | arr (n : Nat) (s : Sch) | sl (s : Sch)
 deriving DecidableEq
@[reducible] def Sch.den : Sch → Type
 | .int _ => Int | .bool => Bool | .str => ByteArray | .fnil => Unit | .fcons a b => a.den × b.den | .stru f => f.den | .arr _ s => Nat → s.den | .sl s => List s.den
def Sch.w : Sch → Nat
 | .int _ => 1 | .bool => 1 | .str => 1 | .fnil => 0 | .fcons a b => a.w + b.w | .stru f => f.w | .arr n s => n * s.w | .sl _ => 1
def Sch.zero : (s : Sch) → s.den
 | .int _ => (0 : Int) | .bool => false | .str => ByteArray.empty | .fnil => () | .fcons a b => (a.zero, b.zero) | .stru f => f.zero | .arr _ s => fun _ => s.zero | .sl _ => []
inductive AV where
 | any | int (k : IntKind) (n : Int) | bool (b : Bool) | str (s : ByteArray) | nilp | nils
 | ptr (n : Nat) (p : List Nat) | sl (n : Nat) | ss (n : Nat) (p : List Nat) (o len : Nat) | mp (n : Nat)
 | rop (s : Sch) (x : s.den) (p : List Nat) | ros (s : Sch) (l : List s.den)
 | node (f : AV) | fnil | fcons (a b : AV) | vec (s : Sch) (n : Nat) (f : Nat → s.den) | lst (s : Sch) (l : List s.den)
 | tup (f : AV) | fn (f : FuncId) | kvs (k v : Sch) (l : List (k.den × v.den)) | nilm
 | isl (n i : Nat) | ip (n i : Nat) (p : List Nat) | fam (e : Nat) (s : Sch) (l : List (List s.den))
inductive TK where
 | int (k : IntKind) | bool | str | ptr (e : Nat) | slice (e : Nat) | stru (fs : List (Nat × Nat)) | arr (n e : Nat) | map (k e : Nat) | other
structure TI where
 k : TK
 size : Nat
 bytes : Nat
 zero : AV
 sch : Option Sch
 eq : Bool := false
 rws : Bool := false
 fam : Option (Nat × Sch) := none
abbrev Types := List (Nat × TI)
def tyGet : Types → Nat → Option TI
 | [], _ => none
 | (i, x) :: l, j => bif Nat.beq i j then some x else tyGet l j
structure Blk where
 c : AV
 e : Nat
abbrev Hp := List (Nat × Option Blk)
abbrev Tm := List (Nat × AV)
def hget : Hp → Nat → Option Blk
 | [], _ => none
 | (i, x) :: l, j => bif Nat.beq i j then x else hget l j
def tget : Tm → Nat → AV
 | [], _ => .any
 | (i, x) :: l, j => bif Nat.beq i j then x else tget l j
structure St where
 t : Tm
 h : Hp
 x : Nat
def toAV : (s : Sch) → s.den → AV
 | .int k, x => .int k x | .bool, x => .bool x | .str, x => .str x | .fnil, _ => .fnil
 | .fcons a b, x => .fcons (toAV a x.1) (toAV b x.2) | .stru f, x => .node (toAV f x) | .arr n s, x => .vec s n x | .sl s, x => .ros s x
def ofAV : (s : Sch) → AV → Option s.den
 | .int k, .int k' n => if k' = k then some n else none
 | .bool, .bool b => some b
 | .str, .str s => some s
 | .fnil, .fnil => some ()
 | .fcons a b, .fcons x y => match ofAV a x with | some u => (match ofAV b y with | some v => some (u, v) | none => none) | none => none
 | .stru f, .node x => ofAV f x
 | .arr n s, .vec s' n' f => if h : s' = s ∧ n' = n then some (h.1 ▸ f) else none
 | .sl s, .ros s' l => if h : s' = s then some (h ▸ l) else none
 | .sl _, .nils => some []
 | _, _ => none
def AV.w : AV → Nat
 | .node f => f.w | .fnil => 0 | .fcons a b => a.w + b.w | .vec s n _ => n * s.w | .lst s l => l.length * s.w | .fam _ _ l => l.length | _ => 1
def AV.cell : AV → Bool
 | .any => false | .node _ => false | .fnil => false | .fcons _ _ => false | .vec _ _ _ => false | .lst _ _ => false | .tup _ => false | .kvs _ _ _ => false | .fam _ _ _ => false | _ => true
def AV.isMap : AV → Bool
 | .kvs _ _ _ => true | _ => false
def AV.agg : AV → Bool
 | .node _ => true | .vec _ _ _ => true | _ => false
def AV.same : AV → AV → Bool
 | .node f, .node g => f.same g
 | .fnil, .fnil => true
 | .fcons a b, .fcons c d => a.same c && b.same d
 | .vec s n _, .vec s' n' _ => decide (s = s') && Nat.beq n n'
 | x, y => x.cell && y.cell
def sget : (s : Sch) → s.den → List Nat → Option AV
 | s, x, [] => some (toAV s x)
 | .stru f, x, i :: p => sget f x (i :: p)
 | .fcons a _, x, 0 :: p => sget a x.1 p
 | .fcons _ b, x, (j + 1) :: p => sget b x.2 (j :: p)
 | .arr _ s, x, i :: p => sget s (x i) p
 | _, _, _ => none
def upd {α : Type} (f : Nat → α) (i : Nat) (x : α) : Nat → α := fun j => bif Nat.beq j i then x else f j
def sset : (s : Sch) → s.den → List Nat → AV → Option s.den
 | s, _, [], v => ofAV s v
 | .stru f, x, i :: p, v => sset f x (i :: p) v
 | .fcons a _, x, 0 :: p, v => match sset a x.1 p v with | some u => some (u, x.2) | none => none
 | .fcons _ b, x, (j + 1) :: p, v => match sset b x.2 (j :: p) v with | some u => some (x.1, u) | none => none
 | .arr _ s, x, i :: p, v => match sset s (x i) p v with | some u => some (upd x i u) | none => none
 | _, _, _, _ => none
def aget : AV → List Nat → Option AV
 | v, [] => some v
 | .node f, i :: p => aget f (i :: p)
 | .fcons a _, 0 :: p => aget a p
 | .fcons _ b, (j + 1) :: p => aget b (j :: p)
 | .vec s _ f, i :: p => sget s (f i) p
 | .lst s l, i :: p => sget s (l.getD i s.zero) p
 | _, _ => none
def aset : AV → List Nat → AV → Option AV
 | u, [], v => bif u.same v then some v else none
 | .node f, i :: p, v => match aset f (i :: p) v with | some g => some (.node g) | none => none
 | .fcons a b, 0 :: p, v => match aset a p v with | some g => some (.fcons g b) | none => none
 | .fcons a b, (j + 1) :: p, v => match aset b (j :: p) v with | some g => some (.fcons a g) | none => none
 | .vec s n f, i :: p, v => match sset s (f i) p v with | some u => some (.vec s n (upd f i u)) | none => none
 | .lst s l, i :: p, v => match sset s (l.getD i s.zero) p v with | some u => some (.lst s (l.set i u)) | none => none
 | _, _, _ => none
def schEq : (s : Sch) → s.den → s.den → Bool
 | .int _, x, y => x == y | .bool, x, y => x == y | .str, x, y => x == y | .fnil, _, _ => true
 | .fcons a b, x, y => schEq a x.1 y.1 && schEq b x.2 y.2 | .stru f, x, y => schEq f x y
 | .arr n s, x, y => (List.range n).all fun i => schEq s (x i) (y i) | .sl _, _, _ => false
def Sch.aggS : Sch → Bool
 | .stru _ => true | .arr _ _ => true | _ => false
def Sch.val : Sch → Bool
 | .fnil => false | .fcons _ _ => false | .sl _ => false | _ => true
def eqTy (T : Types) : Sch → Nat → List (Nat × Nat) → Nat → Bool
 | .int k, t, _, _ => match tyGet T t with | some ti => (match ti.k with | .int k' => decide (k' = k) && Nat.beq ti.size 1 | _ => false) | none => false
 | .bool, t, _, _ => match tyGet T t with | some ti => (match ti.k with | .bool => Nat.beq ti.size 1 | _ => false) | none => false
 | .str, t, _, _ => match tyGet T t with | some ti => (match ti.k with | .str => Nat.beq ti.size 1 | _ => false) | none => false
 | .fnil, _, [], _ => true
 | .fcons a b, _, (ft, off) :: fs, o => Nat.beq off o && a.val && eqTy T a ft [] 0 && !b.val && eqTy T b 0 fs (o + a.w)
 | .stru f, t, _, _ => match tyGet T t with | some ti => (match ti.k with | .stru fs => ti.eq && !f.val && Nat.beq ti.size f.w && eqTy T f 0 fs 0 | _ => false) | none => false
 | .arr n s, t, _, _ => match tyGet T t with | some ti => (match ti.k with | .arr m e => Nat.beq m n && s.val && Nat.beq ti.size (n * s.w) && eqTy T s e [] 0 | _ => false) | none => false
 | _, _, _, _ => false
def Sch.sc : Sch → Bool
 | .int _ => true | .bool => true | .str => true | _ => false
def kvGet (ks : Sch) {α : Type} (key : ks.den) : List (ks.den × α) → Option α
 | [] => none
 | p :: l => bif schEq ks key p.1 then some p.2 else kvGet ks key l
def kvPut (ks : Sch) {α : Type} (key : ks.den) (v : α) : List (ks.den × α) → List (ks.den × α)
 | [] => [(key, v)]
 | p :: l => bif schEq ks key p.1 then (key, v) :: l else p :: kvPut ks key v l
def Sch.ht : Sch → Nat
 | .fcons a b => a.ht + b.ht | .stru f => f.ht + 1 | .arr _ s => s.ht + 1 | .fnil => 0 | _ => 1
def addA (k : IntKind) (a b : Int) : Int := k.wrap (a + b)
def subA (k : IntKind) (a b : Int) : Int := k.wrap (a - b)
def mulA (k : IntKind) (a b : Int) : Int := k.wrap (a * b)
def quoA (k : IntKind) (a b : Int) : Int := k.wrap (a.tdiv b)
def remA (k : IntKind) (a b : Int) : Int := a.tmod b
def andA (k : IntKind) (a b : Int) : Int := k.wrap ((BitVec.ofInt k.bits a &&& BitVec.ofInt k.bits b).toNat : Int)
def orA (k : IntKind) (a b : Int) : Int := k.wrap ((BitVec.ofInt k.bits a ||| BitVec.ofInt k.bits b).toNat : Int)
def xorA (k : IntKind) (a b : Int) : Int := k.wrap ((BitVec.ofInt k.bits a ^^^ BitVec.ofInt k.bits b).toNat : Int)
def andNotA (k : IntKind) (a b : Int) : Int := k.wrap ((BitVec.ofInt k.bits a &&& ~~~BitVec.ofInt k.bits b).toNat : Int)
def shlA (k : IntKind) (a b : Int) : Int := k.wrap (a * 2 ^ (min b.toNat k.bits))
def shrA (k : IntKind) (a b : Int) : Int := a.fdiv (2 ^ (min b.toNat k.bits))
def maxA (a b : Int) : Int := if b > a then b else a
def minA (a b : Int) : Int := if b < a then b else a
def eqS (a b : ByteArray) : Bool := a.toList == b.toList
def byteAt (s : ByteArray) (i : Nat) : Int := match s[i]? with | some b => (b.toNat : Int) | none => 0
def strList (s : ByteArray) : List Int := s.data.toList.map fun b => (b.toNat : Int)
def listStr (l : List Int) : ByteArray := ⟨(l.map fun n => UInt8.ofNat n.toNat).toArray⟩
section
variable {R : Type}
abbrev K1 (R : Type) := AV → Option R
def binI (op : BinOp) (ka : IntKind) (a : Int) (kb : IntKind) (b : Int) (k : K1 R) : Option R :=
 match op with
 | .shl => bif decide (b < 0) then none else k (.int ka (shlA ka a b))
 | .shr => bif decide (b < 0) then none else k (.int ka (shrA ka a b))
 | op => bif decide (ka = kb) then
   match op with
   | .add => k (.int ka (addA ka a b)) | .sub => k (.int ka (subA ka a b)) | .mul => k (.int ka (mulA ka a b))
   | .quo => bif decide (b = 0) then none else k (.int ka (quoA ka a b))
   | .rem => bif decide (b = 0) then none else k (.int ka (remA ka a b))
   | .and => k (.int ka (andA ka a b)) | .or => k (.int ka (orA ka a b)) | .xor => k (.int ka (xorA ka a b)) | .andNot => k (.int ka (andNotA ka a b))
   | .eql => k (.bool (a == b)) | .neq => k (.bool (a != b)) | .lss => k (.bool (decide (a < b))) | .leq => k (.bool (decide (a ≤ b)))
   | .gtr => k (.bool (decide (a > b))) | .geq => k (.bool (decide (a ≥ b)))
   | _ => none
  else none
def maxI64 : Nat := 9223372036854775807
def binS (op : BinOp) (a b : ByteArray) (k : K1 R) : Option R :=
 match op with
 | .add => bif decide (a.size + b.size ≤ maxI64) then k (.str (a ++ b)) else none
 | .eql => k (.bool (eqS a b)) | .neq => k (.bool (!eqS a b))
 | .lss => k (.bool (Op.bytesLess a.toList b.toList)) | .leq => k (.bool (Op.bytesLess a.toList b.toList || eqS a b))
 | .gtr => k (.bool (!(Op.bytesLess a.toList b.toList || eqS a b))) | .geq => k (.bool (!Op.bytesLess a.toList b.toList))
 | _ => none
def eqlK (op : BinOp) (r : Option Bool) (k : K1 R) : Option R :=
 match r with
 | none => none
 | some b => match op with | .eql => k (.bool b) | .neq => k (.bool (!b)) | _ => none
def bin (op : BinOp) (x y : AV) (k : K1 R) : Option R :=
 match x, y with
 | .int ka a, .int kb b => binI op ka a kb b k
 | .str a, .str b => binS op a b k
 | .bool a, .bool b => eqlK op (some (a == b)) k
 | .nilp, .nilp => eqlK op (some true) k
 | .ptr _ _, .nilp => eqlK op (some false) k
 | .nilp, .ptr _ _ => eqlK op (some false) k
 | _, _ => none
def un (op : UnOp) (x : AV) (k : K1 R) : Option R :=
 match op, x with
 | .not, .bool b => k (.bool (!b))
 | .neg, .int ki n => k (.int ki (subA ki 0 n))
 | .xor, .int ki n => k (.int ki (xorA ki (if ki.signed then -1 else ki.max) n))
 | _, _ => none
end
end Go.Proofs.YtfcloeflcpcheaaGreat.Eng
