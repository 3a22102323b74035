/-
The engine, third text: operations, regions, code and whole functions, run over abstract values and abstract memory. Nothing is claimed here.
Conditions: none.
-/
import Derived.Test.YtfcloeflcpcheaaGreatEngB
set_option linter.unusedVariables false
set_option linter.unusedSimpArgs false
namespace Go.Proofs.YtfcloeflcpcheaaGreat.Eng
section
variable {R : Type}
def isFn : Operand → Bool
 | .func _ => true | _ => false
def callOp (T : Types) (E : Env R) (ev : Operand → AV) (c : Call) (ty : Nat) (h : Hp) (x : Nat) (k : K3 R) : Option R :=
 match c.callee with
 | .value f => (match ev f with
  | .fn g => bif isFn f || (E.w g).2 then callA E g (c.args.toList.map ev) h x k else none
  | _ => none)
 | .builtin .len => (match c.argTypes.toList, c.args.toList with
  | [t], [a] => lenA T t h (ev a) fun v => k v h x
  | _, _ => none)
 | .builtin .max => (match c.args.toList with
  | [a, b] => (match ev a, ev b with
   | .int ka x', .int kb y' => bif decide (ka = kb) then k (.int ka (maxA x' y')) h x else none
   | _, _ => none)
  | _ => none)
 | .builtin .min => (match c.args.toList with
  | [a, b] => (match ev a, ev b with
   | .int ka x', .int kb y' => bif decide (ka = kb) then k (.int ka (minA x' y')) h x else none
   | _, _ => none)
  | _ => none)
 | .builtin .copy => (match c.argTypes.toList, c.args.toList with
  | [t, t'], [a, b] => copyA T t t' h x (ev a) (ev b) k
  | _, _ => none)
 | .builtin .clear => (match c.argTypes.toList, c.args.toList with
  | [t], [a] => clearA T t h x (ev a) k
  | _, _ => none)
 | .builtin .append => (match c.argTypes.toList, c.args.toList with
  | [t, t'], [a, b] => appendA T t t' h x (ev a) (ev b) k
  | _, _ => none)
 | _ => none
def aggEq (T : Types) (op : BinOp) (t : Nat) (x y : AV) (k : K1 R) : Option R :=
 match tyGet T t with
 | some ti => (match ti.sch with
  | some s => (match ofAV s x, ofAV s y with
   | some a, some b => bif ti.eq && ti.k.agg && s.aggS && eqTy T s t [] 0 && Nat.blt s.ht 1000 then eqlK op (some (schEq s a b)) k else none
   | _, _ => none)
  | none => none)
 | none => none
def binT (T : Types) (op : BinOp) (t : Nat) (x y : AV) (k : K1 R) : Option R :=
 match x with
 | .bool b => bif isK T t TK.isBool then bin op (.bool b) y k else none
 | .nilp => bif isK T t TK.isPtr then bin op .nilp y k else none
 | .ptr n p => bif isK T t TK.isPtr then bin op (.ptr n p) y k else none
 | .node f => aggEq T op t (.node f) y k
 | .vec s n f => aggEq T op t (.vec s n f) y k
 | x => bin op x y k
def intConv (T : Types) (s d : Nat) : Bool := isK T s TK.isInt && isK T d TK.isInt
def aop (T : Types) (E : Env R) (t : Tm) (o : Op) (ty : Nat) (h : Hp) (x : Nat) (k : K3 R) : Option R :=
 match o with
 | .move a => k (evA t a) h x
 | .assign a => k (evA t a) h x
 | .pick c a b => pickA (evA t c) (evA t a) (evA t b) fun v => k v h x
 | .alloc e => (match tyGet T e with
  | some ti => bif (ti.zero.cell || ti.zero.agg) && freshB h x then k (.ptr x []) ((x, some ⟨ti.zero, e⟩) :: h) (x + 1) else none
  | none => none)
 | .box e a => (match boxRows T e (evA t a) h x with
  | (v, h', x') => bif (v.cell || v.agg) && ((news x (x' + 1 - x)).all fun n => freshB h n) then k (.ptr x' []) ((x', some ⟨v, e⟩) :: h') (x' + 1) else none)
 | .build e parts => buildA T e (parts.toList.map fun q => (q.1, evA t q.2)) fun v => k v h x
 | .buildSlice e len parts => bif !freshB h x then none else buildRowA T e len (parts.toList.map fun q => (q.1, evA t q.2)) h x k
 | .load e a => loadA T e h (evA t a) fun v => k v h x
 | .store e a v => storeR T e h x (evA t a) (evA t v) k
 | .nilCheck a => (match evA t a with
  | .ptr n p => k (.ptr n p) h x
  | .rop s y p => k (.rop s y p) h x
  | _ => none)
 | .binOp op ty a b _ => binT T op ty (evA t a) (evA t b) fun v => k v h x
 | .unOp op _ a => un op (evA t a) fun v => k v h x
 | .convert s d a => bif intConv T s d || isK T d TK.isStr then convertA T s d h x (evA t a) k else bif !freshB h x then none else convertA T s d h x (evA t a) k
 | .makeSlice e l c => bif !freshB h x then none else makeSliceA T e (evA t l) (evA t c) h x k
 | .slice e a lo hi none => sliceA T e h (evA t a) (lo.map (evA t)) (hi.map (evA t)) fun v => k v h x
 | .fieldAddr e a f => fieldAddrA T e f h (evA t a) fun v => k v h x
 | .field e a f => fieldA T e f (evA t a) fun v => k v h x
 | .sliceToArrayPointer e a => toArrA T e (evA t a) fun v => k v h x
 | .indexAddr e a i => indexAddrA T e h (evA t a) (evA t i) fun v => k v h x
 | .index e a i => indexA T e (evA t a) (evA t i) fun v => k v h x
 | .extract a i => extractA (evA t a) i fun v => k v h x
 | .call c => callOp T E (evA t) c ty h x k
 | .makeMap e none => bif !freshB h x then none else makeMapA T e h x k
 | .lookup e a i false => lookupA T e h (evA t a) (evA t i) fun v => k v h x
 | .mapUpdate e m i v => mapUpdateA T e h x (evA t m) (evA t i) (evA t v) k
 | _ => none
def dstOf : List Oper → Nat → Option Nat
 | [], _ => none
 | o :: _, 0 => o.dst
 | _ :: l, j + 1 => dstOf l j
def tmpsOf : List Operand → List Nat
 | [] => []
 | .tmp i :: l => i :: tmpsOf l
 | _ :: l => tmpsOf l
def looks (all : List Oper) (o : Oper) : List Nat :=
 tmpsOf o.op.operands.toList ++ (match o.guard with
  | none => []
  | some (j, _) => match dstOf all j with | some d => [d] | none => [])
def clsP (T : Types) : Op → Bool
 | .convert s d _ => intConv T s d
 | .move _ => true | .assign _ => true | .pick _ _ _ => true | .build _ _ => true | .binOp _ _ _ _ _ => true | .unOp _ _ _ => true | .extract _ _ => true | .field _ _ _ => true | .index _ _ _ => true
 | _ => false
def clsW (T : Types) (q : Qs) : Op → Bool
 | .store _ _ _ => true | .mapUpdate _ _ _ _ => true | .buildSlice e _ _ => rowsTy T e
 | .call c => (match c.callee with
  | .value (.func f) => !(q f).1
  | .value _ => false
  | .builtin .len => false
  | .builtin .max => false
  | .builtin .min => false
  | _ => true)
 | _ => false
def clsE (T : Types) (q : Qs) : Op → Bool
 | .alloc _ => true | .box _ _ => true | .buildSlice _ _ _ => true | .makeSlice _ _ _ => true | .convert s d _ => !(intConv T s d || isK T d TK.isStr) | .makeMap _ _ => true
 | .call c => (match c.callee with
  | .value (.func f) => !((q f).1 && (q f).2)
  | .value _ => false
  | .builtin .len => false
  | .builtin .max => false
  | .builtin .min => false
  | _ => true)
 | o => clsW T q o
def putA (d : Option Nat) (v : AV) (t : Tm) : Tm :=
 match d with
 | none => t
 | some d => (d, v) :: t
def rops (T : Types) (E : Env R) (all : List Oper) : List Oper → St → (St → Option R) → Option R
 | [], s, k => k s
 | o :: os, s, k =>
  match o.guard with
  | none => aop T E s.t o.op o.type s.h s.x fun v h x => rops T E all os ⟨putA o.dst v s.t, h, x⟩ k
  | some (j, b) =>
   match dstOf all j with
   | none => none
   | some d =>
    match tget s.t d with
    | .bool c =>
     bif c then
      (bif b then aop T E ((d, .bool true) :: s.t) o.op o.type s.h s.x fun v h x => rops T E all os ⟨putA o.dst v ((d, .bool true) :: s.t), h, x⟩ k
       else rops T E all os ⟨putA o.dst (.tup .fnil) ((d, .bool true) :: s.t), s.h, s.x⟩ k)
     else
      (bif b then rops T E all os ⟨putA o.dst (.tup .fnil) ((d, .bool false) :: s.t), s.h, s.x⟩ k
       else aop T E ((d, .bool false) :: s.t) o.op o.type s.h s.x fun v h x => rops T E all os ⟨putA o.dst v ((d, .bool false) :: s.t), h, x⟩ k)
    | .tup _ => rops T E all os ⟨putA o.dst (.tup .fnil) s.t, s.h, s.x⟩ k
    | _ => none
def resvOf (T : Types) (o : Oper) : Option Blk :=
 match o.guard, o.op with
 | none, .alloc e => (match tyGet T e with | some ti => bif ti.zero.cell || ti.zero.agg then some ⟨ti.zero, e⟩ else none | none => none)
 | _, _ => none
def resvGo (T : Types) : List Oper → Hp → Nat → Hp × Nat
 | [], h, x => (h, x)
 | o :: os, h, x => match resvOf T o with
  | some b => resvGo T os ((x, some b) :: h) (x + 1)
  | none => resvGo T os h x
def edgesOf (o : Oper) : List Nat := (o.after.toList.filter (Region.binds .any)).map Edge.on
def ancB (acc : List Nat) : List Nat → Nat
 | [] => 0
 | e :: l => (1 <<< e ||| acc.getD e 0) ||| ancB acc l
def ancsGo : List Oper → List Nat → List Nat
 | [], acc => acc
 | o :: os, acc => ancsGo os (acc ++ [ancB acc (edgesOf o)])
def hits (all : List Oper) (o p : Oper) : Bool :=
 (match o.dst with | some d => memN (looks all p) d || (match p.dst with | some d' => Nat.beq d d' | none => false) | none => false) ||
 (match p.dst with | some d => memN (looks all o) d | none => false)
def resvd (T : Types) (rs : Bool) (o : Oper) : Bool := rs && (resvOf T o).isSome
def clsE' (T : Types) (q : Qs) (rs : Bool) (o : Oper) : Bool := !resvd T rs o && clsE T q o.op
def clsP' (T : Types) (rs : Bool) (o : Oper) : Bool := resvd T rs o || clsP T o.op
def isApp : Op → Bool
 | .call c => (match c.callee with | .builtin .append => true | _ => false)
 | _ => false
def isRd : Op → Bool
 | .load _ _ => true | .fieldAddr _ _ _ => true | .indexAddr _ _ _ => true | .slice _ _ _ _ none => true | .nilCheck _ => true
 | .call c => (match c.callee with | .builtin .len => true | _ => false)
 | _ => false
def opNames (t : Tm) (o : Oper) : List Nat := o.op.operands.toList.flatMap fun y => (evA t y).names
def appNames (h : Hp) (t : Tm) (o : Oper) : List Nat :=
 match o.op with
 | .call c => (match c.args.toList with
  | [a, b] => (evA t a).names ++ (bif famOf h (evA t b) then (evA t b).names else [])
  | a :: _ => (evA t a).names
  | [] => [])
 | _ => []
def isCallV : Op → Bool
 | .call c => (match c.callee with | .value _ => true | _ => false)
 | _ => false
def isSt : Op → Bool
 | .store _ _ _ => true
 | _ => false
def stNames (t : Tm) (o : Oper) : List Nat :=
 match o.op with
 | .store _ a v => (evA t a).names ++ (evA t v).names
 | _ => []
def touched (h : Hp) (t : Tm) (o : Oper) : List Nat :=
 bif isCallV o.op then (match o.op with | .call c => reach h fuelN (c.args.toList.flatMap fun a => (evA t a).names) [] | _ => []) else bif isSt o.op then stNames t o else appNames h t o
def isLoc (op : Op) : Bool := isApp op || isCallV op || isSt op
def clash (T : Types) (q : Qs) (rs : Bool) (all : List Oper) (o p : Oper) : Bool :=
 (clsE' T q rs o && clsE' T q rs p) || (clsW T q o.op && !clsP' T rs p && !(rs && isLoc o.op && isRd p.op)) || (!clsP' T rs o && clsW T q p.op && !(rs && isRd o.op && isLoc p.op)) || hits all o p || (resvd T rs o && clsW T q p.op && !isLoc p.op)
def rowOk (T : Types) (q : Qs) (rs : Bool) (all : List Oper) (m : Nat) (p : Oper) : Nat → List Oper → Bool
 | _, [] => true
 | i, o :: os => (Nat.testBit m i || !clash T q rs all o p) && !(clsW T q o.op && !isLoc o.op && resvd T rs p) && rowOk T q rs all m p (i + 1) os
def drawGo (T : Types) (q : Qs) (rs : Bool) (all : List Oper) (A : List Nat) : Nat → List Oper → Bool
 | _, [] => true
 | j, p :: ps => (edgesOf p).all (fun e => Nat.blt e j) && rowOk T q rs all (A.getD j 0) p 0 (all.take j) && drawGo T q rs all A (j + 1) ps
def drawOk (T : Types) (q : Qs) (rs : Bool) (all : List Oper) : Bool := drawGo T q rs all (ancsGo all []) 0 all
def drawAny (T : Types) (q : Qs) (all : List Oper) : Bool := drawOk T q false all || drawOk T q true all
def stable (all : List Oper) (i : Nat) (o : Oper) : Bool := (all.drop i).all fun q => match q.dst with | some d => !memN (tmpsOf o.op.operands.toList) d | none => true
def apart (x : Nat) (l m : List Nat) : Bool := l.all fun n => Nat.blt n x && !memN m n
def pairOk (all : List Oper) (x : Nat) (t : Tm) (ti tj : List Nat) (i j : Nat) (o p : Oper) : Bool :=
 (!(isLoc o.op && isRd p.op) || (stable all j p && apart x (opNames t p) ti)) && (!(isRd o.op && isLoc p.op) || (stable all i o && apart x (opNames t o) tj))
def pairRow (all : List Oper) (x : Nat) (t : Tm) (B : List (List Nat)) (m j : Nat) (p : Oper) : Nat → List Oper → Bool
 | _, [] => true
 | i, o :: os => (Nat.testBit m i || pairOk all x t (B.getD i []) (B.getD j []) i j o p) && pairRow all x t B m j p (i + 1) os
def pairsGo (all : List Oper) (A : List Nat) (x : Nat) (t : Tm) (B : List (List Nat)) : Nat → List Oper → Bool
 | _, [] => true
 | j, p :: ps => pairRow all x t B (A.getD j 0) j p 0 (all.take j) && pairsGo all A x t B (j + 1) ps
def okGo (T : Types) (m : Nat) (L : List Nat) : Nat → Nat → List Oper → Bool
 | _, _, [] => true
 | i, n, p :: ps => match resvOf T p with
  | some _ => (Nat.testBit m i || !memN L n) && okGo T m L (i + 1) (n + 1) ps
  | none => okGo T m L (i + 1) n ps
def okCall (T : Types) (all : List Oper) (x0 : Nat) (h : Hp) (t : Tm) (j : Nat) (o : Oper) : Bool :=
 !isCallV o.op || okGo T ((ancsGo all []).getD j 0) (touched h t o) 0 x0 all
def ropsV (T : Types) (E : Env R) (all : List Oper) (x0 : Nat) : List (List Nat) → Nat → Nat → List Oper → St → (St → List (List Nat) → Option R) → Option R
 | B, _, _, [], s, k => k s B
 | B, j, n, o :: os, s, k =>
  match resvOf T o with
  | some _ => ropsV T E all x0 (B ++ [touched s.h s.t o]) (j + 1) (n + 1) os ⟨putA o.dst (.ptr n []) s.t, s.h, s.x⟩ k
  | none => bif okCall T all x0 s.h s.t j o then (
  match o.guard with
  | none => aop T E s.t o.op o.type s.h s.x fun v h x => ropsV T E all x0 (B ++ [touched s.h s.t o]) (j + 1) n os ⟨putA o.dst v s.t, h, x⟩ k
  | some (jg, b) =>
   match dstOf all jg with
   | none => none
   | some d =>
    match tget s.t d with
    | .bool c =>
     bif c then
      (bif b then aop T E ((d, .bool true) :: s.t) o.op o.type s.h s.x fun v h x => ropsV T E all x0 (B ++ [touched s.h s.t o]) (j + 1) n os ⟨putA o.dst v ((d, .bool true) :: s.t), h, x⟩ k
       else ropsV T E all x0 (B ++ [touched s.h s.t o]) (j + 1) n os ⟨putA o.dst (.tup .fnil) ((d, .bool true) :: s.t), s.h, s.x⟩ k)
     else
      (bif b then ropsV T E all x0 (B ++ [touched s.h s.t o]) (j + 1) n os ⟨putA o.dst (.tup .fnil) ((d, .bool false) :: s.t), s.h, s.x⟩ k
       else aop T E ((d, .bool false) :: s.t) o.op o.type s.h s.x fun v h x => ropsV T E all x0 (B ++ [touched s.h s.t o]) (j + 1) n os ⟨putA o.dst v ((d, .bool false) :: s.t), h, x⟩ k)
    | .tup _ => ropsV T E all x0 (B ++ [touched s.h s.t o]) (j + 1) n os ⟨putA o.dst (.tup .fnil) s.t, s.h, s.x⟩ k
    | _ => none) else none
def ropsDraw (T : Types) (E : Env R) (all : List Oper) (s : St) (k : St → Option R) : Option R :=
 bif drawOk T E.w false all then rops T E all all s k else
  bif drawOk T E.w true all && ((news s.x ((resvGo T all s.h s.x).2 - s.x)).all fun n => freshB s.h n) then ropsV T E all s.x [] 0 s.x all ⟨s.t, (resvGo T all s.h s.x).1, (resvGo T all s.h s.x).2⟩ (fun s' B => bif pairsGo all (ancsGo all []) (resvGo T all s.h s.x).2 s'.t B 0 all then k s' else none) else none
def firstRegion : Code → Nat
 | .region id _ _ => id
 | .seq a _ => firstRegion a
 | .block _ a => firstRegion a
 | .loop a => firstRegion a
 | .scope a => firstRegion a
 | _ => 0
abbrev Loops (R : Type) := Nat → St → (Exit → St → Option R) → Option R
def aexec (T : Types) (E : Env R) (D : List Oper → Bool) (L : Loops R) : Code → St → (Exit → St → Option R) → Option R
 | .skip, s, k => k .normal s
 | .region _ ops draw, s, k => bif draw then (bif D ops.toList then ropsDraw T E ops.toList s (k .normal) else none) else rops T E ops.toList ops.toList s (k .normal)
 | .seq a b, s, k => aexec T E D L a s fun e s' => match e with
  | .normal => aexec T E D L b s' k
  | e => k e s'
 | .cond c a b, s, k => (match evA s.t c with
  | .bool c => bif c then aexec T E D L a s k else aexec T E D L b s k
  | _ => none)
 | .block id a, s, k => aexec T E D L a s fun e s' => match e with
  | .exit i => bif Nat.beq i id then k .normal s' else k (.exit i) s'
  | e => k e s'
 | .loop a, s, k => L (firstRegion a) s k
 | .exit id, s, k => k (.exit id) s
 | .ret, s, k => k .ret s
 | _, _, _ => none
def AV.renAny (f : Nat → Option Nat) (v : AV) : AV := match v.ren f with | some v' => v' | none => .any
def reached (m : Nat) (h : Hp) (vs : List Nat) : List Nat :=
 reach h fuelN ((news 0 m).flatMap (fun n => match hget h n with | some b => b.c.names | none => []) ++ vs) (news 0 m)
abbrev Live := List (Nat × Option (Sch × Nat))
def refresh (n p : Nat) (s : St) : St :=
 match hget s.h n with
 | some b => (match aget b.c [p] with
  | some (.sl m) => (match hget s.h m, aset b.c [p] (.sl s.x) with
   | some bm, some c' => bif Nat.beq m n then s else ⟨s.t, (n, some ⟨c', b.e⟩) :: (s.x, some bm) :: (m, none) :: s.h, s.x + 1⟩
   | _, _ => s)
  | _ => s)
 | none => s
def noneOf : Sch → AV
 | .fcons (.arr e .fnil) s => .fam e s []
 | c => .lst c []
def rows : Live → St → St
 | [], s => s
 | (_, none) :: l, s => rows l s
 | (i, some (c, e)) :: l, s => match tget s.t i with
  | .nils => rows l ⟨(i, .sl s.x) :: s.t, (s.x, some ⟨noneOf c, e⟩) :: s.h, s.x + 1⟩
  | .ptr n [] => rows l (bif decide (c = .fnil) then refresh n e s else s)
  | _ => rows l s
def cleanGo (m : Nat) (live : Live) (s : St) (k : St → Option R) : Option R :=
 let L := reached m s.h (live.flatMap fun i => (tget s.t i.1).names)
 match pull s.h (fun n => idxN L n 0) L with
 | some H => k ⟨live.map fun i => (i.1, (tget s.t i.1).renAny fun n => idxN L n 0), number 0 H, H.length⟩
 | none => none
def clean (m : Nat) (live : Live) (s : St) (k : St → Option R) : Option R := cleanGo m live (rows live s) k
def iter (m : Nat) (live : Live) (lo : Exit → Live) (F : St → (Exit → St → Option R) → Option R) : Nat → St → (Exit → St → Option R) → Option R
 | 0, _, _ => none
 | n + 1, s, k => F s fun e s' => match e with
  | .normal => clean m live s' fun s'' => iter m live lo F n s'' k
  | e => clean m (lo e) s' fun s'' => k e s''
def results1 (T : Types) (h : Hp) (t : Tm) : List ResultVar → Option (List AV)
 | [] => some []
 | .tmp i :: l => (match results1 T h t l with | some r => some (tget t i :: r) | none => none)
 | .cell a ty :: l => (match results1 T h t l with | some r => loadA T ty h (tget t a) (fun v => some (v :: r)) | none => none)
def AV.noTup : AV → AV
 | .tup _ => .any | .fnil => .any | .fcons _ _ => .any | .lst _ _ => .any | v => v
def chain : List AV → AV
 | [] => .fnil
 | v :: l => .fcons v.noTup (chain l)
def result : List AV → AV
 | [v] => v
 | l => .tup (chain l)
def noDup : List Nat → List Nat → Bool
 | [], _ => true
 | n :: l, b => bif memN b n then false else noDup l b
def dstB (n : Nat) : Code → Bool
 | .region _ ops _ => ops.toList.all fun o => match o.dst with | some d => Nat.blt d n | none => true
 | .seq a b => dstB n a && dstB n b
 | .cond _ a b => dstB n a && dstB n b
 | .block _ a => dstB n a
 | .loop a => dstB n a
 | _ => true
def nilRow (T : Types) (t : Nat) (v : AV) : AV :=
 match v with
 | .nils => (match tyGet T t with | some ti => (match ti.sch with | some (.sl s) => .ros s [] | _ => .nils) | none => .nils)
 | v => v
def nilRows (T : Types) : List Nat → List AV → List AV
 | t :: ts, v :: vs => nilRow T t v :: nilRows T ts vs
 | _, vs => vs
def fnrun (T : Types) (E : Env R) (D : List Oper → Bool) (L : Loops R) (fz : Bool) (f : Func) (args : List AV) (H : List (Option Blk)) (k : AV → List (Option Blk) → Option R) : Option R :=
 match f.body with
 | none => none
 | some c => bif dstB f.ntmps c && Nat.ble args.length f.ntmps then aexec T E D L c ⟨number 0 args, number 0 H, H.length⟩ (fun e s =>
   match e with
   | .ret => out s | .normal => out s | _ => none) else none
where
 out (s : St) : Option R :=
  match results1 T s.h s.t f.results.toList with
  | none => none
  | some vs =>
   let r := result (bif fz then nilRows T f.resultTypes.toList vs else vs)
   let old := reached H.length s.h []
   let v := bif fz then r.froze old s.h else r
   let N := reached H.length s.h v.names
   bif noDup (bif fz then r.frozen old s.h else []) N then
    (match pull s.h (fun n => idxN N n 0) N with
    | some H' => (match v.ren fun n => idxN N n 0 with | some v' => k v' H' | none => none)
    | none => none)
   else none
end
end Go.Proofs.YtfcloeflcpcheaaGreat.Eng
