/- Part 1 of a proof: a layer that walks through Go code by evaluation, and contracts of functions; no condition. -/
import Derived.CallsIn
import Derived.Laws.Cells
import Derived.Laws.World
import Derived.ChangeKeysEq
import Derived.Laws.StructEq
import Derived.Lib.Strings
import Derived.Laws.BytesString
set_option linter.all false
section
namespace Go.Ly
inductive D where
  | bool (b : Bool)
  | int (k : IntKind) (n : Int)
  | str (s : List UInt8)
  | agg (cs : List D)
  | row (sz : Nat) (es : List D)
  | nf
  | np
  | nm
def D.cells : D → List D
  | .agg cs => cs
  | x => [x]
def D.scalar : D → Bool
  | .agg _ => false
  | .row _ _ => false
  | _ => true
inductive Ep where
  | top | new | old | unk
def Ep.meet : Ep → Ep → Ep
  | .top, e => e
  | .new, .top => .new
  | .new, .new => .new
  | .old, .top => .old
  | .old, .old => .old
  | _, _ => .unk
def epn (ep : Ep) : D → Ep
  | .bool _ => .top
  | .int _ _ => .top
  | .str _ => .top
  | .nf => .top
  | .np => .top
  | .nm => .top
  | _ => ep
inductive AV where
  | any
  | d (ep : Ep) (x : D)
  | agg (cs : List AV)
  | tup (vs : List AV)
  | own (t sz : Nat) (es : List D) (ep : Ep)
  | uq (t sz : Nat) (es : List D) (ep : Ep)
  | up (t sz n : Nat) (e : D) (off : Nat) (ep : Ep)
  | fresh (sz : Nat) (es : List D) (ep : Ep)
  | pk (r : AV)
  | at (ep : Ep) (x : D) (off : Nat)
  | cb (cs : List AV) (off : Nat)
  | fb (cs : List AV) (off : Nat)
  | sb (sz n : Nat) (cs : List AV)
  | mp (id : Nat)
  | cmd (ep : Ep) (m : List (D × D))
  | cm (ks : List D) (vs : List AV)
  | ptr (id off : Nat)
  | fn (f : Nat) (first cap : List AV)
  | ext (i : Nat)
inductive AO where
  | s (t : Nat)
  | c (v : AV)
inductive CK where
  | toInt (k : IntKind) | same | s2b | b2s
inductive AOp where
  | mv (x : AO)
  | nil (u : Bool) (sz : Nat)
  | pick (c a b : AO)
  | alloc (zs : List D)
  | allocu (sz : Nat)
  | box (x : AO)
  | build (zs : List D) (parts : List (Nat × Nat × AO))
  | bslice (m : Nat) (sz : Nat) (xs : List AO)
  | ld (a : AO) (sz : Nat) (ag : Bool)
  | st (a x : AO) (sz : Nat)
  | nilck (x : AO)
  | bin (op : BinOp) (ty : Nat) (x y : AO)
  | un (op : UnOp) (x : AO)
  | seq (neg : Bool) (ks : List D) (x y : AO)
  | conv (k : CK) (x : AO)
  | fa (x : AO) (off : Nat)
  | fld (x : AO) (off sz : Nat) (ag : Bool)
  | ia (x i : AO) (sz : Nat)
  | iaa (x i : AO) (len sz : Nat)
  | ix (x i : AO)
  | axi (x i : AO) (len sz : Nat) (ag : Bool)
  | sl (x : AO) (lo hi : Option AO) (sz : Nat)
  | sls (x : AO) (lo hi : Option AO)
  | slc (x hi mx : AO) (sz : Nat)
  | len (str : Bool) (x : AO)
  | app (x y : AO) (sz bytes : Nat)
  | mkfn (f : Nat) (first cap : List AO)
  | ext (t : AO) (k : Nat)
  | call (u : Bool) (f : AO) (args : List AO)
  | mx (xs : List AO)
  | mn (xs : List AO)
  | isnil (neg : Bool) (x : AO)
  | mkm
  | mlk (kk : D) (x k : AO) (z : D) (ok : Bool)
  | mup (kk : D) (x k v : AO)
  | mln (x : AO)
structure AI where
  dst : Option Nat
  op : AOp
  guard : Option (Nat × Bool)
inductive AC where
  | skip
  | rg (draw : Bool) (is : List AI)
  | seq (a b : AC)
  | cond (c : AO) (t e : AC)
  | block (id : Nat) (b : AC)
  | loop (b : AC)
  | rf (f : AO) (ps : List Nat) (asg body : AC)
  | exit (id : Nat)
  | ret
  | scope (b : AC)
inductive ARV where
  | tmp (t : Nat)
  | cell (t sz : Nat) (ag : Bool)
structure AF where
  nparams : Nat
  ntmps : Nat
  results : List ARV
  keep : Bool
  body : AC
inductive Ex where
  | norm
  | exit (id : Nat)
  | ret
inductive SE where
  | bx (cs : List AV)
  | md (ep : Ep) (m : List (D × D))
  | mf (ks : List D) (vs : List AV)
abbrev Fm := List AV
abbrev Sto := List SE
def cnd : Bool → (Unit → Prop) → (Unit → Prop) → Prop
  | true, X, _ => X ()
  | false, _, Y => Y ()
structure Prims where
  add : Int → Int → Int
  sub : Int → Int → Int
  mul : Int → Int → Int
  quo : Int → Int → Int
  rem : Int → Int → Int
  neg : Int → Int
  max : Int → Int → Int
  wrap : IntKind → Int → Int
  eq : Int → Int → Bool
  lt : Int → Int → Bool
  le : Int → Int → Bool
  ok : Int → Prop
  div : Int → Int → Prop
  cat : List UInt8 → List UInt8 → List UInt8
  seq : List UInt8 → List UInt8 → Bool
  slt : List UInt8 → List UInt8 → Bool
  sle : List UInt8 → List UInt8 → Bool
  sroom : List UInt8 → List UInt8 → Prop
  slen : List UInt8 → Int
  sget : List UInt8 → Int → Int
  scut : List UInt8 → Int → Int → List UInt8
  bytes : List UInt8 → List D
  dlen : List D → Int
  dget : List D → Int → Option D
  dcat : List D → List D → List D
  dcut : List D → Int → Int → List D
  room : List D → List D → Prop
  below : Int → Int → Prop
  upto : Int → Int → Int → Prop
  not : Bool → Bool
  beq : Bool → Bool → Bool
  min : Int → Int → Int
  and : IntKind → Int → Int → Int
  or : IntKind → Int → Int → Int
  xor : IntKind → Int → Int → Int
  andNot : IntKind → Int → Int → Int
  shl : IntKind → Int → Int → Int
  shr : IntKind → Int → Int → Int
  nneg : Int → Prop
  deq : List D → List D → Bool
  dfit : List D → List D → Prop
  mfit : List (D × D) → D → Prop
  dset : List D → Nat → D → List D
  isb : List D → Prop
  unb : List D → List UInt8
  mget : List (D × D) → D → Option D
  mset : List (D × D) → D → D → List (D × D)
  mlen : List (D × D) → Int
def D.same : D → D → Bool
  | .bool a, .bool b => a == b
  | .int _ a, .int _ b => a == b
  | .str a, .str b => a == b
  | _, _ => false
def D.sames : List D → List D → Bool
  | [], [] => true
  | x :: xs, y :: ys => x.same y && D.sames xs ys
  | _, _ => false
def D.fit : D → D → Bool
  | .bool _, .bool _ => true
  | .int k _, .int k' _ => k == k'
  | .str _, .str _ => true
  | _, _ => false
def D.fits : List D → List D → Bool
  | [], [] => true
  | x :: xs, y :: ys => x.fit y && D.fits xs ys
  | _, _ => false
def mgetD : List (D × D) → D → Option D
  | [], _ => none
  | (a, b) :: m, k => if k.same a then some b else mgetD m k
def msetD : List (D × D) → D → D → List (D × D)
  | [], k, v => [(k, v)]
  | (a, b) :: m, k, v => if k.same a then (k, v) :: m else (a, b) :: msetD m k v
def byteOf : D → UInt8
  | .int _ n => UInt8.ofNat n.toNat
  | _ => 0
def std : Prims where
  add a b := a + b
  sub a b := a - b
  mul a b := a * b
  quo a b := a / b
  rem a b := a % b
  neg a := -a
  max a b := if b > a then b else a
  wrap k n := k.wrap n
  eq a b := a == b
  lt a b := decide (a < b)
  le a b := decide (a ≤ b)
  ok n := -9223372036854775808 ≤ n ∧ n ≤ 9223372036854775807
  div a b := 0 ≤ a ∧ 0 < b ∧ a ≤ 9223372036854775807
  cat a b := a ++ b
  seq a b := a == b
  slt a b := Op.bytesLess a b
  sle a b := Op.bytesLess a b || a == b
  sroom a b := a.length + b.length ≤ 9223372036854775807
  slen a := a.length
  sget s n := (s.getD n.toNat 0).toNat
  scut s l h := (s.take h.toNat).drop l.toNat
  bytes s := s.map fun c => D.int .u8 c.toNat
  dlen l := l.length
  dget l n := if 0 ≤ n then l[n.toNat]? else none
  dcat a b := a ++ b
  dcut s l h := (s.take h.toNat).drop l.toNat
  room a b := a.length + b.length ≤ 549755813888
  below n m := 0 ≤ n ∧ n < m
  upto l h m := 0 ≤ l ∧ l ≤ h ∧ h ≤ m
  not b := !b
  beq a b := a == b
  min a b := if b < a then b else a
  and k a b := k.wrap (BitVec.ofInt k.bits a &&& BitVec.ofInt k.bits b).toNat
  or k a b := k.wrap (BitVec.ofInt k.bits a ||| BitVec.ofInt k.bits b).toNat
  xor k a b := k.wrap (BitVec.ofInt k.bits a ^^^ BitVec.ofInt k.bits b).toNat
  andNot k a b := k.wrap (BitVec.ofInt k.bits a &&& ~~~ BitVec.ofInt k.bits b).toNat
  shl k a b := k.wrap (a * 2 ^ (Min.min b.toNat k.bits))
  shr k a b := a.fdiv (2 ^ (Min.min b.toNat k.bits))
  nneg a := 0 ≤ a
  deq a b := D.sames a b
  dfit a b := D.fits a b = true
  mfit m k := ∀ p ∈ m, k.fit p.1 = true
  dset l n x := l.set n x
  isb l := ∀ x ∈ l, ∃ c : UInt8, x = .int .u8 c.toNat
  unb l := l.map byteOf
  mget m k := mgetD m k
  mset m k v := msetD m k v
  mlen m := m.length
def gt : Fm → Nat → AV
  | [], _ => .any
  | x :: _, 0 => x
  | _ :: l, n + 1 => gt l n
def upd : Fm → Nat → AV → Fm
  | [], _, _ => []
  | _ :: l, 0, v => v :: l
  | x :: l, n + 1, v => x :: upd l n v
def putA (A : Fm) : Option Nat → AV → Fm
  | none, _ => A
  | some d, v => upd A d v
def AO.ev (A : Fm) : AO → AV
  | .s t => gt A t
  | .c v => v
def evs (A : Fm) : List AO → List AV
  | [] => []
  | x :: xs => x.ev A :: evs A xs
def dcells (ep : Ep) : List D → List AV
  | [] => []
  | x :: xs => .d ep x :: dcells ep xs
def AV.cells : AV → Option (List AV)
  | .any => none
  | .tup _ => none
  | .agg cs => some cs
  | .d ep (.agg ds) => some (dcells ep ds)
  | v => some [v]
def AV.parts : AV → Option (List AV)
  | .agg cs => some cs
  | .d ep (.agg ds) => some (dcells ep ds)
  | _ => none
def toD1 : AV → Option (Ep × D)
  | .d ep x => some (epn ep x, x)
  | _ => none
def toDs : List AV → Option (Ep × List D)
  | [] => some (.top, [])
  | a :: l =>
    match toD1 a with
    | none => none
    | some (e, x) =>
      match toDs l with
      | none => none
      | some (e', xs) => some (e.meet e', x :: xs)
def mkAgg (cs : List AV) : AV :=
  match toDs cs with
  | some (ep, ds) => .d ep (.agg ds)
  | none => .agg cs
def wk1 : AV → AV
  | .own _ sz es ep => .d ep (.row sz es)
  | .fresh sz es ep => .d ep (.row sz es)
  | .uq _ _ _ _ => .any
  | .up _ _ _ _ _ _ => .any
  | .pk _ => .any
  | v => v
def wkL : List AV → List AV
  | [] => []
  | v :: vs => wk1 v :: wkL vs
def wk : AV → AV
  | .agg cs => mkAgg (wkL cs)
  | v => wk1 v
def wks : List AV → List AV
  | [] => []
  | v :: vs => wk v :: wks vs
def toD (v : AV) : Option (Ep × D) := toD1 (wk v)
mutual
def oldV : AV → AV
  | .d _ x => .d .old x
  | .at _ x off => .at .old x off
  | .cmd _ m => .cmd .old m
  | .agg cs => .agg (oldL cs)
  | .tup cs => .tup (oldL cs)
  | .cb cs off => .cb (oldL cs) off
  | .fb cs off => .fb (oldL cs) off
  | .sb sz n cs => .sb sz n (oldL cs)
  | .cm ks vs => .cm ks (oldL vs)
  | .fn f a c => .fn f (oldL a) (oldL c)
  | v => v
def oldL : List AV → List AV
  | [] => []
  | v :: vs => oldV v :: oldL vs
end
def Ep.up : Ep → Ep
  | .old => .unk
  | e => e
mutual
def upV : AV → AV
  | .d e x => .d e.up x
  | .at e x off => .at e.up x off
  | .cmd e m => .cmd e.up m
  | .fresh sz es e => .fresh sz es e.up
  | .own t sz es e => .own t sz es e.up
  | .uq t sz es e => .uq t sz es e.up
  | .pk r => .pk (upV r)
  | .agg cs => .agg (upL cs)
  | .tup cs => .tup (upL cs)
  | .cb cs off => .cb (upL cs) off
  | .fb cs off => .fb (upL cs) off
  | .sb sz n cs => .sb sz n (upL cs)
  | .cm ks vs => .cm ks (upL vs)
  | .fn f a c => .fn f (upL a) (upL c)
  | v => v
def upL : List AV → List AV
  | [] => []
  | v :: vs => upV v :: upL vs
end
def natEq (a b : Nat) : Bool := Nat.beq a b
def natLe (a b : Nat) : Bool := Nat.ble a b
def memN (t : Nat) : List Nat → Bool
  | [] => false
  | u :: us => match natEq t u with | true => true | false => memN t us
def demote (ts : List Nat) : AV → AV
  | .own t sz es ep => match memN t ts with | true => .d ep (.row sz es) | false => .own t sz es ep
  | v => v
def demoteL (ts : List Nat) : List AV → List AV
  | [] => []
  | v :: vs => demote ts v :: demoteL ts vs
def demote1 (ts : List Nat) : AV → AV
  | .agg cs => .agg (demoteL ts cs)
  | v => demote ts v
def demoteA (ts : List Nat) : Fm → Fm
  | [] => []
  | v :: vs => demote1 ts v :: demoteA ts vs
def SE.demote (ts : List Nat) : SE → SE
  | .bx cs => .bx (demoteL ts cs)
  | s => s
def demoteS (ts : List Nat) : Sto → Sto
  | [] => []
  | s :: σ => s.demote ts :: demoteS ts σ
abbrev Up := Nat × Option (Nat × List D × Ep)
abbrev Ups := List Up
def upd1 (u : Up) : AV → AV
  | .uq t sz es ep =>
    match natEq t u.1 with
    | true => match u.2 with | some (sz', es', ep') => .uq t sz' es' ep' | none => .any
    | false => .uq t sz es ep
  | .up t sz n e off ep =>
    match natEq t u.1 with
    | true => .any
    | false => .up t sz n e off ep
  | v => v
def updL (u : Up) : List AV → List AV
  | [] => []
  | v :: vs => upd1 u v :: updL u vs
def updV (u : Up) : AV → AV
  | .agg cs => .agg (updL u cs)
  | v => upd1 u v
def updF (u : Up) : Fm → Fm
  | [] => []
  | v :: vs => updV u v :: updF u vs
def SE.upd (u : Up) : SE → SE
  | .bx cs => .bx (updL u cs)
  | s => s
def updS (u : Up) : Sto → Sto
  | [] => []
  | s :: σ => s.upd u :: updS u σ
def upsF : Ups → Fm → Fm
  | [], A => A
  | u :: us, A => upsF us (updF u A)
def upsS : Ups → Sto → Sto
  | [], σ => σ
  | u :: us, σ => upsS us (updS u σ)
def zcell (d i : Nat) : D → AV
  | .row sz [] => .own (100 * d + i) sz [] .top
  | x => .d .top x
def zcells (d : Nat) : Nat → List D → List AV
  | _, [] => []
  | i, z :: zs => zcell d i z :: zcells d (i + 1) zs
def putCells (cs : List AV) (off : Nat) : List AV → List AV
  | [] => cs
  | v :: vs => putCells (upd cs off v) (off + 1) vs
def takeCells (cs : List AV) (off : Nat) : Nat → List AV
  | 0 => []
  | n + 1 => gt cs off :: takeCells cs (off + 1) n
def len : List AV → Nat
  | [] => 0
  | _ :: l => len l + 1
def dlen : List D → Nat
  | [] => 0
  | _ :: l => dlen l + 1
def one (cs : List AV) (ag : Bool) : AV :=
  match ag with
  | true => mkAgg cs
  | false => gt cs 0
def fillParts (A : Fm) (cs : List AV) : List (Nat × Nat × AO) → Option (List AV)
  | [] => some cs
  | (off, sz, x) :: ps =>
    match (x.ev A).cells with
    | none => none
    | some vs =>
      match natEq (len vs) sz && natLe (off + sz) (len cs) with
      | true => fillParts A (putCells cs off vs) ps
      | false => none
def getS : Sto → Nat → Option SE
  | [], _ => none
  | s :: _, 0 => some s
  | _ :: l, n + 1 => getS l n
def setS : Sto → Nat → SE → Sto
  | [], _, _ => []
  | _ :: l, 0, s => s :: l
  | x :: l, n + 1, s => x :: setS l n s
def lenS : Sto → Nat
  | [] => 0
  | _ :: l => lenS l + 1
def addS : Sto → SE → Sto
  | [], s => [s]
  | x :: l, s => x :: addS l s
def isOne : AV → Bool
  | .d _ (.agg _) => false
  | .d _ _ => true
  | .own .. => true
  | .uq .. => true
  | .up .. => true
  | .fresh .. => true
  | .at .. => true
  | .cb .. => true
  | .fb .. => true
  | .sb .. => true
  | .mp .. => true
  | .cmd .. => true
  | .cm .. => true
  | .ptr .. => true
  | .fn .. => true
  | .ext _ => true
  | _ => false
def areOne : List AV → Bool
  | [] => true
  | v :: vs => match isOne v with | true => areOne vs | false => false
def dOne : D → Bool
  | .agg _ => false
  | _ => true
def dOnes : List D → Bool
  | [] => true
  | x :: xs => match dOne x with | true => dOnes xs | false => false
def appendL : List AV → List AV → List AV
  | [], l => l
  | x :: xs, l => x :: appendL xs l
def toDList (A : Fm) (sz : Nat) : List AO → Option (Ep × List D)
  | [] => some (.top, [])
  | x :: xs =>
    match toD (x.ev A) with
    | none => none
    | some (e, y) =>
      match natEq (dlen y.cells) sz && dOnes y.cells with
      | false => none
      | true =>
        match toDList A sz xs with
        | none => none
        | some (e', ys) => some (e.meet e', y :: ys)
def lenO : List AO → Nat
  | [] => 0
  | _ :: l => lenO l + 1
def cellList (A : Fm) (sz : Nat) : List AO → Option (List AV)
  | [] => some []
  | x :: xs =>
    match (x.ev A).cells with
    | none => none
    | some vs =>
      match natEq (len vs) sz && areOne (wkL vs) with
      | false => none
      | true =>
        match cellList A sz xs with
        | none => none
        | some cs => some (appendL (wkL vs) cs)
def kEq : IntKind → IntKind → Bool
  | .i8, .i8 | .i16, .i16 | .i32, .i32 | .i64, .i64 | .u8, .u8 | .u16, .u16 | .u32, .u32 | .u64, .u64 => true
  | _, _ => false
def keyFit : D → D → Bool
  | .int k _, .int k' _ => kEq k k'
  | .str _, .str _ => true
  | _, _ => false
abbrev Ans := Option (Prop × AV)
def yes (v : AV) : Ans := some (True, v)
def sc (x : D) : Ans := some (True, .d .top x)
variable (p : Prims)
def binInt (op : BinOp) (k : IntKind) (a b : Int) : Ans :=
  match op with
  | .eql => sc (.bool (p.eq a b))
  | .neq => sc (.bool (p.not (p.eq a b)))
  | .lss => sc (.bool (p.lt a b))
  | .leq => sc (.bool (p.le a b))
  | .gtr => sc (.bool (p.lt b a))
  | .geq => sc (.bool (p.le b a))
  | .add => match k with | .i64 => some (p.ok (p.add a b), .d .top (.int .i64 (p.add a b))) | k => sc (.int k (p.wrap k (p.add a b)))
  | .sub => match k with | .i64 => some (p.ok (p.sub a b), .d .top (.int .i64 (p.sub a b))) | k => sc (.int k (p.wrap k (p.sub a b)))
  | .mul => match k with | .i64 => some (p.ok (p.mul a b), .d .top (.int .i64 (p.mul a b))) | k => sc (.int k (p.wrap k (p.mul a b)))
  | .quo => match k with | .i64 => some (p.div a b, .d .top (.int .i64 (p.quo a b))) | _ => none
  | .rem => some (p.div a b, .d .top (.int k (p.rem a b)))
  | .and => sc (.int k (p.and k a b))
  | .or => sc (.int k (p.or k a b))
  | .xor => sc (.int k (p.xor k a b))
  | .andNot => sc (.int k (p.andNot k a b))
  | _ => none
def binSh (op : BinOp) (k : IntKind) (a b : Int) : Ans :=
  match op with
  | .shl => some (p.nneg b, .d .top (.int k (p.shl k a b)))
  | .shr => some (p.nneg b, .d .top (.int k (p.shr k a b)))
  | _ => none
def isSh : BinOp → Bool
  | .shl | .shr => true
  | _ => false
def flat : AV → Option (List D)
  | .d _ (.agg ds) => some ds
  | .agg cs => match toDs (wkL cs) with | some (_, ds) => some ds | none => none
  | _ => none
def binStr (op : BinOp) (a b : List UInt8) : Ans :=
  match op with
  | .add => some (p.sroom a b, .d .top (.str (p.cat a b)))
  | .eql => sc (.bool (p.seq a b))
  | .neq => sc (.bool (p.not (p.seq a b)))
  | .lss => sc (.bool (p.slt a b))
  | .gtr => sc (.bool (p.not (p.sle a b)))
  | .leq => sc (.bool (p.sle a b))
  | .geq => sc (.bool (p.not (p.slt a b)))
  | _ => none
def binA (op : BinOp) (ty : Nat) : AV → AV → Ans
  | .d _ (.int k a), .d _ (.int k' b) =>
    match isSh op with
    | true => binSh p op k a b
    | false =>
      match kEq k k' with
      | true => binInt p op k a b
      | false => none
  | .d _ (.str a), .d _ (.str b) => binStr p op a b
  | .d _ (.bool a), .d _ (.bool b) =>
    match op, ty with
    | .eql, 2 => sc (.bool (p.beq a b))
    | .neq, 2 => sc (.bool (p.not (p.beq a b)))
    | _, _ => none
  | .d _ .nf, .d _ .nf =>
    match op, ty with
    | .eql, 3 => sc (.bool true)
    | .neq, 3 => sc (.bool false)
    | _, _ => none
  | .fn _ _ _, .d _ .nf =>
    match op, ty with
    | .eql, 3 => sc (.bool false)
    | .neq, 3 => sc (.bool true)
    | _, _ => none
  | _, _ => none
def unA (op : UnOp) : AV → Ans
  | .d _ (.bool a) => match op with | .not => sc (.bool (p.not a)) | _ => none
  | .d _ (.int .i64 a) => match op with | .neg => some (p.ok (p.neg a), .d .top (.int .i64 (p.neg a))) | _ => none
  | _ => none
def loadA (σ : Sto) (a : AV) (sz : Nat) (ag : Bool) : Ans :=
  match a with
  | .ptr id off =>
    match getS σ id with
    | some (.bx cs) =>
      match natLe (off + sz) (len cs) with
      | true => yes (one (takeCells cs off sz) ag)
      | false => none
    | _ => none
  | .cb cs off =>
    match natLe (off + sz) (len cs) with
    | true => yes (one (takeCells cs off sz) ag)
    | false => none
  | .fb cs off =>
    match natLe (off + sz) (len cs) with
    | true => yes (one (takeCells cs off sz) ag)
    | false => none
  | .at ep x off =>
    match natLe (off + sz) (dlen x.cells) with
    | true => yes (one (takeCells (dcells ep x.cells) off sz) ag)
    | false => none
  | .up _ _ _ x off ep =>
    match natLe (off + sz) (dlen x.cells) with
    | true => yes (one (takeCells (dcells ep x.cells) off sz) ag)
    | false => none
  | _ => none
def rowOf : AV → Option (Ep × Nat × List D)
  | .d ep (.row sz es) => some (ep, sz, es)
  | .own _ sz es ep => some (ep, sz, es)
  | .fresh sz es ep => some (ep, sz, es)
  | _ => none
def rowR : AV → Option (Ep × Nat × List D)
  | .uq _ sz es ep => some (ep, sz, es)
  | v => rowOf v
def rowU : AV → Option (List D)
  | .d _ (.row _ es) => some es
  | .own _ _ es _ => some es
  | .uq _ _ es _ => some es
  | .fresh _ es _ => some es
  | _ => none
def boundA (A : Fm) (dflt : Int) : Option AO → Option Int
  | none => some dflt
  | some x => match x.ev A with | .d _ (.int .i64 n) => some n | _ => none
def maxA (A : Fm) (m : Int) : List AO → Option Int
  | [] => some m
  | x :: xs => match x.ev A with | .d _ (.int .i64 n) => maxA A (p.max m n) xs | _ => none
def minA (A : Fm) (m : Int) : List AO → Option Int
  | [] => some m
  | x :: xs => match x.ev A with | .d _ (.int .i64 n) => minA A (p.min m n) xs | _ => none
def evV (d : Nat) (A : Fm) (σ : Sto) : AOp → Ans
  | .mv x => yes (x.ev A)
  | .nil u sz => match u with | true => yes (.uq (100 * d + 98) sz [] .top) | false => yes (.own (100 * d + 98) sz [] .top)
  | .pick c a b =>
    match c.ev A with
    | .d _ (.bool true) => yes (a.ev A)
    | .d _ (.bool false) => yes (b.ev A)
    | _ => none
  | .build zs ps =>
    match fillParts A (zcells d 0 zs) ps with
    | some cs => yes (mkAgg cs)
    | none => none
  | .bslice m sz xs =>
    match m with
    | 0 =>
      match toDList A sz xs with
      | some (e, ys) => yes (.d (Ep.new.meet e) (.row sz ys))
      | none => none
    | 3 =>
      match cellList A sz xs with
      | some cs => yes (.sb sz (lenO xs) cs)
      | none => none
    | _ => none
  | .ld a sz ag => loadA σ (a.ev A) sz ag
  | .nilck x =>
    match x.ev A with
    | .ptr id off => yes (.ptr id off)
    | .cb cs off => yes (.cb cs off)
    | .fb cs off => yes (.fb cs off)
    | .at ep x off => yes (.at ep x off)
    | .up t sz n e off ep => yes (.up t sz n e off ep)
    | .fn f a b => yes (.fn f a b)
    | _ => none
  | .bin op ty x y => binA p op ty (x.ev A) (y.ev A)
  | .un op x => unA p op (x.ev A)
  | .seq neg ks x y =>
    match flat (x.ev A), flat (y.ev A) with
    | some a, some b =>
      match neg with
      | false => some (p.dfit ks a ∧ p.dfit ks b, .d .top (.bool (p.deq a b)))
      | true => some (p.dfit ks a ∧ p.dfit ks b, .d .top (.bool (p.not (p.deq a b))))
    | _, _ => none
  | .conv k x =>
    match k, x.ev A with
    | .toInt k, .d _ (.int _ n) => sc (.int k (p.wrap k n))
    | .same, .d ep (.str s) => yes (.d ep (.str s))
    | .s2b, .d _ (.str s) => yes (.d .new (.row 1 (p.bytes s)))
    | .b2s, v => match rowU v with | some es => some (p.isb es, .d .top (.str (p.unb es))) | none => none
    | _, _ => none
  | .fa x off =>
    match x.ev A with
    | .ptr id o => yes (.ptr id (o + off))
    | .cb cs o => yes (.cb cs (o + off))
    | .fb cs o => yes (.fb cs (o + off))
    | .at ep y o => yes (.at ep y (o + off))
    | .up t sz n e o ep => yes (.up t sz n e (o + off) ep)
    | _ => none
  | .fld x off sz ag =>
    match (x.ev A).parts with
    | none => none
    | some cs =>
      match natLe (off + sz) (len cs) with
      | true => yes (one (takeCells cs off sz) ag)
      | false => none
  | .iaa x i len sz =>
    match x.ev A, i.ev A with
    | .ptr id o, .d _ (.int _ n) => some (p.below n len, .ptr id (o + n.toNat * sz))
    | .cb cs o, .d _ (.int _ n) => some (p.below n len, .cb cs (o + n.toNat * sz))
    | .fb cs o, .d _ (.int _ n) => some (p.below n len, .fb cs (o + n.toNat * sz))
    | _, _ => none
  | .ix x i =>
    match x.ev A, i.ev A with
    | .d _ (.str s), .d _ (.int .i64 n) => some (p.below n (p.slen s), .d .top (.int .u8 (p.sget s n)))
    | _, _ => none
  | .axi x i ln sz ag =>
    match i.ev A with
    | .d _ (.int _ n) =>
      match (x.ev A).parts with
      | none => none
      | some cs =>
        match natEq (len cs) (ln * sz) with
        | true => some (p.below n ln, one (takeCells cs (n.toNat * sz) sz) ag)
        | false => none
    | _ => none
  | .sl x lo hi sz =>
    match rowOf (x.ev A) with
    | some (ep, sz', es) =>
      match boundA A 0 lo, boundA A (p.dlen es) hi, natEq sz sz' with
      | some l, some h, true => some (p.upto l h (p.dlen es), .d ep (.row sz (p.dcut es l h)))
      | _, _, _ => none
    | none => none
  | .sls x lo hi =>
    match x.ev A with
    | .d _ (.str s) =>
      match boundA A 0 lo, boundA A (p.slen s) hi with
      | some l, some h => some (p.upto l h (p.slen s), .d .top (.str (p.scut s l h)))
      | _, _ => none
    | _ => none
  | .len true x =>
    match x.ev A with
    | .d _ (.str s) => sc (.int .i64 (p.slen s))
    | _ => none
  | .len false x =>
    match rowU (x.ev A) with
    | some es => sc (.int .i64 (p.dlen es))
    | none => none
  | .slc x hi mx sz =>
    match rowOf (x.ev A), hi.ev A, mx.ev A with
    | some (ep, sz', es), .d _ (.int .i64 h), .d _ (.int .i64 m) =>
      match natEq sz sz' with
      | true => some (p.upto 0 h (p.dlen es) ∧ p.upto h m h, .own (100 * d + 96) sz (p.dcut es 0 h) ep)
      | false => none
    | _, _, _ => none
  | .mln x =>
    match x.ev A with
    | .mp id => match getS σ id with | some (.md _ m) => sc (.int .i64 (p.mlen m)) | _ => none
    | .cmd _ m => sc (.int .i64 (p.mlen m))
    | _ => none
  | .mkfn f first cap => yes (.fn f (wks (evs A first)) (wks (evs A cap)))
  | .ext t k =>
    match t.ev A with
    | .tup vs =>
      match natLe (k + 1) (len vs) with
      | true => yes (gt vs k)
      | false => none
    | _ => none
  | .mx (x :: xs) =>
    match x.ev A with
    | .d _ (.int .i64 m) =>
      match maxA p A m xs with
      | some n => sc (.int .i64 n)
      | none => none
    | _ => none
  | .mn (x :: xs) =>
    match x.ev A with
    | .d _ (.int .i64 m) =>
      match minA p A m xs with
      | some n => sc (.int .i64 n)
      | none => none
    | _ => none
  | _ => none
inductive Eff where
  | put (v : AV)
  | ap (t : Nat) (v : AV)
  | st (id off : Nat) (vs : List AV)
  | nw (cs : List AV)
  | uc (t : Nat) (v : AV)
  | uw (u : Up)
  | mo (id : Nat) (s : SE)
  | nm
  | nu (t sz : Nat)
  | un (u : Bool) (r : AV)
def noOwn : AV → Bool
  | .own .. => false
  | .uq .. => false
  | .up .. => false
  | .fresh .. => false
  | .pk .. => false
  | .agg cs => noOwnL cs
  | _ => true
where noOwnL : List AV → Bool
  | [] => true
  | .own .. :: _ => false
  | .uq .. :: _ => false
  | .up .. :: _ => false
  | .fresh .. :: _ => false
  | .pk .. :: _ => false
  | _ :: l => noOwnL l
def findC (t : Nat) : List AV → Option (Nat × List D × Ep)
  | [] => none
  | .uq t' sz es ep :: l => match natEq t t' with | true => some (sz, es, ep) | false => findC t l
  | _ :: l => findC t l
def findF (t : Nat) : Fm → Option (Nat × List D × Ep)
  | [] => none
  | .uq t' sz es ep :: l => match natEq t t' with | true => some (sz, es, ep) | false => findF t l
  | .agg cs :: l => match findC t cs with | some r => some r | none => findF t l
  | _ :: l => findF t l
def findS (t : Nat) : Sto → Option (Nat × List D × Ep)
  | [] => none
  | .bx cs :: l => match findC t cs with | some r => some r | none => findS t l
  | _ :: l => findS t l
def findQ (t : Nat) (A : Fm) (σ : Sto) : Option (Nat × List D × Ep) :=
  match findF t A with
  | some r => some r
  | none => findS t σ
def putD (cs : List D) (off : Nat) : List D → List D
  | [] => cs
  | v :: vs => putD (updD cs off v) (off + 1) vs
where updD : List D → Nat → D → List D
  | [], _, _ => []
  | _ :: l, 0, v => v :: l
  | x :: l, n + 1, v => x :: updD l n v
def setD (e : D) (off : Nat) (ds : List D) : Option D :=
  match e with
  | .agg cs => some (.agg (putD cs off ds))
  | _ => match off, ds with | 0, [x] => some x | _, _ => none
def eff (d : Nat) (A : Fm) (σ : Sto) : AOp → Option (Prop × Eff)
  | .alloc zs => some (True, .nw (zcells d 0 zs))
  | .allocu sz => some (True, .nu (100 * d) sz)
  | .box x =>
    match (x.ev A).cells with
    | none => none
    | some cs => some (True, .nw cs)
  | .nil true sz => some (True, .uc (100 * d + 98) (.uq (100 * d + 98) sz [] .top))
  | .st a x sz =>
    match a.ev A with
    | .ptr id off =>
      match getS σ id with
      | some (.bx cs) =>
        match (x.ev A).cells with
        | none => none
        | some vs =>
          match natEq (len vs) sz && (natLe (off + sz) (len cs) && areOne vs) with
          | true => some (True, .st id off vs)
          | false => none
      | _ => none
    | .up t sz' n e off ep1 =>
      match (x.ev A).cells, findQ t A σ with
      | some vs, some (sz'', es, ep) =>
        match toDs vs with
        | some (ep', ds) =>
          match natEq (len vs) sz && (natLe (off + sz) (dlen e.cells) && (natEq sz' sz'' && dOnes ds)) with
          | true => match setD e off ds with | some e' => some (True, .uw (t, some (sz'', p.dset es n e', ep.meet (ep1.meet ep')))) | none => none
          | false => none
        | none => none
      | _, _ => none
    | _ => none
  | .app x y sz _ =>
    match x.ev A, rowR (y.ev A) with
    | .own t sz' es ep, some (ep', sz'', ys) =>
      match natEq sz sz' && natEq sz sz'' with
      | true => some (p.room es ys, .ap t (.own t sz (p.dcat es ys) (Ep.meet .new (ep.meet ep'))))
      | false => none
    | .uq t sz' es ep, some (ep', sz'', ys) =>
      match natEq sz sz' && natEq sz sz'' with
      | true => some (p.room es ys, .uc t (.uq t sz (p.dcat es ys) (Ep.meet .new (ep.meet ep'))))
      | false => none
    | .d .top (.row sz' []), some (ep', sz'', ys) =>
      match natEq sz sz' && natEq sz sz'' with
      | true => some (p.room [] ys, .un false (.own 96 sz (p.dcat [] ys) (Ep.meet .new (Ep.meet .top ep'))))
      | false => none
    | _, _ => none
  | .bslice 1 sz xs =>
    match toDList A sz xs with
    | some (e, ys) => some (True, .ap (100 * d + 99) (.own (100 * d + 99) sz ys (Ep.new.meet e)))
    | none => none
  | .bslice 2 sz xs =>
    match toDList A sz xs with
    | some (e, ys) => some (True, .uc (100 * d + 99) (.uq (100 * d + 99) sz ys (Ep.new.meet e)))
    | none => none
  | .sl x lo hi sz =>
    match x.ev A with
    | .uq t sz' es ep =>
      match lo, boundA A (p.dlen es) hi, natEq sz sz' with
      | none, some h, true => some (p.upto 0 h (p.dlen es), .uc t (.uq t sz (p.dcut es 0 h) ep))
      | _, _, _ => none
    | _ =>
      match evV p d A σ (.sl x lo hi sz) with
      | some (q, v) => some (q, .put v)
      | none => none
  | .mkm => some (True, .nm)
  | .mup kk x k v =>
    match x.ev A, k.ev A with
    | .mp id, .d _ key =>
      match keyFit kk key with
      | false => none
      | true =>
      match getS σ id with
      | some (.md ep m) =>
        match toD (v.ev A) with
        | some (ep', y) => some (p.mfit m key, .mo id (.md (ep.meet ep') (p.mset m key y)))
        | none =>
          match m with
          | [] => match isOne (wk (v.ev A)) || isAgg (v.ev A) with | true => some (True, .mo id (.mf [key] [wk (v.ev A)])) | false => none
          | _ => none
      | some (.mf ks vs) =>
        match litNew key ks && (isOne (wk (v.ev A)) || isAgg (v.ev A)) with
        | true => some (True, .mo id (.mf (addD ks key) (appendL vs [wk (v.ev A)])))
        | false => none
      | _ => none
    | _, _ => none
  | op =>
    match evV p d A σ op with
    | some (q, v) => some (q, .put v)
    | none => none
where
  isAgg : AV → Bool
    | .agg _ => true
    | .d _ (.agg _) => true
    | _ => false
  litNew (k : D) : List D → Bool
    | [] => true
    | k' :: ks => match k, k' with
      | .int q a, .int q' b => (match kEq q q', decide (a = b) with | true, false => litNew k ks | _, _ => false)
      | _, _ => false
  addD : List D → D → List D
    | [], x => [x]
    | y :: l, x => y :: addD l x
def stCells (σ : Sto) (id off : Nat) (vs : List AV) : Sto :=
  match getS σ id with
  | some (.bx cs) => setS σ id (.bx (putCells cs off vs))
  | _ => σ
def inst (d : Nat) (u : Bool) : AV → AV
  | .own t sz es ep => .own (100 * d + t) sz es ep
  | .uq t sz es ep => match u with | true => .uq (100 * d + t) sz es ep | false => .own (100 * d + t) sz es ep
  | v => v
def instL (d : Nat) (u : Bool) : List AV → List AV
  | [] => []
  | v :: vs => inst d u v :: instL d u vs
def instA (d : Nat) (u : Bool) : AV → AV
  | .agg cs => .agg (instL d u cs)
  | v => inst d u v
def instT (d : Nat) (u : Bool) : List AV → List AV
  | [] => []
  | v :: vs => instA d u v :: instT d u vs
def instV (d : Nat) (u : Bool) : AV → AV
  | .tup vs => .tup (instT d u vs)
  | v => instA d u v
def tok1 (d : Nat) : AV → List Nat
  | .own t _ _ _ => [100 * d + t]
  | .uq t _ _ _ => [100 * d + t]
  | _ => []
def tokL (d : Nat) : List AV → List Nat
  | [] => []
  | v :: vs => tok1 d v ++ tokL d vs
def tokA (d : Nat) : AV → List Nat
  | .agg cs => tokL d cs
  | v => tok1 d v
def tokT (d : Nat) : List AV → List Nat
  | [] => []
  | v :: vs => tokA d v ++ tokT d vs
def tokV (d : Nat) : AV → List Nat
  | .tup vs => tokT d vs
  | v => tokA d v
def goneU : List Nat → Ups
  | [] => []
  | t :: ts => (t, none) :: goneU ts
def Eff.frame (A : Fm) (σ : Sto) (dst : Option Nat) : Eff → Fm
  | .put v => putA A dst v
  | .ap t v => putA (demoteA [t] A) dst v
  | .st _ _ _ => putA A dst .any
  | .nw _ => putA A dst (.ptr (lenS σ) 0)
  | .uc t v => putA (updF (t, none) A) dst v
  | .uw u => putA (updF u A) dst .any
  | .mo _ _ => putA A dst .any
  | .nm => putA A dst (.mp (lenS σ))
  | .nu t _ => putA (updF (t, none) A) dst (.ptr (lenS σ) 0)
  | .un u r => putA (upsF (goneU (tokV (dst.getD 0) r)) (demoteA (tokV (dst.getD 0) r) A)) dst (instV (dst.getD 0) u r)
def Eff.store (σ : Sto) (dst : Option Nat) : Eff → Sto
  | .put _ => σ
  | .ap t _ => demoteS [t] σ
  | .st id off vs => stCells σ id off vs
  | .nw cs => addS σ (.bx cs)
  | .uc t _ => updS (t, none) σ
  | .uw u => updS u σ
  | .mo id s => setS σ id s
  | .nm => addS σ (.md .top [])
  | .nu t sz => addS (updS (t, none) σ) (.bx [.uq t sz [] .top])
  | .un _ r => upsS (goneU (tokV (dst.getD 0) r)) (demoteS (tokV (dst.getD 0) r) σ)
def callEff (u : Bool) (dst : Option Nat) : AV → Eff
  | .fresh sz es ep =>
    match dst with
    | some d => .ap (100 * d + 97) (.own (100 * d + 97) sz es ep)
    | none => .put .any
  | .pk r => match dst with | some _ => .un u r | none => .put .any
  | r => .put r
def drV : AV → AV
  | .agg cs => mkAgg (wkL cs)
  | v => v
def Eff.calm : Bool → Eff → Eff
  | true, .put v => .put (drV v)
  | _, e => e
def Eff.mild : Bool → Eff → Bool
  | false, _ => true
  | true, .put _ => true
  | true, .ap _ _ => true
  | true, .st _ _ _ => true
  | true, .nw _ => true
  | true, _ => false
mutual
def closed : AV → Bool
  | .any => true
  | .d _ _ => true
  | .at _ _ _ => true
  | .ext _ => true
  | .agg cs => closedL cs
  | .tup cs => closedL cs
  | .cb cs _ => closedL cs
  | .fb cs _ => closedL cs
  | .sb _ _ cs => closedL cs
  | .cmd _ _ => true
  | .cm _ vs => closedL vs
  | .fn _ a c => closedL a && closedL c
  | .own _ _ _ _ => false
  | .uq _ _ _ _ => false
  | .up _ _ _ _ _ _ => false
  | .fresh _ _ _ => false
  | .pk _ => false
  | .mp _ => false
  | .ptr _ _ => false
def closedL : List AV → Bool
  | [] => true
  | v :: vs => closed v && closedL vs
end
mutual
def solid : AV → Bool
  | .any => true
  | .d _ _ => true
  | .at _ _ _ => true
  | .ext _ => true
  | .agg cs => solidL cs
  | .tup cs => solidL cs
  | .cb cs _ => solidL cs
  | .fb _ _ => false
  | .sb _ _ cs => solidL cs
  | .cmd _ _ => true
  | .cm _ vs => solidL vs
  | .fn _ a c => solidL a && solidL c
  | .own _ _ _ _ => false
  | .uq _ _ _ _ => false
  | .up _ _ _ _ _ _ => false
  | .fresh _ _ _ => false
  | .pk _ => false
  | .mp _ => false
  | .ptr _ _ => false
def solidL : List AV → Bool
  | [] => true
  | v :: vs => solid v && solidL vs
end
def clL : List AV → List AV
  | [] => []
  | v :: vs => (match closed v with | true => v | false => .any) :: clL vs
def posN (id : Nat) : List Nat → Option Nat
  | [] => none
  | j :: ids => match natEq id j with | true => some 0 | false => match posN id ids with | some k => some (k + 1) | none => none
def frz1 (ids : List Nat) (σ : Sto) : AV → AV
  | .ptr id off =>
    match posN id ids with
    | some k => .ptr k off
    | none =>
      match getS σ id with
      | some (.bx cs) => .fb (oldL (clL (wkL cs))) off
      | _ => .any
  | .mp id => match posN id ids with | some k => .mp k | none => .any
  | .own _ sz es _ => .d .old (.row sz es)
  | .uq _ sz es _ => .d .old (.row sz es)
  | v => match closed v with | true => oldV v | false => .any
def frzL (ids : List Nat) (σ : Sto) : List AV → List AV
  | [] => []
  | v :: vs => frz1 ids σ v :: frzL ids σ vs
def oldD : AV → AV
  | .d _ x => .d .old x
  | v => v
def frz (ids : List Nat) (σ : Sto) : AV → AV
  | .fn f first cap => .fn f (frzL ids σ first) (frzL ids σ cap)
  | .agg cs => oldD (mkAgg (frzL ids σ cs))
  | v => frz1 ids σ v
def frzN (ids : List Nat) (σ : Sto) : AV → AV
  | .d .top (.row sz []) => .d .top (.row sz [])
  | v => frz ids σ v
def frzsN (ids : List Nat) (σ : Sto) : List AV → List AV
  | [] => []
  | v :: vs => frzN ids σ v :: frzsN ids σ vs
def frzs (ids : List Nat) (σ : Sto) : List AV → List AV
  | [] => []
  | v :: vs => frz ids σ v :: frzs ids σ vs
def noUq1 : AV → Bool
  | .uq .. => false
  | _ => true
def noUqL : List AV → Bool
  | [] => true
  | v :: vs => match noUq1 v with | true => noUqL vs | false => false
def noUqV : AV → Bool
  | .agg cs => noUqL cs
  | .fn _ a c => noUqL a && noUqL c
  | v => noUq1 v
def noUqs : List AV → Bool
  | [] => true
  | v :: vs => match noUqV v with | true => noUqs vs | false => false
def epNew : Ep → Bool
  | .top => true
  | .new => true
  | _ => false
mutual
def newish : AV → Bool
  | .any => true
  | .d ep _ => epNew ep
  | .at _ _ _ => false
  | .agg cs => newishL cs
  | .tup cs => newishL cs
  | .fresh _ _ ep => epNew ep
  | .pk r => newish r
  | .own _ _ _ ep => epNew ep
  | .uq _ _ _ ep => epNew ep
  | .cmd _ _ => false
  | .up _ _ _ _ _ _ => false
  | .cb _ _ => false
  | .fb _ _ => false
  | .sb _ _ _ => false
  | .mp _ => false
  | .cm _ _ => false
  | .ptr _ _ => false
  | .fn _ _ _ => false
  | .ext _ => false
def newishL : List AV → Bool
  | [] => true
  | v :: vs => newish v && newishL vs
end
def lend1 (ids : List Nat) (σ : Sto) (id : Nat) : SE :=
  match getS σ id with
  | some (.bx cs) => .bx (frzL ids σ (wkL cs))
  | some (.md _ m) => .md .old m
  | some (.mf ks vs) => .mf ks (oldL (clL vs))
  | none => .bx []
def lendS (ids : List Nat) (σ : Sto) : List Nat → Sto
  | [] => []
  | id :: l => lend1 ids σ id :: lendS ids σ l
def nth : List Nat → Nat → Nat
  | [], _ => 0
  | x :: _, 0 => x
  | _ :: l, n + 1 => nth l n
def back1 (ids : List Nat) : AV → AV
  | .ptr k off => .ptr (nth ids k) off
  | .mp k => .mp (nth ids k)
  | v => upV v
def backL (ids : List Nat) : List AV → List AV
  | [] => []
  | v :: vs => back1 ids v :: backL ids vs
def backE (ids : List Nat) : SE → SE
  | .bx cs => .bx (backL ids cs)
  | .md ep m => .md ep.up m
  | .mf ks vs => .mf ks (upL vs)
def backS (ids : List Nat) : Sto → List Nat → Sto → Sto
  | σ, id :: l, s :: σ1 => backS ids (setS σ id (backE ids s)) l σ1
  | σ, _, _ => σ
def nodupN : List Nat → Bool
  | [] => true
  | x :: l => match memN x l with | true => false | false => nodupN l
def ltAll (n : Nat) : List Nat → Bool
  | [] => true
  | x :: l => natLe (x + 1) n && ltAll n l
section
variable {Ω : Type}
abbrev CallP (Ω : Type) := AV → List AV → Sto → Ω → (AV → Ups → Sto → Ω → Prop) → Prop
abbrev SK (Ω : Type) := Fm → Sto → Ω → Prop
def iaA (dr : Bool) (sz : Nat) (n : Int) (go : AV → Prop) (x : AV) : Prop :=
  match rowOf x with
  | some (ep, sz', es) =>
    match natEq sz sz' with
    | true => ∃ e, p.dget es n = some e ∧ go (.at ep e 0)
    | false => False
  | none =>
    match dr, x with
    | false, .uq t sz' es ep =>
      match natEq sz sz' with
      | true => ∃ e, p.dget es n = some e ∧ go (.up t sz n.toNat e 0 ep)
      | false => False
    | false, .sb sz' m cs =>
      match natEq sz sz' with
      | true => p.below n m ∧ go (.cb cs (n.toNat * sz))
      | false => False
    | _, _ => False
def pickA (ok : Bool) (v : AV) (b : Bool) : AV :=
  match ok with
  | true => .tup [v, .d .top (.bool b)]
  | false => v
def keyEq : D → D → Option Bool
  | .int k a, .int k' b => match kEq k k' with | true => some (p.eq a b) | false => none
  | .str a, .str b => some (p.seq a b)
  | _, _ => none
def mchain (key : D) (z : AV) (go : AV → Bool → Prop) : List D → List AV → Prop
  | k :: ks, v :: vs =>
    match keyEq p key k with
    | some b => cnd b (fun _ => go v true) (fun _ => mchain key z go ks vs)
    | none => False
  | _, _ => go z false
def mlkA (kk : D) (σ : Sto) (key z : AV) (go : AV → Bool → Prop) (x : AV) : Prop :=
  match key with
  | .d _ k =>
    match keyFit kk k with
    | false => False
    | true =>
    let data (ep : Ep) (m : List (D × D)) : Prop := p.mfit m k ∧ ∃ o, p.mget m k = o ∧ (match o with | some e => go (.d ep e) true | none => go z false)
    match x with
    | .mp id =>
      match getS σ id with
      | some (.md ep m) => data ep m
      | some (.mf ks vs) => mchain p k z go ks vs
      | _ => False
    | .cmd ep m => data ep m
    | .cm ks vs => mchain p k z go ks vs
    | _ => False
  | _ => False
def negA (neg b : Bool) : Bool :=
  match neg with
  | true => p.not b
  | false => b
def stepA (dr : Bool) (C : CallP Ω) (dst : Option Nat) (A : Fm) (σ : Sto) (ω : Ω) (k : SK Ω) : AOp → Prop
  | .ia x y sz =>
    match y.ev A with
    | .d _ (.int .i64 n) => iaA p dr sz n (fun v => k (putA A dst v) σ ω) (x.ev A)
    | _ => False
  | .call u f xs => C (f.ev A) (evs A xs) σ ω fun r us σ' ω' => k ((callEff u dst r).frame (upsF us A) (upsS us σ') dst) ((callEff u dst r).store (upsS us σ') dst) ω'
  | .isnil neg x =>
    match dr with
    | false =>
      match rowU (x.ev A) with
      | some es => ∀ b : Bool, (b = true → es = []) → k (putA A dst (.d .top (.bool (negA p neg b)))) σ ω
      | none => False
    | true => False
  | .mlk kk x y z ok =>
    match dr with
    | false => mlkA p kk σ (y.ev A) (.d .top z) (fun v b => k (putA A dst (pickA ok v b)) σ ω) (x.ev A)
    | true => False
  | op =>
    match eff p (dst.getD 0) A σ op with
    | some (q, e) =>
      match e.mild dr with
      | true => q ∧ k ((e.calm dr).frame A σ dst) ((e.calm dr).store σ dst) ω
      | false => False
    | none => False
def hN (dr : Bool) (C : CallP Ω) : List AI → Fm → Sto → Ω → SK Ω → Prop
  | [], A, σ, ω, K => K A σ ω
  | i :: is, A, σ, ω, K =>
    match i.guard with
    | none => stepA p dr C i.dst A σ ω (fun A σ ω => hN dr C is A σ ω K) i.op
    | some (j, want) =>
      match gt A j with
      | .d _ (.bool b) =>
        match want with
        | true => cnd b (fun _ => stepA p dr C i.dst A σ ω (fun A σ ω => hN dr C is A σ ω K) i.op) fun _ => hN dr C is (putA A i.dst (.tup [])) σ ω K
        | false => cnd b (fun _ => hN dr C is (putA A i.dst (.tup [])) σ ω K) (fun _ => stepA p dr C i.dst A σ ω (fun A σ ω => hN dr C is A σ ω K) i.op)
      | .tup [] => hN dr C is (putA A i.dst (.tup [])) σ ω K
      | _ => False
abbrev XK (Ω : Type) := Ex → Fm → Sto → Ω → Prop
abbrev LoopP (Ω : Type) := AC → XK Ω → Fm → Sto → Ω → Prop
abbrev RfP (Ω : Type) := AO → List Nat → AC → AC → XK Ω → Fm → Sto → Ω → Prop
def thenK (k : SK Ω) (K : XK Ω) : XK Ω
  | .norm, A, σ, ω => k A σ ω
  | e, A, σ, ω => K e A σ ω
def blockK (id : Nat) (K : XK Ω) : XK Ω
  | .exit j, A, σ, ω =>
    match natEq j id with
    | true => K .norm A σ ω
    | false => K (.exit j) A σ ω
  | e, A, σ, ω => K e A σ ω
def hC (C Cd : CallP Ω) (L : LoopP Ω) (R : RfP Ω) : AC → XK Ω → Fm → Sto → Ω → Prop
  | .skip, K, A, σ, ω => K .norm A σ ω
  | .rg draw is, K, A, σ, ω =>
    match draw with
    | true => hN p true Cd is A σ ω fun A σ ω => K .norm A σ ω
    | false => hN p false C is A σ ω fun A σ ω => K .norm A σ ω
  | .seq a b, K, A, σ, ω => hC C Cd L R a (thenK (fun A σ ω => hC C Cd L R b K A σ ω) K) A σ ω
  | .cond c t e, K, A, σ, ω =>
    match c.ev A with
    | .d _ (.bool b) => cnd b (fun _ => hC C Cd L R t K A σ ω) (fun _ => hC C Cd L R e K A σ ω)
    | _ => False
  | .block id c, K, A, σ, ω => hC C Cd L R c (blockK id K) A σ ω
  | .loop c, K, A, σ, ω => L c K A σ ω
  | .rf f ps a b, K, A, σ, ω => R f ps a b K A σ ω
  | .exit id, K, A, σ, ω => K (.exit id) A σ ω
  | .ret, K, A, σ, ω => K .ret A σ ω
  | .scope c, K, A, σ, ω => hC C Cd L R c K A σ ω
end
end Go.Ly
end
section
namespace Go.Ly
def sizeT (P : Program) (t : TypeId) : Option Nat := (P.info? t).map (·.size)
def bytesT (P : Program) (t : TypeId) : Option Nat := (P.info? t).map (·.bytes)
def aggT (P : Program) (t : TypeId) : Option Bool :=
  match P.underlying t with
  | some (.struct _) | some (.array _ _) => some true
  | some _ => some false
  | none => none
def zeroT (P : Program) : Nat → TypeId → Option (List D)
  | 0, _ => none
  | n + 1, t =>
    match P.underlying t with
    | some .bool => some [.bool false]
    | some (.int k) => some [.int k 0]
    | some .string => some [.str []]
    | some (.slice e) => (sizeT P e).map fun s => [.row s []]
    | some (.func ..) => some [.nf]
    | some (.pointer _) => some [.np]
    | some (.map _ _) => some [.nm]
    | some (.struct fs) => (fs.toList.mapM fun f => zeroT P n f.type).map List.flatten
    | some (.array m e) => (zeroT P n e).map fun z => (List.replicate m z).flatten
    | _ => none
def zeroFits : Value → D → Bool
  | .bool false, .bool false => true
  | .int k n, .int k' m => k == k' && n == 0 && m == 0
  | .string s, .str [] => s.data.toList.isEmpty
  | .slice none 0 0, .row _ [] => true
  | .nilFunc, .nf => true
  | .pointer none, .np => true
  | .map none, .nm => true
  | _, _ => false
def zerosFit : List Value → List D → Bool
  | [], [] => true
  | v :: vs, d :: ds => zeroFits v d && zerosFit vs ds
  | _, _ => false
def zeroD (P : Program) (t : TypeId) : Option (List D) :=
  match zeroT P 12 t, (P.info? t).bind (·.zero) with
  | some ds, some v => if zerosFit v.cells.toList ds then some ds else none
  | _, _ => none
def zeroZ (P : Program) (t : TypeId) : Option D :=
  match zeroD P t, (P.info? t).bind (·.zero) with
  | some ds, some (.agg _) => some (.agg ds)
  | some [z], some _ => some z
  | _, _ => none
def elemSize (P : Program) (t : TypeId) : Nat :=
  match P.underlying t with
  | some (.slice e) => (sizeT P e).getD 0
  | _ => 0
def constA (P : Program) (t : TypeId) : Value → Option AV
  | .bool b => some (.d .top (.bool b))
  | .int k n => some (.d .top (.int k n))
  | .string s => some (.d .top (.str s.data.toList))
  | .slice none 0 0 => some (.d .top (.row (elemSize P t) []))
  | .nilFunc => some (.d .top .nf)
  | .pointer none => some (.d .top .np)
  | .map none => some (.d .top .nm)
  | _ => none
def flatL (P : Program) : Nat → List Field → Option (List D)
  | _, [] => some []
  | i, f :: fs =>
    if f.name != "_" && f.offset == i && sizeT P f.type == some 1 then
      match P.underlying f.type, flatL P (i + 1) fs with
      | some .bool, some l => some (.bool false :: l)
      | some (.int k), some l => some (.int k 0 :: l)
      | some .string, some l => some (.str [] :: l)
      | _, _ => none
    else none
def flatT (P : Program) (t : TypeId) : Option (List D) :=
  match P.underlying t with
  | some (.struct fs) => if P.stoodInHeld t || P.eqGuardType P.depth t then none else flatL P 0 fs.toList
  | _ => none
def keyZ (P : Program) (t : TypeId) : Option D :=
  match P.underlying t with
  | some (.int k) => some (.int k 0)
  | some .string => some (.str [])
  | _ => none
def hasNf : List D → Bool
  | [] => false
  | .nf :: _ => true
  | _ :: l => hasNf l
variable (P : Program) (ν : FuncId → Option Nat)
def opnd (t : TypeId) : Operand → Option AO
  | .tmp n => some (.s n)
  | .const v => (constA P t v).map AO.c
  | .func f => (ν f).map fun k => .c (.fn k [] [])
  | .global _ => none
def opndL (ts : Array TypeId) : Nat → List Operand → Option (List AO)
  | _, [] => some []
  | i, x :: xs =>
    match opnd P ν (ts.getD i 0) x, opndL ts (i + 1) xs with
    | some y, some ys => some (y :: ys)
    | _, _ => none
def opnds (ts : Array TypeId) (xs : Array Operand) : Option (List AO) := opndL P ν ts 0 xs.toList
def isNil : Operand → Bool
  | .const (.slice none 0 0) => true
  | _ => false
def appended (ops : Array Oper) (d : Option Nat) : Bool :=
  match d with
  | none => false
  | some t => ops.any fun o => match o.op with
    | .call { callee := .builtin .append, args, .. } => (match (args[0]? : Option Operand) with | some (.tmp u) => t == u | _ => false)
    | _ => false
def partsS (fs : Array Field) : List (Nat × Operand) → Option (List (Nat × Nat × AO))
  | [] => some []
  | (i, x) :: ps =>
    match fs[i]? with
    | none => none
    | some f =>
      match sizeT P f.type, opnd P ν f.type x, partsS fs ps with
      | some s, some a, some rest => some ((f.offset, s, a) :: rest)
      | _, _, _ => none
def partsA (n : Nat) (e : TypeId) (s : Nat) : List (Nat × Operand) → Option (List (Nat × Nat × AO))
  | [] => some []
  | (i, x) :: ps =>
    match opnd P ν e x, partsA n e s ps with
    | some a, some rest => some ((i * s, s, a) :: rest)
    | _, _ => none
def sliceParts (e : TypeId) : Nat → List (Nat × Operand) → Option (List AO)
  | _, [] => some []
  | i, (j, x) :: ps =>
    match natEq i j, opnd P ν e x, sliceParts e (i + 1) ps with
    | true, some a, some rest => some (a :: rest)
    | _, _, _ => none
def optO (P : Program) (ν : FuncId → Option Nat) : Option Operand → Option (Option AO)
  | none => some none
  | some x => (opnd P ν 0 x).map some
def wantU (hs : List Nat) : Option Nat → Bool
  | none => false
  | some d => memN d hs
variable (hs : List Nat)
def bmode (ops : Array Oper) (d : Option Nat) (zs : List D) : Nat :=
  if wantU hs d then 2 else if hasNf zs then 3 else if appended ops d then 1 else 0
def compOp (ops : Array Oper) (o : Oper) : Option AOp :=
  match o.op with
  | .move x | .assign x =>
    if isNil x then some (.nil (wantU hs o.dst) (elemSize P o.type)) else (opnd P ν o.type x).map AOp.mv
  | .pick c a b =>
    match opnd P ν 0 c, opnd P ν o.type a, opnd P ν o.type b with
    | some x, some y, some z => some (.pick x y z)
    | _, _, _ => none
  | .alloc e =>
    match wantU hs o.dst, zeroD P e with
    | true, some [.row sz []] => some (.allocu sz)
    | true, _ => none
    | false, some zs => some (.alloc zs)
    | false, none => none
  | .box e x => (opnd P ν e x).map AOp.box
  | .build t parts =>
    match zeroD P t, P.underlying t with
    | some zs, some (.struct fs) => if fs.toList.all (fun f => (sizeT P f.type).isSome) then (partsS P ν fs parts.toList).map (AOp.build zs) else none
    | some zs, some (.array n e) => (sizeT P e).bind fun s => (partsA P ν n e s parts.toList).map (AOp.build zs)
    | _, _ => none
  | .buildSlice t len parts =>
    match P.underlying t with
    | some (.slice e) =>
      match sizeT P e, sliceParts P ν e 0 parts.toList with
      | some s, some xs => if xs.length = len ∧ len * s ≤ 16777216 ∧ (zeroD P e).isSome then
          some (.bslice (bmode hs ops o.dst ((zeroD P e).getD [])) s xs) else none
      | _, _ => none
    | _ => none
  | .load t a =>
    match opnd P ν 0 a, sizeT P t, aggT P t with
    | some x, some s, some true => some (.ld x s true)
    | some x, some 1, some false => some (.ld x 1 false)
    | _, _, _ => none
  | .store t a x =>
    match opnd P ν 0 a, opnd P ν t x, sizeT P t with
    | some y, some z, some s => some (.st y z s)
    | _, _, _ => none
  | .nilCheck x => (opnd P ν 0 x).map AOp.nilck
  | .binOp op xt x y yt =>
    match P.underlying xt, isNil x || isNil y with
    | some (.slice _), true =>
      match op, isNil x with
      | .eql, false => (opnd P ν xt x).map (AOp.isnil false)
      | .neq, false => (opnd P ν xt x).map (AOp.isnil true)
      | _, _ => none
    | _, _ =>
    match opnd P ν xt x, opnd P ν yt y, flatT P xt with
    | some a, some b, none =>
      some (.bin op (match P.underlying xt with | some (.int _) => 0 | some .string => 1 | some .bool => 2 | some (.func ..) => 3 | _ => 4) a b)
    | some a, some b, some ks => match op with | .eql => some (.seq false ks a b) | .neq => some (.seq true ks a b) | _ => none
    | _, _, _ => none
  | .unOp op t x => (opnd P ν t x).map (AOp.un op)
  | .convert src dst x =>
    match P.underlying src, P.underlying dst with
    | some (.int _), some (.int k) => (opnd P ν src x).map (AOp.conv (.toInt k))
    | some .string, some .string => (opnd P ν src x).map (AOp.conv .same)
    | some .string, some (.slice e) => match P.underlying e with
      | some (.int .u8) => (opnd P ν src x).map (AOp.conv .s2b)
      | _ => none
    | some (.slice e), some .string => match P.underlying e with
      | some (.int .u8) => (opnd P ν src x).map (AOp.conv .b2s)
      | _ => none
    | _, _ => none
  | .fieldAddr s x f =>
    match P.underlying s with
    | some (.struct fs) =>
      match fs[f]? with
      | some fd =>
        match sizeT P fd.type, opnd P ν 0 x with
        | some (_ + 1), some y => some (.fa y fd.offset)
        | _, _ => none
      | none => none
    | _ => none
  | .field s x f =>
    match P.underlying s with
    | some (.struct fs) =>
      match fs[f]? with
      | some fd =>
        match opnd P ν s x, sizeT P fd.type, aggT P fd.type with
        | some y, some n, some true => some (.fld y fd.offset n true)
        | some y, some 1, some false => some (.fld y fd.offset 1 false)
        | _, _, _ => none
      | none => none
    | _ => none
  | .indexAddr t x i =>
    match P.underlying t with
    | some (.slice e) =>
      match opnd P ν t x, opnd P ν 0 i, sizeT P e with
      | some y, some j, some (s + 1) => some (.ia y j (s + 1))
      | _, _, _ => none
    | some (.array n e) =>
      match opnd P ν t x, opnd P ν 0 i, sizeT P e with
      | some y, some j, some (s + 1) => some (.iaa y j n (s + 1))
      | _, _, _ => none
    | _ => none
  | .index t x i =>
    match P.underlying t with
    | some .string =>
      match opnd P ν t x, opnd P ν 0 i with
      | some y, some j => some (.ix y j)
      | _, _ => none
    | some (.array n e) =>
      match opnd P ν t x, opnd P ν 0 i, sizeT P e, aggT P e with
      | some y, some j, some s, some true => some (.axi y j n s true)
      | some y, some j, some 1, some false => some (.axi y j n 1 false)
      | _, _, _, _ => none
    | _ => none
  | .slice t x lo hi none =>
    match P.underlying t with
    | some .string =>
      match opnd P ν t x, optO P ν lo, optO P ν hi with
      | some y, some l, some h => some (.sls y l h)
      | _, _, _ => none
    | some (.slice e) =>
      match opnd P ν t x, optO P ν lo, optO P ν hi, sizeT P e with
      | some y, some l, some h, some (s + 1) => some (.sl y l h (s + 1))
      | _, _, _, _ => none
    | _ => none
  | .slice t x none (some hi) (some mx) =>
    match P.underlying t with
    | some (.slice e) =>
      match opnd P ν t x, opnd P ν 0 hi, opnd P ν 0 mx, sizeT P e with
      | some y, some h, some m, some (s + 1) => some (.slc y h m (s + 1))
      | _, _, _, _ => none
    | _ => none
  | .makeMap t none =>
    match P.underlying t with
    | some (.map k _) => (keyZ P k).map fun _ => .mkm
    | _ => none
  | .lookup t x k ok =>
    match P.underlying t with
    | some (.map kt vt) =>
      match keyZ P kt, opnd P ν t x, opnd P ν kt k, zeroZ P vt with
      | some kk, some y, some z, some zd => some (.mlk kk y z zd ok)
      | _, _, _, _ => none
    | _ => none
  | .mapUpdate t m k v =>
    match P.underlying t with
    | some (.map kt vt) =>
      match keyZ P kt, opnd P ν t m, opnd P ν kt k, opnd P ν vt v with
      | some kk, some x, some y, some z => some (.mup kk x y z)
      | _, _, _, _ => none
    | _ => none
  | .makeFunc (.func f) first cap =>
    match ν f, opnds P ν #[] first, opnds P ν #[] cap with
    | some k, some xs, some ys => some (.mkfn k xs ys)
    | _, _, _ => none
  | .extract t k => (opnd P ν 0 t).map fun x => .ext x k
  | .call { callee := .value f, args, argTypes } =>
    match opnd P ν 0 f, opnds P ν argTypes args with
    | some y, some xs => some (.call (wantU hs o.dst) y xs)
    | _, _ => none
  | .call { callee := .builtin .len, args, argTypes } =>
    match (args[0]? : Option Operand), argTypes[0]? with
    | some x, some t =>
      match P.underlying t, opnd P ν t x with
      | some .string, some y => some (.len true y)
      | some (.slice _), some y => some (.len false y)
      | some (.map _ _), some y => some (.mln y)
      | _, _ => none
    | _, _ => none
  | .call { callee := .builtin .append, args, argTypes } =>
    match args[0]?, args[1]?, args.size, argTypes[0]?, argTypes[1]? with
    | some x, some y, 2, some t, some u =>
      match P.underlying t, P.underlying u with
      | some (.slice e), some (.slice _) =>
        match sizeT P e, bytesT P e, opnd P ν t x, opnd P ν u y with
        | some (s + 1), some (b + 1), some v, some z => if b < 128 ∧ (zeroD P e).map List.length = some (s + 1) then some (.app v z (s + 1) (b + 1)) else none
        | _, _, _, _ => none
      | _, _ => none
    | _, _, _, _, _ => none
  | .call { callee := .builtin .max, args, argTypes } => (opnds P ν argTypes args).map AOp.mx
  | .call { callee := .builtin .min, args, argTypes } => (opnds P ν argTypes args).map AOp.mn
  | _ => none
def slotOf (ops : Array Oper) (j : Nat) : Option Nat := (ops[j]?).bind (·.dst)
def compI (ops : Array Oper) (o : Oper) : Option AI :=
  match compOp P ν hs ops o, o.guard with
  | some op, none => some { dst := o.dst, op, guard := none }
  | some op, some (j, want) =>
    match slotOf ops j with
    | some t => some { dst := o.dst, op, guard := some (t, want) }
    | none => none
  | none, _ => none
def AOp.makes : AOp → Bool
  | .bslice 1 _ _ => true
  | .call _ _ _ => true
  | .alloc _ => true
  | .nil _ _ => true
  | .slc _ _ _ _ => true
  | _ => false
def AOp.apps : AOp → Bool
  | .app .. => true
  | _ => false
def AOp.opnds : AOp → List AO
  | .mv x | .box x | .nilck x | .un _ x | .conv _ x | .fa x _ | .fld x _ _ _ | .len _ x | .ext x _ => [x]
  | .nil _ _ | .alloc _ | .allocu _ | .mkm => []
  | .pick a b c => [a, b, c]
  | .build _ ps => ps.map fun p => p.2.2
  | .bslice _ _ xs | .mx xs | .mn xs => xs
  | .ld a _ _ => [a]
  | .st a x _ | .bin _ _ a x | .seq _ _ a x | .ia a x _ | .iaa a x _ _ | .ix a x | .axi a x _ _ _ | .app a x _ _ => [a, x]
  | .sl x lo hi _ | .sls x lo hi => x :: (lo.toList ++ hi.toList)
  | .mkfn _ a b => a ++ b
  | .slc x hi m3 _ => [x, hi, m3]
  | .call _ f xs => f :: xs
  | .isnil _ x => [x]
  | .mlk _ x k _ _ => [x, k]
  | .mup _ x k v => [x, k, v]
  | .mln x => [x]
def AO.plain : AO → Bool
  | .s _ => true
  | .c (.d _ _) => true
  | .c (.fn _ [] []) => true
  | .c _ => false
def AI.plain (i : AI) : Bool :=
  i.op.opnds.all AO.plain &&
  (match i.op with
   | .alloc zs => zs.length < 96
   | .bslice 1 _ _ => i.dst.isSome
   | _ => true)
def AI.readsT (i : AI) (t : Nat) : Bool :=
  i.op.opnds.any (fun x => match x with | .s u => natEq t u | .c _ => false) || (match i.guard with | some (u, _) => natEq t u | none => false)
def AOp.writes : AOp → Bool
  | .st .. => true
  | _ => false
def AOp.sees : AOp → Bool
  | .st .. => true
  | .ld .. => true
  | .call .. => true
  | .mln .. => true
  | _ => false
def AOp.allocs : AOp → Bool
  | .alloc _ => true
  | .box _ => true
  | _ => false
def conf (i j : AI) : Bool :=
  (match i.dst, j.dst with | some a, some b => natEq a b | _, _ => false) ||
  (match i.dst with | some a => j.readsT a | none => false) ||
  (match j.dst with | some b => i.readsT b | none => false) ||
  (i.op.apps && j.op.makes) || (j.op.apps && i.op.makes) || (i.op.writes && j.op.sees) || (j.op.writes && i.op.sees) || (i.op.allocs && j.op.allocs)
def regionOk (ops : Array Oper) (is : List AI) : Bool :=
  let b := Region.before ops
  let g := Region.linearise .gc ops 0
  is.all AI.plain &&
  (is.zipIdx.all fun (y, j) => is.zipIdx.all fun (x, i) => !(natLe (i + 1) j && conf x y) || (b.getD j 0).testBit i) &&
  (ops.toList.zipIdx.all fun (o, i) => o.after.toList.all fun e =>
    (!(Region.binds .any e) || natLe (e.on + 1) i) && (!(Region.binds .text e) || natLe (e.on + 1) i) && (!(Region.binds .gc e) || (natLe (e.on + 1) ops.size && natLe (g.idxOf e.on + 1) (g.idxOf i))))
def compRegion (ops : Array Oper) (draw : Bool) : Option AC :=
  match ops.toList.mapM (compI P ν hs ops) with
  | some is => if draw && !regionOk ops is then none else some (.rg draw is)
  | none => none
def compC : Code → Option AC
  | .skip => some .skip
  | .region _ ops draw => compRegion P ν hs ops draw
  | .seq a b => match compC a, compC b with | some x, some y => some (.seq x y) | _, _ => none
  | .cond c a b => match opnd P ν 0 c, compC a, compC b with | some o, some x, some y => some (.cond o x y) | _, _, _ => none
  | .block id c => (compC c).map (AC.block id)
  | .loop c => (compC c).map AC.loop
  | .rangeFunc f ps a b => match opnd P ν 0 f, compC a, compC b with | some o, some x, some y => some (.rf o ps.toList x y) | _, _, _ => none
  | .exit id => some (.exit id)
  | .ret => some .ret
  | .label _ => some .skip
  | .scope c => (compC c).map AC.scope
  | _ => none
def compR : ResultVar → Option ARV
  | .tmp t => some (.tmp t)
  | .cell a t =>
    match sizeT P t, aggT P t with
    | some s, some true => some (.cell a s true)
    | some 1, some false => some (.cell a 1 false)
    | _, _ => none
def compF (keep : Bool) (f : Func) : Option AF :=
  match f.body.bind (compC P ν hs), f.results.toList.mapM (compR P) with
  | some b, some rs => some { nparams := f.params.size + f.nfree, ntmps := f.ntmps, results := rs, keep, body := b }
  | _, _ => none
end Go.Ly
end
section
namespace Go.Ly
structure St where
  θ : List Nat
  β : Nat → Option Nat
  ln : Nat → Nat × Nat
  G : Nat → Nat
  E : Nat
  D : Nat
  L : Nat → Prop
  n0 : Nat
  X : Nat → Prop
  xv : List Value
def epB (E : Nat) : Ep → Nat → Prop
  | .top, _ => False
  | .new, b => E ≤ b
  | .old, b => b < E
  | .unk, _ => True
def cellsAt (w : World) (b o : Nat) (vs : List Value) : Prop :=
  ∀ i v, vs[i]? = some v → w.cell? ⟨b, o + i, none⟩ = some v
def oneV : Value → Prop
  | .agg _ => False
  | .tuple _ => False
  | _ => True
section
variable (w : World) (G : Nat → Nat) (B : Nat → Prop)
mutual
def RdD : D → Value → Prop
  | .bool b, v => v = .bool b
  | .int k n, v => v = .int k n
  | .str s, v => v = .string ⟨s.toArray⟩
  | .agg cs, v => ∃ vs : List Value, v = .agg ⟨vs⟩ ∧ RdDs cs vs
  | .row sz es, v => ((∃ p, ∃ cap : { c : Nat // c = 0 ∨ ∃ b, b < w.heap.size ∧ B b }, v = .slice p 0 cap.1) ∧ es = []) ∨
      ∃ b o cap vs, v = .slice (some ⟨b, o, none⟩) es.length cap ∧ es.length ≤ cap ∧ (b < w.heap.size ∧ B b) ∧ o + es.length * sz ≤ G b ∧ cellsAt w b o vs ∧ RdRow sz es vs
  | .nf, v => v = .nilFunc
  | .np, v => v = .pointer none
  | .nm, v => v = .map none
def RdDs : List D → List Value → Prop
  | [], vs => vs = []
  | x :: xs, vs => ∃ v rest, vs = v :: rest ∧ RdD x v ∧ RdDs xs rest
def RdRow (sz : Nat) : List D → List Value → Prop
  | [], vs => vs = []
  | x :: xs, vs => ∃ v rest, vs = v.cells.toList ++ rest ∧ v.cells.size = sz ∧ (∀ c ∈ v.cells.toList, oneV c) ∧ RdD x v ∧ RdRow sz xs rest
end
end
theorem RdDs_len {w G B} : ∀ (xs : List D) (vs : List Value), RdDs w G B xs vs → vs.length = xs.length
  | [], vs, h => by simp only [RdDs] at h; simp [h]
  | x :: xs, vs, h => by
    simp only [RdDs] at h
    obtain ⟨v, rest, rfl, _, h⟩ := h
    simp [RdDs_len xs rest h]
theorem RdRow_len {w G B sz} : ∀ (xs : List D) (vs : List Value), RdRow w G B sz xs vs → vs.length = xs.length * sz
  | [], vs, h => by simp only [RdRow] at h; simp [h]
  | x :: xs, vs, h => by
    simp only [RdRow] at h
    obtain ⟨v, rest, rfl, hs, _, _, h⟩ := h
    have := RdRow_len xs rest h
    simp only [List.length_append, Array.length_toList, List.length_cons, hs, this, Nat.add_mul, Nat.one_mul]
    omega
structure Imm (Q : Nat → Prop) (w : World) (G : Nat → Nat) (w' : World) : Prop where
  cell : ∀ b i v, Q b → i < G b → w.cell? ⟨b, i, none⟩ = some v → w'.cell? ⟨b, i, none⟩ = some v
  map : ∀ b es k, Q b → 0 < G b → w.heap[b]? = some (.map es k) → w'.heap[b]? = some (.map es k)
abbrev All : Nat → Prop := fun _ => True
theorem cellsAt_mono {w w' : World} {G : Nat → Nat} {b o : Nat} {vs : List Value} (h : cellsAt w b o vs) (hg : o + vs.length ≤ G b)
    (H : Imm All w G w') : cellsAt w' b o vs := by
  intro i v hv
  have hi : i < vs.length := by
    rcases Nat.lt_or_ge i vs.length with h' | h'
    · exact h'
    · simp [List.getElem?_eq_none h'] at hv
  exact H.cell _ _ _ trivial (by omega) (h i v hv)
structure Grow (w : World) (G : Nat → Nat) (B : Nat → Prop) (w' : World) (G' : Nat → Nat) (B' : Nat → Prop) : Prop where
  imm : Imm All w G w'
  mark : ∀ b, G b ≤ G' b
  size : w.heap.size ≤ w'.heap.size
  blk : ∀ b, b < w.heap.size → B b → B' b
mutual
theorem RdD_mono {w w' : World} {G G' : Nat → Nat} {B B' : Nat → Prop} (K : Grow w G B w' G' B') : ∀ (x : D) (v : Value), RdD w G B x v → RdD w' G' B' x v
  | .bool _, _, h => h
  | .int _ _, _, h => h
  | .str _, _, h => h
  | .agg cs, v, h => by
    simp only [RdD] at h ⊢
    obtain ⟨vs, e, h⟩ := h
    exact ⟨vs, e, RdDs_mono K cs vs h⟩
  | .row sz es, v, h => by
    simp only [RdD] at h ⊢
    rcases h with ⟨⟨p, cap, h⟩, he⟩ | ⟨b, o, cap, vs, e, hc, hb, hg, hv, h⟩
    · exact .inl ⟨⟨p, ⟨cap.1, cap.2.imp id fun ⟨b, h1, h2⟩ => ⟨b, Nat.lt_of_lt_of_le h1 K.size, K.blk b h1 h2⟩⟩, h⟩, he⟩
    · exact .inr ⟨b, o, cap, vs, e, hc, ⟨Nat.lt_of_lt_of_le hb.1 K.size, K.blk b hb.1 hb.2⟩, Nat.le_trans hg (K.mark b), cellsAt_mono hv (by rw [RdRow_len es vs h]; exact hg) K.imm, RdRow_mono K sz es vs h⟩
  | .nf, _, h => h
  | .np, _, h => h
  | .nm, _, h => h
theorem RdDs_mono {w w' : World} {G G' : Nat → Nat} {B B' : Nat → Prop} (K : Grow w G B w' G' B') : ∀ (xs : List D) (vs : List Value), RdDs w G B xs vs → RdDs w' G' B' xs vs
  | [], vs, h => by simp only [RdDs] at h ⊢; exact h
  | x :: xs, vs, h => by
    simp only [RdDs] at h ⊢
    obtain ⟨v, rest, e, h1, h2⟩ := h
    exact ⟨v, rest, e, RdD_mono K x v h1, RdDs_mono K xs rest h2⟩
theorem RdRow_mono {w w' : World} {G G' : Nat → Nat} {B B' : Nat → Prop} (K : Grow w G B w' G' B') (sz : Nat) : ∀ (xs : List D) (vs : List Value), RdRow w G B sz xs vs → RdRow w' G' B' sz xs vs
  | [], vs, h => by simp only [RdRow] at h ⊢; exact h
  | x :: xs, vs, h => by
    simp only [RdRow] at h ⊢
    obtain ⟨v, rest, e, hs, ho, h1, h2⟩ := h
    exact ⟨v, rest, e, hs, ho, RdD_mono K x v h1, RdRow_mono K sz xs rest h2⟩
end
theorem Imm.refl {Q : Nat → Prop} (w : World) (G : Nat → Nat) : Imm Q w G w := ⟨fun _ _ _ _ _ h => h, fun _ _ _ _ _ h => h⟩
theorem grow_weak {w : World} {G : Nat → Nat} {B B' : Nat → Prop} (hB : ∀ b, b < w.heap.size → B b → B' b) : Grow w G B w G B' := ⟨.refl _ _, fun _ => Nat.le_refl _, Nat.le_refl _, hB⟩
theorem RdD_weak' {w : World} {G : Nat → Nat} {B B' : Nat → Prop} (hB : ∀ b, b < w.heap.size → B b → B' b) {x : D} {v : Value} (h : RdD w G B x v) : RdD w G B' x v :=
  RdD_mono (grow_weak hB) x v h
theorem RdD_weak {w : World} {G : Nat → Nat} {B B' : Nat → Prop} (hB : ∀ b, B b → B' b) {x : D} {v : Value} (h : RdD w G B x v) : RdD w G B' x v :=
  RdD_mono (grow_weak fun b _ h => hB b h) x v h
theorem RdD_scalar {w : World} {G : Nat → Nat} {B B' : Nat → Prop} : ∀ {x : D} {v : Value}, x.scalar = true → RdD w G B x v → RdD w G B' x v
  | .bool _, _, _, h => h
  | .int _ _, _, _, h => h
  | .str _, _, _, h => h
  | .nf, _, _, h => h
  | .np, _, _, h => h
  | .nm, _, _, h => h
  | .agg _, _, hs, _ => by cases hs
  | .row _ _, _, hs, _ => by cases hs
theorem epB_meet_l {E : Nat} (e e' : Ep) (b : Nat) (h : epB E e b) : epB E (e.meet e') b := by
  cases e <;> cases e' <;> simp_all [epB, Ep.meet]
theorem epB_meet_r {E : Nat} (e e' : Ep) (b : Nat) (h : epB E e' b) : epB E (e.meet e') b := by
  cases e <;> cases e' <;> simp_all [epB, Ep.meet]
theorem RdD_epn {w : World} {G : Nat → Nat} {E : Nat} {ep : Ep} {x : D} {v : Value} (h : RdD w G (epB E ep) x v) : RdD w G (epB E (epn ep x)) x v := by
  cases x <;> first | exact h | exact RdD_scalar rfl h
theorem RdD_nilrow {w : World} {G : Nat → Nat} {B : Nat → Prop} {sz cap : Nat} {p : Option Addr} (h : cap = 0 ∨ ∃ b, b < w.heap.size ∧ B b) : RdD w G B (.row sz []) (.slice p 0 cap) := by
  simp only [RdD]
  exact .inl ⟨⟨p, ⟨cap, h⟩, rfl⟩, trivial⟩
def RdOwn (S : St) (w : World) (P : Nat → Prop) (sz : Nat) (es : List D) (ep : Ep) (v : Value) : Prop :=
  ((∃ p, v = .slice p es.length es.length) ∧ RdD w S.G (epB S.E ep) (.row sz es) v) ∨
    ∃ b o cap vs cs T, P b ∧ v = .slice (some ⟨b, o, none⟩) es.length cap ∧ w.heap[b]? = some (.cells cs T (0, 0)) ∧ es.length ≤ cap ∧ o + cap * sz ≤ cs.size ∧
      epB S.E ep b ∧ S.G b = o + es.length * sz ∧ cellsAt w b o vs ∧ RdRow w S.G (epB S.E ep) sz es vs
def RdUq (S : St) (w : World) (t sz : Nat) (es : List D) (ep : Ep) (v : Value) : Prop :=
  (S.β (2 * t + 1) = none ∧ es = [] ∧ v = .slice none 0 0) ∨
    ∃ b vs cs T, S.β (2 * t + 1) = some b ∧ v = .slice (some ⟨b, 0, none⟩) (S.ln t).1 (S.ln t).2 ∧ es.length = (S.ln t).1 ∧ w.heap[b]? = some (.cells cs T (0, 0)) ∧ (S.ln t).1 ≤ (S.ln t).2 ∧ (S.ln t).2 * sz ≤ cs.size ∧
      epB S.E ep b ∧ S.G b = 0 ∧ cellsAt w b 0 vs ∧ RdRow w S.G (epB S.E ep) sz es vs
def D.key : D → Bool
  | .int _ _ => true
  | .str _ => true
  | _ => false
def RdM (w : World) (G : Nat → Nat) (B : Nat → Prop) : List (D × D) → List MapEntry → Prop
  | [], es => es = []
  | (k, x) :: m, es => ∃ e rest, es = e :: rest ∧ k.key = true ∧ RdD w G B k e.key ∧ RdD w G B x e.val ∧ RdM w G B m rest
theorem RdM_mono {w w' : World} {G G' : Nat → Nat} {B B' : Nat → Prop} (K : Grow w G B w' G' B') : ∀ (m : List (D × D)) (es : List MapEntry), RdM w G B m es → RdM w' G' B' m es
  | [], es, h => h
  | (k, x) :: m, es, h => by
    obtain ⟨e, rest, he, hk, h1, h2, h3⟩ := h
    exact ⟨e, rest, he, hk, RdD_mono K k _ h1, RdD_mono K x _ h2, RdM_mono K m rest h3⟩
def notAgg : AV → Prop
  | .agg _ => False
  | _ => True
section
variable (φ : Nat → FuncId) (S : St) (w : World)
mutual
def RdA : AV → Value → Prop
  | .any, _ => True
  | .d ep x, v => RdD w S.G (epB S.E ep) x v
  | .agg cs, v => ∃ vs : List Value, v = .agg ⟨vs⟩ ∧ RdAs cs vs
  | .tup cs, v => ∃ vs : List Value, v = .tuple ⟨vs⟩ ∧ RdNs cs vs
  | .own t sz es ep, v => RdOwn S w (fun b => S.β (2 * t) = some b) sz es ep v
  | .uq t sz es ep, v => RdUq S w t sz es ep v
  | .up t sz n e off ep, v => ∃ b y, S.β (2 * t + 1) = some b ∧ v = .pointer (some ⟨b, n * sz + off, none⟩) ∧ RdD w S.G (epB S.E ep) e y ∧ cellsAt w b (n * sz) y.cells.toList ∧ y.cells.size = sz
  | .fresh _ _ _, _ => False
  | .pk _, _ => False
  | .at ep x off, v => ∃ b o y, v = .pointer (some ⟨b, o + off, none⟩) ∧ RdD w S.G (epB S.E ep) x y ∧ cellsAt w b o y.cells.toList ∧ o + y.cells.size ≤ S.G b
  | .cb cs off, v => ∃ b vs, v = .pointer (some ⟨b, off, none⟩) ∧ cellsAt w b 0 vs ∧ vs.length ≤ S.G b ∧ noOwn.noOwnL cs = true ∧ RdAs cs vs
  | .fb cs off, v => ∃ b vs, v = .pointer (some ⟨b, off, none⟩) ∧ cellsAt w b 0 vs ∧ (b < S.n0 ∧ ¬ S.X b ∧ b ∉ S.θ ∧ ∀ t, S.β t ≠ some b) ∧ noOwn.noOwnL cs = true ∧ RdAs cs vs
  | .sb sz n cs, v => ∃ b cap vs, v = .slice (some ⟨b, 0, none⟩) n cap ∧ n ≤ cap ∧ cs.length = n * sz ∧ cellsAt w b 0 vs ∧ vs.length ≤ S.G b ∧ noOwn.noOwnL cs = true ∧ RdAs cs vs
  | .mp id, v => ∃ b, S.θ[id]? = some b ∧ v = .map (some b)
  | .cmd ep m, v => ∃ b es k, v = .map (some b) ∧ w.heap[b]? = some (.map es k) ∧ 0 < S.G b ∧ RdM w S.G (epB S.E ep) m es.toList
  | .cm ks cs, v => ∃ b es k, v = .map (some b) ∧ w.heap[b]? = some (.map es k) ∧ 0 < S.G b ∧ RdKs cs ks es.toList
  | .ptr id off, v => ∃ b, S.θ[id]? = some b ∧ v = .pointer (some ⟨b, off, none⟩)
  | .fn f first cap, v => ∃ a c : List Value, v = .func (.func (φ f)) ⟨a⟩ ⟨c⟩ ∧ RdNs first a ∧ RdNs cap c
  | .ext i, v => S.xv[i]? = some v ∧ ∃ f x y, v = .func f x y
def RdAs : List AV → List Value → Prop
  | [], vs => vs = []
  | x :: xs, vs => ∃ v rest, vs = v :: rest ∧ notAgg x ∧ RdA x v ∧ RdAs xs rest
def RdNs : List AV → List Value → Prop
  | [], vs => vs = []
  | x :: xs, vs => ∃ v rest, vs = v :: rest ∧ noOwn x = true ∧ RdA x v ∧ RdNs xs rest
def RdKs : List AV → List D → List MapEntry → Prop
  | [], ks, es => ks = [] ∧ es = []
  | x :: xs, ks, es => ∃ k ks' e rest, ks = k :: ks' ∧ es = e :: rest ∧ k.key = true ∧ RdD w S.G (epB S.E .top) k e.key ∧ noOwn x = true ∧ RdA x e.val ∧ RdKs xs ks' rest
end
end
theorem RdAs_len {φ S w} : ∀ (xs : List AV) (vs : List Value), RdAs φ S w xs vs → vs.length = xs.length
  | [], vs, h => by simp only [RdAs] at h; simp [h]
  | x :: xs, vs, h => by
    simp only [RdAs] at h
    obtain ⟨v, rest, rfl, _, _, h⟩ := h
    simp [RdAs_len xs rest h]
def rawOk (T U : List Nat) (r : Nat) : Prop := (∀ t, r = 2 * t → memN t T = false) ∧ ∀ t, r = 2 * t + 1 → memN t U = false
theorem rawOk_nil (r : Nat) : rawOk [] [] r := ⟨fun _ _ => rfl, fun _ _ => rfl⟩
theorem rawOk_own {T U : List Nat} {t : Nat} (h : memN t T = false) : rawOk T U (2 * t) := ⟨fun u e => by (have : t = u := by omega); subst this; exact h, fun u e => by omega⟩
theorem rawOk_uq {T U : List Nat} {t : Nat} (h : memN t U = false) : rawOk T U (2 * t + 1) := ⟨fun u e => by omega, fun u e => by (have : t = u := by omega); subst this; exact h⟩
structure Keeps0 (T U : List Nat) (S : St) (w : World) (S' : St) (w' : World) : Prop where
  θ : ∀ (id b : Nat), S.θ[id]? = some b → S'.θ[id]? = some b
  E : S'.E = S.E
  xv : S'.xv = S.xv
  G : ∀ b, S.G b ≤ S'.G b
  size : w.heap.size ≤ w'.heap.size
  imm : Imm All w S.G w'
  own : ∀ r b, rawOk T U r → S.β r = some b → S'.β r = some b ∧ S'.G b = S.G b ∧ w'.heap[b]? = w.heap[b]?
  nil : ∀ t, memN t U = false → S.β (2 * t + 1) = none → S'.β (2 * t + 1) = none
  ln : ∀ t, memN t U = false → S'.ln t = S.ln t
structure Keeps (T U : List Nat) (S : St) (w : World) (S' : St) (w' : World) : Prop extends Keeps0 T U S w S' w' where
  old : ∀ b, b < S.n0 → ¬ S.X b → b ∉ S.θ → (∀ t, S.β t ≠ some b) → (b < S'.n0 ∧ ¬ S'.X b ∧ b ∉ S'.θ ∧ ∀ t, S'.β t ≠ some b) ∧ w'.heap[b]? = w.heap[b]?
def kill1 (U : List Nat) : AV → AV
  | .uq t sz es ep => match memN t U with | true => .any | false => .uq t sz es ep
  | .up t sz n e off ep => match memN t U with | true => .any | false => .up t sz n e off ep
  | v => v
def killL (U : List Nat) : List AV → List AV
  | [] => []
  | v :: vs => kill1 U v :: killL U vs
def killV (U : List Nat) : AV → AV
  | .agg cs => .agg (killL U cs)
  | v => kill1 U v
def killF (U : List Nat) : Fm → Fm
  | [] => []
  | v :: vs => killV U v :: killF U vs
def SE.kill (U : List Nat) : SE → SE
  | .bx cs => .bx (killL U cs)
  | s => s
theorem demote_noOwn (T : List Nat) : ∀ (x : AV), noOwn x = true → demote1 T x = x := by
  intro x hx
  cases x with
  | agg cs =>
    simp only [demote1, AV.agg.injEq]
    simp only [noOwn] at hx
    induction cs with
    | nil => rfl
    | cons c cs ih =>
      cases c <;> simp_all [noOwn.noOwnL, demoteL, demote]
  | own => cases hx
  | _ => rfl
theorem demoteL_noOwn (T : List Nat) (cs : List AV) (h : noOwn.noOwnL cs = true) : demoteL T cs = cs := by
  have := demote_noOwn T (.agg cs) h
  simpa [demote1] using this
theorem kill_noOwn (U : List Nat) : ∀ (x : AV), noOwn x = true → killV U x = x := by
  intro x hx
  cases x with
  | agg cs =>
    simp only [killV, AV.agg.injEq]
    simp only [noOwn] at hx
    induction cs with
    | nil => rfl
    | cons c cs ih =>
      cases c <;> simp_all [noOwn.noOwnL, killL, kill1]
  | uq => cases hx
  | up => cases hx
  | _ => rfl
theorem killL_noOwn (U : List Nat) (cs : List AV) (h : noOwn.noOwnL cs = true) : killL U cs = cs := by
  have := kill_noOwn U (.agg cs) h
  simpa [killV] using this
theorem RdOwn_d {S : St} {w : World} {P : Nat → Prop} {sz : Nat} {es : List D} {ep : Ep} {v : Value} (h : RdOwn S w P sz es ep v) :
    RdD w S.G (epB S.E ep) (.row sz es) v := by
  rcases h with h | ⟨b, o, cap, vs, cs, T, hP, e, hh, hcap, hsz, he, hg, hv, hr⟩
  · exact h.2
  · simp only [RdD]
    have hlt : b < w.heap.size := by
      rcases Nat.lt_or_ge b w.heap.size with h' | h'
      · exact h'
      · simp [Array.getElem?_eq_none h'] at hh
    exact .inr ⟨b, o, cap, vs, e, hcap, ⟨hlt, he⟩, by omega, hv, hr⟩
section
variable {φ : Nat → FuncId} {S S' : St} {w w' : World} {T U : List Nat}
theorem Keeps.grow (K : Keeps T U S w S' w') (ep : Ep) : Grow w S.G (epB S.E ep) w' S'.G (epB S'.E ep) := ⟨K.imm, K.G, K.size, fun b _ hb => by rw [K.E]; exact hb⟩
theorem Keeps.d (K : Keeps T U S w S' w') {ep : Ep} {x : D} {v : Value} (h : RdD w S.G (epB S.E ep) x v) : RdD w' S'.G (epB S'.E ep) x v :=
  RdD_mono (K.grow ep) x v h
theorem Keeps.row (K : Keeps T U S w S' w') {ep : Ep} {sz : Nat} {x : List D} {v : List Value} (h : RdRow w S.G (epB S.E ep) sz x v) : RdRow w' S'.G (epB S'.E ep) sz x v :=
  RdRow_mono (K.grow ep) sz x v h
theorem cellsAt_same {b o : Nat} {vs : List Value} (h : cellsAt w b o vs) (e : w'.heap[b]? = w.heap[b]?) : cellsAt w' b o vs := by
  intro i v hv
  have := h i v hv
  simp only [World.cell?, e] at this ⊢
  exact this
theorem Keeps.own_t (K : Keeps T U S w S' w') {t : Nat} (ht : memN t T = false) {sz : Nat} {es : List D} {ep : Ep} {v : Value} (h : RdOwn S w (fun b => S.β (2 * t) = some b) sz es ep v) :
    RdOwn S' w' (fun b => S'.β (2 * t) = some b) sz es ep v := by
  rcases h with h | ⟨b, o, cap, vs, cs, T, hP, e, hh, hcap, hsz, he, hg, hv, hr⟩
  · exact .inl ⟨h.1, K.d h.2⟩
  · obtain ⟨h1, h2, h3⟩ := K.own _ b (rawOk_own ht) hP
    exact .inr ⟨b, o, cap, vs, cs, T, h1, e, by rw [h3]; exact hh, hcap, hsz, by rw [K.E]; exact he, by rw [h2]; exact hg, cellsAt_same hv h3, K.row hr⟩
theorem Keeps.uq_t (K : Keeps T U S w S' w') {t : Nat} (ht : memN t U = false) {sz : Nat} {es : List D} {ep : Ep} {v : Value} (h : RdUq S w t sz es ep v) : RdUq S' w' t sz es ep v := by
  rcases h with ⟨h1, h2, h3⟩ | ⟨b, vs, cs, T, hP, e, hl, hh, hcap, hsz, he, hg, hv, hr⟩
  · exact .inl ⟨K.nil t ht h1, h2, h3⟩
  · obtain ⟨h1, h2, h3⟩ := K.own _ b (rawOk_uq ht) hP
    refine .inr ⟨b, vs, cs, T, h1, ?_, ?_, by rw [h3]; exact hh, ?_, ?_, by rw [K.E]; exact he, by rw [h2]; exact hg, cellsAt_same hv h3, K.row hr⟩
    all_goals rw [K.ln t ht]
    all_goals assumption
theorem notAgg_demote (T : List Nat) : ∀ x, notAgg x → notAgg (demote T x) := by
  intro x hx
  cases x with
  | own t sz es ep =>
    simp only [demote]
    cases memN t T <;> trivial
  | _ => exact hx
theorem notAgg_kill (U : List Nat) : ∀ x, notAgg x → notAgg (kill1 U x) := by
  intro x hx
  cases x with
  | uq t sz es ep =>
    simp only [kill1]
    cases memN t U <;> trivial
  | up t sz n e off ep =>
    simp only [kill1]
    cases memN t U <;> trivial
  | _ => exact hx
theorem demote1_notAgg (T : List Nat) : ∀ x, notAgg x → demote1 T x = demote T x := by
  intro x hx
  cases x <;> simp_all [notAgg, demote1]
theorem killV_notAgg (U : List Nat) : ∀ x, notAgg x → killV U x = kill1 U x := by
  intro x hx
  cases x <;> simp_all [notAgg, killV]
mutual
theorem RdA_keep (K : Keeps T U S w S' w') : ∀ (x : AV) (v : Value), RdA φ S w x v → RdA φ S' w' (killV U (demote1 T x)) v
  | .any, _, _ => trivial
  | .d ep x, v, h => K.d h
  | .agg cs, v, h => by
    simp only [RdA, demote1, killV] at h ⊢
    obtain ⟨vs, e, h⟩ := h
    exact ⟨vs, e, RdAs_keep K cs vs h⟩
  | .tup cs, v, h => by
    simp only [RdA, demote1, demote, killV, kill1] at h ⊢
    obtain ⟨vs, e, h⟩ := h
    exact ⟨vs, e, RdNs_keep K cs vs h⟩
  | .own t sz es ep, v, h => by
    simp only [RdA, demote1, demote] at h ⊢
    cases ht : memN t T with
    | true => exact K.d (RdOwn_d h)
    | false => exact K.own_t ht h
  | .uq t sz es ep, v, h => by
    simp only [RdA, demote1, demote, killV, kill1] at h ⊢
    cases ht : memN t U with
    | true => trivial
    | false => exact K.uq_t ht h
  | .up t sz n e off ep, v, h => by
    simp only [RdA, demote1, demote, killV, kill1] at h ⊢
    cases ht : memN t U with
    | true => trivial
    | false =>
      simp only [RdA]
      obtain ⟨b, y, hb, he, hy, hc, hs⟩ := h
      obtain ⟨h1, h2, h3⟩ := K.own _ b (rawOk_uq ht) hb
      exact ⟨b, y, h1, he, K.d hy, cellsAt_same hc h3, hs⟩
  | .fresh sz es ep, v, h => by simp only [RdA] at h
  | .pk r, v, h => by simp only [RdA] at h
  | .at ep x off, v, h => by
    simp only [RdA, demote1, demote, killV, kill1] at h ⊢
    obtain ⟨b, o, y, e, hy, hc, hg⟩ := h
    exact ⟨b, o, y, e, K.d hy, cellsAt_mono hc (by simpa using hg) K.imm, Nat.le_trans hg (K.G b)⟩
  | .cb cs off, v, h => by
    simp only [RdA, demote1, demote, killV, kill1] at h ⊢
    obtain ⟨b, vs, e, hc, hg, ho, hn⟩ := h
    have h3 := RdAs_keep K cs vs hn
    rw [demoteL_noOwn T cs ho, killL_noOwn U cs ho] at h3
    exact ⟨b, vs, e, cellsAt_mono hc (by omega) K.imm, Nat.le_trans hg (K.G b), ho, h3⟩
  | .fb cs off, v, h => by
    simp only [RdA, demote1, demote, killV, kill1] at h ⊢
    obtain ⟨b, vs, e, hc, ⟨hb, hX, hθ, hβ⟩, ho, hn⟩ := h
    have h3 := RdAs_keep K cs vs hn
    rw [demoteL_noOwn T cs ho, killL_noOwn U cs ho] at h3
    obtain ⟨h1, h2⟩ := K.old b hb hX hθ hβ
    exact ⟨b, vs, e, cellsAt_same hc h2, h1, ho, h3⟩
  | .sb sz n cs, v, h => by
    simp only [RdA, demote1, demote, killV, kill1] at h ⊢
    obtain ⟨b, cap, vs, e, h1, h2, hc, hg, ho, hn⟩ := h
    have h3 := RdAs_keep K cs vs hn
    rw [demoteL_noOwn T cs ho, killL_noOwn U cs ho] at h3
    exact ⟨b, cap, vs, e, h1, h2, cellsAt_mono hc (by omega) K.imm, Nat.le_trans hg (K.G b), ho, h3⟩
  | .mp id, v, h => by
    simp only [RdA, demote1, demote, killV, kill1] at h ⊢
    obtain ⟨b, hb, e⟩ := h
    exact ⟨b, K.θ _ _ hb, e⟩
  | .cmd ep m, v, h => by
    simp only [RdA, demote1, demote, killV, kill1] at h ⊢
    obtain ⟨b, es, k, e, hb, hg, hm⟩ := h
    exact ⟨b, es, k, e, K.imm.map b es k trivial hg hb, Nat.lt_of_lt_of_le hg (K.G b), RdM_mono (K.grow ep) m _ hm⟩
  | .cm ks cs, v, h => by
    simp only [RdA, demote1, demote, killV, kill1] at h ⊢
    obtain ⟨b, es, k, e, hb, hg, hm⟩ := h
    exact ⟨b, es, k, e, K.imm.map b es k trivial hg hb, Nat.lt_of_lt_of_le hg (K.G b), RdKs_keep K cs ks _ hm⟩
  | .ptr id off, v, h => by
    simp only [RdA, demote1, demote, killV, kill1] at h ⊢
    obtain ⟨b, hb, e⟩ := h
    exact ⟨b, K.θ _ _ hb, e⟩
  | .fn f a c, v, h => by
    simp only [RdA, demote1, demote, killV, kill1] at h ⊢
    obtain ⟨va, vc, e, h1, h2⟩ := h
    exact ⟨va, vc, e, RdNs_keep K a va h1, RdNs_keep K c vc h2⟩
  | .ext i, v, h => by
    simp only [RdA, demote1, demote, killV, kill1] at h ⊢
    rw [K.xv]; exact h
theorem RdAs_keep (K : Keeps T U S w S' w') : ∀ (xs : List AV) (vs : List Value), RdAs φ S w xs vs → RdAs φ S' w' (killL U (demoteL T xs)) vs
  | [], vs, h => by simp only [RdAs, demoteL, killL] at h ⊢; exact h
  | x :: xs, vs, h => by
    simp only [RdAs, demoteL, killL] at h ⊢
    obtain ⟨v, rest, e, hn, h1, h2⟩ := h
    have h3 := RdA_keep K x v h1
    have hn2 := notAgg_demote T x hn
    rw [demote1_notAgg T x hn, killV_notAgg U _ hn2] at h3
    exact ⟨v, rest, e, notAgg_kill U _ hn2, h3, RdAs_keep K xs rest h2⟩
theorem RdNs_keep (K : Keeps T U S w S' w') : ∀ (xs : List AV) (vs : List Value), RdNs φ S w xs vs → RdNs φ S' w' xs vs
  | [], vs, h => by simp only [RdNs] at h ⊢; exact h
  | x :: xs, vs, h => by
    simp only [RdNs] at h ⊢
    obtain ⟨v, rest, e, hn, h1, h2⟩ := h
    have h3 := RdA_keep K x v h1
    rw [demote_noOwn T x hn, kill_noOwn U x hn] at h3
    exact ⟨v, rest, e, hn, h3, RdNs_keep K xs rest h2⟩
theorem RdKs_keep (K : Keeps T U S w S' w') : ∀ (xs : List AV) (ks : List D) (es : List MapEntry), RdKs φ S w xs ks es → RdKs φ S' w' xs ks es
  | [], ks, es, h => by simp only [RdKs] at h ⊢; exact h
  | x :: xs, ks, es, h => by
    simp only [RdKs] at h ⊢
    obtain ⟨k, ks', e, rest, e1, e2, hk, h0, hn, h1, h2⟩ := h
    have h3 := RdA_keep K x _ h1
    rw [demote_noOwn T x hn, kill_noOwn U x hn] at h3
    exact ⟨k, ks', e, rest, e1, e2, hk, K.d h0, hn, h3, RdKs_keep K xs ks' rest h2⟩
end
end
theorem demote_nil (x : AV) : demote [] x = x := by cases x <;> rfl
theorem demoteL_nil : ∀ xs : List AV, demoteL [] xs = xs
  | [] => rfl
  | x :: xs => by simp [demoteL, demote_nil, demoteL_nil xs]
theorem demote1_nil (x : AV) : demote1 [] x = x := by
  cases x with
  | agg cs => simp [demote1, demoteL_nil]
  | _ => rfl
theorem kill_nil (x : AV) : kill1 [] x = x := by cases x <;> rfl
theorem killL_nil : ∀ xs : List AV, killL [] xs = xs
  | [] => rfl
  | x :: xs => by simp [killL, kill_nil, killL_nil xs]
theorem killV_nil (x : AV) : killV [] x = x := by
  cases x with
  | agg cs => simp [killV, killL_nil]
  | _ => rfl
theorem killF_nil : ∀ xs : Fm, killF [] xs = xs
  | [] => rfl
  | x :: xs => by simp [killF, killV_nil, killF_nil xs]
def RdF (φ : Nat → FuncId) (S : St) (w : World) : Fm → List Value → Prop
  | [], vs => vs = []
  | x :: xs, vs => ∃ v rest, vs = v :: rest ∧ RdA φ S w x v ∧ RdF φ S w xs rest
theorem RdF_keepU {φ S w S' w' T U} (K : Keeps T U S w S' w') : ∀ (xs : Fm) (vs : List Value), RdF φ S w xs vs → RdF φ S' w' (killF U (demoteA T xs)) vs
  | [], vs, h => h
  | x :: xs, vs, h => by
    obtain ⟨v, rest, e, h1, h2⟩ := h
    exact ⟨v, rest, e, RdA_keep K x v h1, RdF_keepU K xs rest h2⟩
theorem RdF_keep {φ S w S' w' T} (K : Keeps T [] S w S' w') (xs : Fm) (vs : List Value) (h : RdF φ S w xs vs) : RdF φ S' w' (demoteA T xs) vs := by
  have := RdF_keepU K xs vs h
  rwa [killF_nil] at this
theorem demoteA_nil : ∀ xs : Fm, demoteA [] xs = xs
  | [] => rfl
  | x :: xs => by simp [demoteA, demote1_nil, demoteA_nil xs]
theorem RdF_len {φ S w} : ∀ (xs : Fm) (vs : List Value), RdF φ S w xs vs → vs.length = xs.length
  | [], vs, h => by simp [show vs = [] from h]
  | x :: xs, vs, h => by
    obtain ⟨v, rest, rfl, _, h⟩ := h
    simp [RdF_len xs rest h]
theorem RdF_get {φ S w} : ∀ (xs : Fm) (vs : List Value) (t : Nat), RdF φ S w xs vs → RdA φ S w (gt xs t) (vs[t]?.getD undef)
  | [], vs, t, h => by simp only [gt]; trivial
  | x :: xs, vs, 0, h => by
    obtain ⟨v, rest, rfl, h1, _⟩ := h
    exact h1
  | x :: xs, vs, t + 1, h => by
    obtain ⟨v, rest, rfl, _, h⟩ := h
    simpa [gt] using RdF_get xs rest t h
theorem RdF_set {φ S w} {y : AV} {u : Value} (hy : RdA φ S w y u) : ∀ (xs : Fm) (vs : List Value) (t : Nat), RdF φ S w xs vs → RdF φ S w (upd xs t y) (vs.set t u)
  | [], vs, t, h => by simp only [upd]; simp [show vs = [] from h, RdF]
  | x :: xs, vs, 0, h => by
    obtain ⟨v, rest, rfl, _, h⟩ := h
    exact ⟨u, rest, rfl, hy, h⟩
  | x :: xs, vs, t + 1, h => by
    obtain ⟨v, rest, rfl, h1, h⟩ := h
    exact ⟨v, rest.set t u, rfl, h1, RdF_set hy xs rest t h⟩
end Go.Ly
end
section
namespace Go.Ly
structure Env where
  P : Program
  φ : Nat → FuncId
  ν : FuncId → Option Nat
  inv : ∀ f k, ν f = some k → φ k = f
  gl : List (Nat × List Value)
section
variable {E : Env} {S : St} {w : World} {A : Fm} {a : Act}
theorem eval_tmp (t : Nat) : a.eval (.tmp t) = (a.tmps.toList[t]?).getD undef := by
  simp [Act.eval]
theorem constA_sound {t : TypeId} {v : Value} {x : AV} (h : constA E.P t v = some x) : RdA E.φ S w x v ∧ noOwn x = true := by
  cases v <;> simp only [constA, Option.some.injEq, reduceCtorEq] at h
  case bool b => subst h; exact ⟨rfl, rfl⟩
  case int k n => subst h; exact ⟨rfl, rfl⟩
  case string s => subst h; exact ⟨by simp [RdA, RdD], rfl⟩
  case pointer a =>
    cases a <;> simp only [Option.some.injEq, reduceCtorEq] at h
    subst h; exact ⟨rfl, rfl⟩
  case slice b n c =>
    split at h
    all_goals (simp only [Option.some.injEq, reduceCtorEq] at h)
    all_goals simp_all
    subst h
    exact ⟨by simp [RdA, RdD], rfl⟩
  case nilFunc => subst h; exact ⟨rfl, rfl⟩
  case map a =>
    cases a <;> simp only [Option.some.injEq, reduceCtorEq] at h
    subst h; exact ⟨rfl, rfl⟩
theorem opnd_sound {t : TypeId} {x : Operand} {y : AO} (h : opnd E.P E.ν t x = some y) (hA : RdF E.φ S w A a.tmps.toList) : RdA E.φ S w (y.ev A) (a.eval x) := by
  cases x with
  | tmp n =>
    simp only [opnd, Option.some.injEq] at h
    subst h
    rw [eval_tmp]
    exact RdF_get A _ n hA
  | const v =>
    simp only [opnd, Option.map_eq_some_iff] at h
    obtain ⟨x, hx, rfl⟩ := h
    exact (constA_sound hx).1
  | global g => simp [opnd] at h
  | func f =>
    simp only [opnd, Option.map_eq_some_iff] at h
    obtain ⟨k, hk, rfl⟩ := h
    simp only [AO.ev, RdA, Act.eval]
    exact ⟨[], [], by rw [E.inv f k hk], by simp [RdNs], by simp [RdNs]⟩
end
def Gives (E : Env) (S : St) (w : World) (a : Act) (o : Oper) (v : AV) : Prop :=
  ∃ u, (execOp a.eval o).run E.P w = .ok (.value u) w ∧ RdA E.φ S w v u
section
variable {E : Env} {S : St} {w : World} {A : Fm} {a : Act} {o : Oper}
theorem g_mv {t} {x : Operand} {y : AO} (hop : o.op = .move x ∨ o.op = .assign x) (hx : opnd E.P E.ν t x = some y) (hA : RdF E.φ S w A a.tmps.toList) :
    Gives E S w a o (y.ev A) := by
  refine ⟨a.eval x, ?_, opnd_sound hx hA⟩
  rcases hop with hop | hop <;> simp [execOp, hop]
theorem g_nil {x : Operand} (hop : o.op = .move x ∨ o.op = .assign x) (hx : isNil x = true) (t sz : Nat) :
    Gives E S w a o (.own t sz [] .top) := by
  cases x with
  | const v =>
    refine ⟨v, ?_, ?_⟩
    · rcases hop with hop | hop <;> simp [execOp, hop, Act.eval]
    · unfold isNil at hx
      split at hx
      · rename_i heq
        cases heq
        exact .inl ⟨⟨none, rfl⟩, (RdD_nilrow (.inl rfl))⟩
      · cases hx
  | _ => cases hx
theorem g_pick {c x y : Operand} {c' x' y' : AO} {t t' t'' : TypeId} (hop : o.op = .pick c x y) (hc : opnd E.P E.ν t c = some c') (hx : opnd E.P E.ν t' x = some x')
    (hy : opnd E.P E.ν t'' y = some y') (hA : RdF E.φ S w A a.tmps.toList) {ep : Ep} {b : Bool} (hb : c'.ev A = .d ep (.bool b)) :
    Gives E S w a o (if b then x'.ev A else y'.ev A) := by
  have h := opnd_sound hc hA
  rw [hb] at h
  have h' : a.eval c = .bool b := h
  refine ⟨if b then a.eval x else a.eval y, ?_, ?_⟩
  · simp only [execOp, hop, h', asBool]
    cases b <;> rfl
  · cases b
    · exact opnd_sound hy hA
    · exact opnd_sound hx hA
def RdC (E : Env) (S : St) (w : World) (cs : List AV) (vs : List Value) : Prop := RdAs E.φ S w cs vs
theorem RdDs_dcells {ep : Ep} : ∀ (xs : List D) (vs : List Value), RdDs w S.G (epB S.E ep) xs vs → RdAs E.φ S w (dcells ep xs) vs
  | [], vs, h => by simp only [RdDs] at h; simp only [dcells, RdAs]; exact h
  | x :: xs, vs, h => by
    simp only [RdDs] at h
    obtain ⟨v, rest, e, h1, h2⟩ := h
    simp only [dcells, RdAs]
    exact ⟨v, rest, e, trivial, h1, RdDs_dcells xs rest h2⟩
theorem RdAs_one {x : AV} {v : Value} (hx : notAgg x) (h : RdA E.φ S w x v) : RdAs E.φ S w [x] [v] := by
  simp only [RdAs]
  exact ⟨v, [], rfl, hx, h, rfl⟩
theorem cells_sound : ∀ {x : AV} {v : Value} {cs : List AV}, RdA E.φ S w x v → x.cells = some cs → RdAs E.φ S w cs v.cells.toList := by
  intro x v cs h hc
  cases x with
  | any => cases hc
  | tup cs => cases hc
  | fresh => simp [RdA] at h
  | pk => simp [RdA] at h
  | agg cs =>
    simp only [AV.cells, Option.some.injEq] at hc
    subst hc
    simp only [RdA] at h
    obtain ⟨vs, rfl, h⟩ := h
    exact h
  | d ep x =>
    cases x with
    | agg ds =>
      simp only [AV.cells, Option.some.injEq] at hc
      subst hc
      simp only [RdA, RdD] at h
      obtain ⟨vs, rfl, h⟩ := h
      exact RdDs_dcells ds vs h
    | bool b =>
      obtain rfl : v = .bool b := h
      cases hc; exact RdAs_one trivial rfl
    | int k n =>
      obtain rfl : v = .int k n := h
      cases hc; exact RdAs_one trivial rfl
    | str s =>
      obtain rfl : v = .string ⟨s.toArray⟩ := h
      cases hc; exact RdAs_one trivial rfl
    | nf =>
      obtain rfl : v = .nilFunc := h
      cases hc; exact RdAs_one trivial rfl
    | np =>
      obtain rfl : v = .pointer none := h
      cases hc; exact RdAs_one trivial rfl
    | nm =>
      obtain rfl : v = .map none := h
      cases hc; exact RdAs_one trivial rfl
    | row sz es =>
      have h0 := h
      cases hc
      simp only [RdA, RdD] at h
      rcases h with ⟨⟨p, cap, rfl⟩, _⟩ | ⟨b, o, cap, vs, rfl, _⟩ <;> exact RdAs_one trivial h0
  | own t sz es ep =>
    have h0 := h
    cases hc
    rcases h with ⟨⟨p, rfl⟩, _⟩ | ⟨b, o, cap, vs, cs, T, _, rfl, _⟩ <;> exact RdAs_one trivial h0
  | uq t sz es ep =>
    have h0 := h
    cases hc
    rcases h with ⟨_, _, rfl⟩ | ⟨b, vs, cs, T, _, rfl, _⟩ <;> exact RdAs_one trivial h0
  | up t sz n e off ep =>
    have h0 := h
    cases hc
    simp only [RdA] at h
    obtain ⟨b, y, _, rfl, _⟩ := h
    exact RdAs_one trivial h0
  | sb sz n cs =>
    have h0 := h
    cases hc
    simp only [RdA] at h
    obtain ⟨b, cap, vs, rfl, _⟩ := h
    exact RdAs_one trivial h0
  | mp id =>
    have h0 := h
    cases hc
    simp only [RdA] at h
    obtain ⟨b, _, rfl⟩ := h
    exact RdAs_one trivial h0
  | cmd ep m =>
    have h0 := h
    cases hc
    simp only [RdA] at h
    obtain ⟨b, es, k, rfl, _⟩ := h
    exact RdAs_one trivial h0
  | cm ks vs =>
    have h0 := h
    cases hc
    simp only [RdA] at h
    obtain ⟨b, es, k, rfl, _⟩ := h
    exact RdAs_one trivial h0
  | «at» ep x off =>
    have h0 := h
    cases hc
    simp only [RdA] at h
    obtain ⟨b, o, y, rfl, _⟩ := h
    exact RdAs_one trivial h0
  | cb cs off =>
    have h0 := h
    cases hc
    simp only [RdA] at h
    obtain ⟨b, vs, rfl, _⟩ := h
    exact RdAs_one trivial h0
  | fb cs off =>
    have h0 := h
    cases hc
    simp only [RdA] at h
    obtain ⟨b, vs, rfl, _⟩ := h
    exact RdAs_one trivial h0
  | ptr id off =>
    have h0 := h
    cases hc
    simp only [RdA] at h
    obtain ⟨b, _, rfl⟩ := h
    exact RdAs_one trivial h0
  | fn f x c =>
    have h0 := h
    cases hc
    simp only [RdA] at h
    obtain ⟨va, vc, rfl, _⟩ := h
    exact RdAs_one trivial h0
  | ext i =>
    have h0 := h
    cases hc
    simp only [RdA] at h
    obtain ⟨_, f, x, y, rfl⟩ := h
    exact RdAs_one trivial h0
theorem len_eq : ∀ l : List AV, len l = l.length
  | [] => rfl
  | _ :: l => by simp [len, len_eq l]
theorem dlen_eq : ∀ l : List D, dlen l = l.length
  | [] => rfl
  | _ :: l => by simp [dlen, dlen_eq l]
theorem natEq_iff {a b : Nat} : natEq a b = true ↔ a = b := by simp [natEq]
theorem natLe_iff {a b : Nat} : natLe a b = true ↔ a ≤ b := by simp [natLe]
theorem RdAs_get : ∀ {cs : List AV} {vs : List Value} (i : Nat), RdAs E.φ S w cs vs → i < cs.length → ∃ v, vs[i]? = some v ∧ notAgg (gt cs i) ∧ RdA E.φ S w (gt cs i) v
  | [], vs, i, _, hi => absurd hi (by simp)
  | x :: xs, vs, 0, h, _ => by
    simp only [RdAs] at h
    obtain ⟨v, rest, rfl, h1, h2, _⟩ := h
    exact ⟨v, rfl, h1, h2⟩
  | x :: xs, vs, i + 1, h, hi => by
    simp only [RdAs] at h
    obtain ⟨v, rest, rfl, _, _, h⟩ := h
    simpa [gt] using RdAs_get i h (by simpa using hi)
theorem RdAs_take : ∀ {cs : List AV} {vs : List Value} (n off : Nat), RdAs E.φ S w cs vs → off + n ≤ cs.length → RdAs E.φ S w (takeCells cs off n) ((vs.drop off).take n)
  | cs, vs, 0, off, _, _ => by simp [takeCells, RdAs]
  | cs, vs, n + 1, off, h, hl => by
    obtain ⟨v, hv, h1, h2⟩ := RdAs_get off h (by omega)
    have ih := RdAs_take n (off + 1) h (by omega)
    have hlt : off < vs.length := by rw [RdAs_len cs vs h]; omega
    have hd : vs.drop off = v :: vs.drop (off + 1) := by
      rw [List.drop_eq_getElem_cons hlt]
      congr 1
      rw [List.getElem?_eq_getElem hlt] at hv
      exact Option.some.inj hv
    simp only [takeCells, RdAs, hd, List.take_succ_cons]
    exact ⟨v, _, rfl, h1, h2, ih⟩
theorem toDs_sound : ∀ {cs : List AV} {vs : List Value} {ep : Ep} {ds : List D}, RdAs E.φ S w cs vs → toDs cs = some (ep, ds) → RdDs w S.G (epB S.E ep) ds vs
  | [], vs, ep, ds, h, ht => by
    simp only [toDs, Option.some.injEq, Prod.mk.injEq] at ht
    obtain ⟨rfl, rfl⟩ := ht
    simp only [RdAs] at h
    simp only [RdDs]; exact h
  | c :: cs, vs, ep, ds, h, ht => by
    simp only [RdAs] at h
    obtain ⟨v, rest, rfl, _, h1, h2⟩ := h
    simp only [toDs] at ht
    cases c <;> simp only [toD1, reduceCtorEq] at ht
    rename_i e x
    split at ht
    · cases ht
    · rename_i e' xs heq
      simp only [Option.some.injEq, Prod.mk.injEq] at ht
      obtain ⟨rfl, rfl⟩ := ht
      simp only [RdDs]
      refine ⟨v, rest, rfl, RdD_weak (fun b hb => epB_meet_l _ _ b hb) (RdD_epn h1), ?_⟩
      exact RdDs_mono (grow_weak fun b _ hb => epB_meet_r _ _ b hb) _ _ (toDs_sound h2 heq)
theorem mkAgg_sound {cs : List AV} {vs : List Value} (h : RdAs E.φ S w cs vs) : RdA E.φ S w (mkAgg cs) (.agg ⟨vs⟩) := by
  unfold mkAgg
  split
  · rename_i ep ds heq
    simp only [RdA, RdD]
    exact ⟨vs, rfl, toDs_sound h heq⟩
  · simp only [RdA]
    exact ⟨vs, rfl, h⟩
theorem one_sound {cs : List AV} {vs : List Value} (h : RdAs E.φ S w cs vs) (off n : Nat) (hl : off + n ≤ cs.length) (ag : Bool) (hag : ag = false → n = 1) :
    RdA E.φ S w (one (takeCells cs off n) ag) (if ag then .agg ⟨(vs.drop off).take n⟩ else (vs[off]?).getD undef) := by
  have ht := RdAs_take n off h hl
  cases ag with
  | true => exact mkAgg_sound ht
  | false =>
    obtain rfl := hag rfl
    obtain ⟨v, hv, _, h2⟩ := RdAs_get off h (by omega)
    simp only [one, takeCells, gt, hv]
    exact h2
end
end Go.Ly
end
section
namespace Go.Ly
section
variable {E : Env} {S : St} {w : World} {A : Fm} {σ : Sto} {a : Act} {o : Oper}
theorem aggT_some {P : Program} {t : TypeId} {b : Bool} (h : aggT P t = some b) (w : World) : (isAgg t).run P w = .ok b w := by
  unfold aggT at h
  unfold isAgg
  cases hu : P.underlying t with
  | none => rw [hu] at h; cases h
  | some d =>
    rw [hu] at h
    simp only [Sem.run_bind, run_underlying hu, Result.andThen_ok]
    cases d <;> simp_all
theorem sizeT_some {P : Program} {t : TypeId} {n : Nat} (h : sizeT P t = some n) (w : World) : (sizeOf t).run P w = .ok n w := by
  simp only [sizeT, Option.map_eq_some_iff] at h
  obtain ⟨i, hi, rfl⟩ := h
  simp [sizeOf, typeInfo, hi]
theorem add_addr (b o i : Nat) : (⟨b, o, none⟩ : Addr).add i = ⟨b, o + i, none⟩ := by
  unfold Addr.add
  split
  · rename_i h; simp [h]
  · rfl
theorem run_ld {P : Program} {t : TypeId} {n : Nat} {ag : Bool} {b o : Nat} {vs : List Value} (hs : sizeT P t = some n) (ha : aggT P t = some ag)
    (hag : ag = false → n = 1) (hc : ∀ i, i < n → w.cell? ⟨b, o + i, none⟩ = vs[i]?) (hl : n ≤ vs.length) :
    (Instr.loadAt t (.pointer (some ⟨b, o, none⟩))).run P w = .ok (if ag then .agg ⟨vs.take n⟩ else (vs[0]?).getD undef) w := by
  simp only [Instr.loadAt, Instr.sureAddr, Sem.run_bind, Sem.run_pure, Result.andThen_ok, loadVar, aggT_some ha]
  cases ag with
  | true =>
    have := run_loadCells_list (P := P) w ⟨b, o, none⟩ (vs.take n) (fun j v hj => by
      have hjn : j < n := by
        rcases Nat.lt_or_ge j n with h | h
        · exact h
        · simp [List.getElem?_take, Nat.not_lt.2 h] at hj
      rw [add_addr, hc j hjn]
      simpa [List.getElem?_take, hjn] using hj)
    rw [List.length_take, Nat.min_eq_left hl] at this
    simp [sizeT_some hs, this]
  | false =>
    obtain rfl := hag rfl
    have h0 := hc 0 (by omega)
    simp only [Nat.add_zero] at h0
    have : vs[0]? = some vs[0] := List.getElem?_eq_getElem (by omega)
    simp [h0, this]
theorem cell_of_box {b T : Nat} {vs : List Value} {fr} (h : w.heap[b]? = some (.cells ⟨vs⟩ T fr)) (i : Nat) : w.cell? ⟨b, i, none⟩ = vs[i]? := by
  simp [World.cell?, h]
def BoxAt (E : Env) (S : St) (w : World) (b : Nat) (cs : List AV) : Prop :=
  ∃ vs T, w.heap[b]? = some (.cells ⟨vs⟩ T (0, 0)) ∧ RdAs E.φ S w cs vs
theorem getS_eq : ∀ (σ : Sto) (id : Nat), getS σ id = σ[id]?
  | [], _ => rfl
  | _ :: _, 0 => rfl
  | _ :: l, n + 1 => by simp [getS, getS_eq l n]
def Boxes (E : Env) (S : St) (w : World) (σ : Sto) : Prop :=
  ∀ (id b : Nat) cs, S.θ[id]? = some b → σ[id]? = some (.bx cs) → BoxAt E S w b cs
theorem dcells_sound {ep : Ep} {z : D} {v : Value} (h : RdA E.φ S w (.d ep z) v) : RdAs E.φ S w (dcells ep z.cells) v.cells.toList := by
  cases z with
  | agg ds =>
    simp only [RdA, RdD] at h
    obtain ⟨vs, rfl, h⟩ := h
    exact RdDs_dcells ds vs h
  | bool b => exact cells_sound h rfl
  | int k n => exact cells_sound h rfl
  | str s => exact cells_sound h rfl
  | row sz es => exact cells_sound h rfl
  | nf => exact cells_sound h rfl
  | np => exact cells_sound h rfl
  | nm => exact cells_sound h rfl
theorem g_ld {t : TypeId} {x : Operand} {y : AO} {n : Nat} {ag : Bool} {q : Prop} {v : AV} (hop : o.op = .load t x) (hx : opnd E.P E.ν 0 x = some y)
    (hs : sizeT E.P t = some n) (ha : aggT E.P t = some ag) (hag : ag = false → n = 1) (hA : RdF E.φ S w A a.tmps.toList) (hB : Boxes E S w σ)
    (hv : loadA σ (y.ev A) n ag = some (q, v)) : Gives E S w a o v := by
  have h := opnd_sound hx hA
  unfold loadA at hv
  split at hv
  · rename_i id off heq
    rw [heq] at h
    simp only [RdA] at h
    obtain ⟨b, hb, hp⟩ := h
    rw [getS_eq] at hv
    split at hv
    · rename_i cs hcs
      obtain ⟨vs, T, hh, hr⟩ := hB id b cs hb hcs
      split at hv
      · rename_i hle
        simp only [yes, Option.some.injEq, Prod.mk.injEq] at hv
        obtain ⟨_, rfl⟩ := hv
        rw [natLe_iff, len_eq] at hle
        have hlen := RdAs_len cs vs hr
        refine ⟨_, ?_, one_sound hr off n hle ag hag⟩
        have := run_ld (w := w) (P := E.P) (b := b) (o := off) (vs := vs.drop off) hs ha hag (fun i _ => by rw [cell_of_box hh]; simp) (by simp; omega)
        simp only [execOp, hop, hp, Sem.run_bind, this, Result.andThen_ok, Sem.run_pure]
        cases ag <;> simp
      · cases hv
    · cases hv
  · rename_i cs off heq
    rw [heq] at h
    simp only [RdA] at h
    obtain ⟨b, vs, hp, hc, hg, hno, hr⟩ := h
    split at hv
    · rename_i hle
      simp only [yes, Option.some.injEq, Prod.mk.injEq] at hv
      obtain ⟨_, rfl⟩ := hv
      rw [natLe_iff, len_eq] at hle
      have hlen := RdAs_len cs vs hr
      refine ⟨_, ?_, one_sound hr off n hle ag hag⟩
      have := run_ld (w := w) (P := E.P) (b := b) (o := off) (vs := vs.drop off) hs ha hag (fun i hi => by
        have hlt : off + i < vs.length := by omega
        have := hc (off + i) _ (List.getElem?_eq_getElem hlt)
        simp only [Nat.zero_add] at this
        rw [this, List.getElem?_drop, List.getElem?_eq_getElem hlt]) (by simp; omega)
      simp only [execOp, hop, hp, Sem.run_bind, this, Result.andThen_ok, Sem.run_pure]
      cases ag <;> simp
    · cases hv
  · rename_i cs off heq
    rw [heq] at h
    simp only [RdA] at h
    obtain ⟨b, vs, hp, hc, _, hno, hr⟩ := h
    split at hv
    · rename_i hle
      simp only [yes, Option.some.injEq, Prod.mk.injEq] at hv
      obtain ⟨_, rfl⟩ := hv
      rw [natLe_iff, len_eq] at hle
      have hlen := RdAs_len cs vs hr
      refine ⟨_, ?_, one_sound hr off n hle ag hag⟩
      have := run_ld (w := w) (P := E.P) (b := b) (o := off) (vs := vs.drop off) hs ha hag (fun i hi => by
        have hlt : off + i < vs.length := by omega
        have := hc (off + i) _ (List.getElem?_eq_getElem hlt)
        simp only [Nat.zero_add] at this
        rw [this, List.getElem?_drop, List.getElem?_eq_getElem hlt]) (by simp; omega)
      simp only [execOp, hop, hp, Sem.run_bind, this, Result.andThen_ok, Sem.run_pure]
      cases ag <;> simp
    · cases hv
  · rename_i ep z off heq
    rw [heq] at h
    simp only [RdA] at h
    obtain ⟨b, o', yv, hp, hr, hc, hg⟩ := h
    split at hv
    · rename_i hle
      simp only [yes, Option.some.injEq, Prod.mk.injEq] at hv
      obtain ⟨_, rfl⟩ := hv
      rw [natLe_iff, dlen_eq] at hle
      have hr' : RdAs E.φ S w (dcells ep z.cells) yv.cells.toList := dcells_sound hr
      have hlen := RdAs_len _ _ hr'
      have hdl : (dcells ep z.cells).length = z.cells.length := by
        generalize z.cells = l
        induction l with
        | nil => rfl
        | cons c l ih => simp [dcells, ih]
      refine ⟨_, ?_, one_sound hr' off n (by omega) ag hag⟩
      have := run_ld (w := w) (P := E.P) (b := b) (o := o' + off) (vs := yv.cells.toList.drop off) hs ha hag (fun i hi => by
        have hlt : off + i < yv.cells.toList.length := by omega
        have := hc (off + i) _ (List.getElem?_eq_getElem hlt)
        rw [Nat.add_assoc, this, List.getElem?_drop, List.getElem?_eq_getElem hlt]) (by simp only [List.length_drop]; omega)
      simp only [execOp, hop, hp, Sem.run_bind, this, Result.andThen_ok, Sem.run_pure]
      cases ag <;> simp
    · cases hv
  · rename_i t' sz' n' z off ep heq
    rw [heq] at h
    simp only [RdA] at h
    obtain ⟨b, yv, _, hp, hr, hc, _⟩ := h
    split at hv
    · rename_i hle
      simp only [yes, Option.some.injEq, Prod.mk.injEq] at hv
      obtain ⟨_, rfl⟩ := hv
      rw [natLe_iff, dlen_eq] at hle
      have hr' : RdAs E.φ S w (dcells ep z.cells) yv.cells.toList := dcells_sound hr
      have hlen := RdAs_len _ _ hr'
      have hdl : (dcells ep z.cells).length = z.cells.length := by
        generalize z.cells = l
        induction l with
        | nil => rfl
        | cons c l ih => simp [dcells, ih]
      refine ⟨_, ?_, one_sound hr' off n (by omega) ag hag⟩
      have := run_ld (w := w) (P := E.P) (b := b) (o := n' * sz' + off) (vs := yv.cells.toList.drop off) hs ha hag (fun i hi => by
        have hlt : off + i < yv.cells.toList.length := by omega
        have := hc (off + i) _ (List.getElem?_eq_getElem hlt)
        rw [Nat.add_assoc, this, List.getElem?_drop, List.getElem?_eq_getElem hlt]) (by simp only [List.length_drop]; omega)
      simp only [execOp, hop, hp, Sem.run_bind, this, Result.andThen_ok, Sem.run_pure]
      cases ag <;> simp
    · cases hv
  · cases hv
theorem wrap64_id {n : Int} (h : std.ok n) : IntKind.i64.wrap n = n := by
  have h' : -9223372036854775808 ≤ n ∧ n ≤ 9223372036854775807 := h
  have e : IntKind.i64.wrap n = if n % 18446744073709551616 ≥ 9223372036854775808 then n % 18446744073709551616 - 18446744073709551616 else n % 18446744073709551616 := by
    simp only [IntKind.wrap, IntKind.signed, Bool.true_and, decide_eq_true_eq]
    rfl
  rw [e]
  split <;> omega
theorem kEq_iff {k k' : IntKind} (h : kEq k k' = true) : k = k' := by
  cases k <;> cases k' <;> first | rfl | cases h
theorem toList_mk (s : List UInt8) : (⟨s.toArray⟩ : ByteArray).toList = s := by
  rw [Lib.toList_data]
def Bin (P : Program) (w : World) (op : BinOp) (xt : TypeId) (u v : Value) (r : Value) : Prop :=
  (binOp op xt u v).run P w = .ok r w
theorem bin_int {P : Program} {op : BinOp} {xt : TypeId} {k : IntKind} {m n : Int} {q : Prop} {v : AV} (hv : binInt std op k m n = some (q, v)) (hq : q) :
    ∃ r ep, v = .d ep (.int k r) ∧ Bin P w op xt (.int k m) (.int k n) (.int k r) ∨ ∃ b, v = .d ep (.bool b) ∧ Bin P w op xt (.int k m) (.int k n) (.bool b) := by
  unfold Bin
  cases op <;> simp only [binInt, sc, Option.some.injEq, Prod.mk.injEq, reduceCtorEq] at hv
  case add =>
    cases k <;> simp only [Option.some.injEq, Prod.mk.injEq] at hv <;> obtain ⟨rfl, rfl⟩ := hv
    case i64 => exact ⟨m + n, .top, .inl ⟨rfl, by simp [binOp, Op.intArith]; exact wrap64_id hq⟩⟩
    all_goals exact ⟨_, .top, .inl ⟨rfl, by simp [binOp, Op.intArith]; rfl⟩⟩
  case sub =>
    cases k <;> simp only [Option.some.injEq, Prod.mk.injEq] at hv <;> obtain ⟨rfl, rfl⟩ := hv
    case i64 => exact ⟨m - n, .top, .inl ⟨rfl, by simp [binOp, Op.intArith]; exact wrap64_id hq⟩⟩
    all_goals exact ⟨_, .top, .inl ⟨rfl, by simp [binOp, Op.intArith]; rfl⟩⟩
  case mul =>
    cases k <;> simp only [Option.some.injEq, Prod.mk.injEq] at hv <;> obtain ⟨rfl, rfl⟩ := hv
    case i64 => exact ⟨m * n, .top, .inl ⟨rfl, by simp [binOp, Op.intArith]; exact wrap64_id hq⟩⟩
    all_goals exact ⟨_, .top, .inl ⟨rfl, by simp [binOp, Op.intArith]; rfl⟩⟩
  case quo =>
    cases k <;> simp only [Option.some.injEq, Prod.mk.injEq, reduceCtorEq] at hv
    obtain ⟨rfl, rfl⟩ := hv
    obtain ⟨h0, h1, hm⟩ := hq
    refine ⟨m / n, .top, .inl ⟨rfl, ?_⟩⟩
    have hn : n ≠ 0 := by omega
    simp only [binOp, Op.intDiv, hn, if_false]
    rw [Int.tdiv_eq_ediv_of_nonneg h0]
    simp
    refine wrap64_id ⟨?_, ?_⟩
    · have := Int.ediv_nonneg h0 (Int.le_of_lt h1); omega
    · have := Int.ediv_le_self n h0; omega
  case rem =>
    obtain ⟨rfl, rfl⟩ := hv
    obtain ⟨h0, h1, hm⟩ := hq
    refine ⟨m % n, .top, .inl ⟨rfl, ?_⟩⟩
    have hn : n ≠ 0 := by omega
    simp only [binOp, Op.intDiv, hn, if_false]
    rw [Int.tmod_eq_emod_of_nonneg h0]
    simp
  case and =>
    obtain ⟨rfl, rfl⟩ := hv
    exact ⟨_, .top, .inl ⟨rfl, by simp [binOp, Op.intBits, std]⟩⟩
  case or =>
    obtain ⟨rfl, rfl⟩ := hv
    exact ⟨_, .top, .inl ⟨rfl, by simp [binOp, Op.intBits, std]⟩⟩
  case xor =>
    obtain ⟨rfl, rfl⟩ := hv
    exact ⟨_, .top, .inl ⟨rfl, by simp [binOp, Op.intBits, std]⟩⟩
  case andNot =>
    obtain ⟨rfl, rfl⟩ := hv
    exact ⟨_, .top, .inl ⟨rfl, by simp [binOp, Op.intBits, std]⟩⟩
  all_goals
    obtain ⟨rfl, rfl⟩ := hv
    refine ⟨0, .top, .inr ⟨_, rfl, ?_⟩⟩
  case eql => simp [binOp, Op.intCmp, std]
  case neq => simp [binOp, Op.intCmp, std, bne]
  case lss => simp [binOp, Op.intCmp, std]
  case leq => simp [binOp, Op.intCmp, std]
  case gtr => simp [binOp, Op.intCmp, std]
  case geq => simp [binOp, Op.intCmp, std]
theorem bin_sh {P : Program} {op : BinOp} {xt : TypeId} {k k' : IntKind} {m n : Int} {q : Prop} {v : AV} (hv : binSh std op k m n = some (q, v)) (hq : q) :
    ∃ r, v = .d .top (.int k r) ∧ Bin P w op xt (.int k m) (.int k' n) (.int k r) := by
  unfold Bin
  cases op <;> simp only [binSh, Option.some.injEq, Prod.mk.injEq, reduceCtorEq] at hv
  case shl =>
    obtain ⟨rfl, rfl⟩ := hv
    have hq' : 0 ≤ n := hq
    exact ⟨_, rfl, by simp [binOp, Op.shift, Int.not_lt.2 hq', std]⟩
  case shr =>
    obtain ⟨rfl, rfl⟩ := hv
    have hq' : 0 ≤ n := hq
    exact ⟨_, rfl, by simp [binOp, Op.shift, Int.not_lt.2 hq', std]⟩
theorem size_mk (l : List UInt8) : (⟨l.toArray⟩ : ByteArray).size = l.length := by simp [ByteArray.size]
theorem bin_str {P : Program} {op : BinOp} {xt : TypeId} {s t : List UInt8} {q : Prop} {v : AV} (hv : binStr std op s t = some (q, v)) (hq : q) :
    (∃ r, v = .d .top (.str r) ∧ Bin P w op xt (.string ⟨s.toArray⟩) (.string ⟨t.toArray⟩) (.string ⟨r.toArray⟩)) ∨
      ∃ b, v = .d .top (.bool b) ∧ Bin P w op xt (.string ⟨s.toArray⟩) (.string ⟨t.toArray⟩) (.bool b) := by
  unfold Bin
  cases op <;> simp only [binStr, sc, Option.some.injEq, Prod.mk.injEq, reduceCtorEq] at hv
  case add =>
    obtain ⟨rfl, rfl⟩ := hv
    refine .inl ⟨s ++ t, rfl, ?_⟩
    have hq' : s.length + t.length ≤ 9223372036854775807 := hq
    have hm : IntKind.i64.max = 9223372036854775807 := by decide
    have e : (⟨s.toArray⟩ : ByteArray) ++ ⟨t.toArray⟩ = ⟨(s ++ t).toArray⟩ := by
      apply ByteArray.ext
      simp [ByteArray.data_append]
    simp only [binOp, Op.stringOp, size_mk, hm, e]
    rw [if_neg (by omega)]
    simp
  all_goals
    obtain ⟨rfl, rfl⟩ := hv
    refine .inr ⟨_, rfl, ?_⟩
    simp only [binOp, Op.stringOp, toList_mk]
  case eql => simp [std]
  case neq => simp [std]
  case lss => simp [std]
  case leq => simp [std]
  case gtr => simp [std]
  case geq => simp [std]
theorem run_eq_bool {P : Program} {xt : TypeId} (hu : P.underlying xt = some .bool) (b c : Bool) : (Op.equal xt (.bool b) (.bool c)).run P w = .ok (b == c) w := by
  unfold Op.equal Op.maxDepth
  rw [show (10000 : Nat) = 9999 + 1 from rfl, Op.equalIn]
  simp only [Sem.run_bind, run_underlying hu, Result.andThen_ok]
  rfl
theorem run_eq_nf {P : Program} {xt : TypeId} {p r z} (hu : P.underlying xt = some (.func p r z)) : (Op.equal xt .nilFunc .nilFunc).run P w = .ok true w := by
  unfold Op.equal Op.maxDepth
  rw [show (10000 : Nat) = 9999 + 1 from rfl, Op.equalIn]
  simp only [Sem.run_bind, run_underlying hu, Result.andThen_ok]
  rfl
theorem run_eq_fn {P : Program} {xt : TypeId} {p r z} (hu : P.underlying xt = some (.func p r z)) (f : Fn) (x y : Array Value) : (Op.equal xt (.func f x y) .nilFunc).run P w = .ok false w := by
  unfold Op.equal Op.maxDepth
  rw [show (10000 : Nat) = 9999 + 1 from rfl, Op.equalIn]
  simp only [Sem.run_bind, run_underlying hu, Result.andThen_ok]
  rfl
theorem eqGuard_ok {P : Program} (op : BinOp) (t : TypeId) (x y : Operand) (u v : Value) (hu : u ≠ .nilIface) (hu' : ∀ cs, u ≠ .agg cs) : (eqGuard op t x y u v).run P w = .ok () w := by
  unfold eqGuard
  cases op <;> first
    | rfl
    | (cases u <;> first
        | exact absurd rfl hu
        | exact absurd rfl (hu' _)
        | rfl
        | (cases v <;> rfl))
theorem fit_same {P : Program} {f : TypeId} {k a b : D} {G : Nat → Nat} {B B' : Nat → Prop} {u v : Value} (h1 : k.fit a = true) (h2 : k.fit b = true) (hu : RdD w G B a u) (hv : RdD w G B' b v)
    (ht : (P.underlying f = some .bool ∧ k = .bool false) ∨ (∃ q, P.underlying f = some (.int q) ∧ k = .int q 0) ∨ (P.underlying f = some .string ∧ k = .str [])) :
    (Op.equalIn 9999 f u v).run P w = .ok (a.same b) w := by
  rcases ht with ⟨h, rfl⟩ | ⟨q, h, rfl⟩ | ⟨h, rfl⟩
  · cases a <;> simp only [D.fit, Bool.false_eq_true] at h1
    cases b <;> simp only [D.fit, Bool.false_eq_true] at h2
    obtain rfl : u = .bool _ := hu
    obtain rfl : v = .bool _ := hv
    rw [show (9999 : Nat) = 9998 + 1 from rfl, run_equalIn_bool' w 9998 f _ _ h]
    rfl
  · cases a <;> simp only [D.fit, Bool.false_eq_true] at h1
    cases b <;> simp only [D.fit, Bool.false_eq_true] at h2
    obtain rfl : u = .int _ _ := hu
    obtain rfl : v = .int _ _ := hv
    simp only [beq_iff_eq] at h1 h2
    subst h1
    subst h2
    rw [show (9999 : Nat) = 9998 + 1 from rfl, run_equalIn_int w 9998 f _ _ _ _ h]
    rfl
  · cases a <;> simp only [D.fit, Bool.false_eq_true] at h1
    cases b <;> simp only [D.fit, Bool.false_eq_true] at h2
    obtain rfl : u = .string _ := hu
    obtain rfl : v = .string _ := hv
    rw [show (9999 : Nat) = 9998 + 1 from rfl, run_equalIn_string w 9998 f _ _ h]
    simp [D.same, Lib.toList_data]
theorem run_fields {P : Program} {G : Nat → Nat} {B B' : Nat → Prop} : ∀ (fs : List Field) (ks as bs : List D) (us vs pu pv : List Value), flatL P pu.length fs = some ks →
    pu.length = pv.length → D.fits ks as = true → D.fits ks bs = true → RdDs w G B as us → RdDs w G B' bs vs →
    (Op.eqFields 9999 ⟨pu ++ us⟩ ⟨pv ++ vs⟩ fs).run P w = .ok (D.sames as bs) w
  | [], ks, as, bs, us, vs, pu, pv, hk, _, ha, hb, _, _ => by
    simp only [flatL, Option.some.injEq] at hk
    subst hk
    cases as <;> cases bs <;> first | (cases ha; done) | (cases hb; done) | skip
    simp [Op.eqFields, D.sames]
  | f :: fs, ks, as, bs, us, vs, pu, pv, hk, hp, ha, hb, hu, hv => by
    simp only [flatL] at hk
    split at hk
    · rename_i hcond
      simp only [Bool.and_eq_true, bne_iff_ne, ne_eq, beq_iff_eq] at hcond
      obtain ⟨⟨hn, ho⟩, hs⟩ := hcond
      obtain ⟨k, ks', rfl, hks, ht⟩ : ∃ k ks', ks = k :: ks' ∧ flatL P (pu.length + 1) fs = some ks' ∧
          ((P.underlying f.type = some .bool ∧ k = .bool false) ∨ (∃ q, P.underlying f.type = some (.int q) ∧ k = .int q 0) ∨ (P.underlying f.type = some .string ∧ k = .str [])) := by
        split at hk
        · rename_i l h1 h2; cases hk; exact ⟨_, _, rfl, h2, .inl ⟨h1, rfl⟩⟩
        · rename_i q l h1 h2; cases hk; exact ⟨_, _, rfl, h2, .inr (.inl ⟨q, h1, rfl⟩)⟩
        · rename_i l h1 h2; cases hk; exact ⟨_, _, rfl, h2, .inr (.inr ⟨h1, rfl⟩)⟩
        · cases hk
      cases as with
      | nil => cases ha
      | cons a as =>
      cases bs with
      | nil => cases hb
      | cons b bs =>
      simp only [D.fits, Bool.and_eq_true] at ha hb
      simp only [RdDs] at hu hv
      obtain ⟨u, ru, rfl, hu1, hu2⟩ := hu
      obtain ⟨v, rv, rfl, hv1, hv2⟩ := hv
      have ih := run_fields fs ks' as bs ru rv (pu ++ [u]) (pv ++ [v]) (by simpa using hks) (by simp [hp]) ha.2 hb.2 hu2 hv2
      simp only [List.append_assoc, List.singleton_append] at ih
      have ag : aggT P f.type = some false := by
        unfold aggT
        rcases ht with ⟨h, _⟩ | ⟨k, h, _⟩ | ⟨h, _⟩ <;> rw [h]
      have pt : ∀ (pre : List Value) (x : Value) (rest : List Value), pre.length = f.offset → (part f.type ⟨pre ++ x :: rest⟩ f.offset).run P w = .ok x w := by
        intro pre x rest h
        simp only [part, Sem.run_bind, aggT_some ag, Result.andThen_ok, Bool.false_eq_true, if_false]
        have : (⟨pre ++ x :: rest⟩ : Array Value)[f.offset]? = some x := by simp [← h]
        rw [this]
        simp
      simp only [Op.eqFields, hn, ne_eq, not_false_eq_true, if_true, Sem.run_bind, pt pu u ru ho.symm, pt pv v rv (by omega), Result.andThen_ok, fit_same (P := P) ha.1 hb.1 hu1 hv1 ht]
      cases hsm : a.same b with
      | false => simp [D.sames, hsm]
      | true => simpa [D.sames, hsm] using ih
    · cases hk
theorem wk1_sound {x : AV} {v : Value} (h : RdA E.φ S w x v) : RdA E.φ S w (wk1 x) v := by
  cases x with
  | own t sz es ep => exact RdOwn_d h
  | uq => exact trivial
  | up => exact trivial
  | pk => simp [RdA] at h
  | fresh => simp [RdA] at h
  | _ => exact h
theorem notAgg_wk1 {x : AV} (h : notAgg x) : notAgg (wk1 x) := by
  cases x <;> first | exact h | trivial
theorem wkL_sound : ∀ {cs : List AV} {vs : List Value}, RdAs E.φ S w cs vs → RdAs E.φ S w (wkL cs) vs
  | [], vs, h => h
  | c :: cs, vs, h => by
    simp only [RdAs] at h
    obtain ⟨v, rest, rfl, hn, h1, h2⟩ := h
    simp only [wkL, RdAs]
    exact ⟨v, rest, rfl, notAgg_wk1 hn, wk1_sound h1, wkL_sound h2⟩
theorem flat_sound {x : AV} {v : Value} {ds : List D} (h : RdA E.φ S w x v) (hf : flat x = some ds) : ∃ vs ep, v = .agg ⟨vs⟩ ∧ RdDs w S.G (epB S.E ep) ds vs := by
  unfold flat at hf
  split at hf
  · rename_i ep ds'
    cases hf
    simp only [RdA, RdD] at h
    obtain ⟨vs, e, h⟩ := h
    exact ⟨vs, ep, e, h⟩
  · rename_i cs
    split at hf
    · rename_i ep ds' heq
      cases hf
      simp only [RdA] at h
      obtain ⟨vs, e, h⟩ := h
      exact ⟨vs, ep, e, toDs_sound (wkL_sound h) heq⟩
    · cases hf
  · cases hf
theorem g_seq {op : BinOp} {xt yt : TypeId} {x y : Operand} {x' y' : AO} {q : Prop} {v : AV} {neg : Bool} {ks : List D} {d : Nat} (hop : o.op = .binOp op xt x y yt)
    (hx : opnd E.P E.ν xt x = some x') (hy : opnd E.P E.ν yt y = some y') (hk : flatT E.P xt = some ks) (hn : op = if neg then .neq else .eql) (hA : RdF E.φ S w A a.tmps.toList)
    (hv : evV std d A σ (.seq neg ks x' y') = some (q, v)) (hq : q) : Gives E S w a o v := by
  have hX := opnd_sound hx hA
  have hY := opnd_sound hy hA
  simp only [evV] at hv
  unfold flatT at hk
  split at hk
  · rename_i fs hu
    split at hk
    · cases hk
    · rename_i hg
      simp only [Bool.or_eq_true, not_or, Bool.not_eq_true] at hg
      split at hv
      · rename_i as bs h1 h2
        obtain ⟨us, ep, eu, ru⟩ := flat_sound hX h1
        obtain ⟨vs, ep', ev, rv⟩ := flat_sound hY h2
        have hfo : E.P.fieldsOf xt = fs := by simp [Program.fieldsOf, hu]
        have run : D.fits ks as = true → D.fits ks bs = true → (Op.equalIn 10000 xt (.agg ⟨us⟩) (.agg ⟨vs⟩)).run E.P w = .ok (D.sames as bs) w := by
          intro f1 f2
          rw [show (10000 : Nat) = 9999 + 1 from rfl, run_equalIn_agg w 9999 xt _ _ (by rw [hfo]; exact hu) hg.1, hfo]
          exact run_fields fs.toList ks as bs us vs [] [] hk rfl f1 f2 ru rv
        cases neg with
        | false =>
          simp only [Option.some.injEq, Prod.mk.injEq] at hv
          obtain ⟨rfl, rfl⟩ := hv
          simp only [Bool.false_eq_true, if_false] at hn
          subst hn
          refine ⟨.bool (D.sames as bs), ?_, rfl⟩
          simp only [execOp, hop, eu, ev, Sem.run_bind, run_eqGuard_agg w _ _ _ _ _ _ hg.2, Result.andThen_ok, run_eql_struct, run hq.1 hq.2, Sem.run_pure]
        | true =>
          simp only [Option.some.injEq, Prod.mk.injEq] at hv
          obtain ⟨rfl, rfl⟩ := hv
          simp only [if_true] at hn
          subst hn
          refine ⟨.bool (!D.sames as bs), ?_, rfl⟩
          simp only [execOp, hop, eu, ev, Sem.run_bind, run_eqGuard_agg w _ _ _ _ _ _ hg.2, Result.andThen_ok, run_neq_struct, run hq.1 hq.2, Sem.run_pure]
      · cases hv
  · cases hk
theorem g_bin {op : BinOp} {xt yt : TypeId} {x y : Operand} {x' y' : AO} {q : Prop} {v : AV} {ty : Nat} (hop : o.op = .binOp op xt x y yt)
    (hx : opnd E.P E.ν xt x = some x') (hy : opnd E.P E.ν yt y = some y') (hA : RdF E.φ S w A a.tmps.toList)
    (h2 : ty = 2 → E.P.underlying xt = some .bool) (h3 : ty = 3 → ∃ p r z, E.P.underlying xt = some (.func p r z))
    (hv : binA std op ty (x'.ev A) (y'.ev A) = some (q, v)) (hq : q) : Gives E S w a o v := by
  have hX := opnd_sound hx hA
  have hY := opnd_sound hy hA
  generalize x'.ev A = X at *
  generalize y'.ev A = Y at *
  have key : ∀ {u₁ u₂ r : Value}, a.eval x = u₁ → a.eval y = u₂ → u₁ ≠ .nilIface → (∀ cs, u₁ ≠ .agg cs) → Bin E.P w op xt u₁ u₂ r → RdA E.φ S w v r → Gives E S w a o v := by
    intro u₁ u₂ r e1 e2 hn hg hb hr
    refine ⟨r, ?_, hr⟩
    have hb' : (binOp op xt u₁ u₂).run E.P w = .ok r w := hb
    simp only [execOp, hop, e1, e2, Sem.run_bind, eqGuard_ok op xt x y u₁ u₂ hn hg, Result.andThen_ok, hb', Sem.run_pure]
  unfold binA at hv
  split at hv
  · rename_i e1 k m e2 k' n
    split at hv
    · obtain ⟨r, rfl, h⟩ := bin_sh (P := E.P) (w := w) (xt := xt) (k' := k') hv hq
      exact key hX hY (by simp) (by simp) h rfl
    · split at hv
      · rename_i hk
        obtain rfl := kEq_iff hk
        obtain ⟨r, ep, ⟨rfl, h⟩ | ⟨b, rfl, h⟩⟩ := bin_int (P := E.P) (w := w) (xt := xt) hv hq
        · exact key hX hY (by simp) (by simp) h rfl
        · exact key hX hY (by simp) (by simp) h rfl
      · cases hv
  · rename_i e1 s e2 t
    obtain ⟨r, rfl, h⟩ | ⟨b, rfl, h⟩ := bin_str (P := E.P) (w := w) (xt := xt) hv hq
    · exact key hX hY (by simp) (by simp) h rfl
    · exact key hX hY (by simp) (by simp) h rfl
  · rename_i e1 b e2 c
    split at hv
    · simp only [sc, Option.some.injEq, Prod.mk.injEq] at hv
      obtain ⟨rfl, rfl⟩ := hv
      exact key hX hY (by simp) (by simp) (by simp only [Bin, binOp, Sem.run_bind, run_eq_bool (h2 rfl), Result.andThen_ok, Sem.run_pure]; rfl) rfl
    · simp only [sc, Option.some.injEq, Prod.mk.injEq] at hv
      obtain ⟨rfl, rfl⟩ := hv
      exact key hX hY (by simp) (by simp) (by simp only [Bin, binOp, Sem.run_bind, run_eq_bool (h2 rfl), Result.andThen_ok, Sem.run_pure]; rfl) rfl
    · cases hv
  · split at hv
    · obtain ⟨p, r, z, hu⟩ := h3 rfl
      simp only [sc, Option.some.injEq, Prod.mk.injEq] at hv
      obtain ⟨rfl, rfl⟩ := hv
      exact key hX hY (by simp) (by simp) (by simp only [Bin, binOp, Sem.run_bind, run_eq_nf hu, Result.andThen_ok, Sem.run_pure]) rfl
    · obtain ⟨p, r, z, hu⟩ := h3 rfl
      simp only [sc, Option.some.injEq, Prod.mk.injEq] at hv
      obtain ⟨rfl, rfl⟩ := hv
      exact key hX hY (by simp) (by simp) (by simp only [Bin, binOp, Sem.run_bind, run_eq_nf hu, Result.andThen_ok, Sem.run_pure]; rfl) rfl
    · cases hv
  · simp only [RdA] at hX
    obtain ⟨va, vc, hX, _⟩ := hX
    split at hv
    · obtain ⟨p, r, z, hu⟩ := h3 rfl
      simp only [sc, Option.some.injEq, Prod.mk.injEq] at hv
      obtain ⟨rfl, rfl⟩ := hv
      exact key hX hY (by simp) (by simp) (by simp only [Bin, binOp, Sem.run_bind, run_eq_fn hu, Result.andThen_ok, Sem.run_pure]) rfl
    · obtain ⟨p, r, z, hu⟩ := h3 rfl
      simp only [sc, Option.some.injEq, Prod.mk.injEq] at hv
      obtain ⟨rfl, rfl⟩ := hv
      exact key hX hY (by simp) (by simp) (by simp only [Bin, binOp, Sem.run_bind, run_eq_fn hu, Result.andThen_ok, Sem.run_pure]; rfl) rfl
    · cases hv
  · cases hv
theorem g_un {op : UnOp} {t : TypeId} {x : Operand} {x' : AO} {q : Prop} {v : AV} (hop : o.op = .unOp op t x) (hx : opnd E.P E.ν t x = some x')
    (hA : RdF E.φ S w A a.tmps.toList) (hv : unA std op (x'.ev A) = some (q, v)) (hq : q) : Gives E S w a o v := by
  have hX := opnd_sound hx hA
  generalize x'.ev A = X at *
  unfold unA at hv
  split at hv
  · rename_i e b
    split at hv
    · simp only [sc, Option.some.injEq, Prod.mk.injEq] at hv
      obtain ⟨rfl, rfl⟩ := hv
      exact ⟨.bool (!b), by simp [execOp, hop, show a.eval x = .bool b from hX, Op.unary], rfl⟩
    · cases hv
  · rename_i e n
    split at hv
    · simp only [Option.some.injEq, Prod.mk.injEq] at hv
      obtain ⟨rfl, rfl⟩ := hv
      refine ⟨.int .i64 (-n), ?_, rfl⟩
      simp only [execOp, hop, show a.eval x = .int .i64 n from hX, Op.unary, Op.intArith, Int.zero_sub]
      rw [wrap64_id (n := -n) hq]
      rfl
    · cases hv
  · cases hv
theorem g_toInt {src dst : TypeId} {x : Operand} {x' : AO} {k k' : IntKind} {ep : Ep} {n : Int} (hop : o.op = .convert src dst x) (hx : opnd E.P E.ν src x = some x')
    (hs : E.P.underlying src = some (.int k')) (hd : E.P.underlying dst = some (.int k)) (hA : RdF E.φ S w A a.tmps.toList) {k'' : IntKind} (hn : x'.ev A = .d ep (.int k'' n)) :
    Gives E S w a o (.d .top (.int k (k.wrap n))) := by
  have hX := opnd_sound hx hA
  rw [hn] at hX
  refine ⟨.int k (k.wrap n), ?_, rfl⟩
  simp [execOp, hop, show a.eval x = .int k'' n from hX, convert, run_underlying hs, run_underlying hd, Conv.intToInt]
theorem g_same {src dst : TypeId} {x : Operand} {x' : AO} {ep : Ep} {s : List UInt8} (hop : o.op = .convert src dst x) (hx : opnd E.P E.ν src x = some x')
    (hs : E.P.underlying src = some .string) (hd : E.P.underlying dst = some .string) (hA : RdF E.φ S w A a.tmps.toList) (hn : x'.ev A = .d ep (.str s)) :
    Gives E S w a o (.d ep (.str s)) := by
  have hX := opnd_sound hx hA
  rw [hn] at hX
  refine ⟨_, ?_, hX⟩
  rw [show a.eval x = .string ⟨s.toArray⟩ from hX]
  simp [execOp, hop, show a.eval x = .string ⟨s.toArray⟩ from hX, convert, run_underlying hs, run_underlying hd]
theorem fieldPlace_run {P : Program} {f : Field} {n : Nat} (h : sizeT P f.type = some (n + 1)) (b o : Nat) :
    (fieldPlace ⟨b, o, none⟩ f).run P w = .ok ⟨b, o + f.offset, none⟩ w := by
  simp [fieldPlace, sizeT_some h, add_addr]
theorem g_fa {s : TypeId} {x : Operand} {x' : AO} {i n : Nat} {fs : Array Field} {f : Field} {q : Prop} {v : AV} (hop : o.op = .fieldAddr s x i) (hu : E.P.underlying s = some (.struct fs))
    (hf : fs[i]? = some f) (hs : sizeT E.P f.type = some (n + 1)) (hx : opnd E.P E.ν 0 x = some x') (hA : RdF E.φ S w A a.tmps.toList) {d : Nat}
    (hv : evV std d A σ (.fa x' f.offset) = some (q, v)) : Gives E S w a o v := by
  have hX := opnd_sound hx hA
  have key : ∀ b off, a.eval x = .pointer (some ⟨b, off, none⟩) → (execOp a.eval o).run E.P w = .ok (.value (.pointer (some ⟨b, off + f.offset, none⟩))) w := by
    intro b off h
    simp [execOp, hop, h, Instr.fieldAt, run_underlying hu, hf, Instr.sureAddr, fieldPlace_run hs]
  simp only [evV] at hv
  split at hv
  · rename_i id o' heq
    simp only [yes, Option.some.injEq, Prod.mk.injEq] at hv
    obtain ⟨_, rfl⟩ := hv
    rw [heq] at hX
    simp only [RdA] at hX
    obtain ⟨b, hb, hp⟩ := hX
    exact ⟨_, key b o' hp, by simp only [RdA]; exact ⟨b, hb, rfl⟩⟩
  · rename_i cs o' heq
    simp only [yes, Option.some.injEq, Prod.mk.injEq] at hv
    obtain ⟨_, rfl⟩ := hv
    rw [heq] at hX
    simp only [RdA] at hX
    obtain ⟨b, vs, hp, h⟩ := hX
    exact ⟨_, key b o' hp, by simp only [RdA]; exact ⟨b, vs, rfl, h⟩⟩
  · rename_i cs o' heq
    simp only [yes, Option.some.injEq, Prod.mk.injEq] at hv
    obtain ⟨_, rfl⟩ := hv
    rw [heq] at hX
    simp only [RdA] at hX
    obtain ⟨b, vs, hp, h⟩ := hX
    exact ⟨_, key b o' hp, by simp only [RdA]; exact ⟨b, vs, rfl, h⟩⟩
  · rename_i ep y o' heq
    simp only [yes, Option.some.injEq, Prod.mk.injEq] at hv
    obtain ⟨_, rfl⟩ := hv
    rw [heq] at hX
    simp only [RdA] at hX
    obtain ⟨b, ob, y, hp, h⟩ := hX
    exact ⟨_, key b _ hp, by simp only [RdA]; exact ⟨b, ob, y, by rw [Nat.add_assoc], h⟩⟩
  · rename_i t sz' m e o' ep heq
    simp only [yes, Option.some.injEq, Prod.mk.injEq] at hv
    obtain ⟨_, rfl⟩ := hv
    rw [heq] at hX
    simp only [RdA] at hX
    obtain ⟨b, y, hb, hp, h⟩ := hX
    exact ⟨_, key b _ hp, by simp only [RdA]; exact ⟨b, y, hb, by rw [Nat.add_assoc], h⟩⟩
  · cases hv
theorem part_run {P : Program} {t : TypeId} {n off : Nat} {ag : Bool} (vs : List Value) (hs : sizeT P t = some n) (ha : aggT P t = some ag) (hag : ag = false → n = 1)
    (hl : off + n ≤ vs.length) : (part t ⟨vs⟩ off).run P w = .ok (if ag then .agg ⟨(vs.drop off).take n⟩ else (vs[off]?).getD undef) w := by
  simp only [part, Sem.run_bind, aggT_some ha, Result.andThen_ok]
  cases ag with
  | true =>
    simp only [if_true, Sem.run_bind, sizeT_some hs, Result.andThen_ok, Sem.run_pure]
    congr 2
    apply Array.ext'
    simp [List.extract_eq_take_drop]
  | false =>
    obtain rfl := hag rfl
    have : vs[off]? = some vs[off] := List.getElem?_eq_getElem (by omega)
    simp [this]
theorem parts_sound {x : AV} {v : Value} {cs : List AV} (h : RdA E.φ S w x v) (hc : x.parts = some cs) : ∃ vs : List Value, v = .agg ⟨vs⟩ ∧ RdAs E.φ S w cs vs := by
  cases x with
  | agg l =>
    cases hc
    simp only [RdA] at h
    exact h
  | d ep y =>
    cases y with
    | agg ds =>
      cases hc
      simp only [RdA, RdD] at h
      obtain ⟨vs, e, h⟩ := h
      exact ⟨vs, e, RdDs_dcells ds vs h⟩
    | _ => cases hc
  | _ => cases hc
theorem g_fld {s : TypeId} {x : Operand} {x' : AO} {i n : Nat} {ag : Bool} {fs : Array Field} {f : Field} {q : Prop} {v : AV} (hop : o.op = .field s x i) (hu : E.P.underlying s = some (.struct fs))
    (hf : fs[i]? = some f) (hs : sizeT E.P f.type = some n) (ha : aggT E.P f.type = some ag) (hag : ag = false → n = 1) (hx : opnd E.P E.ν s x = some x') (hA : RdF E.φ S w A a.tmps.toList) {d : Nat}
    (hv : evV std d A σ (.fld x' f.offset n ag) = some (q, v)) : Gives E S w a o v := by
  have hX := opnd_sound hx hA
  simp only [evV] at hv
  split at hv
  · cases hv
  · rename_i cs hcs
    obtain ⟨vs, hvs, hr⟩ := parts_sound hX hcs
    split at hv
    · rename_i hle
      simp only [yes, Option.some.injEq, Prod.mk.injEq] at hv
      obtain ⟨_, rfl⟩ := hv
      rw [natLe_iff, len_eq] at hle
      have hlen := RdAs_len _ _ hr
      refine ⟨_, ?_, one_sound hr f.offset n hle ag hag⟩
      have := part_run (w := w) (P := E.P) (off := f.offset) vs hs ha hag (by omega)
      simp only [execOp, hop, hvs, Sem.run_bind, Instr.field, run_underlying hu, Result.andThen_ok, hf, asAgg, Sem.run_pure, this]
    · cases hv
theorem asIntOf_run {P : Program} {k : IntKind} {n : Int} : (asIntOf (.int k n)).run P w = .ok (k, n) w := rfl
theorem g_axi {t e : TypeId} {x i : Operand} {x' i' : AO} {m n : Nat} {ag : Bool} {q : Prop} {v : AV} (hop : o.op = .index t x i) (hu : E.P.underlying t = some (.array m e))
    (hs : sizeT E.P e = some n) (ha : aggT E.P e = some ag) (hag : ag = false → n = 1) (hx : opnd E.P E.ν t x = some x') (hi : opnd E.P E.ν 0 i = some i') (hA : RdF E.φ S w A a.tmps.toList) {d : Nat}
    (hv : evV std d A σ (.axi x' i' m n ag) = some (q, v)) (hq : q) : Gives E S w a o v := by
  have hX := opnd_sound hx hA
  have hI := opnd_sound hi hA
  simp only [evV] at hv
  split at hv
  · rename_i ep k j heq
    rw [heq] at hI
    split at hv
    · cases hv
    · rename_i cs hcs
      obtain ⟨vs, hvs, hr⟩ := parts_sound hX hcs
      split at hv
      · rename_i hle
        simp only [Option.some.injEq, Prod.mk.injEq] at hv
        obtain ⟨rfl, rfl⟩ := hv
        rw [natEq_iff, len_eq] at hle
        have hlen := RdAs_len _ _ hr
        obtain ⟨h0, h1⟩ : 0 ≤ j ∧ j < (m : Int) := hq
        have hjn : j.toNat * n + n ≤ cs.length := by
          have : j.toNat + 1 ≤ m := by omega
          have := Nat.mul_le_mul_right n this
          rw [Nat.add_mul, Nat.one_mul] at this
          omega
        refine ⟨_, ?_, one_sound hr (j.toNat * n) n hjn ag hag⟩
        have := part_run (w := w) (P := E.P) (off := j.toNat * n) vs hs ha hag (by omega)
        simp only [execOp, hop, hvs, show a.eval i = .int k j from hI, Sem.run_bind, Instr.index, asIntOf_run, run_underlying hu, Result.andThen_ok, Sem.run_pure]
        rw [if_pos ⟨h0, h1⟩]
        simp only [Sem.run_bind, sizeT_some hs, Result.andThen_ok, this]
      · cases hv
  · cases hv
theorem g_ix {t : TypeId} {x i : Operand} {x' i' : AO} {q : Prop} {v : AV} (hop : o.op = .index t x i) (hu : E.P.underlying t = some .string)
    (hx : opnd E.P E.ν t x = some x') (hi : opnd E.P E.ν 0 i = some i') (hA : RdF E.φ S w A a.tmps.toList) {d : Nat}
    (hv : evV std d A σ (.ix x' i') = some (q, v)) (hq : q) : Gives E S w a o v := by
  have hX := opnd_sound hx hA
  have hI := opnd_sound hi hA
  simp only [evV] at hv
  split at hv
  · rename_i e1 s e2 j h1 h2
    rw [h1] at hX
    rw [h2] at hI
    simp only [Option.some.injEq, Prod.mk.injEq] at hv
    obtain ⟨rfl, rfl⟩ := hv
    obtain ⟨h0, hlt⟩ : 0 ≤ j ∧ j < (s.length : Int) := hq
    have hj : j.toNat < s.length := by omega
    refine ⟨.int .u8 (s[j.toNat]).toNat, ?_, ?_⟩
    · have hg : (⟨s.toArray⟩ : ByteArray)[j.toNat]? = some s[j.toNat] := by
        rw [getElem?_pos _ _ (by simp [size_mk]; exact hj)]
        rfl
      simp only [execOp, hop, show a.eval x = .string ⟨s.toArray⟩ from hX, show a.eval i = .int .i64 j from hI, Sem.run_bind, Instr.index, asIntOf_run, run_underlying hu, Result.andThen_ok]
      rw [if_pos h0, hg]
      rfl
    · simp only [RdA, RdD, std]
      rw [List.getD_eq_getElem?_getD, List.getElem?_eq_getElem hj]
      rfl
  · cases hv
theorem rowOf_sound {x : AV} {v : Value} {ep : Ep} {sz : Nat} {es : List D} (h : RdA E.φ S w x v) (hr : rowOf x = some (ep, sz, es)) : RdA E.φ S w (.d ep (.row sz es)) v := by
  cases x with
  | d e y =>
    cases y with
    | row s l => cases hr; exact h
    | _ => cases hr
  | own t s l e => cases hr; exact RdOwn_d h
  | fresh => simp [RdA] at h
  | _ => cases hr
theorem rowU_sound {x : AV} {v : Value} {es : List D} (h : RdA E.φ S w x v) (hr : rowU x = some es) : ∃ b c, v = .slice b es.length c := by
  have row : ∀ {sz es ep}, RdA E.φ S w (.d ep (.row sz es)) v → ∃ b c, v = .slice b es.length c := by
    intro sz es ep h
    simp only [RdA, RdD] at h
    rcases h with ⟨⟨p, c, h⟩, rfl⟩ | ⟨b, o, cap, vs, h, _⟩
    · exact ⟨_, _, h⟩
    · exact ⟨_, _, h⟩
  cases x with
  | d e y =>
    cases y with
    | row s l => cases hr; exact row h
    | _ => cases hr
  | own t s l e => cases hr; exact row (RdOwn_d h : RdD _ _ _ _ _)
  | uq t s l e =>
    cases hr
    rcases h with ⟨_, rfl, h⟩ | ⟨b, vs, cs, T, _, h, hl, _⟩
    · exact ⟨_, _, h⟩
    · exact ⟨_, _, by rw [hl]; exact h⟩
  | fresh => simp [RdA] at h
  | _ => cases hr
theorem g_len_row {t e : TypeId} {x : Operand} {x' : AO} {es : List D} {args : Array Operand} {ts : Array TypeId} (hop : o.op = .call { callee := .builtin .len, args := args, argTypes := ts })
    (h0 : args[0]? = some x) (ht : ts[0]? = some t) (hu : E.P.underlying t = some (.slice e)) (hx : opnd E.P E.ν t x = some x') (hA : RdF E.φ S w A a.tmps.toList)
    (hr : rowU (x'.ev A) = some es) : Gives E S w a o (.d .top (.int .i64 es.length)) := by
  obtain ⟨b, c, hl⟩ := rowU_sound (opnd_sound hx hA) hr
  refine ⟨.int .i64 es.length, ?_, rfl⟩
  simp [execOp, hop, resolve, invoke, builtin, Builtin.len_, h0, ht, run_underlying hu, hl, goInt]
theorem RdM_len {w : World} {G : Nat → Nat} {B : Nat → Prop} : ∀ (m : List (D × D)) (es : List MapEntry), RdM w G B m es → es.length = m.length
  | [], es, h => by simp [show es = [] from h]
  | (k, x) :: m, es, h => by
    obtain ⟨e, rest, rfl, _, _, _, h⟩ := h
    simp [RdM_len m rest h]
def MapAt (S : St) (w : World) (ep : Ep) (m : List (D × D)) (v : Value) : Prop := ∃ b es k, v = .map (some b) ∧ w.heap[b]? = some (.map es k) ∧ RdM w S.G (epB S.E ep) m es.toList
theorem g_mln {t kt vt : TypeId} {x : Operand} {ep : Ep} {m : List (D × D)} {args : Array Operand} {ts : Array TypeId} (hop : o.op = .call { callee := .builtin .len, args := args, argTypes := ts })
    (h0 : args[0]? = some x) (ht : ts[0]? = some t) (hu : E.P.underlying t = some (.map kt vt)) (hm : MapAt S w ep m (a.eval x)) : Gives E S w a o (.d .top (.int .i64 m.length)) := by
  obtain ⟨b, es, k, hv, hb, hr⟩ := hm
  have hl := RdM_len m _ hr
  refine ⟨.int .i64 m.length, ?_, rfl⟩
  rw [← hl]
  simp [execOp, hop, resolve, invoke, builtin, Builtin.len_, h0, ht, run_underlying hu, hv, goInt, getObj, hb, Sem.run]
theorem g_len_str {t : TypeId} {x : Operand} {x' : AO} {ep : Ep} {s : List UInt8} {args : Array Operand} {ts : Array TypeId} (hop : o.op = .call { callee := .builtin .len, args := args, argTypes := ts })
    (h0 : args[0]? = some x) (ht : ts[0]? = some t) (hu : E.P.underlying t = some .string) (hx : opnd E.P E.ν t x = some x') (hA : RdF E.φ S w A a.tmps.toList)
    (hr : x'.ev A = .d ep (.str s)) : Gives E S w a o (.d .top (.int .i64 s.length)) := by
  have hX := opnd_sound hx hA
  rw [hr] at hX
  refine ⟨.int .i64 s.length, ?_, rfl⟩
  simp [execOp, hop, resolve, invoke, builtin, Builtin.len_, h0, ht, run_underlying hu, show a.eval x = .string ⟨s.toArray⟩ from hX, goInt, size_mk]
end
end Go.Ly
end
section
namespace Go.Ly
section
variable {E : Env} {S : St} {w : World} {A : Fm} {σ : Sto} {a : Act} {o : Oper}
theorem g_iaa {t e : TypeId} {x i : Operand} {x' i' : AO} {m n : Nat} {q : Prop} {v : AV} (hop : o.op = .indexAddr t x i) (hu : E.P.underlying t = some (.array m e))
    (hs : sizeT E.P e = some (n + 1)) (hx : opnd E.P E.ν t x = some x') (hi : opnd E.P E.ν 0 i = some i') (hA : RdF E.φ S w A a.tmps.toList) {d : Nat}
    (hv : evV std d A σ (.iaa x' i' m (n + 1)) = some (q, v)) (hq : q) : Gives E S w a o v := by
  have hX := opnd_sound hx hA
  have hI := opnd_sound hi hA
  have key : ∀ b off k j, 0 ≤ j ∧ j < (m : Int) → a.eval x = .pointer (some ⟨b, off, none⟩) → a.eval i = .int k j →
      (execOp a.eval o).run E.P w = .ok (.value (.pointer (some ⟨b, off + j.toNat * (n + 1), none⟩))) w := by
    intro b off k j hj h1 h2
    simp only [execOp, hop, h1, h2, Instr.indexAt, Sem.run_bind, asIntOf_run, run_underlying hu, Result.andThen_ok, Instr.sureAddr, Sem.run_pure]
    rw [if_pos hj]
    simp only [Sem.run_bind, sizeT_some hs, Result.andThen_ok, Sem.run_pure, add_addr]
  simp only [evV] at hv
  split at hv
  · rename_i id o' e2 k j h1 h2
    simp only [Option.some.injEq, Prod.mk.injEq] at hv
    obtain ⟨rfl, rfl⟩ := hv
    rw [h1] at hX
    rw [h2] at hI
    simp only [RdA] at hX
    obtain ⟨b, hb, hp⟩ := hX
    exact ⟨_, key b o' k j hq hp hI, by simp only [RdA]; exact ⟨b, hb, rfl⟩⟩
  · rename_i cs o' e2 k j h1 h2
    simp only [Option.some.injEq, Prod.mk.injEq] at hv
    obtain ⟨rfl, rfl⟩ := hv
    rw [h1] at hX
    rw [h2] at hI
    simp only [RdA] at hX
    obtain ⟨b, vs, hp, h⟩ := hX
    exact ⟨_, key b o' k j hq hp hI, by simp only [RdA]; exact ⟨b, vs, rfl, h⟩⟩
  · rename_i cs o' e2 k j h1 h2
    simp only [Option.some.injEq, Prod.mk.injEq] at hv
    obtain ⟨rfl, rfl⟩ := hv
    rw [h1] at hX
    rw [h2] at hI
    simp only [RdA] at hX
    obtain ⟨b, vs, hp, h⟩ := hX
    exact ⟨_, key b o' k j hq hp hI, by simp only [RdA]; exact ⟨b, vs, rfl, h⟩⟩
  · cases hv
theorem RdRow_split {w : World} {G : Nat → Nat} {B : Nat → Prop} {sz : Nat} : ∀ (es : List D) (vs : List Value) (k : Nat), RdRow w G B sz es vs → k ≤ es.length →
    RdRow w G B sz (es.take k) (vs.take (k * sz)) ∧ RdRow w G B sz (es.drop k) (vs.drop (k * sz))
  | es, vs, 0, h, _ => by simp [RdRow, h]
  | [], vs, k + 1, _, hk => by simp at hk
  | e :: es, vs, k + 1, h, hk => by
    simp only [RdRow] at h
    obtain ⟨v, rest, rfl, hs, ho, h1, h2⟩ := h
    obtain ⟨i1, i2⟩ := RdRow_split es rest k h2 (by simpa using hk)
    have hlen : v.cells.toList.length = sz := by simpa using hs
    rw [show (k + 1) * sz = sz + k * sz by rw [Nat.add_mul, Nat.one_mul, Nat.add_comm]]
    constructor
    · simp only [List.take_succ_cons, RdRow]
      refine ⟨v, rest.take (k * sz), ?_, hs, ho, h1, i1⟩
      rw [List.take_append, List.take_of_length_le (by omega), hlen, Nat.add_sub_cancel_left]
    · simp only [List.drop_succ_cons]
      rw [List.drop_append, List.drop_of_length_le (l := v.cells.toList) (by omega), hlen, Nat.add_sub_cancel_left, List.nil_append]
      exact i2
theorem cellsAt_sub {w : World} {b o k m : Nat} {vs : List Value} (h : cellsAt w b o vs) : cellsAt w b (o + k) ((vs.drop k).take m) := by
  intro i v hv
  have hi : i < m := by
    rcases Nat.lt_or_ge i m with h' | h'
    · exact h'
    · simp [List.getElem?_take, Nat.not_lt.2 h'] at hv
  rw [List.getElem?_take, if_pos hi, List.getElem?_drop] at hv
  have := h (k + i) v hv
  rwa [← Nat.add_assoc] at this
theorem boundA_sound {x : Option Operand} {x' : Option AO} {dflt n : Int} (hx : optO E.P E.ν x = some x') (hA : RdF E.φ S w A a.tmps.toList) (hb : boundA A dflt x' = some n) :
    (x = none ∧ n = dflt) ∨ ∃ y, x = some y ∧ a.eval y = .int .i64 n := by
  cases x with
  | none =>
    simp only [optO, Option.some.injEq] at hx
    subst hx
    simp only [boundA, Option.some.injEq] at hb
    exact .inl ⟨rfl, hb.symm⟩
  | some y =>
    simp only [optO, Option.map_eq_some_iff] at hx
    obtain ⟨z, hz, rfl⟩ := hx
    simp only [boundA] at hb
    split at hb
    · rename_i ep m heq
      simp only [Option.some.injEq] at hb
      subst hb
      have := opnd_sound hz hA
      rw [heq] at this
      exact .inr ⟨y, rfl, this⟩
    · cases hb
theorem run_sliceBound {P : Program} {n : Int} {y : Nat} {c : BoundsCode} (h : 0 ≤ n ∧ n ≤ (y : Int)) : (Instr.sliceBound (.int .i64 n) y c).run P w = .ok n.toNat w := by
  simp only [Instr.sliceBound, Sem.run_bind, asIntOf_run, Result.andThen_ok]
  rw [if_pos h]
  rfl
theorem run_sliceBounds {P : Program} {sl : Bool} {len cap : Nat} {lo hi : Option Operand} {l h : Int} (hcap : len ≤ cap) (hlo : (lo = none ∧ l = 0) ∨ ∃ y, lo = some y ∧ a.eval y = .int .i64 l)
    (hhi : (hi = none ∧ h = len) ∨ ∃ y, hi = some y ∧ a.eval y = .int .i64 h) (h0 : 0 ≤ l) (h1 : l ≤ h) (h2 : h ≤ (len : Int)) :
    (Instr.sliceBounds sl len cap (lo.map a.eval) (hi.map a.eval) none).run P w = .ok (l.toNat, h.toNat, cap) w := by
  unfold Instr.sliceBounds
  rcases hhi with ⟨rfl, rfl⟩ | ⟨y, rfl, hy⟩
  · rcases hlo with ⟨rfl, rfl⟩ | ⟨z, rfl, hz⟩
    · simp
    · simp [hz, run_sliceBound (w := w) (n := l) (y := len) ⟨h0, h1⟩]
  · rcases hlo with ⟨rfl, rfl⟩ | ⟨z, rfl, hz⟩
    · simp [hy, run_sliceBound (w := w) (n := h) (y := cap) ⟨by omega, by omega⟩]
    · simp [hz, hy, run_sliceBound (w := w) (n := h) (y := cap) ⟨by omega, by omega⟩, run_sliceBound (w := w) (n := l) (y := h.toNat) ⟨h0, by omega⟩]
theorem g_sls {t : TypeId} {x : Operand} {x' : AO} {lo hi : Option Operand} {lo' hi' : Option AO} {q : Prop} {v : AV} (hop : o.op = .slice t x lo hi none) (hu : E.P.underlying t = some .string)
    (hx : opnd E.P E.ν t x = some x') (hl : optO E.P E.ν lo = some lo') (hh : optO E.P E.ν hi = some hi') (hA : RdF E.φ S w A a.tmps.toList) {d : Nat}
    (hv : evV std d A σ (.sls x' lo' hi') = some (q, v)) (hq : q) : Gives E S w a o v := by
  have hX := opnd_sound hx hA
  simp only [evV] at hv
  split at hv
  · rename_i ep s heq
    rw [heq] at hX
    split at hv
    · rename_i l h h1 h2
      simp only [Option.some.injEq, Prod.mk.injEq] at hv
      obtain ⟨rfl, rfl⟩ := hv
      obtain ⟨g0, g1, g2⟩ : 0 ≤ l ∧ l ≤ h ∧ h ≤ (s.length : Int) := hq
      refine ⟨.string ⟨((s.take h.toNat).drop l.toNat).toArray⟩, ?_, rfl⟩
      have hb := run_sliceBounds (w := w) (P := E.P) (sl := false) (Nat.le_refl s.length) (boundA_sound hl hA h1) (boundA_sound hh hA h2) g0 g1 g2
      have e : (⟨s.toArray⟩ : ByteArray).extract l.toNat h.toNat = ⟨((s.take h.toNat).drop l.toNat).toArray⟩ := by
        rw [Lib.extract_eq]
        simp [List.drop_take]
      simp only [execOp, hop, show a.eval x = .string ⟨s.toArray⟩ from hX, Instr.sliceAt, Instr.slice, Sem.run_bind, run_underlying hu, Result.andThen_ok, Option.map_none, Option.isSome_none,
        Bool.false_eq_true, if_false, size_mk, hb, Sem.run_pure, e]
    · cases hv
  · cases hv
theorem g_sl {t e : TypeId} {x : Operand} {x' : AO} {lo hi : Option Operand} {lo' hi' : Option AO} {n : Nat} {q : Prop} {v : AV} (hop : o.op = .slice t x lo hi none)
    (hu : E.P.underlying t = some (.slice e)) (hs : sizeT E.P e = some (n + 1))
    (hx : opnd E.P E.ν t x = some x') (hl : optO E.P E.ν lo = some lo') (hh : optO E.P E.ν hi = some hi') (hA : RdF E.φ S w A a.tmps.toList) {d : Nat}
    (hv : evV std d A σ (.sl x' lo' hi' (n + 1)) = some (q, v)) (hq : q) : Gives E S w a o v := by
  simp only [evV] at hv
  split at hv
  · rename_i ep sz es heq
    have hX := rowOf_sound (opnd_sound hx hA) heq
    split at hv
    · rename_i l h h1 h2 h3
      rw [natEq_iff] at h3
      subst h3
      simp only [Option.some.injEq, Prod.mk.injEq] at hv
      obtain ⟨rfl, rfl⟩ := hv
      obtain ⟨g0, g1, g2⟩ : 0 ≤ l ∧ l ≤ h ∧ h ≤ (es.length : Int) := hq
      simp only [RdA, RdD] at hX
      rcases hX with ⟨⟨p, ⟨cap, hc0⟩, hX⟩, rfl⟩ | ⟨b, of, cap, vs, hX, hcap, hB, hg, hc, hr⟩
      · replace hX : a.eval x = .slice p 0 cap := hX
        have hl0 : l = 0 := by simp at g2; omega
        have hh0 : h = 0 := by simp at g2; omega
        have hb := run_sliceBounds (w := w) (P := E.P) (sl := true) (len := 0) (Nat.zero_le cap) (boundA_sound hl hA h1) (boundA_sound hh hA h2) g0 g1 g2
        refine ⟨.slice (if cap = 0 then p else p.map (·.add 0)) 0 cap, ?_, ?_⟩
        · simp only [execOp, hop, hX, Instr.sliceAt, Instr.slice, Sem.run_bind, run_underlying hu, Result.andThen_ok, Option.map_none, hb, sizeT_some hs, Sem.run_pure, hl0, hh0]
          simp
        · simp only [RdA, std]
          simp only [List.take_nil, List.drop_nil]
          exact RdD_nilrow hc0
      · have hb := run_sliceBounds (w := w) (P := E.P) (sl := true) hcap (boundA_sound hl hA h1) (boundA_sound hh hA h2) g0 g1 g2
        have hlen := RdRow_len es vs hr
        have hnm : (es.take h.toNat).length = h.toNat := by simp; omega
        obtain ⟨r1, _⟩ := RdRow_split es vs h.toNat hr (by omega)
        obtain ⟨_, r2⟩ := RdRow_split (es.take h.toNat) _ l.toNat r1 (by omega)
        have hle : ((es.take h.toNat).drop l.toNat).length = h.toNat - l.toNat := by simp; omega
        have hrun : ∀ r, (if cap = l.toNat then some (⟨b, of, none⟩ : Addr) else some ⟨b, of + l.toNat * (n + 1), none⟩) = r →
            (execOp a.eval o).run E.P w = .ok (.value (.slice r (h.toNat - l.toNat) (cap - l.toNat))) w := by
          intro r hr
          simp only [execOp, hop, hX, Instr.sliceAt, Instr.slice, Sem.run_bind, run_underlying hu, Result.andThen_ok, Option.map_none, hb, sizeT_some hs, Sem.run_pure, ← hr, Option.map_some, add_addr]
        have hsub : l.toNat * (n + 1) + (h.toNat - l.toNat) * (n + 1) = h.toNat * (n + 1) := by rw [← Nat.add_mul]; congr 1; omega
        have h5 : h.toNat * (n + 1) ≤ es.length * (n + 1) := Nat.mul_le_mul_right _ (by omega)
        by_cases hcl : cap = l.toNat
        · refine ⟨_, hrun _ rfl, ?_⟩
          rw [if_pos hcl]
          have he : (es.take h.toNat).drop l.toNat = [] := List.eq_nil_of_length_eq_zero (by omega)
          simp only [RdA, RdD, std]
          rw [he]
          exact .inr ⟨b, of, cap - l.toNat, [], by simp; omega, by simp, hB, by simp; omega, fun i v hv => by simp at hv, rfl⟩
        · refine ⟨_, hrun _ rfl, ?_⟩
          rw [if_neg hcl]
          simp only [RdA, RdD, std]
          refine .inr ⟨b, _, _, _, by rw [hle], by omega, hB, by rw [hle]; omega, ?_, r2⟩
          rw [List.drop_take]
          exact cellsAt_sub hc
    · cases hv
  · cases hv
theorem run_sliceBounds3 {P : Program} {len cap : Nat} {hi mx : Operand} {h m : Int} (hcap : len ≤ cap) (hh : a.eval hi = .int .i64 h) (hm : a.eval mx = .int .i64 m) (h0 : 0 ≤ h) (h1 : h ≤ (len : Int)) (he : m = h) :
    (Instr.sliceBounds true len cap none (some (a.eval hi)) (some (a.eval mx))).run P w = .ok (0, h.toNat, h.toNat) w := by
  subst he
  unfold Instr.sliceBounds
  simp [hh, hm, run_sliceBound (w := w) (n := m) (y := cap) ⟨h0, by omega⟩, run_sliceBound (w := w) (n := m) (y := m.toNat) ⟨h0, by omega⟩]
theorem g_slc {t e : TypeId} {x hi mx : Operand} {x' hi' mx' : AO} {n : Nat} {q : Prop} {v : AV} (hop : o.op = .slice t x none (some hi) (some mx))
    (hu : E.P.underlying t = some (.slice e)) (hs : sizeT E.P e = some (n + 1))
    (hx : opnd E.P E.ν t x = some x') (hh : opnd E.P E.ν 0 hi = some hi') (hm : opnd E.P E.ν 0 mx = some mx') (hA : RdF E.φ S w A a.tmps.toList) {d : Nat}
    (hv : evV std d A σ (.slc x' hi' mx' (n + 1)) = some (q, v)) (hq : q) : Gives E S w a o v := by
  simp only [evV] at hv
  split at hv
  · rename_i ep sz es e1 h e2 m heq h1 h2
    have hX := rowOf_sound (opnd_sound hx hA) heq
    have hH := opnd_sound hh hA
    have hM := opnd_sound hm hA
    rw [h1] at hH
    rw [h2] at hM
    split at hv
    · rename_i h3
      rw [natEq_iff] at h3
      subst h3
      simp only [Option.some.injEq, Prod.mk.injEq] at hv
      obtain ⟨rfl, rfl⟩ := hv
      obtain ⟨⟨_, g0, g1⟩, _, g2, g3⟩ : (0 ≤ (0 : Int) ∧ 0 ≤ h ∧ h ≤ (es.length : Int)) ∧ (0 ≤ h ∧ h ≤ m ∧ m ≤ h) := hq
      have hmh : m = h := by omega
      simp only [RdA, RdD] at hX
      rcases hX with ⟨⟨p, ⟨cap, hc0⟩, hX⟩, rfl⟩ | ⟨b, of, cap, vs, hX, hcap, hB, hg, hc, hr⟩
      · replace hX : a.eval x = .slice p 0 cap := hX
        have hh0 : h = 0 := by simp at g1; omega
        have hb := run_sliceBounds3 (w := w) (P := E.P) (len := 0) (cap := cap) (Nat.zero_le cap) hH hM g0 (by simpa using g1) hmh
        refine ⟨.slice p 0 0, ?_, ?_⟩
        · simp only [execOp, hop, hX, Instr.sliceAt, Instr.slice, Sem.run_bind, run_underlying hu, Result.andThen_ok, Option.map_none, Option.map_some, hb, sizeT_some hs, Sem.run_pure, hh0]
          simp
        · simp only [RdA, std, List.take_nil, List.drop_nil]
          exact .inl ⟨⟨p, rfl⟩, (RdD_nilrow (.inl rfl))⟩
      · have hb := run_sliceBounds3 (w := w) (P := E.P) hcap hH hM g0 g1 hmh
        have hnm : (es.take h.toNat).length = h.toNat := by simp; omega
        obtain ⟨r1, _⟩ := RdRow_split es vs h.toNat hr (by omega)
        have h5 : h.toNat * (n + 1) ≤ es.length * (n + 1) := Nat.mul_le_mul_right _ (by omega)
        refine ⟨.slice (some ⟨b, of, none⟩) h.toNat h.toNat, ?_, ?_⟩
        · simp only [execOp, hop, hX, Instr.sliceAt, Instr.slice, Sem.run_bind, run_underlying hu, Result.andThen_ok, Option.map_none, Option.map_some, hb, sizeT_some hs, Sem.run_pure, add_addr]
          simp
        · simp only [RdA, std]
          have e0 : ((es.take h.toNat).drop (0 : Int).toNat) = es.take h.toNat := by simp
          rw [e0]
          refine .inl ⟨⟨some ⟨b, of, none⟩, by rw [hnm]⟩, ?_⟩
          simp only [RdD]
          refine .inr ⟨b, of, h.toNat, _, by rw [hnm], by rw [hnm]; exact Nat.le_refl _, hB, by rw [hnm]; omega, ?_, r1⟩
          have := cellsAt_sub (k := 0) (m := h.toNat * (n + 1)) hc
          simpa using this
    · cases hv
  · cases hv
end
end Go.Ly
end
section
namespace Go.Ly
section
variable {E : Env} {S : St} {w : World} {A : Fm} {σ : Sto} {a : Act} {o : Oper}
theorem noOwn_mkAgg_wkL : ∀ (cs : List AV), noOwn.noOwnL (wkL cs) = true
  | [] => rfl
  | c :: cs => by
    cases c <;> simp [wkL, wk1, noOwn.noOwnL, noOwn_mkAgg_wkL cs]
theorem wk_noOwn (x : AV) : noOwn (wk x) = true := by
  cases x with
  | agg cs =>
    simp only [wk, mkAgg]
    split
    · rfl
    · exact noOwn_mkAgg_wkL cs
  | _ => rfl
theorem wk_sound {x : AV} {v : Value} (h : RdA E.φ S w x v) : RdA E.φ S w (wk x) v := by
  cases x with
  | agg cs =>
    simp only [RdA] at h
    obtain ⟨vs, rfl, h⟩ := h
    exact mkAgg_sound (wkL_sound h)
  | own t sz es ep => exact RdOwn_d h
  | uq => exact trivial
  | up => exact trivial
  | pk => simp [RdA] at h
  | fresh => simp [RdA] at h
  | _ => exact h
theorem toD_sound {x : AV} {v : Value} {ep : Ep} {y : D} (h : RdA E.φ S w x v) (hd : toD x = some (ep, y)) : RdD w S.G (epB S.E ep) y v := by
  have h' := wk_sound h
  unfold toD at hd
  generalize wk x = z at *
  cases z <;> simp only [toD1, reduceCtorEq, Option.some.injEq, Prod.mk.injEq] at hd
  obtain ⟨rfl, rfl⟩ := hd
  exact RdD_epn h'
theorem opndL_sound {ts : Array TypeId} (hA : RdF E.φ S w A a.tmps.toList) : ∀ {i : Nat} {xs : List Operand} {ys : List AO}, opndL E.P E.ν ts i xs = some ys →
    RdNs E.φ S w (wks (evs A ys)) (xs.map a.eval)
  | i, [], ys, h => by
    simp only [opndL, Option.some.injEq] at h
    subst h
    simp [evs, wks, RdNs]
  | i, x :: xs, ys, h => by
    simp only [opndL] at h
    split at h
    · rename_i y ys' h1 h2
      simp only [Option.some.injEq] at h
      subst h
      simp only [evs, wks, RdNs, List.map_cons]
      exact ⟨_, _, rfl, wk_noOwn _, wk_sound (opnd_sound h1 hA), opndL_sound hA h2⟩
    · cases h
theorem map_mk {α β : Type} (f : α → β) (xs : Array α) : xs.map f = ⟨xs.toList.map f⟩ := by
  apply Array.ext'
  simp
theorem g_mkfn {f : FuncId} {k : Nat} {first cap : Array Operand} {xs ys : List AO} (hop : o.op = .makeFunc (.func f) first cap) (hf : E.ν f = some k)
    (hx : opnds E.P E.ν #[] first = some xs) (hy : opnds E.P E.ν #[] cap = some ys) (hA : RdF E.φ S w A a.tmps.toList) :
    Gives E S w a o (.fn k (wks (evs A xs)) (wks (evs A ys))) := by
  refine ⟨.func (.func f) (first.map a.eval) (cap.map a.eval), ?_, ?_⟩
  · simp [execOp, hop, Instr.makeFunc]
  · simp only [RdA]
    exact ⟨first.toList.map a.eval, cap.toList.map a.eval, by rw [E.inv f k hf, map_mk, map_mk], opndL_sound hA hx, opndL_sound hA hy⟩
theorem RdNs_get : ∀ {cs : List AV} {vs : List Value} (i : Nat), RdNs E.φ S w cs vs → i < cs.length → ∃ v, vs[i]? = some v ∧ RdA E.φ S w (gt cs i) v
  | [], vs, i, _, hi => absurd hi (by simp)
  | x :: xs, vs, 0, h, _ => by
    simp only [RdNs] at h
    obtain ⟨v, rest, rfl, _, h2, _⟩ := h
    exact ⟨v, rfl, h2⟩
  | x :: xs, vs, i + 1, h, hi => by
    simp only [RdNs] at h
    obtain ⟨v, rest, rfl, _, _, h⟩ := h
    simpa [gt] using RdNs_get i h (by simpa using hi)
theorem g_ext {t : Operand} {t' : AO} {k : Nat} {q : Prop} {v : AV} (hop : o.op = .extract t k) (ht : opnd E.P E.ν 0 t = some t') (hA : RdF E.φ S w A a.tmps.toList) {d : Nat}
    (hv : evV std d A σ (.ext t' k) = some (q, v)) : Gives E S w a o v := by
  have hT := opnd_sound ht hA
  simp only [evV] at hv
  split at hv
  · rename_i vs heq
    rw [heq] at hT
    split at hv
    · rename_i hle
      simp only [yes, Option.some.injEq, Prod.mk.injEq] at hv
      obtain ⟨_, rfl⟩ := hv
      rw [natLe_iff, len_eq] at hle
      simp only [RdA] at hT
      obtain ⟨us, hus, hr⟩ := hT
      obtain ⟨u, hu, h1⟩ := RdNs_get k hr (by omega)
      refine ⟨u, ?_, h1⟩
      simp [execOp, hop, hus, Instr.extract, hu]
    · cases hv
  · cases hv
theorem max_run {P : Program} : ∀ (A : Fm) (xs : List AO) (ops : List Operand) (m n : Int), RdF E.φ S w A a.tmps.toList → (∃ ts i, opndL E.P E.ν ts i ops = some xs) → maxA std A m xs = some n →
    ((ops.map a.eval).foldlM Builtin.max2 (.int .i64 m)).run P w = .ok (.int .i64 n) w
  | A, xs, [], m, n, hA, ⟨ts, i, h⟩, hm => by
    simp only [opndL, Option.some.injEq] at h
    subst h
    simp only [maxA, Option.some.injEq] at hm
    subst hm
    rfl
  | A, xs, x :: ops, m, n, hA, ⟨ts, i, h⟩, hm => by
    simp only [opndL] at h
    split at h
    · rename_i y ys h1 h2
      simp only [Option.some.injEq] at h
      subst h
      simp only [maxA] at hm
      split at hm
      · rename_i ep k heq
        have := opnd_sound h1 hA
        rw [heq] at this
        have e : a.eval x = .int .i64 k := this
        have ih := max_run (P := P) A ys ops (std.max m k) n hA ⟨ts, i + 1, h2⟩ hm
        simp only [List.map_cons, List.foldlM_cons, e, Builtin.max2, Sem.run_bind, Sem.run_pure, Result.andThen_ok]
        exact ih
      · cases hm
    · cases h
theorem g_mx {args : Array Operand} {ts : Array TypeId} {xs : List AO} {q : Prop} {v : AV} (hop : o.op = .call { callee := .builtin .max, args := args, argTypes := ts })
    (hx : opnds E.P E.ν ts args = some xs) (hA : RdF E.φ S w A a.tmps.toList) {d : Nat} (hv : evV std d A σ (.mx xs) = some (q, v)) : Gives E S w a o v := by
  unfold opnds at hx
  cases hargs : args.toList with
  | nil =>
    rw [hargs] at hx
    simp only [opndL, Option.some.injEq] at hx
    subst hx
    simp [evV] at hv
  | cons x ops =>
    rw [hargs] at hx
    simp only [opndL] at hx
    split at hx
    · rename_i y ys h1 h2
      simp only [Option.some.injEq] at hx
      subst hx
      simp only [evV] at hv
      split at hv
      · rename_i ep m heq
        split at hv
        · rename_i n hn
          simp only [sc, Option.some.injEq, Prod.mk.injEq] at hv
          obtain ⟨_, rfl⟩ := hv
          have := opnd_sound h1 hA
          rw [heq] at this
          have e : a.eval x = .int .i64 m := this
          have hr := max_run (P := E.P) (a := a) (w := w) A ys ops m n hA ⟨ts, 1, h2⟩ hn
          refine ⟨.int .i64 n, ?_, rfl⟩
          have hl : (args.map a.eval).toList = .int .i64 m :: ops.map a.eval := by simp [hargs, e]
          simp only [execOp, hop, resolve, invoke, builtin, Sem.run_bind, Sem.run_pure, Result.andThen_ok, Builtin.max_, hl, hr]
        · cases hv
      · cases hv
    · cases hx
theorem min_run {P : Program} : ∀ (A : Fm) (xs : List AO) (ops : List Operand) (m n : Int), RdF E.φ S w A a.tmps.toList → (∃ ts i, opndL E.P E.ν ts i ops = some xs) → minA std A m xs = some n →
    ((ops.map a.eval).foldlM Builtin.min2 (.int .i64 m)).run P w = .ok (.int .i64 n) w
  | A, xs, [], m, n, hA, ⟨ts, i, h⟩, hm => by
    simp only [opndL, Option.some.injEq] at h
    subst h
    simp only [minA, Option.some.injEq] at hm
    subst hm
    rfl
  | A, xs, x :: ops, m, n, hA, ⟨ts, i, h⟩, hm => by
    simp only [opndL] at h
    split at h
    · rename_i y ys h1 h2
      simp only [Option.some.injEq] at h
      subst h
      simp only [minA] at hm
      split at hm
      · rename_i ep k heq
        have := opnd_sound h1 hA
        rw [heq] at this
        have e : a.eval x = .int .i64 k := this
        have ih := min_run (P := P) A ys ops (std.min m k) n hA ⟨ts, i + 1, h2⟩ hm
        simp only [List.map_cons, List.foldlM_cons, e, Builtin.min2, Sem.run_bind, Sem.run_pure, Result.andThen_ok]
        exact ih
      · cases hm
    · cases h
theorem g_mn {args : Array Operand} {ts : Array TypeId} {xs : List AO} {q : Prop} {v : AV} (hop : o.op = .call { callee := .builtin .min, args := args, argTypes := ts })
    (hx : opnds E.P E.ν ts args = some xs) (hA : RdF E.φ S w A a.tmps.toList) {d : Nat} (hv : evV std d A σ (.mn xs) = some (q, v)) : Gives E S w a o v := by
  unfold opnds at hx
  cases hargs : args.toList with
  | nil =>
    rw [hargs] at hx
    simp only [opndL, Option.some.injEq] at hx
    subst hx
    simp [evV] at hv
  | cons x ops =>
    rw [hargs] at hx
    simp only [opndL] at hx
    split at hx
    · rename_i y ys h1 h2
      simp only [Option.some.injEq] at hx
      subst hx
      simp only [evV] at hv
      split at hv
      · rename_i ep m heq
        split at hv
        · rename_i n hn
          simp only [sc, Option.some.injEq, Prod.mk.injEq] at hv
          obtain ⟨_, rfl⟩ := hv
          have := opnd_sound h1 hA
          rw [heq] at this
          have e : a.eval x = .int .i64 m := this
          have hr := min_run (P := E.P) (a := a) (w := w) A ys ops m n hA ⟨ts, 1, h2⟩ hn
          refine ⟨.int .i64 n, ?_, rfl⟩
          have hl : (args.map a.eval).toList = .int .i64 m :: ops.map a.eval := by simp [hargs, e]
          simp only [execOp, hop, resolve, invoke, builtin, Sem.run_bind, Sem.run_pure, Result.andThen_ok, Builtin.min_, hl, hr]
        · cases hv
      · cases hv
    · cases hx
theorem rowU_cells {x : AV} {v : Value} {es : List D} (h : RdA E.φ S w x v) (hr : rowU x = some es) : (∃ p cap, v = .slice p 0 cap ∧ es = []) ∨
    ∃ b o cap sz ep vs, v = .slice (some ⟨b, o, none⟩) es.length cap ∧ cellsAt w b o vs ∧ RdRow w S.G (epB S.E ep) sz es vs := by
  have row : ∀ {sz es ep}, RdA E.φ S w (.d ep (.row sz es)) v → (∃ p cap, v = .slice p 0 cap ∧ es = []) ∨
      ∃ b o cap sz ep vs, v = .slice (some ⟨b, o, none⟩) es.length cap ∧ cellsAt w b o vs ∧ RdRow w S.G (epB S.E ep) sz es vs := by
    intro sz es ep h
    simp only [RdA, RdD] at h
    rcases h with ⟨⟨p, c, h⟩, rfl⟩ | ⟨b, o, cap, vs, h, _, _, _, h1, h2⟩
    · exact .inl ⟨p, c, h, rfl⟩
    · exact .inr ⟨b, o, cap, sz, ep, vs, h, h1, h2⟩
  cases x with
  | d e y =>
    cases y with
    | row s l => cases hr; exact row h
    | _ => cases hr
  | own t s l e => cases hr; exact row (RdOwn_d h : RdD _ _ _ _ _)
  | uq t s l e =>
    cases hr
    rcases h with ⟨_, rfl, h⟩ | ⟨b, vs, cs, T, _, h, hl, _, _, _, _, _, h1, h2⟩
    · exact .inl ⟨_, _, h, rfl⟩
    · exact .inr ⟨b, 0, _, s, e, vs, by rw [hl]; exact h, h1, h2⟩
  | fresh => simp [RdA] at h
  | _ => cases hr
theorem RdRow_isb {G : Nat → Nat} {B : Nat → Prop} {sz : Nat} : ∀ (es : List D) (vs : List Value), RdRow w G B sz es vs → std.isb es → vs = es.map fun x => Value.int .u8 (byteOf x).toNat
  | [], vs, h, _ => by simp only [RdRow] at h; simp [h]
  | e :: es, vs, h, hb => by
    simp only [RdRow] at h
    obtain ⟨v, rest, rfl, _, _, hv, h⟩ := h
    obtain ⟨c, rfl⟩ := hb e (by simp)
    obtain rfl : v = .int .u8 c.toNat := hv
    have ih := RdRow_isb es rest h fun x hx => hb x (by simp [hx])
    rw [ih]
    simp [Value.cells, byteOf]
theorem foldl_bytes : ∀ (l : List D) (s : List UInt8), (l.map fun x => ((byteOf x).toNat : Int)).foldl (fun r n => r.push (UInt8.ofNat n.toNat)) (⟨s.toArray⟩ : ByteArray) = ⟨(s ++ l.map byteOf).toArray⟩
  | [], s => by simp
  | x :: l, s => by
    simp only [List.map_cons, List.foldl_cons]
    have e : (⟨s.toArray⟩ : ByteArray).push (UInt8.ofNat ((byteOf x).toNat : Int).toNat) = ⟨(s ++ [byteOf x]).toArray⟩ := by
      apply ByteArray.ext
      simp [ByteArray.push]
    rw [e, foldl_bytes l (s ++ [byteOf x])]
    simp
theorem g_b2s {src dst e : TypeId} {x : Operand} {x' : AO} {q : Prop} {v : AV} {d : Nat} (hop : o.op = .convert src dst x) (hx : opnd E.P E.ν src x = some x')
    (hs : E.P.underlying src = some (.slice e)) (he : E.P.underlying e = some (.int .u8)) (hd : E.P.underlying dst = some .string) (hA : RdF E.φ S w A a.tmps.toList)
    (hv : evV std d A σ (.conv .b2s x') = some (q, v)) (hq : q) : Gives E S w a o v := by
  have hX := opnd_sound hx hA
  have key : ∀ es, rowU (x'.ev A) = some es → q = std.isb es → v = .d .top (.str (std.unb es)) → Gives E S w a o v := by
    rintro es hr rfl rfl
    rcases rowU_cells hX hr with ⟨p, cap, hv, rfl⟩ | ⟨b, of, cap, sz, ep, vs, hv, hc, hrow⟩
    · refine ⟨.string ⟨#[]⟩, ?_, rfl⟩
      cases p with
      | none => simp [execOp, hop, hv, run_convert_bytes_string w _ _ _ _ _ _ hs he hd, Conv.bytesToString]; rfl
      | some p =>
        have := run_bytesToString (P := E.P) w p 0 cap [] (by simp [loadCells, loadCellsFrom])
        simp only [execOp, hop, hv, Sem.run_bind, run_convert_bytes_string w _ _ _ _ _ _ hs he hd, this, Result.andThen_ok, Sem.run_pure]
        rfl
    · have hb := RdRow_isb es vs hrow hq
      have hl : vs.length = es.length := by rw [hb]; simp
      have hcells := run_loadCells_list (P := E.P) w ⟨b, of, none⟩ vs (fun j v hj => by rw [add_addr]; exact hc j v hj)
      rw [hl] at hcells
      have hvs : vs = (es.map fun x => ((byteOf x).toNat : Int)).map (Value.int .u8) := by rw [hb]; simp
      rw [hvs] at hcells
      have := run_bytesToString (P := E.P) w ⟨b, of, none⟩ es.length cap _ hcells
      refine ⟨.string ⟨(es.map byteOf).toArray⟩, ?_, rfl⟩
      have ef := foldl_bytes es []
      rw [List.nil_append] at ef
      simp only [execOp, hop, hv, Sem.run_bind, run_convert_bytes_string w _ _ _ _ _ _ hs he hd, this, Result.andThen_ok, Sem.run_pure]
      rw [← ef]
      rfl
  simp only [evV] at hv
  split at hv
  · rename_i es hr
    simp only [Option.some.injEq, Prod.mk.injEq] at hv
    exact key es hr hv.1.symm hv.2.symm
  · cases hv
theorem g_nilck {x : Operand} {x' : AO} {q : Prop} {v : AV} (hop : o.op = .nilCheck x) (hx : opnd E.P E.ν 0 x = some x') (hA : RdF E.φ S w A a.tmps.toList) {d : Nat}
    (hv : evV std d A σ (.nilck x') = some (q, v)) : Gives E S w a o v := by
  have hX := opnd_sound hx hA
  have key : ∀ u, a.eval x = u → (∃ b, u = .pointer (some b)) ∨ (∃ f a b, u = .func (.func f) a b) → (execOp a.eval o).run E.P w = .ok (.value u) w := by
    rintro u hu (⟨b, rfl⟩ | ⟨f, a', b, rfl⟩) <;> simp [execOp, hop, hu]
  simp only [evV] at hv
  split at hv <;> (try (cases hv; done)) <;> rename_i heq <;> rw [heq] at hX <;> simp only [yes, Option.some.injEq, Prod.mk.injEq] at hv <;> obtain ⟨_, rfl⟩ := hv <;> have h0 := hX <;> simp only [RdA] at hX
  · obtain ⟨b, hb, hp⟩ := hX
    exact ⟨_, key _ rfl (by rw [hp]; exact .inl ⟨_, rfl⟩), h0⟩
  · obtain ⟨b, vs, hp, _⟩ := hX
    exact ⟨_, key _ rfl (by rw [hp]; exact .inl ⟨_, rfl⟩), h0⟩
  · obtain ⟨b, vs, hp, _⟩ := hX
    exact ⟨_, key _ rfl (by rw [hp]; exact .inl ⟨_, rfl⟩), h0⟩
  · obtain ⟨b, o', y, hp, _⟩ := hX
    exact ⟨_, key _ rfl (by rw [hp]; exact .inl ⟨_, rfl⟩), h0⟩
  · obtain ⟨b, y, _, hp, _⟩ := hX
    exact ⟨_, key _ rfl (by rw [hp]; exact .inl ⟨_, rfl⟩), h0⟩
  · obtain ⟨va, vc, hp, _⟩ := hX
    exact ⟨_, key _ rfl (by rw [hp]; exact .inr ⟨_, _, _, rfl⟩), h0⟩
theorem zerosFit_sound (d : Nat) : ∀ (i : Nat) (vs : List Value) (ds : List D), zerosFit vs ds = true → RdAs E.φ S w (zcells d i ds) vs
  | i, [], [], _ => by simp [zcells, RdAs]
  | i, [], _ :: _, h => by cases h
  | i, _ :: _, [], h => by cases h
  | i, v :: vs, x :: ds, h => by
    simp only [zerosFit, Bool.and_eq_true] at h
    simp only [zcells, RdAs]
    refine ⟨v, vs, rfl, ?_, ?_, zerosFit_sound d (i + 1) vs ds h.2⟩
    · cases x with
      | row sz es => cases es <;> trivial
      | _ => trivial
    · have h1 := h.1
      unfold zeroFits at h1
      split at h1
      all_goals first
        | cases h1; done
        | skip
      · rfl
      · simp only [Bool.and_eq_true, beq_iff_eq] at h1
        obtain ⟨⟨rfl, rfl⟩, rfl⟩ := h1
        rfl
      · rename_i s
        simp only [zcell, RdA, RdD]
        simp only [List.isEmpty_iff] at h1
        congr 1
        apply ByteArray.ext
        apply Array.ext'
        simp [h1]
      · exact .inl ⟨⟨none, rfl⟩, (RdD_nilrow (.inl rfl))⟩
      · rfl
      · rfl
      · rfl
theorem zeroD_sound {t : TypeId} {zs : List D} (h : zeroD E.P t = some zs) (d : Nat) : ∃ v, (zeroValue t).run E.P w = .ok v w ∧ RdAs E.φ S w (zcells d 0 zs) v.cells.toList := by
  unfold zeroD at h
  split at h
  · rename_i ds v h1 h2
    split at h
    · rename_i hf
      simp only [Option.some.injEq] at h
      subst h
      simp only [Option.bind_eq_some_iff] at h2
      obtain ⟨i, hi, hz⟩ := h2
      exact ⟨v, by simp [zeroValue, typeInfo, hi, hz], zerosFit_sound d 0 _ _ hf⟩
    · cases h
  · cases h
theorem RdAs_upd {y : AV} {u : Value} (hy : RdA E.φ S w y u) (hn : notAgg y) : ∀ {xs : List AV} {vs : List Value} (t : Nat), RdAs E.φ S w xs vs → RdAs E.φ S w (upd xs t y) (vs.set t u)
  | [], vs, t, h => by
    simp only [RdAs] at h
    subst h
    simp [upd, RdAs]
  | x :: xs, vs, 0, h => by
    simp only [RdAs] at h
    obtain ⟨v, rest, rfl, _, _, h⟩ := h
    simp only [upd, RdAs, List.set_cons_zero]
    exact ⟨u, rest, rfl, hn, hy, h⟩
  | x :: xs, vs, t + 1, h => by
    simp only [RdAs] at h
    obtain ⟨v, rest, rfl, h0, h1, h⟩ := h
    simp only [upd, RdAs, List.set_cons_succ]
    exact ⟨v, _, rfl, h0, h1, RdAs_upd hy hn t h⟩
def putV (vs : List Value) (off : Nat) : List Value → List Value
  | [] => vs
  | u :: us => putV (vs.set off u) (off + 1) us
theorem RdAs_put : ∀ {ys : List AV} {us : List Value} {xs : List AV} {vs : List Value} (off : Nat), RdAs E.φ S w ys us → RdAs E.φ S w xs vs →
    RdAs E.φ S w (putCells xs off ys) (putV vs off us)
  | [], us, xs, vs, off, h, hx => by
    simp only [RdAs] at h
    subst h
    simpa [putCells, putV] using hx
  | y :: ys, us, xs, vs, off, h, hx => by
    simp only [RdAs] at h
    obtain ⟨u, rest, rfl, hn, h1, h2⟩ := h
    simp only [putCells, putV]
    exact RdAs_put (off + 1) h2 (RdAs_upd h1 hn off hx)
theorem putV_len : ∀ (us vs : List Value) (off : Nat), (putV vs off us).length = vs.length
  | [], _, _ => rfl
  | u :: us, vs, off => by simp [putV, putV_len us]
theorem foldl_putV : ∀ (us : List Value) (k off : Nat) (cs : Array Value),
    ((us.zipIdx k).foldl (fun (cs : Array Value) (x : Value × Nat) => cs.setIfInBounds (off + x.2) x.1) cs).toList = putV cs.toList (off + k) us
  | [], _, _, _ => rfl
  | u :: us, k, off, cs => by
    simp only [List.zipIdx_cons, List.foldl_cons, putV]
    rw [foldl_putV us (k + 1) off]
    simp [Nat.add_assoc]
theorem fold_putV (v : Array Value) (off : Nat) (cs : Array Value) :
    v.zipIdx.foldl (fun (cs : Array Value) (c, j) => cs.setIfInBounds (off + j) c) cs = ⟨putV cs.toList off v.toList⟩ := by
  apply Array.ext'
  have := foldl_putV v.toList 0 off cs
  simp only [Nat.add_zero] at this
  rw [← this, ← Array.foldl_toList]
  simp [Array.toList_zipIdx]
inductive Both {α β : Type} (R : α → β → Prop) : List α → List β → Prop
  | nil : Both R [] []
  | cons {x y xs ys} (h : R x y) (t : Both R xs ys) : Both R (x :: xs) (y :: ys)
theorem fill_sound (place : Nat → Option (Nat × Nat)) (hA : RdF E.φ S w A a.tmps.toList) : ∀ (ps : List (Nat × Operand)) (qs : List (Nat × Nat × AO)) (cs cs' : List AV) (vs : List Value),
    RdAs E.φ S w cs vs → fillParts A cs qs = some cs' →
    (Both (fun (x : Nat × Operand) (y : Nat × Nat × AO) => place x.1 = some (y.1, y.2.1) ∧ RdA E.φ S w (y.2.2.ev A) (a.eval x.2)) ps qs) →
    ∃ us : List Value, Instr.fill place ⟨vs⟩ (ps.map fun x => (x.1, a.eval x.2)) = some ⟨us⟩ ∧ RdAs E.φ S w cs' us
  | [], _, cs, cs', vs, hc, hf, h => by
    cases h
    simp only [fillParts, Option.some.injEq] at hf
    subst hf
    exact ⟨vs, rfl, hc⟩
  | x :: ps, _, cs, cs', vs, hc, hf, h => by
    cases h with
    | @cons _ y _ qs h1 h2 =>
      obtain ⟨off, sz, z⟩ := y
      obtain ⟨hp, hr⟩ := h1
      simp only [fillParts] at hf
      split at hf
      · cases hf
      · rename_i ws hws
        split at hf
        · rename_i hle
          simp only [Bool.and_eq_true, natEq_iff, natLe_iff, len_eq] at hle
          have hcell := cells_sound hr hws
          have hl1 := RdAs_len _ _ hcell
          have hl2 := RdAs_len _ _ hc
          obtain ⟨us, hu, hr'⟩ := fill_sound place hA ps qs _ cs' _ (RdAs_put off hcell hc) hf h2
          refine ⟨us, ?_, hr'⟩
          simp only [List.map_cons, Instr.fill, hp]
          have hl1' : (a.eval x.2).cells.size = ws.length := by simpa using hl1
          rw [if_neg (by
            intro h
            simp only [Bool.or_eq_true, decide_eq_true_eq] at h
            rcases h with h | h
            · exact h (by omega)
            · simp only [List.size_toArray] at h
              omega)]
          rw [fold_putV]
          exact hu
        · cases hf
theorem partsS_sound {fs : Array Field} (hA : RdF E.φ S w A a.tmps.toList) (places : Array (Nat × Nat)) (hp : ∀ (i : Nat) (f : Field) (s : Nat), fs[i]? = some f → sizeT E.P f.type = some s → places[i]? = some (f.offset, s)) :
    ∀ (ps : List (Nat × Operand)) (qs : List (Nat × Nat × AO)), partsS E.P E.ν fs ps = some qs →
    Both (fun (x : Nat × Operand) (y : Nat × Nat × AO) => places[x.1]? = some (y.1, y.2.1) ∧ RdA E.φ S w (y.2.2.ev A) (a.eval x.2)) ps qs
  | [], qs, h => by
    simp only [partsS, Option.some.injEq] at h
    subst h
    exact .nil
  | (i, x) :: ps, qs, h => by
    simp only [partsS] at h
    split at h
    · cases h
    · rename_i f hf
      split at h
      · rename_i s y rest h1 h2 h3
        simp only [Option.some.injEq] at h
        subst h
        exact .cons ⟨hp i f s hf h1, opnd_sound h2 hA⟩ (partsS_sound hA places hp ps rest h3)
      · cases h
theorem partsA_sound {n : Nat} {e : TypeId} {s : Nat} (hA : RdF E.φ S w A a.tmps.toList) :
    ∀ (ps : List (Nat × Operand)) (qs : List (Nat × Nat × AO)), partsA E.P E.ν n e s ps = some qs →
    Both (fun (x : Nat × Operand) (y : Nat × Nat × AO) => some (x.1 * s, s) = some (y.1, y.2.1) ∧ RdA E.φ S w (y.2.2.ev A) (a.eval x.2)) ps qs
  | [], qs, h => by
    simp only [partsA, Option.some.injEq] at h
    subst h
    exact .nil
  | (i, x) :: ps, qs, h => by
    simp only [partsA] at h
    split at h
    · rename_i y rest h1 h2
      simp only [Option.some.injEq] at h
      subst h
      exact .cons ⟨rfl, opnd_sound h1 hA⟩ (partsA_sound hA ps rest h2)
    · cases h
theorem mapM_run {P : Program} : ∀ (fs : List Field), (∀ f ∈ fs, (sizeT P f.type).isSome) →
    (fs.mapM (m := Sem) fun f => do pure (f.offset, ← sizeOf f.type)).run P w = .ok (fs.map fun f => (f.offset, (sizeT P f.type).getD 0)) w
  | [], _ => by simp
  | f :: fs, h => by
    obtain ⟨s, hs⟩ := Option.isSome_iff_exists.1 (h f (by simp))
    have ih := mapM_run fs (fun g hg => h g (by simp [hg]))
    simp only [List.mapM_cons, Sem.run_bind, sizeT_some hs, Result.andThen_ok, Sem.run_pure, ih, List.map_cons, hs, Option.getD_some]
theorem g_build_struct {t : TypeId} {parts : Array (Nat × Operand)} {fs : Array Field} {zs : List D} {qs : List (Nat × Nat × AO)} {q : Prop} {v : AV} (hop : o.op = .build t parts)
    (hu : E.P.underlying t = some (.struct fs)) (hz : zeroD E.P t = some zs) (hfs : ∀ f ∈ fs.toList, (sizeT E.P f.type).isSome) (hq : partsS E.P E.ν fs parts.toList = some qs) (hA : RdF E.φ S w A a.tmps.toList) {d : Nat}
    (hv : evV std d A σ (.build zs qs) = some (q, v)) : Gives E S w a o v := by
  simp only [evV] at hv
  split at hv
  · rename_i cs hcs
    simp only [yes, Option.some.injEq, Prod.mk.injEq] at hv
    obtain ⟨_, rfl⟩ := hv
    obtain ⟨zv, hzr, hzc⟩ := zeroD_sound (E := E) (S := S) (w := w) hz d
    have hpl := partsS_sound (a := a) hA ⟨fs.toList.map fun f => (f.offset, (sizeT E.P f.type).getD 0)⟩ (fun i f s hf hs => by
      simp only [List.getElem?_toArray, List.getElem?_map]
      rw [Array.getElem?_toList, hf]
      simp [hs]) parts.toList qs hq
    obtain ⟨us, hfill, hr⟩ := fill_sound _ hA parts.toList qs _ cs _ hzc hcs hpl
    refine ⟨.agg ⟨us⟩, ?_, mkAgg_sound hr⟩
    have hm := mapM_run (w := w) (P := E.P) fs.toList hfs
    have hz' : (⟨zv.cells.toList⟩ : Array Value) = zv.cells := rfl
    rw [hz'] at hfill
    simp only [execOp, hop, Instr.build, Sem.run_bind, hzr, Result.andThen_ok, run_underlying hu, Sem.run_pure]
    rw [Array.mapM_eq_mapM_toList]
    simp only [Sem.run_map, hm, Result.andThen_ok, map_mk]
    rw [hfill]
    rfl
  · cases hv
theorem g_build_array {t e : TypeId} {n s : Nat} {parts : Array (Nat × Operand)} {zs : List D} {qs : List (Nat × Nat × AO)} {q : Prop} {v : AV} (hop : o.op = .build t parts)
    (hu : E.P.underlying t = some (.array n e)) (hz : zeroD E.P t = some zs) (hs : sizeT E.P e = some s) (hq : partsA E.P E.ν n e s parts.toList = some qs) (hA : RdF E.φ S w A a.tmps.toList) {d : Nat}
    (hv : evV std d A σ (.build zs qs) = some (q, v)) : Gives E S w a o v := by
  simp only [evV] at hv
  split at hv
  · rename_i cs hcs
    simp only [yes, Option.some.injEq, Prod.mk.injEq] at hv
    obtain ⟨_, rfl⟩ := hv
    obtain ⟨zv, hzr, hzc⟩ := zeroD_sound (E := E) (S := S) (w := w) hz d
    have hpl := partsA_sound (a := a) hA parts.toList qs hq
    obtain ⟨us, hfill, hr⟩ := fill_sound (fun i => some (i * s, s)) hA parts.toList qs _ cs _ hzc hcs hpl
    refine ⟨.agg ⟨us⟩, ?_, mkAgg_sound hr⟩
    have hz' : (⟨zv.cells.toList⟩ : Array Value) = zv.cells := rfl
    rw [hz'] at hfill
    simp only [execOp, hop, Instr.build, Sem.run_bind, hzr, Result.andThen_ok, run_underlying hu, Sem.run_pure, sizeT_some hs, map_mk]
    rw [hfill]
    rfl
  · cases hv
end
end Go.Ly
end
section
namespace Go.Ly
def RepE (E : Env) (S : St) (w : World) (b : Nat) : SE → Prop
  | .bx cs => BoxAt E S w b cs
  | .md ep m => ∃ es k, w.heap[b]? = some (.map es k) ∧ RdM w S.G (epB S.E ep) m es.toList
  | .mf ks vs => ∃ es k, w.heap[b]? = some (.map es k) ∧ RdKs E.φ S w vs ks es.toList
structure Rep (E : Env) (S : St) (w : World) (σ : Sto) : Prop where
  len : S.θ.length = σ.length
  nodup : S.θ.Nodup
  box : ∀ (id b : Nat) s, S.θ[id]? = some b → σ[id]? = some s → RepE E S w b s
  θlt : ∀ b, b ∈ S.θ → b < w.heap.size ∧ S.G b = 0
  θX : ∀ b, b ∈ S.θ → ¬ S.X b
  βlt : ∀ t b, S.β t = some b → b < w.heap.size ∧ (S.n0 ≤ b ∨ S.L b) ∧ b ∉ S.θ
  βown : ∀ t b, S.β (2 * t) = some b → S.n0 ≤ b
  βinj : ∀ t t' b, S.β t = some b → S.β t' = some b → t = t'
  Gnew : ∀ b, w.heap.size ≤ b → S.G b = 0
  E : S.E ≤ w.heap.size
  n0 : S.n0 ≤ w.heap.size
  D : True
  X : ∀ b, S.X b → b < w.heap.size ∧ ∀ t, S.β t ≠ some b
def Sized (o o' : Obj) : Prop := ∀ cs T f, o = .cells cs T f → ∃ cs' T' f', o' = .cells cs' T' f' ∧ cs'.size = cs.size
def SameOs (w w' : World) : Prop := w'.os = w.os ∧ w'.output = w.output ∧ ∀ (b : Nat) o, w.heap[b]? = some o → ∃ o', w'.heap[b]? = some o' ∧ Sized o o'
theorem Sized.refl (o : Obj) : Sized o o := fun cs T f h => ⟨cs, T, f, h, rfl⟩
theorem Sized.trans {o o' o'' : Obj} (h : Sized o o') (h' : Sized o' o'') : Sized o o'' := fun cs T f e => by
  obtain ⟨cs', T', f', e', h1⟩ := h cs T f e
  obtain ⟨cs'', T'', f'', e'', h2⟩ := h' cs' T' f' e'
  exact ⟨cs'', T'', f'', e'', h2.trans h1⟩
theorem SameOs.refl (w : World) : SameOs w w := ⟨rfl, rfl, fun _ o h => ⟨o, h, .refl o⟩⟩
theorem SameOs.trans {w w' w'' : World} (h : SameOs w w') (h' : SameOs w' w'') : SameOs w w'' := ⟨h'.1.trans h.1, h'.2.1.trans h.2.1, fun b o e => by
  obtain ⟨o1, e1, h1⟩ := h.2.2 b o e
  obtain ⟨o2, e2, h2⟩ := h'.2.2 b o1 e1
  exact ⟨o2, e2, h1.trans h2⟩⟩
theorem SameOs.heap {w w' : World} (h1 : w'.os = w.os) (h2 : w'.output = w.output) (h : ∀ (b : Nat), b < w.heap.size → w'.heap[b]? = w.heap[b]?) : SameOs w w' :=
  ⟨h1, h2, fun b o e => ⟨o, (h b (Array.getElem?_eq_some_iff.1 e).1).trans e, .refl o⟩⟩
theorem SameOs.turn {w w' : World} {b : Nat} {o o' : Obj} (h1 : w'.os = w.os) (h2 : w'.output = w.output) (hb : w.heap[b]? = some o) (hb' : w'.heap[b]? = some o') (hs : Sized o o') (h : ∀ (c : Nat), c < w.heap.size → c ≠ b → w'.heap[c]? = w.heap[c]?) : SameOs w w' :=
  ⟨h1, h2, fun c q e => by
    by_cases hc : c = b
    · subst hc
      rw [hb] at e
      cases e
      exact ⟨o', hb', hs⟩
    · exact ⟨q, (h c (Array.getElem?_eq_some_iff.1 e).1 hc).trans e, .refl q⟩⟩
structure EvF (S : St) (w : World) (S' : St) (w' : World) : Prop where
  θ : ∀ (id b : Nat), S.θ[id]? = some b → S'.θ[id]? = some b
  n0 : S'.n0 = S.n0 ∧ S'.D = S.D ∧ S'.L = S.L
  X : ∀ b, S.X b → S'.X b
  E : S'.E = S.E
  xv : S'.xv = S.xv
  size : w.heap.size ≤ w'.heap.size
  frame : ∀ b, b < w.heap.size → b ∉ S.θ → (∀ t, S.β t ≠ some b) → ¬ S.X b → w'.heap[b]? = w.heap[b]? ∧ S'.G b = S.G b
  G : ∀ b, S.G b ≤ S'.G b
  imm : Imm All w S.G w'
  newθ : ∀ b, b ∈ S'.θ → b ∈ S.θ ∨ w.heap.size ≤ b
  newβ : ∀ t b, S'.β t = some b → (∃ t', S.β t' = some b) ∨ w.heap.size ≤ b
  newX : ∀ b, S'.X b → S.X b ∨ w.heap.size ≤ b
  os : SameOs w w'
def NoC (w : World) (b : Nat) : Prop := (∀ i, w.cell? ⟨b, i, none⟩ = none) ∧ ∀ es k, w.heap[b]? ≠ some (.map es k)
structure Ev (S : St) (w : World) (S' : St) (w' : World) : Prop where
  θ : ∀ (id b : Nat), S.θ[id]? = some b → S'.θ[id]? = some b
  n0 : S'.n0 = S.n0 ∧ S'.D = S.D ∧ S'.L = S.L
  X : ∀ b, S.X b → S'.X b
  E : S'.E = S.E
  xv : S'.xv = S.xv
  size : w.heap.size ≤ w'.heap.size
  frame : ∀ b, b < w.heap.size → b ∉ S.θ → (∀ t, S.β t ≠ some b) → ¬ S.X b → (b < S.D ∨ NoC w b) → w'.heap[b]? = w.heap[b]? ∧ S'.G b = S.G b
  G : ∀ b, b < S.D → S.G b ≤ S'.G b
  imm : Imm (· < S.D) w S.G w'
  newθ : ∀ b, b ∈ S'.θ → b ∈ S.θ ∨ w.heap.size ≤ b
  newβ : ∀ t b, S'.β t = some b → (∃ t', S.β t' = some b) ∨ w.heap.size ≤ b
  newX : ∀ b, S'.X b → S.X b ∨ w.heap.size ≤ b
  os : SameOs w w'
theorem Imm.weak {Q Q' : Nat → Prop} {w w' : World} {G : Nat → Nat} (h : Imm Q w G w') (hQ : ∀ b, Q' b → Q b) : Imm Q' w G w' :=
  ⟨fun b i v hb => h.cell b i v (hQ b hb), fun b es k hb => h.map b es k (hQ b hb)⟩
theorem Imm.trans {Q : Nat → Prop} {w w' w'' : World} {G G' : Nat → Nat} (h : Imm Q w G w') (h' : Imm Q w' G' w'') (hG : ∀ b, Q b → G b ≤ G' b) : Imm Q w G w'' :=
  ⟨fun b i v hb hi hc => h'.cell b i v hb (Nat.lt_of_lt_of_le hi (hG b hb)) (h.cell b i v hb hi hc), fun b es k hb hi hc => h'.map b es k hb (Nat.lt_of_lt_of_le hi (hG b hb)) (h.map b es k hb hi hc)⟩
theorem EvF.weak {S w S' w'} (h : EvF S w S' w') : Ev S w S' w' :=
  ⟨h.θ, h.n0, h.X, h.E, h.xv, h.size, fun b h1 h2 h3 h4 _ => h.frame b h1 h2 h3 h4, fun b _ => h.G b, h.imm.weak fun _ _ => trivial, h.newθ, h.newβ, h.newX, h.os⟩
theorem EvF.refl (S : St) (w : World) : EvF S w S w :=
  ⟨fun _ _ h => h, ⟨rfl, rfl, rfl⟩, fun _ h => h, rfl, rfl, Nat.le_refl _, fun _ _ _ _ _ => ⟨rfl, rfl⟩, fun _ => Nat.le_refl _, .refl _ _, fun _ h => .inl h, fun t _ h => .inl ⟨t, h⟩, fun _ h => .inl h, .refl w⟩
theorem Ev.refl (S : St) (w : World) : Ev S w S w := (EvF.refl S w).weak
theorem NoC.same {w w' : World} {b : Nat} (h : NoC w b) (e : w'.heap[b]? = w.heap[b]?) : NoC w' b :=
  ⟨fun i => by have := h.1 i; simp only [World.cell?, e] at this ⊢; exact this, fun es k => by rw [e]; exact h.2 es k⟩
theorem Ev.trans {S w S' w' S'' w''} (h : Ev S w S' w') (h' : Ev S' w' S'' w'') : Ev S w S'' w'' where
  θ id b hb := h'.θ id b (h.θ id b hb)
  n0 := ⟨h'.n0.1.trans h.n0.1, h'.n0.2.1.trans h.n0.2.1, h'.n0.2.2.trans h.n0.2.2⟩
  X b hb := h'.X b (h.X b hb)
  E := h'.E.trans h.E
  xv := h'.xv.trans h.xv
  size := Nat.le_trans h.size h'.size
  frame b hb hθ hβ hX hD := by
    obtain ⟨h1, h2⟩ := h.frame b hb hθ hβ hX hD
    obtain ⟨h3, h4⟩ := h'.frame b (Nat.lt_of_lt_of_le hb h.size)
      (fun hm => (h.newθ b hm).elim hθ (fun hge => absurd hb (Nat.not_lt.2 hge)))
      (fun t ht => (h.newβ t b ht).elim (fun ⟨t', ht'⟩ => hβ t' ht') (fun hge => absurd hb (Nat.not_lt.2 hge))) (fun hX' => (h.newX b hX').elim hX (fun hge => absurd hb (Nat.not_lt.2 hge)))
      (hD.imp (fun hD => by rw [h.n0.2.1]; exact hD) fun hN => hN.same h1)
    exact ⟨h3.trans h1, h4.trans h2⟩
  G b hb := Nat.le_trans (h.G b hb) (h'.G b (by rw [h.n0.2.1]; exact hb))
  imm := h.imm.trans (by have := h'.imm; rw [h.n0.2.1] at this; exact this) h.G
  newθ b hb := by
    rcases h'.newθ b hb with h1 | h1
    · exact h.newθ b h1
    · exact .inr (Nat.le_trans h.size h1)
  newβ t b hb := by
    rcases h'.newβ t b hb with ⟨t', h1⟩ | h1
    · exact h.newβ t' b h1
    · exact .inr (Nat.le_trans h.size h1)
  newX b hb := by
    rcases h'.newX b hb with h1 | h1
    · exact h.newX b h1
    · exact .inr (Nat.le_trans h.size h1)
  os := h.os.trans h'.os
theorem EvF.trans {S w S' w' S'' w''} (h : EvF S w S' w') (h' : EvF S' w' S'' w'') : EvF S w S'' w'' where
  θ id b hb := h'.θ id b (h.θ id b hb)
  n0 := ⟨h'.n0.1.trans h.n0.1, h'.n0.2.1.trans h.n0.2.1, h'.n0.2.2.trans h.n0.2.2⟩
  X b hb := h'.X b (h.X b hb)
  E := h'.E.trans h.E
  xv := h'.xv.trans h.xv
  size := Nat.le_trans h.size h'.size
  frame b hb hθ hβ hX := by
    obtain ⟨h1, h2⟩ := h.frame b hb hθ hβ hX
    obtain ⟨h3, h4⟩ := h'.frame b (Nat.lt_of_lt_of_le hb h.size)
      (fun hm => (h.newθ b hm).elim hθ (fun hge => absurd hb (Nat.not_lt.2 hge)))
      (fun t ht => (h.newβ t b ht).elim (fun ⟨t', ht'⟩ => hβ t' ht') (fun hge => absurd hb (Nat.not_lt.2 hge))) (fun hX' => (h.newX b hX').elim hX (fun hge => absurd hb (Nat.not_lt.2 hge)))
    exact ⟨h3.trans h1, h4.trans h2⟩
  G b := Nat.le_trans (h.G b) (h'.G b)
  imm := h.imm.trans h'.imm fun b _ => h.G b
  newθ b hb := by
    rcases h'.newθ b hb with h1 | h1
    · exact h.newθ b h1
    · exact .inr (Nat.le_trans h.size h1)
  newβ t b hb := by
    rcases h'.newβ t b hb with ⟨t', h1⟩ | h1
    · exact h.newβ t' b h1
    · exact .inr (Nat.le_trans h.size h1)
  newX b hb := by
    rcases h'.newX b hb with h1 | h1
    · exact h.newX b h1
    · exact .inr (Nat.le_trans h.size h1)
  os := h.os.trans h'.os
theorem Keeps.refl (S : St) (w : World) : Keeps [] [] S w S w :=
  ⟨⟨fun _ _ h => h, rfl, rfl, fun _ => Nat.le_refl _, Nat.le_refl _, .refl _ _, fun _ _ _ h => ⟨h, rfl, rfl⟩, fun _ _ h => h, fun _ _ => rfl⟩, fun _ h1 h2 h3 h4 => ⟨⟨h1, h2, h3, h4⟩, rfl⟩⟩
theorem demoteS_get : ∀ (T : List Nat) (σ : Sto) (id : Nat), (demoteS T σ)[id]? = (σ[id]?).map (SE.demote T)
  | _, [], _ => rfl
  | _, _ :: _, 0 => rfl
  | T, _ :: σ, id + 1 => by simp [demoteS, demoteS_get T σ id]
theorem demoteS_len : ∀ (T : List Nat) (σ : Sto), (demoteS T σ).length = σ.length
  | _, [] => rfl
  | T, _ :: σ => by simp [demoteS, demoteS_len T σ]
theorem SE.demote_nil : ∀ s : SE, s.demote [] = s
  | .bx cs => by simp [SE.demote, demoteL_nil]
  | .md _ _ => rfl
  | .mf _ _ => rfl
theorem SE.kill_nil : ∀ s : SE, s.kill [] = s
  | .bx cs => by simp [SE.kill, killL_nil]
  | .md _ _ => rfl
  | .mf _ _ => rfl
def killS (U : List Nat) : Sto → Sto
  | [] => []
  | s :: σ => s.kill U :: killS U σ
theorem killS_get : ∀ (U : List Nat) (σ : Sto) (id : Nat), (killS U σ)[id]? = (σ[id]?).map (SE.kill U)
  | _, [], _ => rfl
  | _, _ :: _, 0 => rfl
  | U, _ :: σ, id + 1 => by simp [killS, killS_get U σ id]
theorem killS_len : ∀ (U : List Nat) (σ : Sto), (killS U σ).length = σ.length
  | _, [] => rfl
  | U, _ :: σ => by simp [killS, killS_len U σ]
theorem RepE_keepU {E : Env} {S S' : St} {w w' : World} {T U : List Nat} (K : Keeps T U S w S' w') {b : Nat} (hb : w'.heap[b]? = w.heap[b]?) : ∀ {s : SE}, RepE E S w b s → RepE E S' w' b ((s.demote T).kill U) := by
  intro s h
  cases s with
  | bx cs =>
    obtain ⟨vs, t, h1, h2⟩ := h
    exact ⟨vs, t, hb.trans h1, RdAs_keep K cs vs h2⟩
  | md ep m =>
    obtain ⟨es, k, h1, h2⟩ := h
    exact ⟨es, k, hb.trans h1, RdM_mono (K.grow ep) m _ h2⟩
  | mf ks vs =>
    obtain ⟨es, k, h1, h2⟩ := h
    exact ⟨es, k, hb.trans h1, RdKs_keep K vs ks _ h2⟩
theorem RepE_keep {E : Env} {S S' : St} {w w' : World} {T : List Nat} (K : Keeps T [] S w S' w') {b : Nat} (hb : w'.heap[b]? = w.heap[b]?) {s : SE} (h : RepE E S w b s) : RepE E S' w' b (s.demote T) := by
  have := RepE_keepU K hb h
  rwa [SE.kill_nil] at this
def XSame (S : St) (w : World) (S' : St) (w' : World) : Prop := S'.X = S.X ∧ ∀ b, b < w.heap.size → S.X b → w'.heap[b]? = w.heap[b]? ∧ S'.G b = S.G b
structure Moves (T U : List Nat) (S : St) (w : World) (S' : St) (w' : World) : Prop where
  k0 : Keeps0 T U S w S' w'
  ev : EvF S w S' w'
  n0 : S.n0 ≤ w.heap.size
  x : XSame S w S' w'
theorem Moves.keeps {T U : List Nat} {S : St} {w : World} {S' : St} {w' : World} (M : Moves T U S w S' w') : Keeps T U S w S' w' :=
  ⟨M.k0, fun b h1 h2 h3 h4 =>
    have hlt : b < w.heap.size := Nat.lt_of_lt_of_le h1 M.n0
    ⟨⟨by rw [M.ev.n0.1]; exact h1, fun hX => (M.ev.newX b hX).elim h2 (fun hge => by omega), fun hm => (M.ev.newθ b hm).elim h3 (fun hge => by omega), fun t ht => (M.ev.newβ t b ht).elim (fun ⟨t', h'⟩ => h4 t' h') (fun hge => by omega)⟩,
      (M.ev.frame b hlt h3 h4 h2).1⟩⟩
theorem heap_lt {w : World} {b : Nat} {o : Obj} (h : w.heap[b]? = some o) : b < w.heap.size := by
  rcases Nat.lt_or_ge b w.heap.size with h' | h'
  · exact h'
  · simp [Array.getElem?_eq_none h'] at h
theorem cell_lt {w : World} {b i : Nat} {v : Value} (h : w.cell? ⟨b, i, none⟩ = some v) : b < w.heap.size := by
  unfold World.cell? at h
  cases hb : w.heap[b]? with
  | none => rw [hb] at h; cases h
  | some o => exact heap_lt hb
theorem cell_same {w w' : World} {b : Nat} (h : w'.heap[b]? = w.heap[b]?) (i : Nat) : w'.cell? ⟨b, i, none⟩ = w.cell? ⟨b, i, none⟩ := by
  simp [World.cell?, h]
def setG (G : Nat → Nat) (b m : Nat) : Nat → Nat := fun c => if c = b then m else G c
theorem setG_same (G : Nat → Nat) (b m : Nat) : setG G b m b = m := by simp [setG]
theorem setG_other {G : Nat → Nat} {b m c : Nat} (h : c ≠ b) : setG G b m c = G c := by simp [setG, h]
def setβ (β : Nat → Option Nat) (t b : Nat) : Nat → Option Nat := fun u => if u = t then some b else β u
structure More (w w' : World) (o : Obj) : Prop where
  heap : w'.heap = w.heap.push o
  oso : w'.os = w.os ∧ w'.output = w.output
theorem More.old {w w' : World} {o : Obj} (h : More w w' o) {b : Nat} (hb : b < w.heap.size) : w'.heap[b]? = w.heap[b]? := by
  rw [h.heap, Array.getElem?_push_lt hb, Array.getElem?_eq_getElem hb]
theorem More.os {w w' : World} {o : Obj} (h : More w w' o) : SameOs w w' := .heap h.oso.1 h.oso.2 fun _ hb => h.old hb
theorem More.new {w w' : World} {o : Obj} (h : More w w' o) : w'.heap[w.heap.size]? = some o := by
  rw [h.heap]; simp
theorem More.size {w w' : World} {o : Obj} (h : More w w' o) : w'.heap.size = w.heap.size + 1 := by
  rw [h.heap]; simp
section
variable {E : Env} {S : St} {w w' : World} {σ : Sto} {o : Obj}
theorem imm_old {Q : Nat → Prop} {w w' : World} {G : Nat → Nat} (h : ∀ b, b < w.heap.size → w'.heap[b]? = w.heap[b]?) : Imm Q w G w' :=
  ⟨fun b i v _ _ hc => by rw [cell_same (h b (cell_lt hc))]; exact hc, fun b es k _ _ hb => by rw [h b (heap_lt hb)]; exact hb⟩
theorem moves_row (R : Rep E S w σ) (M : More w w' o) (m : Nat) : Moves [] [] S w { S with G := setG S.G w.heap.size m } w' := by
  have hne : ∀ b, b < w.heap.size → b ≠ w.heap.size := fun b h => Nat.ne_of_lt h
  have hG : ∀ b, S.G b ≤ setG S.G w.heap.size m b := by
    intro b
    by_cases hb : b = w.heap.size
    · subst hb; rw [R.Gnew _ (Nat.le_refl _)]; omega
    · simp only [setG_other hb]; exact Nat.le_refl _
  have hi : ∀ {Q}, Imm Q w S.G w' := imm_old fun b hb => M.old hb
  refine ⟨⟨fun _ _ h => h, rfl, rfl, hG, by rw [M.size]; omega, hi, ?_, fun _ _ h => h, fun _ _ => rfl⟩, ⟨fun _ _ h => h, ⟨rfl, rfl, rfl⟩, fun _ h => h, rfl, rfl, by rw [M.size]; omega, ?_, hG, hi, fun _ h => .inl h, fun t _ h => .inl ⟨t, h⟩, fun _ h => .inl h, M.os⟩, R.n0, rfl, fun b hb _ => ⟨M.old hb, setG_other (hne b hb)⟩⟩
  · intro t b _ hb
    have hlt := (R.βlt t b hb).1
    exact ⟨hb, setG_other (hne b hlt), M.old hlt⟩
  · intro b hb _ _ _
    exact ⟨M.old hb, setG_other (hne b hb)⟩
theorem rep_row (R : Rep E S w σ) (M : More w w' o) (m : Nat) : Rep E { S with G := setG S.G w.heap.size m } w' σ := by
  have K := (moves_row R M m).keeps
  refine ⟨R.len, R.nodup, ?_, ?_, R.θX, ?_, R.βown, R.βinj, ?_, by have := R.E; simp only [M.size]; omega, ?_, R.D, fun b hb => ⟨by have := (R.X b hb).1; rw [M.size]; omega, (R.X b hb).2⟩⟩
  · intro id b s hb hs
    have := RepE_keep K (M.old (R.θlt b (List.mem_of_getElem? hb)).1) (R.box id b s hb hs)
    rwa [SE.demote_nil] at this
  · intro b hb
    obtain ⟨h1, h2⟩ := R.θlt b hb
    exact ⟨by rw [M.size]; omega, by simp only [setG_other (Nat.ne_of_lt h1)]; exact h2⟩
  · intro t b hb
    obtain ⟨h1, h2, h3⟩ := R.βlt t b hb
    exact ⟨by rw [M.size]; omega, h2, h3⟩
  · intro b hb
    rw [M.size] at hb
    simp only [setG_other (show b ≠ w.heap.size by omega)]
    exact R.Gnew b (by omega)
  · have := R.n0; simp only [M.size]; omega
end
end Go.Ly
end
section
namespace Go.Ly
theorem lenS_eq : ∀ σ : Sto, lenS σ = σ.length
  | [] => rfl
  | _ :: σ => by simp [lenS, lenS_eq σ]
theorem addS_eq : ∀ (σ : Sto) (s : SE), addS σ s = σ ++ [s]
  | [], _ => rfl
  | x :: σ, s => by simp [addS, addS_eq σ s]
theorem setS_eq : ∀ (σ : Sto) (id : Nat) (s : SE), setS σ id s = σ.set id s
  | [], _, _ => rfl
  | _ :: _, 0, _ => rfl
  | x :: σ, id + 1, s => by simp [setS, setS_eq σ id s]
section
variable {E : Env} {S : St} {w w' : World} {σ : Sto} {o : Obj}
theorem moves_box (R : Rep E S w σ) (M : More w w' o) : Moves [] [] S w { S with θ := S.θ ++ [w.heap.size] } w' := by
  have hi : ∀ {Q}, Imm Q w S.G w' := imm_old fun b hb => M.old hb
  refine ⟨⟨?_, rfl, rfl, fun _ => Nat.le_refl _, by rw [M.size]; omega, hi, ?_, fun _ _ h => h, fun _ _ => rfl⟩, ⟨?_, ⟨rfl, rfl, rfl⟩, fun _ h => h, rfl, rfl, by rw [M.size]; omega, ?_, fun _ => Nat.le_refl _, hi, ?_, fun t _ h => .inl ⟨t, h⟩, fun _ h => .inl h, M.os⟩, R.n0, rfl, fun b hb _ => ⟨M.old hb, rfl⟩⟩
  · intro id b hb
    simp only
    rw [List.getElem?_append_left (List.getElem?_eq_some_iff.1 hb).1]; exact hb
  · intro t b _ hb
    exact ⟨hb, rfl, M.old (R.βlt t b hb).1⟩
  · intro id b hb
    simp only
    rw [List.getElem?_append_left (List.getElem?_eq_some_iff.1 hb).1]; exact hb
  · intro b hb _ _ _
    exact ⟨M.old hb, rfl⟩
  · intro b hb
    simp only [List.mem_append, List.mem_singleton] at hb
    rcases hb with h | rfl
    · exact .inl h
    · exact .inr (Nat.le_refl _)
theorem rep_box (R : Rep E S w σ) (M : More w w' o) {s : SE} (hs : RepE E { S with θ := S.θ ++ [w.heap.size] } w' w.heap.size s) :
    Rep E { S with θ := S.θ ++ [w.heap.size] } w' (addS σ s) := by
  have K := (moves_box R M).keeps
  rw [addS_eq]
  refine ⟨by simp [R.len], ?_, ?_, ?_, ?_, ?_, R.βown, R.βinj, ?_, by have := R.E; simp only [M.size]; omega, ?_, R.D, fun b hb => ⟨by have := (R.X b hb).1; rw [M.size]; omega, (R.X b hb).2⟩⟩
  · rw [List.nodup_append]
    exact ⟨R.nodup, by simp, fun b hb c hc => by simp at hc; subst hc; exact Nat.ne_of_lt (R.θlt b hb).1⟩
  · intro id b x hb hx
    rcases Nat.lt_or_ge id S.θ.length with hlt | hge
    · simp only at hb
      rw [List.getElem?_append_left hlt] at hb
      rw [List.getElem?_append_left (by rw [← R.len]; exact hlt)] at hx
      have := RepE_keep K (M.old (R.θlt b (List.mem_of_getElem? hb)).1) (R.box id b x hb hx)
      rwa [SE.demote_nil] at this
    · simp only at hb
      rw [List.getElem?_append_right hge] at hb
      rw [List.getElem?_append_right (by rw [← R.len]; exact hge)] at hx
      rw [← R.len] at hx
      cases hk : id - S.θ.length with
      | zero =>
        rw [hk] at hb hx
        simp only [List.getElem?_cons_zero, Option.some.injEq] at hb hx
        subst hb; subst hx
        exact hs
      | succ k => rw [hk] at hb; simp at hb
  · intro b hb
    simp only [List.mem_append, List.mem_singleton] at hb
    rcases hb with h | rfl
    · obtain ⟨h1, h2⟩ := R.θlt b h
      exact ⟨by rw [M.size]; omega, h2⟩
    · exact ⟨by rw [M.size]; omega, R.Gnew _ (Nat.le_refl _)⟩
  · intro b hb
    simp only [List.mem_append, List.mem_singleton] at hb
    rcases hb with h | rfl
    · exact R.θX b h
    · intro hX
      have := (R.X _ hX).1
      omega
  · intro t b hb
    obtain ⟨h1, h2, h3⟩ := R.βlt t b hb
    refine ⟨by rw [M.size]; omega, h2, ?_⟩
    simp only [List.mem_append, List.mem_singleton, not_or]
    exact ⟨h3, Nat.ne_of_lt h1⟩
  · intro b hb
    rw [M.size] at hb
    exact R.Gnew b (by omega)
  · have := R.n0; simp only [M.size]; omega
structure TurnO (w w' : World) (b : Nat) (o : Obj) : Prop where
  size : w'.heap.size = w.heap.size
  here : w'.heap[b]? = some o
  rest : ∀ c, c ≠ b → w'.heap[c]? = w.heap[c]?
  os : SameOs w w'
abbrev Turn (w w' : World) (b : Nat) (cs : Array Value) (T : TypeId) : Prop := TurnO w w' b (.cells cs T (0, 0))
theorem heap_modify {w : World} {b c : Nat} {f : Obj → Obj} : (w.heap.modify b f)[c]? = if c = b then (w.heap[c]?).map f else w.heap[c]? := by
  rw [Array.getElem?_modify]
  by_cases h : b = c
  · subst h; simp
  · simp [h, Ne.symm h]
theorem run_storeCells {P : Program} {b : Nat} {T : TypeId} : ∀ (us : List Value) (w : World) (cs : Array Value) (off k : Nat), w.heap[b]? = some (.cells cs T (0, 0)) → off + k + us.length ≤ cs.size →
    (∀ u ∈ us, oneV u) → ∃ w', (storeCells ⟨b, off, none⟩ us k).run P w = .ok () w' ∧ Turn w w' b ⟨putV cs.toList (off + k) us⟩ T
  | [], w, cs, off, k, h, _, _ => ⟨w, rfl, rfl, h, fun _ _ => rfl, .refl w⟩
  | u :: us, w, cs, off, k, h, hl, ho => by
    have hcell : w.cell? ⟨b, off + k, none⟩ = some (cs[off + k]'(by simp at hl; omega)) := by
      simp only [World.cell?, h, Option.isSome_none, Bool.false_eq_true, if_false]
      exact Array.getElem?_eq_getElem _
    have hfr : w.frozen? ⟨b, off + k, none⟩ = false := by
      simp [World.frozen?, h]
    have h1 : (w.setCell ⟨b, off + k, none⟩ u).heap[b]? = some (.cells (cs.setIfInBounds (off + k) u) T (0, 0)) := by
      simp [World.setCell, heap_modify, h]
    have hone : u.oneCell' = true := by
      have := ho u (by simp)
      cases u <;> first | rfl | exact this.elim
    obtain ⟨w', hr, ht⟩ := run_storeCells us (w.setCell ⟨b, off + k, none⟩ u) _ off (k + 1) h1 (by simp at hl ⊢; omega) (fun v hv => ho v (by simp [hv]))
    refine ⟨w', ?_, ?_, ?_, ?_, SameOs.trans (w' := w.setCell ⟨b, off + k, none⟩ u) (.turn (b := b) rfl rfl h h1 (fun cs1 T1 f1 e => by cases e; exact ⟨_, _, _, rfl, by simp⟩) fun c _ hc => by simp [World.setCell, heap_modify, hc]) ht.os⟩
    · simp only [storeCells, Sem.run_bind, add_addr, run_store P w _ u .plain hone, hcell, hfr, Bool.false_eq_true, if_false, Result.andThen_ok]
      exact hr
    · rw [ht.size]; simp
    · rw [ht.here]
      simp [putV, Nat.add_assoc]
    · intro c hc
      rw [ht.rest c hc]
      simp [World.setCell, heap_modify, hc]
theorem turn_cell {b : Nat} (ht : TurnO w w' b o) {c i : Nat} (hc : c ≠ b) : w'.cell? ⟨c, i, none⟩ = w.cell? ⟨c, i, none⟩ := cell_same (ht.rest c hc) i
theorem imm_turn {Q : Nat → Prop} {G : Nat → Nat} {b : Nat} (ht : TurnO w w' b o) (hG : G b = 0) : Imm Q w G w' :=
  ⟨fun c i v _ hi hc => by
    have : c ≠ b := fun e => by subst e; rw [hG] at hi; omega
    rw [turn_cell ht this]; exact hc, fun c es k _ hi hc => by
    have : c ≠ b := fun e => by subst e; rw [hG] at hi; omega
    rw [ht.rest c this]; exact hc⟩
theorem moves_st (R : Rep E S w σ) {id b : Nat} (hb : S.θ[id]? = some b) (ht : TurnO w w' b o) : Moves [] [] S w S w' := by
  have hm := List.mem_of_getElem? hb
  obtain ⟨hlt, hG⟩ := R.θlt b hm
  refine ⟨⟨fun _ _ h => h, rfl, rfl, fun _ => Nat.le_refl _, by rw [ht.size]; exact Nat.le_refl _, imm_turn ht hG, ?_, fun _ _ h => h, fun _ _ => rfl⟩, ⟨fun _ _ h => h, ⟨rfl, rfl, rfl⟩, fun _ h => h, rfl, rfl, by rw [ht.size]; exact Nat.le_refl _, ?_, fun _ => Nat.le_refl _, imm_turn ht hG, fun _ h => .inl h, fun t _ h => .inl ⟨t, h⟩, fun _ h => .inl h, ht.os⟩, R.n0, rfl, fun c _ hX => ⟨ht.rest c fun e => R.θX b hm (e ▸ hX), rfl⟩⟩
  · intro t c _ hc
    have : c ≠ b := fun e => by subst e; exact (R.βlt t c hc).2.2 hm
    exact ⟨hc, rfl, ht.rest c this⟩
  · intro c _ hθ _ _
    have : c ≠ b := fun e => hθ (e ▸ hm)
    exact ⟨ht.rest c this, rfl⟩
theorem rep_stO (R : Rep E S w σ) {id b : Nat} (hb : S.θ[id]? = some b) (ht : TurnO w w' b o) {s : SE} (hs : RepE E S w' b s) : Rep E S w' (setS σ id s) := by
  have K := (moves_st R hb ht).keeps
  rw [setS_eq]
  refine ⟨by simp [R.len], R.nodup, ?_, ?_, R.θX, ?_, R.βown, R.βinj, ?_, by rw [ht.size]; exact R.E, ?_, R.D, fun b hb => ⟨by have := (R.X b hb).1; rw [ht.size]; omega, (R.X b hb).2⟩⟩
  · intro id' b' x hb' hx'
    by_cases he : id = id'
    · subst he
      rw [hb] at hb'
      cases hb'
      have hl : id < σ.length := by rw [← R.len]; exact (List.getElem?_eq_some_iff.1 hb).1
      rw [List.getElem?_set_self hl, Option.some.injEq] at hx'
      subst hx'
      exact hs
    · rw [List.getElem?_set_ne he] at hx'
      have hbb : b' ≠ b := by
        intro e
        subst e
        have h1 := (List.getElem?_eq_some_iff.1 hb).1
        have h2 := (List.getElem?_eq_some_iff.1 hb').1
        exact he ((List.getElem?_inj h1 R.nodup).1 (hb.trans hb'.symm))
      have := RepE_keep K (ht.rest b' hbb) (R.box id' b' x hb' hx')
      rwa [SE.demote_nil] at this
  · intro c hc
    obtain ⟨h1, h2⟩ := R.θlt c hc
    exact ⟨by rw [ht.size]; exact h1, h2⟩
  · intro t c hc
    obtain ⟨h1, h2, h3⟩ := R.βlt t c hc
    exact ⟨by rw [ht.size]; exact h1, h2, h3⟩
  · intro c hc
    rw [ht.size] at hc
    exact R.Gnew c hc
  · rw [ht.size]; exact R.n0
theorem rep_st (R : Rep E S w σ) {id b : Nat} (hb : S.θ[id]? = some b) {cs : List Value} {T : TypeId} (ht : Turn w w' b ⟨cs⟩ T) {xs : List AV} (hx : RdAs E.φ S w' xs cs) :
    Rep E S w' (setS σ id (.bx xs)) := rep_stO R hb ht ⟨cs, T, ht.here, hx⟩
theorem moves_grow (R : Rep E S w σ) {t b : Nat} (hb : S.β (2 * t) = some b) {cs cs0 : Array Value} {T T0 : TypeId} (h0 : w.heap[b]? = some (.cells cs0 T0 (0, 0))) (ht : Turn w w' b cs T) (m : Nat) (hm : S.G b ≤ m)
    (hold : ∀ i v, i < S.G b → w.cell? ⟨b, i, none⟩ = some v → w'.cell? ⟨b, i, none⟩ = some v) : Moves [t] [] S w { S with G := setG S.G b m } w' := by
  have hG : ∀ c, S.G c ≤ setG S.G b m c := by
    intro c
    by_cases hc : c = b
    · subst hc; rw [setG_same]; exact hm
    · rw [setG_other hc]; exact Nat.le_refl _
  have himm : ∀ {Q}, Imm Q w S.G w' := ⟨fun c i v _ hi hc => by
    by_cases he : c = b
    · subst he; exact hold i v hi hc
    · rw [turn_cell ht he]; exact hc, fun c es k _ _ hc => by
    have : c ≠ b := fun e => by subst e; rw [h0] at hc; cases hc
    rw [ht.rest c this]; exact hc⟩
  refine ⟨⟨fun _ _ h => h, rfl, rfl, hG, by rw [ht.size]; exact Nat.le_refl _, himm, ?_, fun _ _ h => h, fun _ _ => rfl⟩, ⟨fun _ _ h => h, ⟨rfl, rfl, rfl⟩, fun _ h => h, rfl, rfl, by rw [ht.size]; exact Nat.le_refl _, ?_, hG, himm, fun _ h => .inl h, fun u _ h => .inl ⟨u, h⟩, fun _ h => .inl h, ht.os⟩, R.n0, rfl, fun c _ hX => by
    have hne : c ≠ b := fun e => by
      subst e
      exact (R.X c hX).2 _ hb
    exact ⟨ht.rest c hne, setG_other hne⟩⟩
  · intro u c hu hc
    have hne : c ≠ b := by
      intro e
      subst e
      have := R.βinj u _ c hc hb
      have := hu.1 t this
      simp [memN, natEq] at this
    exact ⟨hc, setG_other hne, ht.rest c hne⟩
  · intro c _ _ hβ _
    have hne : c ≠ b := fun e => hβ _ (e ▸ hb)
    exact ⟨ht.rest c hne, setG_other hne⟩
theorem rep_grow (R : Rep E S w σ) {t b : Nat} (hb : S.β (2 * t) = some b) {cs cs0 : Array Value} {T T0 : TypeId} (h0 : w.heap[b]? = some (.cells cs0 T0 (0, 0))) (ht : Turn w w' b cs T) (m : Nat) (hm : S.G b ≤ m)
    (hold : ∀ i v, i < S.G b → w.cell? ⟨b, i, none⟩ = some v → w'.cell? ⟨b, i, none⟩ = some v) : Rep E { S with G := setG S.G b m } w' (demoteS [t] σ) := by
  have K := (moves_grow R hb h0 ht m hm hold).keeps
  obtain ⟨hlt, _, hθ⟩ := R.βlt _ b hb
  refine ⟨by rw [demoteS_len]; exact R.len, R.nodup, ?_, ?_, R.θX, ?_, R.βown, R.βinj, ?_, by rw [ht.size]; exact R.E, ?_, R.D, fun b hb => ⟨by have := (R.X b hb).1; rw [ht.size]; omega, (R.X b hb).2⟩⟩
  · intro id c x hc hx
    rw [demoteS_get, Option.map_eq_some_iff] at hx
    obtain ⟨y, hy, rfl⟩ := hx
    have hne : c ≠ b := fun e => hθ (e ▸ List.mem_of_getElem? hc)
    exact RepE_keep K (ht.rest c hne) (R.box id c y hc hy)
  · intro c hc
    obtain ⟨h1, h2⟩ := R.θlt c hc
    have hne : c ≠ b := fun e => hθ (e ▸ hc)
    exact ⟨by rw [ht.size]; exact h1, by simp only [setG_other hne]; exact h2⟩
  · intro u c hc
    obtain ⟨h1, h2, h3⟩ := R.βlt u c hc
    exact ⟨by rw [ht.size]; exact h1, h2, h3⟩
  · intro c hc
    rw [ht.size] at hc
    have hne : c ≠ b := by omega
    simp only [setG_other hne]
    exact R.Gnew c hc
  · rw [ht.size]; exact R.n0
theorem moves_regrow (R : Rep E S w σ) (M : More w w' o) (t m : Nat) : Moves [t] [] S w { S with G := setG S.G w.heap.size m, β := setβ S.β (2 * t) w.heap.size } w' := by
  obtain ⟨K, V, hn, hx⟩ := moves_row R M m
  refine ⟨⟨K.θ, K.E, K.xv, K.G, K.size, K.imm, ?_, fun u hu h => ?_, K.ln⟩, ⟨V.θ, V.n0, V.X, V.E, V.xv, V.size, V.frame, V.G, V.imm, V.newθ, ?_, V.newX, V.os⟩, hn, hx⟩
  · intro u c hu hc
    obtain ⟨h1, h2, h3⟩ := K.own u c (rawOk_nil u) hc
    refine ⟨?_, h2, h3⟩
    have hne : u ≠ 2 * t := fun e => by have := hu.1 t e; simp [memN, natEq] at this
    simp only [setβ, hne, if_false]
    exact hc
  · simp only [setβ]
    rw [if_neg (by omega)]
    exact h
  · intro u c hc
    simp only [setβ] at hc
    split at hc
    · simp only [Option.some.injEq] at hc
      exact .inr (by omega)
    · exact .inl ⟨u, hc⟩
theorem rep_regrow (R : Rep E S w σ) (M : More w w' o) (t m : Nat) : Rep E { S with G := setG S.G w.heap.size m, β := setβ S.β (2 * t) w.heap.size } w' (demoteS [t] σ) := by
  have K := (moves_regrow R M t m).keeps
  have R' := rep_row R M m
  refine ⟨by rw [demoteS_len]; exact R.len, R.nodup, ?_, R'.θlt, R'.θX, ?_, ?_, ?_, R'.Gnew, R'.E, R'.n0, R.D, fun c hX => ⟨(R'.X c hX).1, fun u hc => by
    simp only [setβ] at hc
    split at hc
    · simp only [Option.some.injEq] at hc
      have := (R.X c hX).1
      omega
    · exact (R.X c hX).2 u hc⟩⟩
  · intro id c x hc hx
    rw [demoteS_get, Option.map_eq_some_iff] at hx
    obtain ⟨y, hy, rfl⟩ := hx
    exact RepE_keep K (M.old (R.θlt c (List.mem_of_getElem? hc)).1) (R.box id c y hc hy)
  · intro u c hc
    simp only [setβ] at hc
    split at hc
    · simp only [Option.some.injEq] at hc
      subst hc
      refine ⟨by rw [M.size]; omega, .inl R.n0, fun hm => ?_⟩
      have := (R.θlt _ hm).1
      omega
    · exact R'.βlt u c hc
  · intro u c hc
    simp only [setβ] at hc
    split at hc
    · simp only [Option.some.injEq] at hc
      subst hc
      exact R.n0
    · exact R'.βown u c hc
  · intro u u' c hc hc'
    simp only [setβ] at hc hc'
    split at hc <;> split at hc'
    · rename_i h1 h2; rw [h1, h2]
    · simp only [Option.some.injEq] at hc
      have := (R.βlt u' c hc').1
      omega
    · simp only [Option.some.injEq] at hc'
      have := (R.βlt u c hc).1
      omega
    · exact R.βinj u u' c hc hc'
def setL (ln : Nat → Nat × Nat) (t : Nat) (l : Nat × Nat) : Nat → Nat × Nat := fun u => if u = t then l else ln u
theorem setL_same (ln : Nat → Nat × Nat) (t : Nat) (l : Nat × Nat) : setL ln t l t = l := by simp [setL]
theorem setL_other {ln : Nat → Nat × Nat} {t u : Nat} {l : Nat × Nat} (h : u ≠ t) : setL ln t l u = ln u := by simp [setL, h]
theorem mem_one {t u : Nat} (h : memN u [t] = false) : u ≠ t := fun e => by subst e; simp [memN, natEq] at h
theorem moves_uturn (R : Rep E S w σ) {t b : Nat} (hb : S.β (2 * t + 1) = some b) (hG : S.G b = 0) (ht : TurnO w w' b o) (l : Nat × Nat) : Moves [] [t] S w { S with ln := setL S.ln t l } w' := by
  refine ⟨⟨fun _ _ h => h, rfl, rfl, fun _ => Nat.le_refl _, by rw [ht.size]; exact Nat.le_refl _, imm_turn ht hG, ?_, fun _ _ h => h, fun u hu => setL_other (mem_one hu)⟩,
    ⟨fun _ _ h => h, ⟨rfl, rfl, rfl⟩, fun _ h => h, rfl, rfl, by rw [ht.size]; exact Nat.le_refl _, ?_, fun _ => Nat.le_refl _, imm_turn ht hG, fun _ h => .inl h, fun t _ h => .inl ⟨t, h⟩, fun _ h => .inl h, ht.os⟩, R.n0, rfl, fun c _ hX => ?_⟩
  · intro u c hu hc
    have hne : c ≠ b := fun e => by
      subst e
      have := R.βinj u _ c hc hb
      exact mem_one (hu.2 t this) rfl
    exact ⟨hc, rfl, ht.rest c hne⟩
  · intro c _ _ hβ _
    exact ⟨ht.rest c fun e => hβ _ (e ▸ hb), rfl⟩
  · exact ⟨ht.rest c fun e => by subst e; exact (R.X c hX).2 _ hb, rfl⟩
theorem rep_uturn (R : Rep E S w σ) {t b : Nat} (hb : S.β (2 * t + 1) = some b) (hG : S.G b = 0) (ht : TurnO w w' b o) (l : Nat × Nat) : Rep E { S with ln := setL S.ln t l } w' (killS [t] σ) := by
  have K := (moves_uturn R hb hG ht l).keeps
  have hθ := (R.βlt _ b hb).2.2
  refine ⟨by rw [killS_len]; exact R.len, R.nodup, ?_, fun c hc => ⟨by rw [ht.size]; exact (R.θlt c hc).1, (R.θlt c hc).2⟩, R.θX, fun u c hc => ⟨by rw [ht.size]; exact (R.βlt u c hc).1, (R.βlt u c hc).2⟩, R.βown, R.βinj,
    fun c hc => R.Gnew c (by rw [ht.size] at hc; exact hc), by rw [ht.size]; exact R.E, by rw [ht.size]; exact R.n0, R.D, fun b hb => ⟨by rw [ht.size]; exact (R.X b hb).1, (R.X b hb).2⟩⟩
  intro id c x hc hx
  rw [killS_get, Option.map_eq_some_iff] at hx
  obtain ⟨y, hy, rfl⟩ := hx
  have hne : c ≠ b := fun e => hθ (e ▸ List.mem_of_getElem? hc)
  have := RepE_keepU K (ht.rest c hne) (R.box id c y hc hy)
  rwa [SE.demote_nil] at this
theorem moves_unew (R : Rep E S w σ) (M : More w w' o) (t : Nat) (l : Nat × Nat) : Moves [] [t] S w { S with ln := setL S.ln t l, β := setβ S.β (2 * t + 1) w.heap.size } w' := by
  have hi : ∀ {Q}, Imm Q w S.G w' := imm_old fun b hb => M.old hb
  refine ⟨⟨fun _ _ h => h, rfl, rfl, fun _ => Nat.le_refl _, by rw [M.size]; omega, hi, ?_, ?_, fun u hu => setL_other (mem_one hu)⟩,
    ⟨fun _ _ h => h, ⟨rfl, rfl, rfl⟩, fun _ h => h, rfl, rfl, by rw [M.size]; omega, fun b hb _ _ _ => ⟨M.old hb, rfl⟩, fun _ => Nat.le_refl _, hi, fun _ h => .inl h, ?_, fun _ h => .inl h, M.os⟩, R.n0, rfl, fun c hc _ => ⟨M.old hc, rfl⟩⟩
  · intro u c hu hc
    have hne : u ≠ 2 * t + 1 := fun e => mem_one (hu.2 t e) rfl
    exact ⟨by simp only [setβ, hne, if_false]; exact hc, rfl, M.old (R.βlt u c hc).1⟩
  · intro u hu h
    have := mem_one hu
    simp only [setβ]
    rw [if_neg (by omega)]
    exact h
  · intro u c hc
    simp only [setβ] at hc
    split at hc
    · simp only [Option.some.injEq] at hc
      exact .inr (by omega)
    · exact .inl ⟨u, hc⟩
theorem rep_unew (R : Rep E S w σ) (M : More w w' o) (t : Nat) (l : Nat × Nat) : Rep E { S with ln := setL S.ln t l, β := setβ S.β (2 * t + 1) w.heap.size } w' (killS [t] σ) := by
  have K := (moves_unew R M t l).keeps
  refine ⟨by rw [killS_len]; exact R.len, R.nodup, ?_, fun c hc => ⟨by rw [M.size]; exact Nat.lt_succ_of_lt (R.θlt c hc).1, (R.θlt c hc).2⟩, R.θX, ?_, ?_, ?_,
    fun c hc => R.Gnew c (by rw [M.size] at hc; omega), by rw [M.size]; exact Nat.le_succ_of_le R.E, by rw [M.size]; exact Nat.le_succ_of_le R.n0, R.D, fun c hX => ⟨by rw [M.size]; exact Nat.lt_succ_of_lt (R.X c hX).1, fun u hc => by
    simp only [setβ] at hc
    split at hc
    · simp only [Option.some.injEq] at hc
      have := (R.X c hX).1
      omega
    · exact (R.X c hX).2 u hc⟩⟩
  · intro id c x hc hx
    rw [killS_get, Option.map_eq_some_iff] at hx
    obtain ⟨y, hy, rfl⟩ := hx
    have := RepE_keepU K (M.old (R.θlt c (List.mem_of_getElem? hc)).1) (R.box id c y hc hy)
    rwa [SE.demote_nil] at this
  · intro u c hc
    simp only [setβ] at hc
    split at hc
    · simp only [Option.some.injEq] at hc
      subst hc
      refine ⟨by rw [M.size]; omega, .inl R.n0, fun hm => ?_⟩
      have := (R.θlt _ hm).1
      omega
    · obtain ⟨h1, h2⟩ := R.βlt u c hc
      exact ⟨by rw [M.size]; omega, h2⟩
  · intro u c hc
    simp only [setβ] at hc
    rw [if_neg (by omega)] at hc
    exact R.βown u c hc
  · intro u u' c hc hc'
    simp only [setβ] at hc hc'
    split at hc <;> split at hc'
    · rename_i h1 h2; rw [h1, h2]
    · simp only [Option.some.injEq] at hc
      have := (R.βlt u' c hc').1
      omega
    · simp only [Option.some.injEq] at hc'
      have := (R.βlt u c hc).1
      omega
    · exact R.βinj u u' c hc hc'
theorem RdUq_mk {t sz : Nat} {es : List D} {ep : Ep} {b cap : Nat} {vs : List Value} {cs : Array Value} {T : TypeId} (hβ : S.β (2 * t + 1) = some b) (hl : S.ln t = (es.length, cap)) (hh : w.heap[b]? = some (.cells cs T (0, 0)))
    (hc : es.length ≤ cap) (hs : cap * sz ≤ cs.size) (he : epB S.E ep b) (hG : S.G b = 0) (hv : cellsAt w b 0 vs) (hr : RdRow w S.G (epB S.E ep) sz es vs) : RdUq S w t sz es ep (.slice (some ⟨b, 0, none⟩) es.length cap) :=
  .inr ⟨b, vs, cs, T, hβ, by rw [hl], by rw [hl], hh, by rw [hl]; exact hc, by rw [hl]; exact hs, he, hG, hv, hr⟩
def unsetβ (β : Nat → Option Nat) (t : Nat) : Nat → Option Nat := fun u => if u = t then none else β u
theorem moves_unil (R : Rep E S w σ) (t : Nat) : Moves [] [t] S w { S with β := unsetβ S.β (2 * t + 1) } w := by
  refine ⟨⟨fun _ _ h => h, rfl, rfl, fun _ => Nat.le_refl _, Nat.le_refl _, .refl _ _, ?_, ?_, fun _ _ => rfl⟩,
    ⟨fun _ _ h => h, ⟨rfl, rfl, rfl⟩, fun _ h => h, rfl, rfl, Nat.le_refl _, fun b _ _ _ _ => ⟨rfl, rfl⟩, fun _ => Nat.le_refl _, .refl _ _, fun _ h => .inl h, ?_, fun _ h => .inl h, .refl w⟩, R.n0, rfl, fun c _ _ => ⟨rfl, rfl⟩⟩
  · intro u c hu hc
    have hne : u ≠ 2 * t + 1 := fun e => mem_one (hu.2 t e) rfl
    exact ⟨by simp only [unsetβ, hne, if_false]; exact hc, rfl, rfl⟩
  · intro u hu h
    simp only [unsetβ]
    split
    · rfl
    · exact h
  · intro u c hc
    simp only [unsetβ] at hc
    split at hc
    · cases hc
    · exact .inl ⟨u, hc⟩
theorem rep_unil (R : Rep E S w σ) (t : Nat) : Rep E { S with β := unsetβ S.β (2 * t + 1) } w (killS [t] σ) := by
  have K := (moves_unil R t).keeps
  have sub : ∀ u c, unsetβ S.β (2 * t + 1) u = some c → S.β u = some c := by
    intro u c hc
    simp only [unsetβ] at hc
    split at hc
    · cases hc
    · exact hc
  refine ⟨by rw [killS_len]; exact R.len, R.nodup, ?_, R.θlt, R.θX, fun u c hc => R.βlt u c (sub u c hc), fun u c hc => R.βown u c (sub _ c hc), fun u u' c hc hc' => R.βinj u u' c (sub u c hc) (sub u' c hc'),
    R.Gnew, R.E, R.n0, R.D, fun c hX => ⟨(R.X c hX).1, fun u hc => (R.X c hX).2 u (sub u c hc)⟩⟩
  intro id c x hc hx
  rw [killS_get, Option.map_eq_some_iff] at hx
  obtain ⟨y, hy, rfl⟩ := hx
  have := RepE_keepU K rfl (R.box id c y hc hy)
  rwa [SE.demote_nil] at this
end
end Go.Ly
end
section
namespace Go.Ly
section
variable {E : Env} {S : St} {w : World} {A : Fm} {σ : Sto} {a : Act} {o : Oper} {ops : Array Oper} {hs : List Nat}
theorem boxes_of (R : Rep E S w σ) : Boxes E S w σ := fun id b cs hb hs => R.box id b (.bx cs) hb hs
def MapsOf (S : St) (w : World) (σ : Sto) : Prop := ∀ (id b : Nat) (ep : Ep) (m : List (D × D)), S.θ[id]? = some b → σ[id]? = some (.md ep m) → ∃ es k, w.heap[b]? = some (.map es k) ∧ RdM w S.G (epB S.E ep) m es.toList
theorem maps_of (R : Rep E S w σ) : MapsOf S w σ := fun id b ep m hb hs => R.box id b (.md ep m) hb hs
def laysRow : AOp → Bool
  | .bslice .. => true
  | .conv .s2b _ => true
  | .nil true _ => true
  | .allocu _ => true
  | _ => false
theorem evV_gives {op : AOp} {d : Nat} {q : Prop} {v : AV} (hc : compOp E.P E.ν hs ops o = some op) (hv : evV std d A σ op = some (q, v)) (hq : q) (hl : laysRow op = false)
    (hA : RdF E.φ S w A a.tmps.toList) (hB : Boxes E S w σ) (hM : MapsOf S w σ) : Gives E S w a o v := by
  unfold compOp at hc
  split at hc
  ·
    rename_i x hop
    split at hc
    · rename_i hn
      cases hc
      cases hu : wantU hs o.dst with
      | true => rw [hu] at hl; cases hl
      | false =>
        rw [hu] at hv
        simp only [evV, yes, Option.some.injEq, Prod.mk.injEq] at hv
        obtain ⟨_, rfl⟩ := hv
        exact g_nil (.inl hop) hn _ _
    · simp only [Option.map_eq_some_iff] at hc
      obtain ⟨y, hy, rfl⟩ := hc
      simp only [evV, yes, Option.some.injEq, Prod.mk.injEq] at hv
      obtain ⟨_, rfl⟩ := hv
      exact g_mv (.inl hop) hy hA
  · rename_i x hop
    split at hc
    · rename_i hn
      cases hc
      cases hu : wantU hs o.dst with
      | true => rw [hu] at hl; cases hl
      | false =>
        rw [hu] at hv
        simp only [evV, yes, Option.some.injEq, Prod.mk.injEq] at hv
        obtain ⟨_, rfl⟩ := hv
        exact g_nil (.inr hop) hn _ _
    · simp only [Option.map_eq_some_iff] at hc
      obtain ⟨y, hy, rfl⟩ := hc
      simp only [evV, yes, Option.some.injEq, Prod.mk.injEq] at hv
      obtain ⟨_, rfl⟩ := hv
      exact g_mv (.inr hop) hy hA
  ·
    rename_i c x y hop
    split at hc
    · rename_i c' x' y' h1 h2 h3
      cases hc
      simp only [evV] at hv
      split at hv
      · rename_i ep heq
        simp only [yes, Option.some.injEq, Prod.mk.injEq] at hv
        obtain ⟨_, rfl⟩ := hv
        simpa using g_pick hop h1 h2 h3 hA heq
      · rename_i ep heq
        simp only [yes, Option.some.injEq, Prod.mk.injEq] at hv
        obtain ⟨_, rfl⟩ := hv
        simpa using g_pick hop h1 h2 h3 hA heq
      · cases hv
    · cases hc
  ·
    split at hc
    · cases hc; simp [evV] at hv
    · cases hc
    · cases hc; simp [evV] at hv
    · cases hc
  ·
    simp only [Option.map_eq_some_iff] at hc
    obtain ⟨zs, _, rfl⟩ := hc
    simp [evV] at hv
  ·
    rename_i t parts hop
    split at hc
    · rename_i zs fs hz hu
      split at hc
      · rename_i hall
        simp only [Option.map_eq_some_iff] at hc
        obtain ⟨qs, hqs, rfl⟩ := hc
        exact g_build_struct hop hu hz (List.all_eq_true.1 hall) hqs hA hv
      · cases hc
    · rename_i zs n e hz hu
      simp only [Option.bind_eq_some_iff, Option.map_eq_some_iff] at hc
      obtain ⟨s, hs, qs, hqs, rfl⟩ := hc
      exact g_build_array hop hu hz hs hqs hA hv
    · cases hc
  ·
    split at hc
    · split at hc
      · split at hc
        · cases hc
          cases hl
        · cases hc
      · cases hc
    · cases hc
  ·
    rename_i t x hop
    split at hc
    · rename_i y s h1 h2 h3
      cases hc
      simp only [evV] at hv
      exact g_ld hop h1 h2 h3 (by simp) hA hB hv
    · rename_i y h1 h2 h3
      cases hc
      simp only [evV] at hv
      exact g_ld hop h1 h2 h3 (by simp) hA hB hv
    · cases hc
  ·
    split at hc
    · cases hc
      simp [evV] at hv
    · cases hc
  ·
    rename_i x hop
    simp only [Option.map_eq_some_iff] at hc
    obtain ⟨y, hy, rfl⟩ := hc
    exact g_nilck hop hy hA hv
  ·
    rename_i op xt x y yt hop
    split at hc
    · split at hc
      · simp only [Option.map_eq_some_iff] at hc
        obtain ⟨y, _, rfl⟩ := hc
        simp [evV] at hv
      · simp only [Option.map_eq_some_iff] at hc
        obtain ⟨y, _, rfl⟩ := hc
        simp [evV] at hv
      · cases hc
    · split at hc
      · rename_i x' y' h1 h2 h3
        cases hc
        simp only [evV] at hv
        refine g_bin hop h1 h2 hA ?_ ?_ hv hq
        · intro h
          split at h <;> first
            | cases h; done
            | assumption
        · intro h
          split at h <;> first
            | cases h; done
            | exact ⟨_, _, _, by assumption⟩
      · rename_i x' y' ks h1 h2 h3
        split at hc
        · cases hc
          exact g_seq hop h1 h2 h3 rfl hA hv hq
        · cases hc
          exact g_seq hop h1 h2 h3 rfl hA hv hq
        · cases hc
      · cases hc
  ·
    rename_i op t x hop
    simp only [Option.map_eq_some_iff] at hc
    obtain ⟨y, hy, rfl⟩ := hc
    simp only [evV] at hv
    exact g_un hop hy hA hv hq
  ·
    rename_i src dst x hop
    split at hc
    · rename_i k' k hs hd
      simp only [Option.map_eq_some_iff] at hc
      obtain ⟨y, hy, rfl⟩ := hc
      simp only [evV] at hv
      split at hv
      · rename_i k1 ep k2 n h1 h2
        cases h1
        simp only [sc, Option.some.injEq, Prod.mk.injEq] at hv
        obtain ⟨_, rfl⟩ := hv
        exact g_toInt hop hy hs hd hA h2
      · rename_i h1 _; cases h1
      · rename_i h1 _; cases h1
      · exact absurd ‹CK.toInt _ = CK.b2s› (by simp)
      · cases hv
    · rename_i hs hd
      simp only [Option.map_eq_some_iff] at hc
      obtain ⟨y, hy, rfl⟩ := hc
      simp only [evV] at hv
      split at hv
      · rename_i h1 _; cases h1
      · rename_i ep z _ h2
        simp only [yes, Option.some.injEq, Prod.mk.injEq] at hv
        obtain ⟨_, rfl⟩ := hv
        exact g_same hop hy hs hd hA h2
      · rename_i h1 _; cases h1
      · exact absurd ‹CK.same = CK.b2s› (by simp)
      · cases hv
    · split at hc
      · simp only [Option.map_eq_some_iff] at hc
        obtain ⟨y, hy, rfl⟩ := hc
        cases hl
      · cases hc
    · rename_i e hs' hd
      split at hc
      · rename_i he
        simp only [Option.map_eq_some_iff] at hc
        obtain ⟨y, hy, rfl⟩ := hc
        exact g_b2s hop hy hs' he hd hA hv hq
      · cases hc
    · cases hc
  ·
    rename_i s x f hop
    split at hc
    · rename_i fs hu
      split at hc
      · rename_i fd hf
        split at hc
        · rename_i n y h1 h2
          cases hc
          exact g_fa hop hu hf h1 h2 hA hv
        · cases hc
      · cases hc
    · cases hc
  ·
    rename_i s x f hop
    split at hc
    · rename_i fs hu
      split at hc
      · rename_i fd hf
        split at hc
        · rename_i y n h1 h2 h3
          cases hc
          exact g_fld hop hu hf h2 h3 (by simp) h1 hA hv
        · rename_i y h1 h2 h3
          cases hc
          exact g_fld hop hu hf h2 h3 (by simp) h1 hA hv
        · cases hc
      · cases hc
    · cases hc
  ·
    rename_i t x i hop
    split at hc
    · rename_i e hu
      split at hc
      · cases hc
        simp [evV] at hv
      · cases hc
    · rename_i n e hu
      split at hc
      · rename_i y j s h1 h2 h3
        cases hc
        exact g_iaa hop hu h3 h1 h2 hA hv hq
      · cases hc
    · cases hc
  ·
    rename_i t x i hop
    split at hc
    · rename_i hu
      split at hc
      · rename_i y j h1 h2
        cases hc
        exact g_ix hop hu h1 h2 hA hv hq
      · cases hc
    · rename_i n e hu
      split at hc
      · rename_i y j s h1 h2 h3 h4
        cases hc
        exact g_axi hop hu h3 h4 (by simp) h1 h2 hA hv hq
      · rename_i y j h1 h2 h3 h4
        cases hc
        exact g_axi hop hu h3 h4 (by simp) h1 h2 hA hv hq
      · cases hc
    · cases hc
  ·
    rename_i t x lo hi hop
    split at hc
    · rename_i hu
      split at hc
      · rename_i y l h h1 h2 h3
        cases hc
        exact g_sls hop hu h1 h2 h3 hA hv hq
      · cases hc
    · rename_i e hu
      split at hc
      · rename_i y l h s h1 h2 h3 h4
        cases hc
        exact g_sl hop hu h4 h1 h2 h3 hA hv hq
      · cases hc
    · cases hc
  ·
    rename_i t x hi mx hop
    split at hc
    · rename_i e hu
      split at hc
      · rename_i y h m s h1 h2 h3 h4
        cases hc
        exact g_slc hop hu h4 h1 h2 h3 hA hv hq
      · cases hc
    · cases hc
  ·
    split at hc
    · simp only [Option.map_eq_some_iff] at hc
      obtain ⟨y, _, rfl⟩ := hc
      simp [evV] at hv
    · cases hc
  ·
    split at hc
    · split at hc
      · cases hc
        simp [evV] at hv
      · cases hc
    · cases hc
  ·
    split at hc
    · split at hc
      · cases hc
        simp [evV] at hv
      · cases hc
    · cases hc
  ·
    rename_i f first cap hop
    split at hc
    · rename_i k xs ys h1 h2 h3
      cases hc
      simp only [evV, yes, Option.some.injEq, Prod.mk.injEq] at hv
      obtain ⟨_, rfl⟩ := hv
      exact g_mkfn hop h1 h2 h3 hA
    · cases hc
  ·
    rename_i t k hop
    simp only [Option.map_eq_some_iff] at hc
    obtain ⟨y, hy, rfl⟩ := hc
    exact g_ext hop hy hA hv
  ·
    split at hc
    · cases hc
      simp [evV] at hv
    · cases hc
  ·
    rename_i args ts hop
    split at hc
    · rename_i x t h0 ht
      split at hc
      · rename_i y hu hy
        cases hc
        simp only [evV] at hv
        split at hv
        · rename_i ep s heq
          simp only [sc, Option.some.injEq, Prod.mk.injEq] at hv
          obtain ⟨_, rfl⟩ := hv
          exact g_len_str hop h0 ht hu hy hA heq
        · cases hv
      · rename_i e y hu hy
        cases hc
        simp only [evV] at hv
        split at hv
        · rename_i es heq
          simp only [sc, Option.some.injEq, Prod.mk.injEq] at hv
          obtain ⟨_, rfl⟩ := hv
          exact g_len_row hop h0 ht hu hy hA heq
        · cases hv
      · rename_i kt vt y hu hy
        cases hc
        simp only [evV] at hv
        have hX := opnd_sound hy hA
        split at hv
        · rename_i id heq
          rw [heq] at hX
          simp only [RdA] at hX
          obtain ⟨b, hb, hvx⟩ := hX
          split at hv
          · rename_i ep m hs
            rw [getS_eq] at hs
            obtain ⟨es, k, h1, h2⟩ := hM id b ep m hb hs
            simp only [sc, Option.some.injEq, Prod.mk.injEq] at hv
            obtain ⟨_, rfl⟩ := hv
            exact g_mln hop h0 ht hu ⟨b, es, k, hvx, h1, h2⟩
          · cases hv
        · rename_i ep m heq
          rw [heq] at hX
          simp only [RdA] at hX
          obtain ⟨b, es, k, hvx, h1, _, h2⟩ := hX
          simp only [sc, Option.some.injEq, Prod.mk.injEq] at hv
          obtain ⟨_, rfl⟩ := hv
          exact g_mln hop h0 ht hu ⟨b, es, k, hvx, h1, h2⟩
        · cases hv
      · cases hc
    · cases hc
  ·
    split at hc
    · split at hc
      · split at hc
        · split at hc
          · cases hc
            simp [evV] at hv
          · cases hc
        · cases hc
      · cases hc
    · cases hc
  ·
    rename_i args ts hop
    simp only [Option.map_eq_some_iff] at hc
    obtain ⟨xs, hx, rfl⟩ := hc
    exact g_mx hop hx hA hv
  ·
    rename_i args ts hop
    simp only [Option.map_eq_some_iff] at hc
    obtain ⟨xs, hx, rfl⟩ := hc
    exact g_mn hop hx hA hv
  · cases hc
end
end Go.Ly
end
section
namespace Go.Ly
section
variable {E : Env} {S S' : St} {w w' : World} {A : Fm} {σ : Sto} {a : Act} {o : Oper} {ops : Array Oper}
def Did (E : Env) (S : St) (w : World) (a : Act) (o : Oper) (A' : Fm) (σ' : Sto) : Prop :=
  ∃ nx u S' w', (execOp a.eval o).run E.P w = .ok nx w' ∧ (nx = .value u ∨ (nx = .skip ∧ u = undef)) ∧ Rep E S' w' σ' ∧
    RdF E.φ S' w' A' (a.put o.dst u).tmps.toList ∧ EvF S w S' w' ∧ XSame S w S' w'
theorem RdF_put {dst : Option Nat} {v : AV} {u : Value} (hA : RdF E.φ S w A a.tmps.toList) (hv : RdA E.φ S w v u) : RdF E.φ S w (putA A dst v) (a.put dst u).tmps.toList := by
  cases dst with
  | none => exact hA
  | some d =>
    simp only [putA, Act.put]
    rw [Array.toList_setIfInBounds]
    exact RdF_set hv A _ d hA
theorem RdF_moves {T : List Nat} (M : Moves T [] S w S' w') (hA : RdF E.φ S w A a.tmps.toList) : RdF E.φ S' w' (demoteA T A) a.tmps.toList := RdF_keep M.keeps A _ hA
theorem RdF_movesU {U : List Nat} (M : Moves [] U S w S' w') (hA : RdF E.φ S w A a.tmps.toList) : RdF E.φ S' w' (killF U A) a.tmps.toList := by
  have := RdF_keepU M.keeps A _ hA
  rwa [demoteA_nil] at this
theorem RdF_moves0 (M : Moves [] [] S w S' w') (hA : RdF E.φ S w A a.tmps.toList) : RdF E.φ S' w' A a.tmps.toList := by
  have := RdF_keep M.keeps A _ hA
  rwa [demoteA_nil] at this
theorem did_gives {v : AV} (R : Rep E S w σ) (hA : RdF E.φ S w A a.tmps.toList) (h : Gives E S w a o v) : Did E S w a o (putA A o.dst v) σ := by
  obtain ⟨u, hr, hv⟩ := h
  exact ⟨_, u, S, w, hr, .inl rfl, R, RdF_put hA hv, EvF.refl S w, rfl, fun _ _ _ => ⟨rfl, rfl⟩⟩
theorem toDList_sound {e : TypeId} (hA : RdF E.φ S w A a.tmps.toList) : ∀ {i : Nat} {ps : List (Nat × Operand)} {xs : List AO} {sz : Nat} {ep : Ep} {ys : List D},
    sliceParts E.P E.ν e i ps = some xs → toDList A sz xs = some (ep, ys) →
    RdRow w S.G (epB S.E ep) sz ys (ps.flatMap fun x => (a.eval x.2).cells.toList) ∧ (∀ x ∈ ps, (a.eval x.2).cells.size = sz) ∧ ys.length = ps.length ∧ ps.map (·.1) = List.range' i ps.length
  | i, [], xs, sz, ep, ys, h, hd => by
    simp only [sliceParts, Option.some.injEq] at h
    subst h
    simp only [toDList, Option.some.injEq, Prod.mk.injEq] at hd
    obtain ⟨_, rfl⟩ := hd
    simp [RdRow]
  | i, (j, x) :: ps, xs, sz, ep, ys, h, hd => by
    simp only [sliceParts] at h
    split at h
    · rename_i y rest h0 h1 h2
      cases h
      rw [natEq_iff] at h0
      subst h0
      simp only [toDList] at hd
      split at hd
      · cases hd
      · rename_i e1 z hz
        split at hd
        · cases hd
        · rename_i hsz
          simp only [Bool.and_eq_true, natEq_iff, dlen_eq] at hsz
          split at hd
          · cases hd
          · rename_i e2 zs hzs
            simp only [Option.some.injEq, Prod.mk.injEq] at hd
            obtain ⟨rfl, rfl⟩ := hd
            obtain ⟨i1, i2, i3, i4⟩ := toDList_sound hA h2 hzs
            have hr := toD_sound (opnd_sound h1 hA) hz
            have hcz : RdDs w S.G (epB S.E e1) z.cells (a.eval x).cells.toList := by
              cases z with
              | agg ds =>
                simp only [RdD] at hr
                obtain ⟨vs, hvs, hr⟩ := hr
                rw [hvs]; exact hr
              | bool b => rw [show a.eval x = .bool b from hr]; exact ⟨_, _, rfl, rfl, rfl⟩
              | int k n => rw [show a.eval x = .int k n from hr]; exact ⟨_, _, rfl, rfl, rfl⟩
              | str s => rw [show a.eval x = .string ⟨s.toArray⟩ from hr]; exact ⟨_, _, rfl, rfl, rfl⟩
              | nf => rw [show a.eval x = .nilFunc from hr]; exact ⟨_, _, rfl, rfl, rfl⟩
              | np => rw [show a.eval x = .pointer none from hr]; exact ⟨_, _, rfl, rfl, rfl⟩
              | nm => rw [show a.eval x = .map none from hr]; exact ⟨_, _, rfl, rfl, rfl⟩
              | row s es =>
                have h0 := hr
                simp only [RdD] at hr
                rcases hr with ⟨⟨p, cap, hr⟩, _⟩ | ⟨b, o', cap, vs, hr, _⟩ <;> (rw [hr] at h0 ⊢; exact ⟨_, _, rfl, h0, rfl⟩)
            have hlen := RdDs_len _ _ hcz
            have hone : ∀ c ∈ (a.eval x).cells.toList, oneV c := by
              have : ∀ (l : List D) (vs : List Value), dOnes l = true → RdDs w S.G (epB S.E e1) l vs → ∀ c ∈ vs, oneV c := by
                intro l
                induction l with
                | nil => intro vs _ h; simp only [RdDs] at h; subst h; simp
                | cons y l ih =>
                  intro vs ho h
                  simp only [RdDs] at h
                  obtain ⟨v, rest, rfl, h1, h2⟩ := h
                  simp only [dOnes] at ho
                  split at ho
                  · rename_i hy
                    intro c hc
                    simp only [List.mem_cons] at hc
                    rcases hc with rfl | hc
                    · cases y with
                      | agg ds => cases hy
                      | bool b => rw [show c = .bool b from h1]; trivial
                      | int k n => rw [show c = .int k n from h1]; trivial
                      | str s => rw [show c = .string ⟨s.toArray⟩ from h1]; trivial
                      | nf => rw [show c = .nilFunc from h1]; trivial
                      | np => rw [show c = .pointer none from h1]; trivial
                      | nm => rw [show c = .map none from h1]; trivial
                      | row s es =>
                        simp only [RdD] at h1
                        rcases h1 with ⟨⟨p, cap, h1⟩, _⟩ | ⟨b, o', cap, vs, h1, _⟩ <;> (rw [h1]; trivial)
                    · exact ih rest ho h2 c hc
                  · cases ho
              exact this z.cells _ hsz.2 hcz
            have hsize : (a.eval x).cells.size = sz := by
              rw [← hsz.1, ← hlen]; simp
            refine ⟨?_, ?_, by simp [i3], ?_⟩
            · simp only [List.flatMap_cons, RdRow]
              exact ⟨_, _, rfl, hsize, hone, RdD_weak (fun b hb => epB_meet_l _ _ b hb) hr, RdRow_mono (grow_weak fun b _ hb => epB_meet_r _ _ b hb) sz _ _ i1⟩
            · intro p hp
              simp only [List.mem_cons] at hp
              rcases hp with rfl | hp
              · exact hsize
              · exact i2 p hp
            · simp only [List.map_cons, i4, List.length_cons, List.range'_succ]
    · cases h
theorem putV_mid : ∀ (us pre r1 r2 : List Value), us.length = r1.length → putV (pre ++ (r1 ++ r2)) pre.length us = pre ++ (us ++ r2)
  | [], pre, r1, r2, h => by
    have : r1 = [] := List.eq_nil_of_length_eq_zero h.symm
    subst this
    rfl
  | u :: us, pre, [], r2, h => by simp at h
  | u :: us, pre, x :: r1, r2, h => by
    have := putV_mid us (pre ++ [u]) r1 r2 (by simpa using h)
    simp only [putV]
    rw [show (pre ++ (x :: r1 ++ r2)).set pre.length u = (pre ++ [u]) ++ (r1 ++ r2) by simp]
    simp only [List.length_append, List.length_singleton] at this
    rw [this]
    simp
theorem fill_all {sz : Nat} : ∀ (ps : List (Nat × Value)) (pre rest : List Value) (i : Nat), pre.length = i * sz → rest.length = ps.length * sz → (∀ x ∈ ps, x.2.cells.size = sz) →
    ps.map (·.1) = List.range' i ps.length →
    Instr.fill (fun i => some (i * sz, sz)) ⟨pre ++ rest⟩ ps = some ⟨pre ++ ps.flatMap fun x => x.2.cells.toList⟩
  | [], pre, rest, i, _, hr, _, _ => by
    have : rest = [] := List.eq_nil_of_length_eq_zero (by simpa using hr)
    subst this
    simp [Instr.fill]
  | (j, v) :: ps, pre, rest, i, hp, hr, hs, hi => by
    simp only [List.map_cons, List.length_cons, List.range'_succ, List.cons.injEq] at hi
    obtain ⟨rfl, hi⟩ := hi
    have hv : v.cells.size = sz := hs (j, v) (by simp)
    simp only [List.length_cons, Nat.add_mul, Nat.one_mul] at hr
    simp only [Instr.fill]
    rw [if_neg (by
      intro h
      simp only [Bool.or_eq_true, decide_eq_true_eq] at h
      rcases h with h | h
      · exact h hv
      · simp only [List.size_toArray, List.length_append] at h
        omega)]
    rw [fold_putV]
    have hmid := putV_mid v.cells.toList pre (rest.take sz) (rest.drop sz) (by simp [hv]; omega)
    rw [List.take_append_drop] at hmid
    rw [← hp, hmid]
    have ih := fill_all ps (pre ++ v.cells.toList) (rest.drop sz) (j + 1) (by simp [hp, hv, Nat.add_mul]) (by simp; omega) (fun x hx => hs x (by simp [hx])) hi
    rw [show pre ++ (v.cells.toList ++ rest.drop sz) = (pre ++ v.cells.toList) ++ rest.drop sz by simp]
    rw [ih]
    simp
theorem row_laid {t e : TypeId} {len s : Nat} {parts : Array (Nat × Operand)} {xs : List AO} {ep : Ep} {ys : List D} (hop : o.op = .buildSlice t len parts) (hu : E.P.underlying t = some (.slice e))
    (hs : sizeT E.P e = some s) (hp : sliceParts E.P E.ν e 0 parts.toList = some xs) (hlen : xs.length = len) (hbig : len * s ≤ 16777216) (hz : (zeroD E.P e).isSome)
    (hd : toDList A s xs = some (ep, ys)) (hA : RdF E.φ S w A a.tmps.toList) :
    ∃ (vs : List Value) (w' : World), (execOp a.eval o).run E.P w = .ok (.value (.slice (some ⟨w.heap.size, 0, none⟩) ys.length ys.length)) w' ∧ More w w' (.cells ⟨vs⟩ e (0, 0)) ∧
      RdRow w S.G (epB S.E ep) s ys vs := by
  obtain ⟨h1, h2, h3, h4⟩ := toDList_sound (S := S) (w := w) hA hp hd
  have hxl : ∀ {i : Nat} {ps : List (Nat × Operand)} {xs : List AO}, sliceParts E.P E.ν e i ps = some xs → xs.length = ps.length := by
    intro i ps
    induction ps generalizing i with
    | nil => intro xs h; simp only [sliceParts, Option.some.injEq] at h; subst h; rfl
    | cons p ps ih =>
      intro xs h
      obtain ⟨j, x⟩ := p
      simp only [sliceParts] at h
      split at h
      · rename_i _ _ _ _ _ h'
        cases h
        simp [ih h']
      · cases h
  have hpl := hxl hp
  obtain ⟨zs, hzs⟩ := Option.isSome_iff_exists.1 hz
  obtain ⟨zv, hzr, _⟩ := zeroD_sound (E := E) (S := S) (w := w) hzs 0
  refine ⟨parts.toList.flatMap fun x => (a.eval x.2).cells.toList, { w with heap := w.heap.push (.cells ⟨parts.toList.flatMap fun x => (a.eval x.2).cells.toList⟩ e) }, ?_, ⟨rfl, rfl, rfl⟩, h1⟩
  have hf : ∀ init : Array Value, init.size = len * s →
      Instr.fill (fun i => some (i * s, s)) init ((parts.map fun (x : Nat × Operand) => (x.1, a.eval x.2)).toList) = some ⟨parts.toList.flatMap fun x => (a.eval x.2).cells.toList⟩ := by
    intro init hin
    have := fill_all (sz := s) ((parts.map fun (x : Nat × Operand) => (x.1, a.eval x.2)).toList) [] init.toList 0 (by simp) (by simp [hin, ← hlen, hpl]) (by
      intro x hx
      simp only [Array.toList_map, List.mem_map] at hx
      obtain ⟨y, hy, rfl⟩ := hx
      exact h2 y hy) (by
      simp only [Array.toList_map, List.map_map, List.length_map]
      exact h4)
    simp only [List.nil_append] at this
    rw [show (⟨init.toList⟩ : Array Value) = init from rfl] at this
    rw [this]
    simp [List.flatMap_map]
  have hys : ys.length = len := by rw [h3, ← hlen, hpl]
  simp only [execOp, hop, Instr.buildSlice, Sem.run_bind, run_underlying hu, Result.andThen_ok, sizeT_some hs]
  rw [if_neg (by omega)]
  by_cases h0 : len * s = 0
  · rw [if_pos h0]
    simp only [Sem.run_bind, Sem.run_pure, Result.andThen_ok]
    rw [hf _ (by simp)]
    simp [newRow, hys]
  · rw [if_neg h0]
    simp only [Sem.run_bind, hzr, Result.andThen_ok, Sem.run_pure]
    rw [hf _ (by simp)]
    simp [newRow, hys]
theorem epB_newmeet {e : Ep} {b : Nat} (h : S.E ≤ b) : epB S.E (Ep.new.meet e) b := by
  cases e <;> simp [epB, Ep.meet, h]
theorem did_bslice_d {t e : TypeId} {len s : Nat} {parts : Array (Nat × Operand)} {xs : List AO} {ep : Ep} {ys : List D} (R : Rep E S w σ) (hop : o.op = .buildSlice t len parts)
    (hu : E.P.underlying t = some (.slice e)) (hs : sizeT E.P e = some s) (hp : sliceParts E.P E.ν e 0 parts.toList = some xs) (hlen : xs.length = len) (hbig : len * s ≤ 16777216) (hz : (zeroD E.P e).isSome)
    (hd : toDList A s xs = some (ep, ys)) (hA : RdF E.φ S w A a.tmps.toList) : Did E S w a o (putA A o.dst (.d (Ep.new.meet ep) (.row s ys))) σ := by
  obtain ⟨vs, w', hr, M, hrow⟩ := row_laid hop hu hs hp hlen hbig hz hd hA
  have hm := moves_row R M (ys.length * s)
  refine ⟨_, _, { S with G := setG S.G w.heap.size (ys.length * s) }, w', hr, .inl rfl, rep_row R M _, RdF_put (RdF_moves0 hm hA) ?_, hm.ev, hm.x⟩
  simp only [RdA, RdD]
  refine .inr ⟨w.heap.size, 0, ys.length, vs, rfl, Nat.le_refl _, ⟨by rw [M.size]; omega, epB_newmeet R.E⟩, by simp [setG_same], ?_, ?_⟩
  · intro i v hv
    simp [World.cell?, M.new, hv]
  · exact RdRow_mono ⟨hm.keeps.imm, hm.keeps.G, hm.keeps.size, fun b _ hb => epB_meet_r _ _ b hb⟩ s _ _ hrow
theorem did_bslice_own {t e : TypeId} {len s : Nat} {parts : Array (Nat × Operand)} {xs : List AO} {ep : Ep} {ys : List D} {tk : Nat} (R : Rep E S w σ) (hop : o.op = .buildSlice t len parts)
    (hu : E.P.underlying t = some (.slice e)) (hs : sizeT E.P e = some s) (hp : sliceParts E.P E.ν e 0 parts.toList = some xs) (hlen : xs.length = len) (hbig : len * s ≤ 16777216) (hz : (zeroD E.P e).isSome)
    (hd : toDList A s xs = some (ep, ys)) (hA : RdF E.φ S w A a.tmps.toList) :
    Did E S w a o (putA (demoteA [tk] A) o.dst (.own tk s ys (Ep.new.meet ep))) (demoteS [tk] σ) := by
  obtain ⟨vs, w', hr, M, hrow⟩ := row_laid hop hu hs hp hlen hbig hz hd hA
  have hm := moves_regrow R M tk (ys.length * s)
  refine ⟨_, _, { S with G := setG S.G w.heap.size (ys.length * s), β := setβ S.β (2 * tk) w.heap.size }, w', hr, .inl rfl, rep_regrow R M _ _, RdF_put (RdF_moves hm hA) ?_, hm.ev, hm.x⟩
  have hvl := RdRow_len _ _ hrow
  refine .inr ⟨w.heap.size, 0, ys.length, vs, ⟨vs⟩, e, by simp [setβ], rfl, M.new, Nat.le_refl _, by simp [hvl], epB_newmeet R.E, by simp [setG_same], ?_, ?_⟩
  · intro i v hv
    simp [World.cell?, M.new, hv]
  · exact RdRow_mono ⟨hm.keeps.imm, hm.keeps.G, hm.keeps.size, fun b _ hb => epB_meet_r _ _ b hb⟩ s _ _ hrow
theorem did_bslice_uq {t e : TypeId} {len s : Nat} {parts : Array (Nat × Operand)} {xs : List AO} {ep : Ep} {ys : List D} {tk : Nat} (R : Rep E S w σ) (hop : o.op = .buildSlice t len parts)
    (hu : E.P.underlying t = some (.slice e)) (hs : sizeT E.P e = some s) (hp : sliceParts E.P E.ν e 0 parts.toList = some xs) (hlen : xs.length = len) (hbig : len * s ≤ 16777216) (hz : (zeroD E.P e).isSome)
    (hd : toDList A s xs = some (ep, ys)) (hA : RdF E.φ S w A a.tmps.toList) :
    Did E S w a o (putA (killF [tk] A) o.dst (.uq tk s ys (Ep.new.meet ep))) (killS [tk] σ) := by
  obtain ⟨vs, w', hr, M, hrow⟩ := row_laid hop hu hs hp hlen hbig hz hd hA
  have hm := moves_unew R M tk (ys.length, ys.length)
  refine ⟨_, _, { S with ln := setL S.ln tk (ys.length, ys.length), β := setβ S.β (2 * tk + 1) w.heap.size }, w', hr, .inl rfl, rep_unew R M _ _, RdF_put (RdF_movesU hm hA) ?_, hm.ev, hm.x⟩
  have hvl := RdRow_len _ _ hrow
  refine RdUq_mk (vs := vs) (by simp [setβ]) (setL_same _ _ _) M.new (Nat.le_refl _) (by simp [hvl]) (epB_newmeet R.E) (R.Gnew _ (Nat.le_refl _)) ?_ ?_
  · intro i v hv
    simp [World.cell?, M.new, hv]
  · exact RdRow_mono ⟨hm.keeps.imm, hm.keeps.G, hm.keeps.size, fun b _ hb => epB_meet_r _ _ b hb⟩ s _ _ hrow
theorem RdAs_append : ∀ {xs ys : List AV} {us vs : List Value}, RdAs E.φ S w xs us → RdAs E.φ S w ys vs → RdAs E.φ S w (xs ++ ys) (us ++ vs)
  | [], _, _, _, h, h' => by simp only [RdAs] at h; subst h; exact h'
  | x :: xs, ys, us, vs, h, h' => by
    simp only [RdAs] at h
    obtain ⟨v, rest, rfl, hn, h1, h2⟩ := h
    simp only [List.cons_append, RdAs]
    exact ⟨v, rest ++ vs, rfl, hn, h1, RdAs_append h2 h'⟩
theorem appendL_eq : ∀ xs l : List AV, appendL xs l = xs ++ l
  | [], _ => rfl
  | x :: xs, l => by simp [appendL, appendL_eq xs l]
theorem isOne_oneV {x : AV} {v : Value} (h : RdA E.φ S w x v) (hx : isOne x = true) : oneV v := by
  cases x with
  | d ep x =>
    cases x with
    | agg => cases hx
    | bool b => rw [show v = .bool b from h]; trivial
    | int k n => rw [show v = .int k n from h]; trivial
    | str s => rw [show v = .string ⟨s.toArray⟩ from h]; trivial
    | nf => rw [show v = .nilFunc from h]; trivial
    | np => rw [show v = .pointer none from h]; trivial
    | nm => rw [show v = .map none from h]; trivial
    | row s es =>
      simp only [RdA, RdD] at h
      rcases h with ⟨⟨p, cap, h1⟩, _⟩ | ⟨b, o', cap, vs, h1, _⟩ <;> (rw [h1]; trivial)
  | any => cases hx
  | agg => cases hx
  | tup => cases hx
  | fresh => simp [RdA] at h
  | pk => cases hx
  | own t sz es ep => rcases h with ⟨⟨p, h⟩, _⟩ | ⟨b, o', cap, vs, cs, T, _, h, _⟩ <;> (rw [h]; trivial)
  | uq t sz es ep => rcases h with ⟨_, _, h⟩ | ⟨b, vs, cs, T, _, h, _⟩ <;> (rw [h]; trivial)
  | up => simp only [RdA] at h; obtain ⟨b, y, _, h, _⟩ := h; rw [h]; trivial
  | «at» => simp only [RdA] at h; obtain ⟨b, o', y, h, _⟩ := h; rw [h]; trivial
  | cb => simp only [RdA] at h; obtain ⟨b, vs, h, _⟩ := h; rw [h]; trivial
  | fb => simp only [RdA] at h; obtain ⟨b, vs, h, _⟩ := h; rw [h]; trivial
  | sb => simp only [RdA] at h; obtain ⟨b, cap, vs, h, _⟩ := h; rw [h]; trivial
  | mp => simp only [RdA] at h; obtain ⟨b, _, h⟩ := h; rw [h]; trivial
  | cmd => simp only [RdA] at h; obtain ⟨b, es, k, h, _⟩ := h; rw [h]; trivial
  | cm => simp only [RdA] at h; obtain ⟨b, es, k, h, _⟩ := h; rw [h]; trivial
  | ptr => simp only [RdA] at h; obtain ⟨b, _, h⟩ := h; rw [h]; trivial
  | fn => simp only [RdA] at h; obtain ⟨va, vc, h, _⟩ := h; rw [h]; trivial
  | ext => simp only [RdA] at h; obtain ⟨_, f, x, y, h⟩ := h; rw [h]; trivial
theorem areOne_oneV : ∀ {xs : List AV} {vs : List Value}, RdAs E.φ S w xs vs → areOne xs = true → ∀ c ∈ vs, oneV c
  | [], vs, h, _ => by simp only [RdAs] at h; subst h; simp
  | x :: xs, vs, h, ho => by
    simp only [RdAs] at h
    obtain ⟨v, rest, rfl, _, h1, h2⟩ := h
    simp only [areOne] at ho
    split at ho
    · rename_i hx
      intro c hc
      simp only [List.mem_cons] at hc
      rcases hc with rfl | hc
      · exact isOne_oneV h1 hx
      · exact areOne_oneV h2 ho c hc
    · cases ho
theorem cellList_sound {e : TypeId} {sz : Nat} (hA : RdF E.φ S w A a.tmps.toList) : ∀ {i : Nat} {ps : List (Nat × Operand)} {xs : List AO} {cs : List AV},
    sliceParts E.P E.ν e i ps = some xs → cellList A sz xs = some cs →
    RdAs E.φ S w cs (ps.flatMap fun x => (a.eval x.2).cells.toList) ∧ (∀ x ∈ ps, (a.eval x.2).cells.size = sz) ∧ noOwn.noOwnL cs = true ∧ ps.map (·.1) = List.range' i ps.length ∧ cs.length = ps.length * sz
  | i, [], xs, cs, h, hd => by
    simp only [sliceParts, Option.some.injEq] at h
    subst h
    simp only [cellList, Option.some.injEq] at hd
    subst hd
    simp [RdAs, noOwn.noOwnL]
  | i, (j, x) :: ps, xs, cs, h, hd => by
    simp only [sliceParts] at h
    split at h
    · rename_i y rest h0 h1 h2
      cases h
      rw [natEq_iff] at h0
      subst h0
      simp only [cellList] at hd
      split at hd
      · cases hd
      · rename_i vs hvs
        split at hd
        · cases hd
        · rename_i hok
          simp only [Bool.and_eq_true, natEq_iff, len_eq] at hok
          split at hd
          · cases hd
          · rename_i cs' hcs
            simp only [Option.some.injEq] at hd
            subst hd
            obtain ⟨i1, i2, i3, i4, i5⟩ := cellList_sound hA h2 hcs
            have hr := cells_sound (opnd_sound h1 hA) hvs
            have hw := wkL_sound hr
            have hl := RdAs_len _ _ hr
            have hsz : (a.eval x).cells.size = sz := by rw [← hok.1, ← hl]; simp
            have no : ∀ (l l' : List AV), noOwn.noOwnL l = true → noOwn.noOwnL l' = true → noOwn.noOwnL (l ++ l') = true := by
              intro l l'
              induction l with
              | nil => intro _ h; exact h
              | cons c l ih =>
                intro h h'
                cases c <;> first
                  | (simp only [noOwn.noOwnL, Bool.false_eq_true] at h; done)
                  | exact ih h h'
            refine ⟨?_, ?_, ?_, ?_, ?_⟩
            · simp only [List.flatMap_cons, appendL_eq]
              exact RdAs_append hw i1
            · intro p hp
              simp only [List.mem_cons] at hp
              rcases hp with rfl | hp
              · exact hsz
              · exact i2 p hp
            · rw [appendL_eq]; exact no _ _ (noOwn_mkAgg_wkL vs) i3
            · simp only [List.map_cons, i4, List.length_cons, List.range'_succ]
            · have hwl : (wkL vs).length = sz := by rw [← RdAs_len _ _ hw, hl]; exact hok.1
              simp only [appendL_eq, List.length_append, hwl, i5, List.length_cons, Nat.add_mul, Nat.one_mul]
              omega
    · cases h
theorem lenO_eq : ∀ l : List AO, lenO l = l.length
  | [] => rfl
  | _ :: l => by simp [lenO, lenO_eq l]
theorem did_bslice_sb {t e : TypeId} {len s : Nat} {parts : Array (Nat × Operand)} {xs : List AO} {cs : List AV} (R : Rep E S w σ) (hop : o.op = .buildSlice t len parts)
    (hu : E.P.underlying t = some (.slice e)) (hs : sizeT E.P e = some s) (hp : sliceParts E.P E.ν e 0 parts.toList = some xs) (hlen : xs.length = len) (hbig : len * s ≤ 16777216) (hz : (zeroD E.P e).isSome)
    (hd : cellList A s xs = some cs) (hA : RdF E.φ S w A a.tmps.toList) : Did E S w a o (putA A o.dst (.sb s (lenO xs) cs)) σ := by
  obtain ⟨h1, h2, h3, h4, h5⟩ := cellList_sound (S := S) (w := w) hA hp hd
  have hxl : ∀ {i : Nat} {ps : List (Nat × Operand)} {xs : List AO}, sliceParts E.P E.ν e i ps = some xs → xs.length = ps.length := by
    intro i ps
    induction ps generalizing i with
    | nil => intro xs h; simp only [sliceParts, Option.some.injEq] at h; subst h; rfl
    | cons p ps ih =>
      intro xs h
      obtain ⟨j, x⟩ := p
      simp only [sliceParts] at h
      split at h
      · rename_i _ _ _ _ _ h'
        cases h
        simp [ih h']
      · cases h
  have hpl := hxl hp
  obtain ⟨zs, hzs⟩ := Option.isSome_iff_exists.1 hz
  obtain ⟨zv, hzr, _⟩ := zeroD_sound (E := E) (S := S) (w := w) hzs 0
  have M : More w { w with heap := w.heap.push (.cells ⟨parts.toList.flatMap fun x => (a.eval x.2).cells.toList⟩ e) } (.cells ⟨parts.toList.flatMap fun x => (a.eval x.2).cells.toList⟩ e (0, 0)) := ⟨rfl, rfl, rfl⟩
  have hf : ∀ init : Array Value, init.size = len * s →
      Instr.fill (fun i => some (i * s, s)) init ((parts.map fun (x : Nat × Operand) => (x.1, a.eval x.2)).toList) = some ⟨parts.toList.flatMap fun x => (a.eval x.2).cells.toList⟩ := by
    intro init hin
    have := fill_all (sz := s) ((parts.map fun (x : Nat × Operand) => (x.1, a.eval x.2)).toList) [] init.toList 0 (by simp) (by simp [hin, ← hlen, hpl]) (by
      intro x hx
      simp only [Array.toList_map, List.mem_map] at hx
      obtain ⟨y, hy, rfl⟩ := hx
      exact h2 y hy) (by
      simp only [Array.toList_map, List.map_map, List.length_map]
      exact h4)
    simp only [List.nil_append] at this
    rw [show (⟨init.toList⟩ : Array Value) = init from rfl] at this
    rw [this]
    simp [List.flatMap_map]
  have hlx : lenO xs = len := by rw [lenO_eq, hlen]
  have hm := moves_row R M (len * s)
  have hvl : (parts.toList.flatMap fun x => (a.eval x.2).cells.toList).length = len * s := by
    have := RdAs_len _ _ h1
    rw [this, h5, ← hpl, hlen]
  refine ⟨.value (.slice (some ⟨w.heap.size, 0, none⟩) len len), _, { S with G := setG S.G w.heap.size (len * s) }, _, ?_, .inl rfl, rep_row R M _, RdF_put (RdF_moves0 hm hA) ?_, hm.ev, hm.x⟩
  · simp only [execOp, hop, Instr.buildSlice, Sem.run_bind, run_underlying hu, Result.andThen_ok, sizeT_some hs]
    rw [if_neg (by omega)]
    by_cases h0 : len * s = 0
    · rw [if_pos h0]
      simp only [Sem.run_bind, Sem.run_pure, Result.andThen_ok]
      rw [hf _ (by simp)]
      simp [newRow]
    · rw [if_neg h0]
      simp only [Sem.run_bind, hzr, Result.andThen_ok, Sem.run_pure]
      rw [hf _ (by simp)]
      simp [newRow]
  · have hk := RdAs_keep hm.keeps cs _ h1
    rw [demoteL_nil, killL_nil] at hk
    simp only [RdA]
    refine ⟨w.heap.size, len, _, by rw [hlx], by rw [hlx]; exact Nat.le_refl _, by rw [hlx, h5, ← hpl, hlen], ?_, by simp only [setG_same]; omega, h3, hk⟩
    intro i v hv
    simp [World.cell?, M.new, hv]
theorem did_unil {x : Operand} {tk sz : Nat} (hop : o.op = .move x ∨ o.op = .assign x) (hx : isNil x = true) (R : Rep E S w σ) (hA : RdF E.φ S w A a.tmps.toList) :
    Did E S w a o (putA (killF [tk] A) o.dst (.uq tk sz [] .top)) (killS [tk] σ) := by
  have hm := moves_unil R tk
  cases x with
  | const v =>
    have hv : v = .slice none 0 0 := by
      unfold isNil at hx
      split at hx
      · rename_i heq; cases heq; rfl
      · cases hx
    subst hv
    refine ⟨_, _, _, w, ?_, .inl rfl, rep_unil R tk, RdF_put (RdF_movesU hm hA) (u := .slice none 0 0) ?_, hm.ev, hm.x⟩
    · rcases hop with hop | hop <;> simp [execOp, hop, Act.eval]
    · exact .inl ⟨by simp [unsetβ], rfl, rfl⟩
  | _ => cases hx
end
end Go.Ly
end
