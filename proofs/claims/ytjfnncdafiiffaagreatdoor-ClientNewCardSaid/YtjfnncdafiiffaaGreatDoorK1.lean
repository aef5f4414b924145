/- Moves, and places of fields. -/
import Derived.Calls
import Derived.Laws.AppendOwn
import Derived.Laws.Cells
import Derived.Laws.Strings
import Derived.Laws.Slices
import Derived.Laws.BytesString
import Derived.Laws.IdiomStrings
import Derived.Laws.StructEq
import Derived.Laws.Entries
import Derived.Deep.AppendSrc
import Derived.Laws.OwnMore
import Derived.Laws.Small

namespace Tr
open Go

inductive AV where
  | bool (b : Bool)
  | int (k : IntKind) (n : Int)
  | str (s : List UInt8)
  | nil
  | nilp
  | nilf
  | agg (cs : List AV)
  | tup (vs : List AV)
  | sl (xs : List AV)
  | ip (cs : List AV)
  | fn (f : Nat) (first cap : List AV)
  | ref (id off : Nat)
  | hp (bs : List AV)
  | undef
  | junk

instance : Inhabited AV := ⟨.junk⟩

def AV.cells : AV → List AV
  | .agg cs => cs
  | v => [v]

def AV.nc (v : AV) : Nat := v.cells.length

def i64 (n : Int) : AV := .int .i64 n

namespace A

/-- A struct's cells (ag), or a lone cell. -/
def cs (ag : Bool) : AV → Option (List AV)
  | .agg c => if ag then some c else none
  | .junk | .undef | .tup _ => none
  | v => if ag then none else some [v]

/-- A value of one cell. -/
def one : AV → Option AV
  | .agg _ | .undef | .junk | .tup _ | .hp _ => none
  | v => some v

/-- A value's cells, n of them. -/
def csn (ag : Bool) (n : Nat) (v : AV) : Option (List AV) := (cs ag v).bind fun m => if m.length = n then some m else none

def pick : AV → AV → AV → Option AV
  | .bool c, a, b => some (if c then a else b)
  | _, _, _ => none

/-- Is a guard's operation carried out? -/
def isB (w : Bool) : AV → Option Bool
  | .bool c => some (c == w)
  | .undef => some false
  | _ => none

def asB : AV → Option Bool
  | .bool c => some c
  | _ => none

def ibin (op : BinOp) (k : IntKind) (a : Int) (k' : IntKind) (b : Int) : Option AV :=
  match op with
  | .shl => if b < 0 then none else some (.int k (k.wrap (a * 2 ^ (min b.toNat k.bits))))
  | .shr => if b < 0 then none else some (.int k (a.fdiv (2 ^ (min b.toNat k.bits))))
  | _ =>
    if k ≠ k' then none else
    match op with
    | .add => some (.int k (k.wrap (a + b)))
    | .sub => some (.int k (k.wrap (a - b)))
    | .mul => some (.int k (k.wrap (a * b)))
    | .quo => if b = 0 then none else some (.int k (k.wrap (a.tdiv b)))
    | .rem => if b = 0 then none else some (.int k (a.tmod b))
    | .and => some (.int k (k.wrap (BitVec.ofInt k.bits a &&& BitVec.ofInt k.bits b).toNat))
    | .or => some (.int k (k.wrap (BitVec.ofInt k.bits a ||| BitVec.ofInt k.bits b).toNat))
    | .xor => some (.int k (k.wrap (BitVec.ofInt k.bits a ^^^ BitVec.ofInt k.bits b).toNat))
    | .andNot => some (.int k (k.wrap (BitVec.ofInt k.bits a &&& ~~~ BitVec.ofInt k.bits b).toNat))
    | .eql => some (.bool (a == b))
    | .neq => some (.bool (a != b))
    | .lss => some (.bool (a < b))
    | .leq => some (.bool (a ≤ b))
    | .gtr => some (.bool (a > b))
    | .geq => some (.bool (a ≥ b))
    | _ => none

def sbin (op : BinOp) (a b : List UInt8) : Option AV :=
  match op with
  | .add => if a.length + b.length ≤ 1099511627776 then some (.str (a ++ b)) else none
  | .eql => some (.bool (a == b))
  | .neq => some (.bool (!(a == b)))
  | .lss => some (.bool (Op.bytesLess a b))
  | .leq => some (.bool (Op.bytesLess a b || a == b))
  | .gtr => some (.bool (!(Op.bytesLess a b || a == b)))
  | .geq => some (.bool (!Op.bytesLess a b))
  | _ => none

/-- Two lone cells, held against each other: truths (0), numbers (1), texts (2). -/
def eqc : Nat → AV → AV → Option Bool
  | 0, .bool a, .bool b => some (a == b)
  | 1, .int k a, .int k' b => if k = k' then some (a == b) else none
  | 2, .str a, .str b => some (a == b)
  | _, _, _ => none

def eqL : List Nat → List AV → List AV → Option Bool
  | [], [], [] => some true
  | k :: ks, x :: xs, y :: ys => (eqc k x y).bind fun b => (eqL ks xs ys).bind fun c => some (b && c)
  | _, _, _ => none

/-- == on truths (1), structs of plain cells (2), slices, one of them nil (3), pointers, one of them nil (4). -/
def eqk (ks : List Nat) : Nat → AV → AV → Option Bool
  | 1, .bool a, .bool b => some (a == b)
  | 2, .agg a, .agg b => eqL ks a b
  | 3, .nil, .nil => some true
  | 3, .nil, .sl _ => some false
  | 3, .sl _, .nil => some false
  | 4, .nilp, .nilp => some true
  | 4, .nilp, .ref _ _ => some false
  | 4, .ref _ _, .nilp => some false
  | _, _, _ => none

def eq (ne : Bool) (c : Nat) (ks : List Nat) (x y : AV) : Option AV := (eqk ks c x y).bind fun b => some (.bool (if ne then !b else b))

def bin (op : BinOp) : AV → AV → Option AV
  | .int k a, .int k' b => ibin op k a k' b
  | .str a, .str b => sbin op a b
  | _, _ => none

def un (op : UnOp) : AV → Option AV
  | .int k n => match op with | .neg => some (.int k (k.wrap (0 - n))) | _ => none
  | .bool b => match op with | .not => some (.bool (!b)) | _ => none
  | _ => none

def cvi (k : IntKind) : AV → Option AV
  | .int _ n => some (.int k (k.wrap n))
  | _ => none

/-- A slice's elements. -/
def els : AV → Option (List AV)
  | .nil => some []
  | .sl xs => some xs
  | _ => none

def toBytes : List AV → Option (List UInt8)
  | [] => some []
  | .int .u8 n :: r => (toBytes r).bind fun t => some (UInt8.ofNat n.toNat :: t)
  | _ => none

def ofBytes (s : List UInt8) : List AV := s.map fun b => .int .u8 b.toNat

def cvs (x : AV) : Option AV := (els x).bind fun xs => (toBytes xs).bind fun s => some (.str s)

def cvb : AV → Option AV
  | .str s => if s.length ≤ 1099511627776 then some (.sl (ofBytes s)) else none
  | _ => none

/-- len, of a text (s), or of a slice. -/
def len (s : Bool) : AV → Option AV
  | .str l => if s then some (i64 l.length) else none
  | .nil => if s then none else some (i64 0)
  | .sl xs => if s then none else some (i64 xs.length)
  | _ => none

def idx : AV → AV → Option AV
  | .str s, .int _ i => if 0 ≤ i then (s[i.toNat]?).bind fun b => some (.int .u8 b.toNat) else none
  | _, _ => none

/-- The size of a slice's elements, where there is one. -/
def hdSz (sz : Nat) : List AV → Bool
  | [] => true
  | x :: _ => x.nc == sz

/-- A part of a slice: of nil, nil. -/
def slW (x : AV) (ys : List AV) : AV := match x with | .nil => .nil | _ => .sl ys

/-- What was appended to: nil, with nothing, stays nil. -/
def appW (x : AV) (ys r : List AV) : AV := match x, ys with | .nil, [] => .nil | _, _ => .sl r

def sub (st : Bool) (sz : Nat) (x : AV) (lo hi : Option AV) : Option AV :=
  match x with
  | .str s =>
    if !st then none else
    match lo, hi with
    | some (.int _ l), some (.int _ h) => if 0 ≤ l ∧ l ≤ h ∧ h ≤ s.length then some (.str ((s.take h.toNat).drop l.toNat)) else none
    | some (.int _ l), none => if 0 ≤ l ∧ l ≤ s.length then some (.str (s.drop l.toNat)) else none
    | none, some (.int _ h) => if 0 ≤ h ∧ h ≤ s.length then some (.str (s.take h.toNat)) else none
    | none, none => some (.str s)
    | _, _ => none
  | .nil | .sl _ =>
    if st then none else
    (els x).bind fun xs =>
    if !hdSz sz xs then none else
    match lo, hi with
    | some (.int _ l), some (.int _ h) => if 0 ≤ l ∧ l ≤ h ∧ h ≤ xs.length then some (slW x ((xs.take h.toNat).drop l.toNat)) else none
    | some (.int _ l), none => if 0 ≤ l ∧ l ≤ xs.length then some (slW x (xs.drop l.toNat)) else none
    | none, some (.int _ h) => if 0 ≤ h ∧ h ≤ xs.length then some (slW x (xs.take h.toNat)) else none
    | none, none => some (slW x xs)
    | _, _ => none
  | _ => none

/-- A place's cells from an offset on. -/
def fa (off : Nat) : AV → Option AV
  | .ip c => some (.ip (c.drop off))
  | .ref id o => some (.ref id (o + off))
  | _ => none

def cut (ag : Bool) (n : Nat) (c : List AV) : Option AV :=
  if ag then (if n ≤ c.length then some (.agg (c.take n)) else none)
  else match c with | a :: _ => some a | [] => none

def block (h : AV) (id : Nat) : Option (List AV) :=
  match h with
  | .hp bs => match bs[id]? with | some (.agg c) => some c | _ => none
  | _ => none

def ld (h : AV) (ag : Bool) (n : Nat) : AV → Option AV
  | .ip c => cut ag n c
  | .ref id o => (block h id).bind fun c => cut ag n (c.drop o)
  | _ => none

def splice (c : List AV) (off : Nat) (m : List AV) : List AV := c.take off ++ m ++ c.drop (off + m.length)

def st (h : AV) (ag : Bool) (n : Nat) (p v : AV) : Option AV :=
  match h, p with
  | .hp bs, .ref id o =>
    (block h id).bind fun c => (cs ag v).bind fun m =>
    if m.length = n ∧ o + n ≤ c.length then some (.hp (bs.set id (.agg (splice c o m)))) else none
  | _, _ => none

def nilc : AV → Option AV
  | .ref id o => some (.ref id o)
  | .ip c => some (.ip c)
  | _ => none

def at_ (xs : List AV) : AV → Option AV
  | .int _ i => if 0 ≤ i then xs[i.toNat]? else none
  | _ => none

/-- The place of a slice's element, of a size. -/
def elp (sz : Nat) (x i : AV) : Option AV :=
  (els x).bind fun xs => (at_ xs i).bind fun a => if a.nc = sz then some (.ip a.cells) else none

/-- An index that lies in a slice. -/
def inb (x i : AV) : Option AV :=
  (els x).bind fun xs => (at_ xs i).bind fun _ => some i

def eld (sz off : Nat) (ag : Bool) (n : Nat) (x i : AV) : Option AV :=
  (els x).bind fun xs => (at_ xs i).bind fun a => if a.nc = sz then cut ag n (a.cells.drop off) else none

def unc (sz : Nat) (c : List AV) : AV := if sz = 1 then (match c with | [a] => a | _ => .agg c) else .agg c

/-- A slice with an element stored into, in part or whole. wh: the elements are structs. -/
def est (sz off : Nat) (wh ag : Bool) (n : Nat) (x i v : AV) : Option AV :=
  (els x).bind fun xs => (at_ xs i).bind fun a => (cs ag v).bind fun m =>
  match i with
  | .int _ j =>
    if a.nc = sz ∧ m.length = n ∧ off + n ≤ sz ∧ (wh = true ∨ (off = 0 ∧ n = sz)) then
      some (.sl (xs.set j.toNat (if wh then .agg (splice a.cells off m) else v)))
    else none
  | _ => none

def bld : List AV → List (Nat × Bool × Nat × AV) → Option AV
  | z, [] => some (.agg z)
  | z, (off, ag, n, a) :: r => (cs ag a).bind fun m => if m.length = n ∧ off + n ≤ z.length then bld (splice z off m) r else none

def ext (i : Nat) : AV → Option AV
  | .tup vs => vs[i]?
  | _ => none

def fld (ag : Bool) (off n : Nat) : AV → Option AV
  | .agg c => cut ag n (c.drop off)
  | _ => none

/-- What may lie in memory. -/
def okE : AV → Bool
  | .undef | .junk | .tup _ | .hp _ => false
  | _ => true

def allSz (sz : Nat) : List AV → Bool
  | [] => true
  | x :: r => x.nc == sz && okE x && allSz sz r

def app (sz bytes : Nat) (x y : AV) : Option AV :=
  (els x).bind fun xs =>
  match y with
  | .str s => if sz = 1 ∧ (xs.length + s.length) * bytes ≤ 140737488355328 then some (appW x (ofBytes s) (xs ++ ofBytes s)) else none
  | _ => (els y).bind fun ys => if hdSz sz ys = true ∧ (xs.length + ys.length) * bytes ≤ 140737488355328 then some (appW x ys (xs ++ ys)) else none

def mksl (sz : Nat) (ps : List AV) : Option AV := if allSz sz ps then some (.sl ps) else none

def mks (bytes : Nat) (z : AV) : AV → AV → Option AV
  | .int .i64 n, .int .i64 m => if n = m ∧ 0 ≤ n ∧ n * bytes ≤ 1099511627776 ∧ n ≤ 1099511627776 then some (.sl (List.replicate n.toNat z)) else none
  | _, _ => none

def mn : AV → AV → Option AV
  | .int k a, .int _ b => some (.int k (if b < a then b else a))
  | _, _ => none

def mx : AV → AV → Option AV
  | .int k a, .int _ b => some (.int k (if b > a then b else a))
  | _, _ => none

/-- A value that has no place: what is told of it stays true whatever becomes of memory. -/
def sc : AV → Option AV
  | .bool b => some (.bool b)
  | .int k n => some (.int k n)
  | .str s => some (.str s)
  | _ => none

def scT : AV → Option AV
  | .tup vs => (vs.mapM sc).bind fun ws => some (.tup ws)
  | v => sc v

def hnew (h : AV) (ag : Bool) (v : AV) : Option (AV × AV) :=
  match h with
  | .hp bs => (cs ag v).bind fun m => some (.ref bs.length 0, .hp (bs ++ [.agg m]))
  | _ => none

end A

mutual
/-- No place of the own memory in it. -/
def noRef : AV → Bool
  | .agg c => noRefs c
  | .tup c => noRefs c
  | .sl c => noRefs c
  | .ip c => noRefs c
  | .fn _ a b => noRefs a && noRefs b
  | .ref _ _ => false
  | .hp _ => false
  | _ => true
def noRefs : List AV → Bool
  | [] => true
  | x :: r => noRef x && noRefs r
 end

end Tr

namespace Tr
open Go

abbrev Env := Nat → List AV

def Env.set (e : Env) (d : Nat) (c : List AV) : Env := fun j => if j = d then c else e j

def Env.sets (e : Env) : List Nat → List AV → Env
  | d :: ds, os => Env.sets (e.set d [os.headD .junk]) ds os.tail
  | [], _ => e

/-- Where the own memory's blocks stand. -/
def HS : Nat := 999999

inductive CR where
  | c (t : Nat)
  | b (t i : Nat)
  | a (t : Nat)
  | ap (t off n : Nat)
  | lit (v : AV)

def CR.val (e : Env) : CR → Option AV
  | .c t => (e t)[0]?
  | .b t i => (e t)[i]?
  | .a t => some (.agg (e t))
  | .ap t off n => some (.agg (((e t).drop off).take n))
  | .lit v => some v

def CR.ev {R : Type} (e : Env) : CR → (AV → Option R) → Option R
  | .c t, k => match e t with | x :: _ => k x | [] => none
  | .b t i, k => ((e t)[i]?).bind k
  | .a t, k => k (.agg (e t))
  | .ap t off n, k => k (.agg (((e t).drop off).take n))
  | .lit v, k => k v

def evCRs {R : Type} (e : Env) : List CR → (List AV → Option R) → Option R
  | [], k => k []
  | x :: r, k => x.ev e fun a => evCRs e r fun as => k (a :: as)

def evOpt {R : Type} (e : Env) : Option CR → (Option AV → Option R) → Option R
  | none, k => k none
  | some x, k => x.ev e fun a => k (some a)

/-- The functions: what each comes to at its arguments; which may be called as a value (1; 2: with the own memory). -/
structure Fns where
  f : Nat → List AV → Option AV
  pl : Nat → Nat

namespace A
def callv (S : Fns) (x : AV) (as : List AV) : Option AV :=
  match x with
  | .fn f first cap => if S.pl f = 1 then S.f f (first ++ as ++ cap) else none
  | _ => none
def callh (S : Fns) (h : AV) (x : AV) (as : List AV) : Option (AV × AV) :=
  match x with
  | .fn f first cap =>
    if S.pl f = 1 then (S.f f (first ++ as ++ cap)).bind fun r => some (r, h)
    else if S.pl f = 2 then (S.f f (h :: (first ++ as ++ cap))).bind fun r => match r with | .tup [r, h'] => some (r, h') | _ => none
    else none
  | _ => none
def pair : AV → Option (AV × AV)
  | .tup [r, h] => some (r, h)
  | _ => none
end A

inductive PX where
  | mv (x : CR)
  | pick (c a b : CR)
  | bin (op : BinOp) (x y : CR)
  | eq (ne : Bool) (c : Nat) (ks : List Nat) (x y : CR)
  | un (op : UnOp) (x : CR)
  | cvi (k : IntKind) (x : CR)
  | cvs (x : CR)
  | cvb (x : CR)
  | len (s : Bool) (x : CR)
  | idx (x i : CR)
  | sub (s : Bool) (sz : Nat) (x : CR) (lo hi : Option CR)
  | fa (off : Nat) (x : CR)
  | ld (ag : Bool) (n : Nat) (x : CR)
  | ldi (ag : Bool) (n : Nat) (x : CR)
  | nilc (x : CR)
  | elp (sz : Nat) (x i : CR)
  | inb (x i : CR)
  | eld (sz off : Nat) (ag : Bool) (n : Nat) (x i : CR)
  | build (z : List AV) (ps : List (Nat × Bool × Nat)) (xs : List CR)
  | ext (i : Nat) (x : CR)
  | fld (ag : Bool) (off n : Nat) (x : CR)
  | fn (f : Nat) (first cap : List CR)
  | call (f : Nat) (b : Bool) (xs : List CR)
  | callv (x : CR) (xs : List CR)
  | app (sz bytes : Nat) (x y : CR)
  | mksl (sz : Nat) (xs : List CR)
  | mks (bytes : Nat) (z : AV) (l c : CR)
  | mn (x y : CR)
  | mx (x y : CR)

def zip3 : List (Nat × Bool × Nat) → List AV → List (Nat × Bool × Nat × AV)
  | (a, b, c) :: r, v :: vs => (a, b, c, v) :: zip3 r vs
  | _, _ => []

def PX.ev {R : Type} (S : Fns) (e : Env) : PX → (AV → Option R) → Option R
  | .mv x, k => x.ev e k
  | .pick c a b, k => c.ev e fun c => a.ev e fun a => b.ev e fun b => (A.pick c a b).bind k
  | .bin op x y, k => x.ev e fun x => y.ev e fun y => (A.bin op x y).bind k
  | .eq ne c ks x y, k => x.ev e fun x => y.ev e fun y => (A.eq ne c ks x y).bind k
  | .un op x, k => x.ev e fun x => (A.un op x).bind k
  | .cvi t x, k => x.ev e fun x => (A.cvi t x).bind k
  | .cvs x, k => x.ev e fun x => (A.cvs x).bind k
  | .cvb x, k => x.ev e fun x => (A.cvb x).bind k
  | .len s x, k => x.ev e fun x => (A.len s x).bind k
  | .idx x i, k => x.ev e fun x => i.ev e fun i => (A.idx x i).bind k
  | .sub s sz x lo hi, k => x.ev e fun x => evOpt e lo fun lo => evOpt e hi fun hi => (A.sub s sz x lo hi).bind k
  | .fa off x, k => x.ev e fun x => (A.fa off x).bind k
  | .ld ag n x, k => x.ev e fun x => match e HS with | h :: _ => (A.ld h ag n x).bind k | [] => (A.ld .junk ag n x).bind k
  | .ldi ag n x, k => x.ev e fun x => (A.ld .junk ag n x).bind k
  | .nilc x, k => x.ev e fun x => (A.nilc x).bind k
  | .elp sz x i, k => x.ev e fun x => i.ev e fun i => (A.elp sz x i).bind k
  | .inb x i, k => x.ev e fun x => i.ev e fun i => (A.inb x i).bind k
  | .eld sz off ag n x i, k => x.ev e fun x => i.ev e fun i => (A.eld sz off ag n x i).bind k
  | .build z ps xs, k => evCRs e xs fun vs => (A.bld z (zip3 ps vs)).bind k
  | .ext i x, k => x.ev e fun x => (A.ext i x).bind k
  | .fld ag off n x, k => x.ev e fun x => (A.fld ag off n x).bind k
  | .fn f first cap, k => evCRs e first fun a => evCRs e cap fun c => k (.fn f a c)
  | .call f b xs, k => evCRs e xs fun vs => if b then ((S.f f vs).bind A.scT).bind k else (S.f f vs).bind k
  | .callv x xs, k => x.ev e fun x => evCRs e xs fun vs => (A.callv S x vs).bind k
  | .app sz bytes x y, k => x.ev e fun x => y.ev e fun y => (A.app sz bytes x y).bind k
  | .mksl sz xs, k => evCRs e xs fun vs => (A.mksl sz vs).bind k
  | .mks bytes z l c, k => l.ev e fun l => c.ev e fun c => (A.mks bytes z l c).bind k
  | .mn x y, k => x.ev e fun x => y.ev e fun y => (A.mn x y).bind k
  | .mx x y, k => x.ev e fun x => y.ev e fun y => (A.mx x y).bind k

inductive Dyn where
  | nop
  | set (d : Nat) (p : PX)
  | cpy (d s : Nat)
  | cst (d : Nat) (c : List AV)
  | cs (d : Nat) (ag : Bool) (n : Nat) (x : CR)
  | stc (t k : Nat) (x : CR)
  | stw (t n : Nat) (x : CR)
  | stm (t k n : Nat) (x : CR)
  | sts (t k s : Nat)
  | ste (t k : Nat) (bx : Bool) (sz off : Nat) (wh ag : Bool) (n : Nat) (i x : CR)
  | frz (d s : Nat)
  | hnew (d : Nat) (ag : Bool) (x : CR)
  | hst (ag : Bool) (n : Nat) (p x : CR)
  | hcall (d : Nat) (f : Nat) (xs : List CR)
  | hcallv (d : Nat) (x : CR) (xs : List CR)
  | csp (d : Nat) (p : PX)
  | fnc (d f : Nat) (first : List CR) (caps : List (Nat × Bool))

/-- Captured variables, from now on never written. -/
def capE (e : Env) : List (Nat × Bool) → Env
  | [] => e
  | (t, true) :: r => (capE e r).set t [.ip (e t)]
  | (_, false) :: r => capE e r
def capV (e : Env) : List (Nat × Bool) → List AV
  | [] => []
  | (t, true) :: r => .ip (e t) :: capV e r
  | (t, false) :: r => (match e t with | a :: _ => a | [] => .junk) :: capV e r

def Dyn.ev {R : Type} (S : Fns) (e : Env) : Dyn → (Env → Option R) → Option R
  | .nop, k => k e
  | .set d p, k => p.ev S e fun a => k (e.set d [a])
  | .cpy d s, k => k (e.set d (e s))
  | .cst d c, k => k (e.set d c)
  | .cs d ag n x, k => x.ev e fun a => (A.csn ag n a).bind fun m => k (e.set d m)
  | .stc t i x, k => x.ev e fun a => (A.one a).bind fun a => k (e.set t ((e t).set i a))
  | .stw t n x, k => x.ev e fun a => (A.csn true n a).bind fun m => k (e.set t m)
  | .stm t i n x, k => x.ev e fun a => (A.csn true n a).bind fun m => k (e.set t (A.splice (e t) i m))
  | .sts t i s, k => k (e.set t (A.splice (e t) i (e s)))
  | .ste t i bx sz off wh ag n j x, k =>
    (if bx then CR.b t i else CR.c t).ev e fun a => j.ev e fun j => x.ev e fun x =>
      (A.est sz off wh ag n a j x).bind fun a' => k (e.set t (if bx then (e t).set i a' else [a']))
  | .frz d s, k => k ((e.set d [.ip (e s)]).set s [.ip (e s)])
  | .hnew d ag x, k => x.ev e fun a => match e HS with
    | h :: _ => (A.hnew h ag a).bind fun r => k ((e.set HS [r.2]).set d [r.1])
    | [] => none
  | .hst ag n p x, k => p.ev e fun p => x.ev e fun x => match e HS with
    | h :: _ => (A.st h ag n p x).bind fun h' => k (e.set HS [h'])
    | [] => none
  | .hcall d f xs, k => evCRs e xs fun vs => match e HS with
    | h :: _ => ((S.f f (h :: vs)).bind A.pair).bind fun r => k ((e.set HS [r.2]).set d [r.1])
    | [] => none
  | .hcallv d x xs, k => x.ev e fun x => evCRs e xs fun vs => match e HS with
    | h :: _ => (A.callh S h x vs).bind fun r => k ((e.set HS [r.2]).set d [r.1])
    | [] => none

  | .csp d p, k => p.ev S e fun a => (A.cs true a).bind fun m => k (e.set d m)
  | .fnc d f first caps, k => evCRs e first fun a => k ((capE e caps).set d [.fn f a (capV e caps)])

inductive DG where
  | one (d : Dyn)
  | grp (s : Nat) (w : Bool) (ds : List Dyn) (outs : List Nat)

def evDs {R : Type} (S : Fns) : List Dyn → Env → (Env → Option R) → Option R
  | [], e, k => k e
  | d :: ds, e, k => d.ev S e fun e => evDs S ds e k

def outOf (e : Env) (t : Nat) : AV := match e t with | a :: _ => a | [] => .junk

def outsOf (e : Env) : List Nat → List AV
  | [] => []
  | t :: r => outOf e t :: outsOf e r

def undefs : List Nat → List AV
  | [] => []
  | _ :: r => .undef :: undefs r

def evGs {R : Type} (S : Fns) : List DG → Env → (Env → Option R) → Option R
  | [], e, k => k e
  | .one d :: r, e, k => d.ev S e fun e => evGs S r e k
  | .grp s w ds outs :: r, e, k =>
    (CR.c s).ev e fun c => (A.isB w c).bind fun t =>
      match outs with
      | [d] => (if t then evDs S ds e fun e' => some (outOf e' d) else some .undef).bind fun o => evGs S r (e.set d [o]) k
      | _ => (if t then evDs S ds e fun e' => some (outsOf e' outs) else some (undefs outs)).bind fun os => evGs S r (e.sets outs os) k

inductive IC where
  | skip
  | reg (ops : List DG)
  | seq (a b : IC)
  | cond (c : CR) (a b : IC)
  | block (id : Nat) (a : IC)
  | loop (lv : List (Nat × Bool)) (a : IC)
  | lab (lv : List (Nat × Bool)) (a : IC)
  | exit (id : Nat)
  | ret

def pack (e : Env) : List (Nat × Bool) → List (List AV)
  | [] => []
  | (t, _) :: r => e t :: pack e r

def unpack : List (Nat × Bool) → List (List AV) → Env
  | [], _ => fun _ => [.junk]
  | (t, bx) :: r, vs => fun j => if j = t then (if bx then vs.headD [] else [(vs.headD []).headD .junk]) else unpack r vs.tail j

abbrev Kont := Env → Option AV
abbrev LoopOp := ((List (List AV) → Option AV) → List (List AV) → Option AV) → List (List AV) → Option AV

def retv (rs : List CR) (hp : Bool) (e : Env) : Option AV :=
  evCRs e rs fun vs =>
    let r := match vs with | [v] => v | _ => .tup vs
    if hp then (match e HS with | h :: _ => some (.tup [r, h]) | [] => none) else some r

/-- A place at which ways meet. -/
def Lab (f : List (List AV) → Option AV) (vs : List (List AV)) : Option AV := f vs

def exitK (id : Nat) (k : Kont) (xs : Nat → Kont) : Nat → Kont := fun j => if j = id then k else xs j

def evC (S : Fns) (L : LoopOp) (rk : Kont) : IC → Kont → (Nat → Kont) → Kont
  | .skip, k, _, e => k e
  | .reg ops, k, _, e => evGs S ops e k
  | .seq a b, k, xs, e => evC S L rk a (fun e => evC S L rk b k xs e) xs e
  | .cond c a b, k, xs, e => c.ev e fun c => (A.asB c).bind fun t => if t then evC S L rk a k xs e else evC S L rk b k xs e
  | .block id a, k, xs, e => evC S L rk a k (exitK id k xs) e
  | .loop lv a, _, xs, e => L (fun self vs => evC S L rk a (fun e => self (pack e lv)) xs (unpack lv vs)) (pack e lv)
  | .lab lv a, k, xs, e => evC S L rk a (fun e => Lab (fun vs => k (unpack lv vs)) (pack e lv)) xs e
  | .exit id, _, xs, e => xs id e
  | .ret, _, _, e => rk e

/-- A function: what its slots hold at first (bx: its argument's cells), what it hands back, its text, whether it has an own memory of its own (2), is handed one (1), or none (0). -/
structure IF where
  ps : List (Nat × Bool)
  rs : List CR
  own : Nat
  body : IC

def argsEnv : List (Nat × Bool) → List AV → Env
  | (t, bx) :: ps, a :: as => fun j => if j = t then (if bx then a.cells else [a]) else argsEnv ps as j
  | _, _ => fun _ => [.junk]

def evF (S : Fns) (L : LoopOp) (f : IF) (args : List AV) : Option AV :=
  match f.own with
  | 0 => evC S L (retv f.rs false) f.body (retv f.rs false) (fun _ _ => none) (argsEnv f.ps args)
  | 1 => match args with
    | h :: as => evC S L (retv f.rs true) f.body (retv f.rs true) (fun _ _ => none) ((argsEnv f.ps as).set HS [h])
    | [] => none
  | _ => if noRefs args then (evC S L (retv f.rs false) f.body (retv f.rs false) (fun _ _ => none) ((argsEnv f.ps args).set HS [.hp []])).bind fun r => if noRef r then some r else none else none

end Tr

namespace Tr
open Go

inductive CKd where
  | dead
  | v
  | own (e sz : Nat)

structure CK where
  u : Nat
  k : CKd

inductive Md where
  | dead
  | v
  | own (e sz : Nat)
  | agg (ks : List CKd)

inductive Tag where
  | dead
  | one (c : CK)
  | agg (ks : List CK)
  | box (ks : List CK)
  | tup (ms : List Md)
  | al (t k g u : Nat)
  | bp (t off g : Nat)
  | ep (t k off g u : Nat)

structure Tg where
  g : Nat
  tag : Tag
  gd : Option (Nat × Nat × Bool)

abbrev Tags := Nat → Tg

def Tags.up (T : Tags) (t : Nat) (x : Tg) : Tags := fun j => if j = t then x else T j
def Tags.ups (T : Tags) : List (Nat × Tg) → Tags
  | [] => T
  | (t, x) :: r => Tags.ups (T.up t x) r

/-- What a call takes and gives. own: 0 none, 1 it is handed the own memory, 2 it has one of its own. -/
structure Sg where
  own : Nat
  ps : List Md
  rs : List Md

def CKd.isV : CKd → Bool | .v => true | _ => false
def CKd.live : CKd → Bool | .dead => false | _ => true
def CK.isV (c : CK) : Bool := c.k.isV
def frK (c : CK) : CK := match c.k with | .own _ _ => ⟨c.u, .v⟩ | _ => c
def ddK (c : CK) : CK := match c.k with | .own _ _ => ⟨c.u, .dead⟩ | _ => c
def Md.kd : Md → CKd | .own e s => .own e s | _ => .v

def Tag.ck : Tag → Nat → Option CK
  | .one c, 0 => some c
  | .agg ks, k => ks[k]?
  | .box ks, k => ks[k]?
  | _, _ => none

def setCk : Tag → Nat → CK → Tag
  | .one _, _, c => .one c
  | .agg ks, k, c => .agg (ks.set k c)
  | .box ks, k, c => .box (ks.set k c)
  | t, _, _ => t

def isBx : Tag → Bool
  | .one _ => false
  | _ => true

/-- What is wanted of a place in a program's types. -/
def szOf (P : Program) (t : TypeId) : Nat := P.cellsOf t
def isAg (P : Program) (t : TypeId) : Bool := match P.underlying t with | some (.struct _) => true | some (.array _ _) => true | _ => false
def elemT (P : Program) (t : TypeId) : Option TypeId := match P.underlying t with | some (.slice e) => some e | _ => none
def isStr (P : Program) (t : TypeId) : Bool := match P.underlying t with | some .string => true | _ => false
def okT (P : Program) (t : TypeId) : Bool := (P.underlying t).isSome && (P.info? t).isSome
/-- A type's zero has the type's size. -/
def zOk (P : Program) (e : TypeId) : Bool := match P.info? e with | some i => (match i.zero with | some z => z.cells.size == i.size && z.cells.toList.all (fun v => match v with | .agg _ | .tuple _ => false | _ => true) | none => false) | none => false
def isInt (P : Program) (t : TypeId) : Option IntKind := match P.underlying t with | some (.int k) => some k | _ => none
def isBool (P : Program) (t : TypeId) : Bool := match P.underlying t with | some .bool => true | _ => false
def isPtr (P : Program) (t : TypeId) : Bool := match P.underlying t with | some (.pointer _) => true | _ => false

def fieldOf (P : Program) (s : TypeId) (f : Nat) : Option Field := match P.underlying s with | some (.struct fs) => fs[f]? | _ => none

def cvV (_exact : Bool) : Value → Option AV
  | .bool b => some (.bool b)
  | .int k n => some (.int k n)
  | .string s => some (.str s.data.toList)
  | .slice none 0 0 => some .nil
  | .pointer none => some .nilp
  | .nilFunc => some .nilf
  | _ => none

def cvL : List Value → Option (List AV)
  | [] => some []
  | x :: r => (cvV false x).bind fun a => (cvL r).bind fun b => some (a :: b)

/-- A type's zero: is it a struct, and its cells. -/
def zeroC (P : Program) (t : TypeId) : Option (List AV) := (P.info? t).bind fun i => i.zero.bind fun z => cvL z.cells.toList

def zeroE (P : Program) (t : TypeId) : Option AV := (zeroC P t).bind fun c => if isAg P t then some (.agg c) else c.head?

/-- The cells of a type whose values are held against each other cell by cell. -/
def plainKs (P : Program) : Nat → TypeId → Option (List Nat)
  | 0, _ => none
  | d + 1, t =>
    match P.underlying t with
    | some .bool => if P.cellsOf t = 1 then some [0] else none
    | some (.int _) => if P.cellsOf t = 1 then some [1] else none
    | some .string => if P.cellsOf t = 1 then some [2] else none
    | some (.struct fs) =>
      if P.stoodInHeld t then none else
      (fs.toList.foldl (fun r f => r.bind fun acc => if f.offset = acc.length ∧ f.name ≠ "_" then (plainKs P d f.type).bind fun k => some (acc ++ k) else none) (some [])).bind
        fun acc => if acc.length = P.cellsOf t then some acc else none
    | _ => none

/-- The kinds of a zero's cells: a nil slice is an own one. -/
def kindsOf (P : Program) : Nat → TypeId → List CK
  | 0, _ => []
  | d + 1, t =>
    match P.underlying t with
    | some (.slice e) => if P.cellsOf e = 0 then [⟨0, .v⟩] else [⟨0, .own e (P.cellsOf e)⟩]
    | some (.struct fs) => fs.toList.flatMap fun f => kindsOf P d f.type
    | some (.array n e) => (List.replicate n (kindsOf P d e)).flatten
    | _ => [⟨0, .v⟩]

/-- Kinds that a zero's cells bear. -/
def kzOk : List CK → List AV → Bool
  | [], [] => true
  | c :: r, x :: s => (match c.k with | .own _ z => (match x with | .nil => z != 0 | _ => false) | _ => true) && kzOk r s
  | _, _ => false

/-- The class of a type's ==. -/
def eqCls (P : Program) (t : TypeId) : Nat × List Nat :=
  match P.underlying t with
  | some .bool => (1, [])
  | some (.struct _) => match plainKs P 20 t with
    | some ks => if P.eqGuardType P.depth t = false then (2, ks) else (0, [])
    | none => (0, [])
  | some (.slice _) => (3, [])
  | some (.pointer e) => if P.cellsOf e = 0 then (0, []) else (4, [])
  | _ => (0, [])

structure Hn where
  pol : List (Nat × Nat)
  lvs : List (List (Nat × Tag))
  exact : Bool

def polOf : List (Nat × Nat) → Nat → Nat
  | [], _ => 0
  | (d, p) :: r, k => if d = k then p else polOf r k

structure Plan where
  dyn : Dyn
  ups : List (Nat × Tg)
  tr : List Nat

section
variable (P : Program) (sig : Nat → Option Sg) (hn : Hn) (own : Nat)

def tagAt (T : Tags) (gd : Option (Nat × Nat × Bool)) (t : Nat) : Tag :=
  match (T t).gd with
  | none => (T t).tag
  | some (s, g, b) => match gd with
    | some (s', g', b') => if s = s' ∧ g = g' ∧ b = b' then (T t).tag else .dead
    | none => .dead

/-- The place of a header that an alias stands for. -/
def alOk (T : Tags) (t k g u : Nat) : Option (Nat × Nat) :=
  if (T t).g = g then match (T t).tag.ck k with
    | some ⟨u', .own e s⟩ => if u = u' then some (e, s) else none
    | _ => none
  else none

def crAt (T : Tags) (t k : Nat) : CR := match (T t).tag with | .one _ => .c t | _ => .b t k

/-- To read an operand, as it stands. -/
def rdO (T : Tags) (gd : Option (Nat × Nat × Bool)) : Operand → Option (CR × List Nat)
  | .tmp t => match tagAt T gd t with
    | .one c => if c.k.live then some (.c t, [t]) else none
    | .agg ks => if ks.all (fun c => c.k.live) then some (.a t, [t]) else none
    | .al t' k g u => (alOk T t' k g u).bind fun _ => some (crAt T t' k, [t, t'])
    | _ => none
  | .const v => (cvV hn.exact v).bind fun a => some (.lit a, [])
  | .func f => some (.lit (.fn f [] []), [])
  | .global _ => none

/-- To read what nobody writes any more, as it stands. -/
def rdV (T : Tags) (gd : Option (Nat × Nat × Bool)) : Operand → Option (CR × List Nat)
  | .tmp t => match tagAt T gd t with
    | .one c => if c.isV then some (.c t, [t]) else none
    | _ => none
  | .const v => (cvV hn.exact v).bind fun a => some (.lit a, [])
  | .func f => some (.lit (.fn f [] []), [])
  | .global _ => none

/-- To read it as a value that nobody writes any more. -/
def useO (T : Tags) (gd : Option (Nat × Nat × Bool)) : Operand → Option (CR × List (Nat × Tg) × List Nat)
  | .tmp t => match tagAt T gd t with
    | .one c => match c.k with
      | .v => some (.c t, [], [t])
      | .own _ _ => some (.c t, [(t, ⟨(T t).g, .one (frK c), (T t).gd⟩)], [t])
      | .dead => none
    | .agg ks => if ks.all (fun c => c.k.live) then some (.a t, [(t, ⟨(T t).g, .agg (ks.map frK), (T t).gd⟩)], [t]) else none
    | .al t' k g u => (alOk T t' k g u).bind fun x => some (crAt T t' k, [(t', ⟨(T t').g, setCk (T t').tag k ⟨u, .v⟩, (T t').gd⟩)], [t, t'])
    | _ => none
  | .const v => (cvV hn.exact v).bind fun a => some (.lit a, [], [])
  | .func f => some (.lit (.fn f [] []), [], [])
  | .global _ => none

/-- To take an own slice over. -/
def takeO (T : Tags) (gd : Option (Nat × Nat × Bool)) (e sz : Nat) : Operand → Option (CR × List (Nat × Tg) × List Nat)
  | .tmp t => match tagAt T gd t with
    | .one c => match c.k with
      | .own e' s' => if e = e' ∧ sz = s' then some (.c t, [(t, ⟨(T t).g, .one (ddK c), (T t).gd⟩)], [t]) else none
      | _ => none
    | .al t' k g u => (alOk T t' k g u).bind fun x => if x = (e, sz) then some (crAt T t' k, [(t', ⟨(T t').g, setCk (T t').tag k ⟨u, .dead⟩, (T t').gd⟩)], [t, t']) else none
    | _ => none
  | .const (.slice none 0 0) => some (.lit .nil, [], [])
  | _ => none

def kOk : List CKd → List CK → Bool
  | [], [] => true
  | .v :: r, c :: s => c.k.live && kOk r s
  | .own e z :: r, c :: s => (match c.k with | .own e' z' => e = e' ∧ z = z' | _ => false) && kOk r s
  | .dead :: r, _ :: s => kOk r s
  | _, _ => false

/-- To hand an operand on, as a call takes it. -/
def argO (T : Tags) (gd : Option (Nat × Nat × Bool)) (m : Md) (bor : Bool) (x : Operand) : Option (CR × List (Nat × Tg) × List Nat) :=
  match m with
  | .dead => none
  | .v => if bor then (rdO hn T gd x).bind fun r => some (r.1, [], r.2) else useO hn T gd x
  | .own e sz => takeO T gd e sz x
  | .agg ks => match x with
    | .tmp t => match tagAt T gd t with
      | .agg cs => if kOk ks cs then some (.a t, [(t, ⟨(T t).g, .agg (cs.map ddK), (T t).gd⟩)], [t]) else none
      | _ => none
    | _ => none

def argsO (T : Tags) (gd : Option (Nat × Nat × Bool)) (bor : Bool) : List Md → List Operand → Option (List CR × List (Nat × Tg) × List Nat)
  | [], [] => some ([], [], [])
  | m :: ms, x :: xs => (argO hn T gd m bor x).bind fun r => (argsO (T.ups r.2.1) gd bor ms xs).bind fun s => some (r.1 :: s.1, r.2.1 ++ s.2.1, r.2.2 ++ s.2.2)
  | _, _ => none

def usesO (T : Tags) (gd : Option (Nat × Nat × Bool)) : List Operand → Option (List CR × List (Nat × Tg) × List Nat)
  | [] => some ([], [], [])
  | x :: xs => (useO hn T gd x).bind fun r => (usesO (T.ups r.2.1) gd xs).bind fun s => some (r.1 :: s.1, r.2.1 ++ s.2.1, r.2.2 ++ s.2.2)

def dstT (T : Tags) (gd : Option (Nat × Nat × Bool)) (d : Nat) (tag : Tag) : Nat × Tg :=
  (d, ⟨(T d).g + 1, match gd, tag with | some _, .one c => .one (frK c) | _, t => t, match gd, tag with | some x, .bp .. | some x, .ep .. | some x, .al .. => some x | _, _ => none⟩)

def vT : Tag := .one ⟨0, .v⟩
def mdT : Md → Tag
  | .dead => .dead
  | .v => vT
  | .own e sz => .one ⟨0, .own e sz⟩
  | .agg ks => .agg (ks.map fun k => ⟨0, k⟩)

/-- The box, and the offset, that an address is of. -/
def boxOf (T : Tags) (gd : Option (Nat × Nat × Bool)) (t : Nat) : Option (Nat × Nat × List CK) :=
  match tagAt T gd t with
  | .box ks => some (t, 0, ks)
  | .bp t' off g => if (T t').g = g then match (T t').tag with | .box ks => some (t', off, ks) | _ => none else none
  | _ => none

def setRange (f : CK → CK) : List CK → Nat → Nat → List CK
  | [], _, _ => []
  | c :: r, 0, 0 => c :: r
  | c :: r, 0, n + 1 => f c :: setRange f r 0 n
  | c :: r, o + 1, n => c :: setRange f r o n

def allV (ks : List CK) : Bool := ks.all CK.isV

def newKs : List CK → List CKd → List CK
  | c :: r, k :: s => ⟨c.u + 1, k⟩ :: newKs r s
  | r, _ => r

def putKs (ks : List CK) (off : Nat) (ns : List CKd) : List CK := ks.take off ++ newKs (ks.drop off) ns

def set1 (T : Tags) (gd : Option (Nat × Nat × Bool)) (d : Nat) (p : PX) (tag : Tag) (ups : List (Nat × Tg)) (tr : List Nat) : Option Plan :=
  some { dyn := .set d p, ups := ups ++ [dstT (T.ups ups) gd d tag], tr := d :: tr }

def planMv (T : Tags) (gd : Option (Nat × Nat × Bool)) (d : Nat) (pol : Nat) (x : Operand) : Option Plan :=
  match x with
  | .tmp t => match tagAt T gd t with
    | .one c => match c.k with
      | .v => set1 T gd d (.mv (.c t)) vT [] [t]
      | .own e s => match pol with
        | 0 => some { dyn := .nop, ups := [dstT T gd d (.al t 0 (T t).g c.u)], tr := [d, t] }
        | 1 => set1 T gd d (.mv (.c t)) (.one ⟨0, .own e s⟩) [(t, ⟨(T t).g, .one (ddK c), (T t).gd⟩)] [t]
        | _ => set1 T gd d (.mv (.c t)) vT [(t, ⟨(T t).g, .one (frK c), (T t).gd⟩)] [t]
      | .dead => none
    | .agg ks => match pol with
      | 0 => if allV ks then some { dyn := .cpy d t, ups := [dstT T gd d (.agg ks)], tr := [d, t] } else none
      | _ => some { dyn := .cpy d t, ups := [(t, ⟨(T t).g, .agg (ks.map ddK), (T t).gd⟩), dstT T gd d (.agg ks)], tr := [d, t] }
    | .tup ms => some { dyn := .cpy d t, ups := [(t, ⟨(T t).g, .dead, none⟩), dstT T gd d (.tup ms)], tr := [d, t] }
    | .al t' k g u => (alOk T t' k g u).bind fun x => match pol with
      | 0 => some { dyn := .nop, ups := [dstT T gd d (.al t' k g u)], tr := [d, t, t'] }
      | 1 => set1 T gd d (.mv (crAt T t' k)) (.one ⟨0, .own x.1 x.2⟩) [(t', ⟨(T t').g, setCk (T t').tag k ⟨u, .dead⟩, (T t').gd⟩)] [t, t']
      | _ => set1 T gd d (.mv (crAt T t' k)) vT [(t', ⟨(T t').g, setCk (T t').tag k ⟨u, .v⟩, (T t').gd⟩)] [t, t']
    | .bp t' off g => some { dyn := .nop, ups := [dstT T gd d (.bp t' off g)], tr := [d, t] }
    | .ep t' k off g u => some { dyn := .cpy d t, ups := [dstT T gd d (.ep t' k off g u)], tr := [d, t] }
    | _ => none
  | .const (.slice none 0 0) => match pol with
    | 0 => set1 T gd d (.mv (.lit .nil)) vT [] []
    | e + 1 => if szOf P e = 0 then none else set1 T gd d (.mv (.lit .nil)) (.one ⟨0, .own e (szOf P e)⟩) [] []
  | x => (rdV hn T gd x).bind fun r => set1 T gd d (.mv r.1) vT [] r.2

def planFa (T : Tags) (gd : Option (Nat × Nat × Bool)) (d : Nat) (s : TypeId) (x : Operand) (f : Nat) : Option Plan :=
  (fieldOf P s f).bind fun fl => if szOf P fl.type = 0 then none else
  match x with
  | .tmp t => match tagAt T gd t with
    | .box _ => some { dyn := .nop, ups := [dstT T gd d (.bp t fl.offset (T t).g)], tr := [d, t] }
    | .bp t' off g => if (T t').g = g then some { dyn := .nop, ups := [dstT T gd d (.bp t' (off + fl.offset) g)], tr := [d, t, t'] } else none
    | .ep t' k off g u => (alOk T t' k g u).bind fun _ => some { dyn := .cpy d t, ups := [dstT T gd d (.ep t' k (off + fl.offset) g u)], tr := [d, t, t'] }
    | .one c => if c.isV then set1 T gd d (.fa fl.offset (.c t)) vT [] [t] else none
    | _ => none
  | _ => none

def planLd (T : Tags) (gd : Option (Nat × Nat × Bool)) (d : Nat) (pol : Nat) (ty : TypeId) (x : Operand) : Option Plan :=
  let ag := isAg P ty
  let n := szOf P ty
  match x with
  | .tmp t => match boxOf T gd t with
    | some (b, off, ks) =>
      if ag then
        let sub := (ks.drop off).take n
        let cr : CR := if off = 0 ∧ n = ks.length then .a b else .ap b off n
        if sub.length ≠ n then none else
        if allV sub then set1 T gd d (.mv cr) vT [] [t, b] else
        if sub.all (fun c => c.k.live) then
          match pol with
          | 1 => if off = 0 ∧ n = ks.length ∧ gd.isNone then some { dyn := .cpy d b, ups := [(b, ⟨(T b).g, .box (ks.map ddK), (T b).gd⟩), dstT T gd d (.agg ks)], tr := [d, t, b] } else none
          | _ => set1 T gd d (.mv cr) vT [(b, ⟨(T b).g, .box (setRange frK ks off n), (T b).gd⟩)] [t, b]
        else none
      else match ks[off]? with
        | some c => match c.k with
          | .v => set1 T gd d (.mv (.b b off)) vT [] [t, b]
          | .own e s => match pol with
            | 0 => some { dyn := .nop, ups := [dstT T gd d (.al b off (T b).g c.u)], tr := [d, t, b] }
            | 1 => set1 T gd d (.mv (.b b off)) (.one ⟨0, .own e s⟩) [(b, ⟨(T b).g, .box (ks.set off (ddK c)), (T b).gd⟩)] [t, b]
            | _ => set1 T gd d (.mv (.b b off)) vT [(b, ⟨(T b).g, .box (ks.set off (frK c)), (T b).gd⟩)] [t, b]
          | .dead => none
        | none => none
    | none => match tagAt T gd t with
      | .ep t' k off g u => (alOk T t' k g u).bind fun x => set1 T gd d (.eld x.2 off ag n (crAt T t' k) (.c t)) vT [] [t, t']
      | .one c => if c.isV then set1 T gd d (if pol = 3 then .ldi ag n (.c t) else .ld ag n (.c t)) vT [] [t] else none
      | _ => none
  | _ => none

def planSt (T : Tags) (gd : Option (Nat × Nat × Bool)) (pol : Nat) (ty : TypeId) (x y : Operand) : Option Plan :=
  let ag := isAg P ty
  let n := szOf P ty
  match x with
  | .tmp t => match boxOf T gd t with
    | some (b, off, ks) =>
      if off + n ≤ ks.length then
      if ag then
        match y, pol with
        | .tmp s, 1 => match tagAt T gd s with
          | .agg cs => if gd.isNone ∧ cs.length = n ∧ s ≠ b then some { dyn := if off = 0 ∧ n = ks.length then .cpy b s else .sts b off s, ups := [(s, ⟨(T s).g, .agg (cs.map ddK), (T s).gd⟩), (b, ⟨(T b).g, .box (putKs ks off (cs.map CK.k)), (T b).gd⟩)], tr := [t, b, s] } else none
          | _ => none
        | _, _ => (useO hn T gd y).bind fun r =>
          match ((T.ups r.2.1) b).tag with
          | .box ks' =>
            some { dyn := if off = 0 ∧ n = ks.length then .stw b n r.1 else .stm b off n r.1,
                   ups := r.2.1 ++ (if allV ((ks'.drop off).take n) then [] else [(b, ⟨(T b).g, .box (putKs ks' off (List.replicate n .v)), (T b).gd⟩)]), tr := [t, b] ++ r.2.2 }
          | _ => none
      else if n ≠ 1 then none else
        match pol with
        | 0 => (useO hn T gd y).bind fun r =>
          match ((T.ups r.2.1) b).tag with
          | .box ks' => some { dyn := .stc b off r.1, ups := r.2.1 ++ (if allV ((ks'.drop off).take 1) then [] else [(b, ⟨(T b).g, .box (putKs ks' off [.v]), (T b).gd⟩)]), tr := [t, b] ++ r.2.2 }
          | _ => none
        | e + 1 => if gd.isSome ∨ szOf P e = 0 then none else
          (takeO T gd e (szOf P e) y).bind fun r =>
          match ((T.ups r.2.1) b).tag with
          | .box ks' => some { dyn := .stc b off r.1, ups := r.2.1 ++ [(b, ⟨(T b).g, .box (putKs ks' off [.own e (szOf P e)]), (T b).gd⟩)], tr := [t, b] ++ r.2.2 }
          | _ => none
      else none
    | none => match tagAt T gd t with
      | .ep t' k off g u => (alOk T t' k g u).bind fun z => (useO hn T gd y).bind fun r =>
          (alOk (T.ups r.2.1) t' k g u).bind fun z' => if z' ≠ z then none else
          some { dyn := .ste t' k (isBx (T t').tag) z.2 off (isAg P z.1) ag n (.c t) r.1, ups := r.2.1, tr := [t, t'] ++ r.2.2 }
      | .one c => if c.isV then (useO hn T gd y).bind fun r => some { dyn := .hst ag n (.c t) r.1, ups := r.2.1, tr := t :: r.2.2 } else none
      | _ => none
  | _ => none

/-- What is built: of the parts that were given, nobody is the owner. -/
def bldKs (ks : List CK) : List (Nat × Bool × Nat) → List CK
  | [] => ks
  | (off, _, n) :: r => bldKs (putKs ks off (List.replicate n .v)) r

def lowHigh (T : Tags) (gd : Option (Nat × Nat × Bool)) : Option Operand → Option (Option CR × List Nat)
  | none => some (none, [])
  | some x => (rdO hn T gd x).bind fun r => some (some r.1, r.2)

def capsO (T : Tags) : List Operand → Option (List (Nat × Bool) × List (Nat × Tg))
  | [] => some ([], [])
  | .tmp t :: r => match (T t).gd, (T t).tag with
    | none, .box ks => if ks.all (fun c => c.k.live) then (capsO T r).bind fun s => if s.1.any (fun x => x.1 == t) then none else some ((t, true) :: s.1, (t, ⟨(T t).g + 1, vT, none⟩) :: s.2) else none
    | none, .one c => if c.isV then (capsO T r).bind fun s => if s.1.any (fun x => x.1 == t) then none else some ((t, false) :: s.1, s.2) else none
    | _, _ => none
  | _ => none

def partsOf (P : Program) (fs : Array Field) : List (Nat × Operand) → Option (List (Nat × Bool × Nat))
  | [] => some []
  | (i, _) :: r => (fs[i]?).bind fun f => (partsOf P fs r).bind fun s => some ((f.offset, isAg P f.type, szOf P f.type) :: s)

def inOrder : Nat → List (Nat × Operand) → Bool
  | _, [] => true
  | i, (j, _) :: r => i == j && inOrder (i + 1) r

def planCall (T : Tags) (gd : Option (Nat × Nat × Bool)) (d : Nat) (pol : Nat) (c : Call) : Option Plan :=
  match c.callee with
  | .value (.func f) => (sig f).bind fun sg =>
    (argsO hn T gd (pol = 1) sg.ps c.args.toList).bind fun r =>
    if sg.own = 1 then
      if own = 0 ∨ pol = 1 then none else
      match sg.rs with
      | [.v] => some { dyn := .hcall d f r.1, ups := r.2.1 ++ [dstT (T.ups r.2.1) gd d vT], tr := d :: r.2.2 }
      | [_] => none
      | ms => if ms.all (fun m => match m with | .v => true | _ => false) then some { dyn := .hcall d f r.1, ups := r.2.1 ++ [dstT (T.ups r.2.1) gd d (.tup ms)], tr := d :: r.2.2 } else none
    else if pol = 1 then if !(sg.ps.all fun m => match m with | .v => true | _ => false) ∨ !(sg.rs.all fun m => match m with | .v => true | _ => false) then none else set1 T gd d (.call f true r.1) (match sg.rs with | [_] => vT | ms => .tup (ms.map fun _ => .v)) r.2.1 r.2.2
    else match sg.rs with
      | [.agg ks] => if gd.isSome then none else some { dyn := .csp d (.call f false r.1), ups := r.2.1 ++ [dstT (T.ups r.2.1) gd d (.agg (ks.map fun k => ⟨0, k⟩))], tr := d :: r.2.2 }
      | [.own e s] => set1 T gd d (.call f false r.1) (if gd.isSome then vT else .one ⟨0, .own e s⟩) r.2.1 r.2.2
      | [.v] => set1 T gd d (.call f false r.1) vT r.2.1 r.2.2
      | [.dead] => none
      | ms => set1 T gd d (.call f false r.1) (.tup ms) r.2.1 r.2.2
  | .value x => (rdV hn T gd x).bind fun q => (usesO hn T gd c.args.toList).bind fun r =>
    if own = 0 then set1 T gd d (.callv q.1 r.1) vT r.2.1 (q.2 ++ r.2.2)
    else some { dyn := .hcallv d q.1 r.1, ups := r.2.1 ++ [dstT (T.ups r.2.1) gd d vT], tr := d :: (q.2 ++ r.2.2) }
  | .builtin .len => match c.args.toList, c.argTypes.toList with
    | [x], [t] => if isStr P t || (elemT P t).isSome then (rdO hn T gd x).bind fun r => set1 T gd d (.len (isStr P t) r.1) vT [] r.2 else none
    | _, _ => none
  | .builtin .append => match c.args.toList, c.argTypes.toList with
    | [x, y], [t, t2] => (elemT P t).bind fun e =>
      if (isInt P t2).isSome then none else
      (takeO T gd e (szOf P e) x).bind fun r => (rdO hn (T.ups r.2.1) gd y).bind fun q =>
      if szOf P e = 0 ∨ gd.isSome ∨ !zOk P e ∨ P.bytesOf e = 0 ∨ !(isStr P t2 || (elemT P t2).isSome) then none else
      set1 T gd d (.app (szOf P e) (P.bytesOf e) r.1 q.1) (.one ⟨0, .own e (szOf P e)⟩) r.2.1 (r.2.2 ++ q.2)
    | _, _ => none
  | .builtin .min => match c.args.toList with
    | [x, y] => (rdO hn T gd x).bind fun r => (rdO hn T gd y).bind fun q => set1 T gd d (.mn r.1 q.1) vT [] (r.2 ++ q.2)
    | _ => none
  | .builtin .max => match c.args.toList with
    | [x, y] => (rdO hn T gd x).bind fun r => (rdO hn T gd y).bind fun q => set1 T gd d (.mx r.1 q.1) vT [] (r.2 ++ q.2)
    | _ => none
  | _ => none

def planOp (T : Tags) (gd : Option (Nat × Nat × Bool)) (pol : Nat) (o : Oper) : Option Plan :=
  match o.op, o.dst with
  | .move x, some d => planMv P hn T gd d pol x
  | .assign x, some d => planMv P hn T gd d pol x
  | .pick c a b, some d => (rdO hn T gd c).bind fun c => (rdV hn T gd a).bind fun a => (rdV hn T gd b).bind fun b =>
    set1 T gd d (.pick c.1 a.1 b.1) vT [] (c.2 ++ a.2 ++ b.2)
  | .binOp op t x y _, some d => (rdO hn T gd x).bind fun x => (rdO hn T gd y).bind fun y =>
    match op with
    | .eql => if (eqCls P t).1 = 0 then set1 T gd d (.bin op x.1 y.1) vT [] (x.2 ++ y.2) else set1 T gd d (.eq false (eqCls P t).1 (eqCls P t).2 x.1 y.1) vT [] (x.2 ++ y.2)
    | .neq => if (eqCls P t).1 = 0 then set1 T gd d (.bin op x.1 y.1) vT [] (x.2 ++ y.2) else set1 T gd d (.eq true (eqCls P t).1 (eqCls P t).2 x.1 y.1) vT [] (x.2 ++ y.2)
    | _ => set1 T gd d (.bin op x.1 y.1) vT [] (x.2 ++ y.2)
  | .unOp op _ x, some d => (rdO hn T gd x).bind fun x => set1 T gd d (.un op x.1) vT [] x.2
  | .convert s t x, some d => if isStr P t && isStr P s then (rdV hn T gd x).bind fun q => set1 T gd d (.sub true 1 q.1 none none) vT [] q.2 else (rdO hn T gd x).bind fun q =>
    match isInt P t, isInt P s with
    | some k, some _ => set1 T gd d (.cvi k q.1) vT [] q.2
    | _, _ =>
       if isStr P t then (elemT P s).bind fun e => if isInt P e = some .u8 then set1 T gd d (.cvs q.1) vT [] q.2 else none
      else if isStr P s then (elemT P t).bind fun e => if isInt P e = some .u8 then set1 T gd d (.cvb q.1) vT [] q.2 else none
      else none
  | .alloc e, some d => (zeroC P e).bind fun z => if gd.isSome then none else
    if pol = 1 then (if own = 0 then none else some { dyn := .hnew d true (.lit (.agg z)), ups := [dstT T gd d vT], tr := [d] })
    else let ks := kindsOf P 20 e; if kzOk ks z then some { dyn := .cst d z, ups := [dstT T gd d (.box ks)], tr := [d] } else none
  | .box e x, some d => if gd.isSome then none else
    if pol = 1 then (if own = 0 then none else (useO hn T gd x).bind fun r => some { dyn := .hnew d (isAg P e) r.1, ups := r.2.1 ++ [dstT (T.ups r.2.1) gd d vT], tr := d :: r.2.2 })
    else match x with
      | .tmp t => match tagAt T gd t with
        | .agg ks => some { dyn := .cpy d t, ups := [(t, ⟨(T t).g, .agg (ks.map ddK), (T t).gd⟩), dstT T gd d (.box ks)], tr := [d, t] }
        | _ => (useO hn T gd x).bind fun r => some { dyn := .cs d (isAg P e) (szOf P e) r.1, ups := r.2.1 ++ [dstT (T.ups r.2.1) gd d (.box (List.replicate (szOf P e) ⟨0, .v⟩))], tr := d :: r.2.2 }
      | _ => (useO hn T gd x).bind fun r => some { dyn := .cs d (isAg P e) (szOf P e) r.1, ups := r.2.1 ++ [dstT (T.ups r.2.1) gd d (.box (List.replicate (szOf P e) ⟨0, .v⟩))], tr := d :: r.2.2 }
  | .fieldAddr s x f, some d => planFa P T gd d s x f
  | .load t x, some d => if okT P t then planLd P T gd d pol t x else none
  | .store t x y, none => if okT P t then planSt P hn T gd pol t x y else none
  | .nilCheck x, some d => match x with
    | .tmp t => match tagAt T gd t with
      | .box _ => some { dyn := .nop, ups := [dstT T gd d (.bp t 0 (T t).g)], tr := [d, t] }
      | .bp t' off g => if (T t').g = g then some { dyn := .nop, ups := [dstT T gd d (.bp t' off g)], tr := [d, t, t'] } else none
      | .one c => if c.isV then set1 T gd d (.nilc (.c t)) vT [] [t] else none
      | _ => none
    | _ => none
  | .indexAddr t x i, some d => (elemT P t).bind fun e => (rdO hn T gd i).bind fun i => if szOf P e = 0 then none else
    match x with
    | .tmp s => match tagAt T gd s with
      | .one c => match c.k with
        | .v => set1 T gd d (.elp (szOf P e) (.c s) i.1) vT [] (s :: i.2)
        | .own e' z => if z = szOf P e then set1 T gd d (.inb (.c s) i.1) (.ep s 0 0 (T s).g c.u) [] (s :: i.2) else none
        | .dead => none
      | .al t' k g u => (alOk T t' k g u).bind fun y => if y.2 = szOf P e then set1 T gd d (.inb (crAt T t' k) i.1) (.ep t' k 0 g u) [] ([s, t'] ++ i.2) else none
      | _ => none
    | _ => none
  | .index t x i, some d => if isStr P t then (rdO hn T gd x).bind fun x => (rdO hn T gd i).bind fun i => set1 T gd d (.idx x.1 i.1) vT [] (x.2 ++ i.2) else none
  | .slice t x lo hi mx, some d => if mx.isSome then none else
    (useO hn T gd x).bind fun r => (lowHigh hn T gd lo).bind fun l => (lowHigh hn T gd hi).bind fun h =>
    match P.underlying t with
    | some .string => set1 T gd d (.sub true 1 r.1 l.1 h.1) vT r.2.1 (r.2.2 ++ l.2 ++ h.2)
    | some (.slice e) => if szOf P e = 0 then none else set1 T gd d (.sub false (szOf P e) r.1 l.1 h.1) vT r.2.1 (r.2.2 ++ l.2 ++ h.2)
    | _ => none
  | .build t ps, some d => match P.underlying t with
    | some (.struct fs) => if !fs.toList.all (fun f => okT P f.type) then none else (zeroC P t).bind fun z => (partsOf P fs ps.toList).bind fun q => (usesO hn T gd (ps.toList.map (·.2))).bind fun r =>
      if pol = 1 ∧ gd.isNone then
        let ks := bldKs (kindsOf P 20 t) q
        if kzOk (kindsOf P 20 t) z then some { dyn := .csp d (.build z q r.1), ups := r.2.1 ++ [dstT (T.ups r.2.1) gd d (.agg ks)], tr := d :: r.2.2 } else none
      else set1 T gd d (.build z q r.1) vT r.2.1 r.2.2
    | _ => none
  | .buildSlice t n ps, some d => (elemT P t).bind fun e =>
    if inOrder 0 ps.toList ∧ ps.size = n ∧ szOf P e ≠ 0 ∧ n * szOf P e ≤ 16777216 ∧ zOk P e then
      (usesO hn T gd (ps.toList.map (·.2))).bind fun r => set1 T gd d (.mksl (szOf P e) r.1) (.one ⟨0, .own e (szOf P e)⟩) r.2.1 r.2.2
    else none
  | .makeSlice t l c, some d => (elemT P t).bind fun e => (zeroE P e).bind fun z => (rdO hn T gd l).bind fun l => (rdO hn T gd c).bind fun c =>
    if szOf P e = 0 ∨ !zOk P e ∨ (!isAg P e && szOf P e != 1) then none else set1 T gd d (.mks (P.bytesOf e) z l.1 c.1) (.one ⟨0, .own e (szOf P e)⟩) [] (l.2 ++ c.2)
  | .extract x i, some d => match x with
    | .tmp t => match tagAt T gd t with
      | .tup ms => match ms[i]? with
        | some .v => set1 T gd d (.ext i (.c t)) vT [] [t]
        | some (.own e s) => if gd.isSome then none else set1 T gd d (.ext i (.c t)) (.one ⟨0, .own e s⟩) [(t, ⟨(T t).g, .tup (ms.set i .dead), (T t).gd⟩)] [t]
        | some .dead => none
        | some (.agg ks) => if gd.isSome then none else some { dyn := .csp d (.ext i (.c t)), ups := [(t, ⟨(T t).g, .tup (ms.set i .dead), (T t).gd⟩), dstT T gd d (.agg (ks.map fun k => ⟨0, k⟩))], tr := [d, t] }
        | none => none
      | _ => none
    | _ => none
  | .field s x f, some d => (fieldOf P s f).bind fun fl => (rdV hn T gd x).bind fun r => if !okT P fl.type ∨ szOf P fl.type = 0 then none else
    set1 T gd d (.fld (isAg P fl.type) fl.offset (szOf P fl.type) r.1) vT [] r.2
  | .makeFunc (.func f) first cap, some d => match cap.toList with
    | [] => (usesO hn T gd first.toList).bind fun r => set1 T gd d (.fn f r.1 []) vT r.2.1 r.2.2
    | cs => if gd.isSome then none else (usesO hn T gd first.toList).bind fun r => (capsO (T.ups r.2.1) cs).bind fun q =>
      some { dyn := .fnc d f r.1 q.1, ups := r.2.1 ++ q.2 ++ [dstT ((T.ups r.2.1).ups q.2) gd d vT], tr := d :: (r.2.2 ++ q.1.map (·.1)) }
  | .call c, some d => planCall P sig hn own T gd d pol c
  | _, _ => none

end

end Tr

namespace Tr
open Go

def CR.rd : CR → List Nat
  | .c t => [t]
  | .b t _ => [t]
  | .a t => [t]
  | .ap t _ _ => [t]
  | .lit _ => []

def rdCRs (xs : List CR) : List Nat := xs.flatMap CR.rd
def rdOpt : Option CR → List Nat | none => [] | some x => x.rd

def PX.rd : PX → List Nat
  | .mv x | .un _ x | .cvi _ x | .cvs x | .cvb x | .len _ x | .fa _ x | .nilc x | .ext _ x | .fld _ _ _ x | .ldi _ _ x => x.rd
  | .ld _ _ x => HS :: x.rd
  | .pick c a b => c.rd ++ a.rd ++ b.rd
  | .bin _ x y | .eq _ _ _ x y | .idx x y | .elp _ x y | .inb x y | .eld _ _ _ _ x y | .app _ _ x y | .mks _ _ x y | .mn x y | .mx x y => x.rd ++ y.rd
  | .sub _ _ x lo hi => x.rd ++ rdOpt lo ++ rdOpt hi
  | .build _ _ xs | .call _ _ xs | .mksl _ xs => rdCRs xs
  | .fn _ f c => rdCRs f ++ rdCRs c
  | .callv x xs => x.rd ++ rdCRs xs

def Dyn.rd : Dyn → List Nat
  | .nop | .cst _ _ => []
  | .set _ p | .csp _ p => p.rd
  | .cpy _ s => [s]
  | .cs _ _ _ x => x.rd
  | .stc t _ x => t :: x.rd
  | .stw _ _ x => x.rd
  | .stm t _ _ x => t :: x.rd
  | .sts t _ s => [t, s]
  | .ste t _ _ _ _ _ _ _ i x => t :: (i.rd ++ x.rd)
  | .frz _ s => [s]
  | .hnew _ _ x => HS :: x.rd
  | .hst _ _ p x => HS :: (p.rd ++ x.rd)
  | .hcall _ _ xs => HS :: rdCRs xs
  | .hcallv _ x xs => HS :: (x.rd ++ rdCRs xs)
  | .fnc _ _ f q => rdCRs f ++ q.map (·.1)

def Dyn.wr : Dyn → List Nat
  | .nop => []
  | .set d _ | .csp d _ | .cpy d _ | .cst d _ | .cs d _ _ _ => [d]
  | .stc t _ _ | .stw t _ _ | .stm t _ _ _ | .sts t _ _ | .ste t _ _ _ _ _ _ _ _ _ => [t]
  | .frz d s => [d, s]
  | .hnew d _ _ | .hcall d _ _ | .hcallv d _ _ => [HS, d]
  | .hst _ _ _ _ => [HS]
  | .fnc d _ _ q => d :: q.map (·.1)

/-- The slots into which a single value is put. -/
def Dyn.out : Dyn → List Nat
  | .set d _ => [d]
  | .cpy d _ => [d]
  | _ => []

structure GP where
  gd : Option (Nat × Nat × Bool)
  p : Plan

def tagRefs : Tag → List Nat
  | .al t _ _ _ => [t]
  | .bp t _ _ => [t]
  | .ep t _ _ _ _ => [t]
  | _ => []

/-- The slot that a guarded operation writes. -/
def gpD (x : GP) : Nat := match x.p.ups.getLast? with | some (d, _) => d | none => 0

def GP.tr (x : GP) : List Nat := match x.gd with | none => x.p.tr | some (s, _, _) => s :: (x.p.tr ++ x.p.ups.map (·.1) ++ x.p.ups.flatMap (fun y => tagRefs y.2.tag))
def GP.tw (x : GP) : List Nat := x.p.ups.map (·.1)
def GP.cr (x : GP) : List Nat := match x.gd with | none => x.p.dyn.rd | some (s, _, _) => s :: x.p.dyn.rd
def GP.cr2 (x : GP) : List Nat := match x.gd with | none => x.p.dyn.rd | some (s, _, _) => s :: gpD x :: (x.p.dyn.wr ++ x.p.dyn.rd)
def GP.cw (x : GP) : List Nat := match x.gd with | none => x.p.dyn.wr | some _ => gpD x :: x.p.dyn.wr

def meets (a b : List Nat) : Bool := a.any fun x => b.any fun y => x == y

def clash (x y : GP) : Bool :=
  meets x.tw y.tr || meets x.tw y.tw || meets y.tw x.tr || meets x.cw y.cr2 || meets x.cw y.cw || meets y.cw x.cr2

/-- What is carried out under a guard writes one slot, and nothing else. -/
def gdOk : Option (Nat × Nat × Bool) → Plan → Bool
  | none, _ => true
  | some _, p => (match p.dyn with | .nop | .set _ _ | .cpy _ _ => true | _ => false) &&
    (match p.ups.getLast? with | some (_, ⟨_, .one _, _⟩) | some (_, ⟨_, .al _ _ _ _, _⟩) | some (_, ⟨_, .bp _ _ _, _⟩) | some (_, ⟨_, .ep _ _ _ _ _, _⟩) => true | _ => false)

def ckRe (a b : CK) : Bool := a.u == b.u && (match a.k, b.k with
  | _, .dead => true
  | .v, .v => true
  | .own _ _, .v => true
  | .own e z, .own e' z' => e == e' && z == z'
  | _, _ => false)

def cksRe : List CK → List CK → Bool
  | [], [] => true
  | a :: r, b :: s => ckRe a b && cksRe r s
  | _, _ => false

def tagRe : Tag → Tag → Bool
  | .one a, .one b => ckRe a b
  | .agg a, .agg b => cksRe a b
  | .box a, .box b => cksRe a b
  | _, _ => false

def refB (T : Tags) (t k g u : Nat) : Bool := decide (g ≤ (T t).g) && (g != (T t).g || (match (T t).tag.ck k with | some c => decide (u ≤ c.u) | none => true))

def gfOk.sameGd : Option (Nat × Nat × Bool) → Option (Nat × Nat × Bool) → Bool
  | some (a, b, c), some (a', b', c') => a == a' && b == b' && c == c'
  | _, _ => false

/-- What is told of slots stays true if the guard says no. -/
def gfOk (gd : Option (Nat × Nat × Bool)) (d : Nat) : Tags → List (Nat × Tg) → Bool
  | _, [] => false
  | T, [(t, x)] => t == d && x.g == (T d).g + 1 && (match x.tag with
    | .one c => c.isV && x.gd.isNone
    | .al s k g u => refB T s k g u && gfOk.sameGd x.gd gd
    | .ep s k _ g u => refB T s k g u && gfOk.sameGd x.gd gd
    | .bp s _ g => decide (g ≤ (T s).g) && gfOk.sameGd x.gd gd
    | _ => false)
  | T, (t, x) :: r => x.g == (T t).g && x.gd.isNone && (T t).gd.isNone && tagRe (T t).tag x.tag && gfOk gd d (T.up t x) r

def polKey (reg i : Nat) : Nat := reg * 1000 + i

section
variable (P : Program) (sig : Nat → Option Sg) (hn : Hn) (own : Nat)

/-- How an operation's guard is told, by tags. -/
def gdOf (ops : Array Oper) (T : Tags) (o : Oper) : Option (Option (Nat × Nat × Bool)) :=
  match o.guard with
  | none => some none
  | some (j, b) => ((ops[j]?).bind (·.dst)).bind fun s => match (T s).gd, (T s).tag with | none, .one c => if c.isV then some (some (s, (T s).g, b)) else none | _, _ => none

def okDst (n : Nat) : Option Nat → Bool
  | some d => decide (d < n)
  | none => true

def okGf (T : Tags) (gd : Option (Nat × Nat × Bool)) (dst : Option Nat) (p : Plan) : Bool :=
  match gd with
  | none => true
  | some (s, g, b) => (match dst with | some d => gfOk (some (s, g, b)) d T p.ups | none => false) && !(p.ups.any (fun x => x.1 == s) || p.dyn.wr.any (· == s))

/-- One operation, planned where it stands. -/
def planAt (n reg : Nat) (ops : Array Oper) (i : Nat) (o : Oper) (T : Tags) : Option GP :=
  (gdOf ops T o).bind fun gd => (planOp P sig hn own T gd (polOf hn.pol (polKey reg i)) o).bind fun p =>
    if gdOk gd p && okGf T gd o.dst p && okDst n o.dst then some ⟨gd, p⟩ else none

def planOps (n reg : Nat) (ops : Array Oper) : Nat → List Oper → Tags → Option (List GP × Tags)
  | _, [], T => some ([], T)
  | i, o :: r, T => (planAt P sig hn own n reg ops i o T).bind fun x => (planOps n reg ops (i + 1) r (T.ups x.p.ups)).bind fun q => some (x :: q.1, q.2)

/-- Whatever two operations may be carried out in either order do not meet. -/
def ordOk (ms : Array Nat) (all : Array GP) : Bool :=
  (List.range all.size).all fun j => (List.range j).all fun i =>
    (ms.getD j 0).testBit i || (match all[i]?, all[j]? with | some x, some y => !clash x y | _, _ => false)

/-- Whatever an operation waits for stands before it. -/
def edgesOk : Nat → List Oper → Bool
  | _, [] => true
  | i, o :: r => o.after.toList.all (fun e => !Region.binds .any e || decide (e.on < i)) && edgesOk (i + 1) r

def sameG : Option (Nat × Nat × Bool) → Option (Nat × Nat × Bool) → Bool
  | some (a, b, c), some (a', b', c') => a == a' && b == b' && c == c'
  | _, _ => false

/-- Neighbours of one guard stand together. -/
def groups : List GP → List (Option (Nat × Nat × Bool) × List GP)
  | [] => []
  | x :: r => match groups r with
    | (g, xs) :: rest => if sameG x.gd g then (g, x :: xs) :: rest else (x.gd, [x]) :: (g, xs) :: rest
    | [] => [(x.gd, [x])]

def gpOk (later : List Nat) (x : GP) : Bool :=
  match x.p.dyn with
  | .set d _ => d == gpD x
  | .cpy d _ => d == gpD x && !later.any (· == d)
  | .nop => !later.any (· == gpD x)
  | _ => false

def laterOf (r : List (Option (Nat × Nat × Bool) × List GP)) : List Nat := r.flatMap fun y => y.2.flatMap GP.cr

def grpsOk : List (Option (Nat × Nat × Bool) × List GP) → Bool
  | [] => true
  | (none, _) :: r => grpsOk r
  | (some _, xs) :: r => xs.all (gpOk (laterOf r)) && grpsOk r

def toDG : List (Option (Nat × Nat × Bool) × List GP) → List DG × List Nat
  | [] => ([], [])
  | (none, xs) :: r => (xs.map (fun x => .one x.p.dyn) ++ (toDG r).1, (toDG r).2)
  | (some (s, _, w), xs) :: r =>
    (.grp s w (xs.map fun x => x.p.dyn) ((xs.map gpD).filter fun d => (laterOf r).any (· == d)) :: (toDG r).1, (xs.map gpD).filter (fun d => !(laterOf r).any (· == d)) ++ (toDG r).2)

def killT (T : Tags) : List Nat → Tags
  | [] => T
  | d :: r => killT (T.up d ⟨(T d).g + 1, .dead, none⟩) r

def cReg (n reg : Nat) (ops : Array Oper) (draw : Bool) (T : Tags) : Option (IC × Tags) :=
  (planOps P sig hn own n reg ops 0 ops.toList T).bind fun q =>
  if draw && !(ordOk (Region.before ops) q.1.toArray && edgesOk 0 ops.toList) then none else
  if !grpsOk (groups q.1) then none else
  some (.reg (toDG (groups q.1)).1, killT q.2 (toDG (groups q.1)).2)

def lvT : List (Nat × Tag) → Tags
  | [] => fun _ => ⟨0, .dead, none⟩
  | (t, x) :: r => fun j => if j = t then ⟨0, x, none⟩ else lvT r j

def ckLe : List CK → List CK → Bool
  | [], [] => true
  | a :: r, b :: s => (match a.k, b.k with
    | _, .dead => true
    | .v, .v => true
    | .own _ _, .v => true
    | .own e z, .own e' z' => e == e' && z == z'
    | _, _ => false) && b.u == 0 && ckLe r s
  | _, _ => false

def tagLe (T : Tags) (lv : Tags) (t : Nat) : Tag → Bool
  | .one b => match (T t).gd, (T t).tag with | none, .one a => ckLe [a] [b] | _, _ => false
  | .agg bs => match (T t).gd, (T t).tag with | none, .agg as => ckLe as bs | _, _ => false
  | .box bs => match (T t).gd, (T t).tag with | none, .box as => ckLe as bs | _, _ => false
  | .al t' k g u => g == 0 && u == 0 && (match (T t).gd, (T t).tag with
    | none, .al s j g' u' => s == t' && j == k && (alOk T s j g' u').isSome && (alOk lv s j 0 0).isSome
    | _, _ => false)
  | .dead => true
  | _ => false

def tagsLe (T : Tags) (lv : List (Nat × Tag)) : Bool := lv.all fun x => tagLe T (lvT lv) x.1 x.2

def lvC : List (Nat × Tag) → List (Nat × Bool)
  | [] => []
  | (t, .one _) :: r => (t, false) :: lvC r
  | (t, .agg _) :: r => (t, true) :: lvC r
  | (t, .box _) :: r => (t, true) :: lvC r
  | _ :: r => lvC r

/-- With the own memory, where there is one. -/
def lvH (own : Nat) (lv : List (Nat × Tag)) : List (Nat × Bool) := if own = 0 then lvC lv else (HS, false) :: lvC lv

def nodupN : List Nat → Bool
  | [] => true
  | x :: r => !r.any (· == x) && nodupN r

/-- What is handed back stands where it must. -/
def retOk (T : Tags) : List ResultVar → List Md → Bool
  | [], [] => true
  | .tmp t :: r, m :: ms => (match (T t).gd, (T t).tag, m with
    | none, .one c, .v => c.k.live
    | none, .one c, .own e s => (match c.k with | .own e' s' => e == e' && s == s' | _ => false)
    | _, _, _ => false) && retOk T r ms
  | .cell t ty :: r, m :: ms => (match (T t).gd, (T t).tag, m with
    | none, .box ks, .v => okT P ty && ks.all (fun c => c.k.live) && ks.length == szOf P ty && (isAg P ty || ks.length == 1)
    | none, .box ks, .agg cs => okT P ty && kOk cs ks && isAg P ty && ks.length == szOf P ty
    | none, .box [c], .own e s => okT P ty && !isAg P ty && (match c.k with | .own e' s' => e == e' && s == s' | _ => false)
    | _, _, _ => false) && retOk T r ms
  | _, _ => false

def resT : ResultVar → Nat
  | .tmp t => t
  | .cell t _ => t

structure CO where
  ic : IC
  out : List Tags
  ex : List (Nat × Tags)
  lvs : List (List (Nat × Tag))

variable (n : Nat) (rs : List ResultVar) (ms : List Md)

def joinTo (lvs : List (List (Nat × Tag))) (a : IC) (out : List Tags) : Option (IC × List Tags × List (List (Nat × Tag))) :=
  match out with
  | [] => some (a, [], lvs)
  | [T] => some (a, [T], lvs)
  | _ => match lvs with
    | lv :: r => if nodupN (lv.map (·.1)) && out.all (fun T => tagsLe T lv) then some (.lab (lvH own lv) a, [lvT lv], r) else none
    | [] => none

def cC : Code → Tags → List (List (Nat × Tag)) → Option CO
  | .skip, T, lvs => some ⟨.skip, [T], [], lvs⟩
  | .region id ops draw, T, lvs => (cReg P sig hn own n id ops draw T).bind fun r => some ⟨r.1, [r.2], [], lvs⟩
  | .seq a b, T, lvs => (cC a T lvs).bind fun x => (joinTo own x.lvs x.ic x.out).bind fun j =>
    match j.2.1 with
    | [] => some ⟨j.1, [], x.ex, j.2.2⟩
    | T' :: _ => (cC b T' j.2.2).bind fun y => some ⟨.seq j.1 y.ic, y.out, x.ex ++ y.ex, y.lvs⟩
  | .cond c a b, T, lvs => (rdO hn T none c).bind fun q => (cC a T lvs).bind fun x => (cC b T x.lvs).bind fun y =>
    some ⟨.cond q.1 x.ic y.ic, x.out ++ y.out, x.ex ++ y.ex, y.lvs⟩
  | .block id a, T, lvs => (cC a T lvs).bind fun x =>
    some ⟨.block id x.ic, x.out ++ (x.ex.filter (fun y => y.1 == id)).map (·.2), x.ex.filter (fun y => y.1 != id), x.lvs⟩
  | .loop a, T, lvs => match lvs with
    | lv :: r => if nodupN (lv.map (·.1)) && tagsLe T lv then
        (cC a (lvT lv) r).bind fun x => if x.out.all (fun T => tagsLe T lv) then some ⟨.loop (lvH own lv) x.ic, [], x.ex, x.lvs⟩ else none
      else none
    | [] => none
  | .exit id, T, lvs => some ⟨.exit id, [], [(id, T)], lvs⟩
  | .ret, T, lvs => if retOk P T rs ms then some ⟨.ret, [], [], lvs⟩ else none
  | _, _, _ => none

end

def psOf : Nat → List Md → List (Nat × Bool) × (List (Nat × Tag))
  | _, [] => ([], [])
  | t, m :: ms => ((t, match m with | .agg _ => true | _ => false) :: (psOf (t + 1) ms).1, (t, mdT m) :: (psOf (t + 1) ms).2)

def rsOf (P : Program) : List ResultVar → List CR
  | [] => []
  | .tmp t :: r => .c t :: rsOf P r
  | .cell t ty :: r => (if isAg P ty then .a t else .b t 0) :: rsOf P r

/-- A function, turned whole. -/
def cF (P : Program) (sig : Nat → Option Sg) (hn : Hn) (f : Nat) : Option IF :=
  (sig f).bind fun sg => (P.funcs[f]?).bind fun fn => fn.body.bind fun b =>
  (cC P sig hn sg.own fn.ntmps fn.results.toList sg.rs b (lvT (psOf 0 sg.ps).2) hn.lvs).bind fun x =>
  if x.ex.isEmpty && x.lvs.isEmpty && nodupN (fn.results.toList.map resT) && x.out.all (fun T => retOk P T fn.results.toList sg.rs) && (sg.ps.length == fn.params.size + fn.nfree) && decide (fn.params.size + fn.nfree ≤ fn.ntmps) && decide (fn.ntmps ≤ HS) then
    some { ps := (psOf 0 sg.ps).1, rs := rsOf P fn.results.toList, own := sg.own, body := x.ic }
  else none

end Tr
namespace Tr
open Go
/-- Ways that are plain but for those that are listed. -/
def sigOf (P : Program) (l : List (Nat × Sg)) (f : Nat) : Option Sg :=
  match l.find? (fun x => x.1 == f) with
  | some x => some x.2
  | none => (P.funcs[f]?).bind fun fn => some ⟨0, List.replicate (fn.params.size + fn.nfree) .v, List.replicate fn.results.size .v⟩
end Tr

namespace Tr
open Go

/-- The streams are as they were. -/
def SameS (w w' : World) : Prop := w'.os = w.os ∧ w'.tape = w.tape ∧ w'.output = w.output

theorem SameS.refl (w : World) : SameS w w := ⟨rfl, rfl, rfl⟩
theorem SameS.trans {a b c : World} (h : SameS a b) (k : SameS b c) : SameS a c := ⟨k.1.trans h.1, k.2.1.trans h.2.1, k.2.2.trans h.2.2⟩

mutual
inductive Rep (w : World) (im : Nat → Prop) (et : List Nat) : AV → Value → Prop
  | bool (b : Bool) : Rep w im et (.bool b) (.bool b)
  | int (k : IntKind) (n : Int) : Rep w im et (.int k n) (.int k n)
  | str (s : List UInt8) : Rep w im et (.str s) (.string ⟨s.toArray⟩)
  | nil : Rep w im et .nil (.slice none 0 0)
  | nilp : Rep w im et .nilp (.pointer none)
  | nilf : Rep w im et .nilf .nilFunc
  | undef : Rep w im et .undef Go.undef
  | agg (cs : List AV) (vs : List Value) (h : RepL w im et cs vs) (h1 : ∀ v ∈ vs, v.oneCell' = true) : Rep w im et (.agg cs) (.agg vs.toArray)
  | tup (cs : List AV) (vs : List Value) (h : RepL w im et cs vs) : Rep w im et (.tup cs) (.tuple vs.toArray)
  | sl (xs : List AV) (a : Addr) (cap sz : Nat) (vs : List Value) (h : RepE w im et sz xs vs) (hc : xs.length ≤ cap) (hi : xs ≠ [] → im a.block)
      (hm : ∀ j u, vs[j]? = some u → w.cell? (a.add j) = some u) : Rep w im et (.sl xs) (.slice (some a) xs.length cap)
  | ip (cs : List AV) (a : Addr) (vs : List Value) (h : RepL w im et cs vs) (h1 : ∀ v ∈ vs, v.oneCell' = true) (hi : im a.block)
      (hm : ∀ j u, vs[j]? = some u → w.cell? (a.add j) = some u) : Rep w im et (.ip cs) (.pointer (some a))
  | fn (f : Nat) (fs cs : List AV) (fv cv : List Value) (hf : RepL w im et fs fv) (hc : RepL w im et cs cv) : Rep w im et (.fn f fs cs) (.func (.func f) fv.toArray cv.toArray)
  | ref (id off B : Nat) (h : et[id]? = some B) : Rep w im et (.ref id off) (.pointer (some ⟨B, off, none⟩))
inductive RepL (w : World) (im : Nat → Prop) (et : List Nat) : List AV → List Value → Prop
  | nil : RepL w im et [] []
  | cons (x : AV) (xs : List AV) (v : Value) (vs : List Value) (h : Rep w im et x v) (hs : RepL w im et xs vs) : RepL w im et (x :: xs) (v :: vs)
inductive RepE (w : World) (im : Nat → Prop) (et : List Nat) : Nat → List AV → List Value → Prop
  | nil (sz : Nat) : RepE w im et sz [] []
  | cons (sz : Nat) (x : AV) (xs : List AV) (us vs : List Value) (h : RepL w im et x.cells us) (hn : us.length = sz) (h1 : ∀ u ∈ us, u.oneCell' = true)
      (hs : RepE w im et sz xs vs) : RepE w im et sz (x :: xs) (us ++ vs)
 end

/-- What is told of shared memory stays true. -/
structure Stay (w w' : World) (im im' : Nat → Prop) (et et' : List Nat) : Prop where
  sub : ∀ b, im b → im' b
  hp : ∀ b, im b → w'.heap[b]? = w.heap[b]?
  ext : ∀ (i B : Nat), et[i]? = some B → et'[i]? = some B

theorem Stay.refl (w : World) (im : Nat → Prop) (et : List Nat) : Stay w w im im et et := ⟨fun _ h => h, fun _ _ => rfl, fun _ _ h => h⟩

theorem Stay.trans {w w' w'' : World} {im im' im'' : Nat → Prop} {et et' et'' : List Nat} (h : Stay w w' im im' et et') (k : Stay w' w'' im' im'' et' et'') : Stay w w'' im im'' et et'' :=
  ⟨fun b hb => k.sub b (h.sub b hb), fun b hb => (k.hp b (h.sub b hb)).trans (h.hp b hb), fun i B hb => k.ext i B (h.ext i B hb)⟩

theorem cell_stay {w w' : World} {a : Addr} (h : w'.heap[a.block]? = w.heap[a.block]?) : w'.cell? a = w.cell? a := World.cell?_of_block h

theorem Addr.add_block (a : Addr) (n : Nat) : (a.add n).block = a.block := by unfold Addr.add; split <;> rfl

section
variable {w w' : World} {im im' : Nat → Prop} {et et' : List Nat}

mutual
theorem Rep.mono (S : Stay w w' im im' et et') : ∀ {x : AV} {v : Value}, Rep w im et x v → Rep w' im' et' x v
  | _, _, .bool b => .bool b
  | _, _, .int k n => .int k n
  | _, _, .str s => .str s
  | _, _, .nil => .nil
  | _, _, .nilp => .nilp
  | _, _, .nilf => .nilf
  | _, _, .undef => .undef
  | _, _, .agg cs vs h h1 => .agg cs vs (RepL.mono S h) h1
  | _, _, .tup cs vs h => .tup cs vs (RepL.mono S h)
  | _, _, .sl xs a cap sz vs h hc hi hm => .sl xs a cap sz vs (RepE.mono S h) hc (fun hx => S.sub _ (hi hx)) (fun j u hu => by
      have hx : xs ≠ [] := by
        intro e
        subst e
        cases h
        simp at hu
      exact (cell_stay (w := w) (w' := w') (a := a.add j) (by rw [Addr.add_block]; exact S.hp _ (hi hx))).trans (hm j u hu))
  | _, _, .ip cs a vs h h1 hi hm => .ip cs a vs (RepL.mono S h) h1 (S.sub _ hi) (fun j u hu => by
      exact (cell_stay (w := w) (w' := w') (a := a.add j) (by rw [Addr.add_block]; exact S.hp _ hi)).trans (hm j u hu))
  | _, _, .fn f fs cs fv cv hf hc => .fn f fs cs fv cv (RepL.mono S hf) (RepL.mono S hc)
  | _, _, .ref id off B h => .ref id off B (S.ext _ _ h)
theorem RepL.mono (S : Stay w w' im im' et et') : ∀ {xs : List AV} {vs : List Value}, RepL w im et xs vs → RepL w' im' et' xs vs
  | _, _, .nil => .nil
  | _, _, .cons x xs v vs h hs => .cons x xs v vs (Rep.mono S h) (RepL.mono S hs)
theorem RepE.mono (S : Stay w w' im im' et et') : ∀ {sz : Nat} {xs : List AV} {vs : List Value}, RepE w im et sz xs vs → RepE w' im' et' sz xs vs
  | _, _, _, .nil sz => .nil sz
  | _, _, _, .cons sz x xs us vs h hn h1 hs => .cons sz x xs us vs (RepL.mono S h) hn h1 (RepE.mono S hs)
 end

theorem RepL.len {xs : List AV} {vs : List Value} (h : RepL w im et xs vs) : vs.length = xs.length := by
  induction xs generalizing vs with
  | nil => cases h; rfl
  | cons x xs ih => cases h with | cons _ _ v vs h hs => simp [ih hs]

theorem RepL.get {xs : List AV} {vs : List Value} (h : RepL w im et xs vs) {i : Nat} {x : AV} (hx : xs[i]? = some x) : ∃ v, vs[i]? = some v ∧ Rep w im et x v := by
  induction xs generalizing vs i with
  | nil => simp at hx
  | cons y xs ih =>
    cases h with
    | cons _ _ v vs h hs =>
      cases i with
      | zero => simp at hx; subst hx; exact ⟨v, by simp, h⟩
      | succ i => simp at hx; obtain ⟨u, hu, hr⟩ := ih hs hx; exact ⟨u, by simpa using hu, hr⟩

theorem RepL.app {xs ys : List AV} {vs us : List Value} (h : RepL w im et xs vs) (k : RepL w im et ys us) : RepL w im et (xs ++ ys) (vs ++ us) := by
  induction xs generalizing vs with
  | nil => cases h; exact k
  | cons x xs ih => cases h with | cons _ _ v vs h hs => exact .cons x _ v _ h (ih hs)

theorem RepL.take {xs : List AV} {vs : List Value} (h : RepL w im et xs vs) (n : Nat) : RepL w im et (xs.take n) (vs.take n) := by
  induction xs generalizing vs n with
  | nil => cases h; simp; exact .nil
  | cons x xs ih =>
    cases h with
    | cons _ _ v vs h hs =>
      cases n with
      | zero => simp; exact .nil
      | succ n => simp; exact .cons x _ v _ h (ih hs n)

theorem RepL.drop {xs : List AV} {vs : List Value} (h : RepL w im et xs vs) (n : Nat) : RepL w im et (xs.drop n) (vs.drop n) := by
  induction xs generalizing vs n with
  | nil => cases h; simp; exact .nil
  | cons x xs ih =>
    cases h with
    | cons _ _ v vs h hs =>
      cases n with
      | zero => simp; exact .cons x _ v _ h hs
      | succ n => simpa using ih hs n

theorem RepL.set {xs : List AV} {vs : List Value} (h : RepL w im et xs vs) (i : Nat) {x : AV} {v : Value} (hx : Rep w im et x v) : RepL w im et (xs.set i x) (vs.set i v) := by
  induction xs generalizing vs i with
  | nil => cases h; simp; exact .nil
  | cons y xs ih =>
    cases h with
    | cons _ _ u vs h hs =>
      cases i with
      | zero => simp; exact .cons x _ v _ hx hs
      | succ i => simp; exact .cons y _ u _ h (ih hs i)

theorem RepL.splice {xs ys : List AV} {vs us : List Value} (h : RepL w im et xs vs) (k : RepL w im et ys us) (off : Nat) :
    RepL w im et (A.splice xs off ys) (vs.take off ++ us ++ vs.drop (off + us.length)) := by
  unfold A.splice
  rw [k.len]
  exact ((h.take off).app k).app (h.drop _)

theorem RepE.len {sz : Nat} {xs : List AV} {vs : List Value} (h : RepE w im et sz xs vs) : vs.length = xs.length * sz := by
  induction xs generalizing vs with
  | nil => cases h; simp
  | cons x xs ih => cases h with | cons _ _ _ us vs h hn h1 hs => simp [ih hs, hn, Nat.add_mul]; omega

theorem RepE.one {sz : Nat} {xs : List AV} {vs : List Value} (h : RepE w im et sz xs vs) : ∀ u ∈ vs, u.oneCell' = true := by
  induction xs generalizing vs with
  | nil => cases h; simp
  | cons x xs ih =>
    cases h with
    | cons _ _ _ us vs h hn h1 hs =>
      intro u hu
      rcases List.mem_append.1 hu with hu | hu
      · exact h1 u hu
      · exact ih hs u hu

theorem RepE.app {sz : Nat} {xs ys : List AV} {vs us : List Value} (h : RepE w im et sz xs vs) (k : RepE w im et sz ys us) : RepE w im et sz (xs ++ ys) (vs ++ us) := by
  induction xs generalizing vs with
  | nil => cases h; exact k
  | cons x xs ih => cases h with | cons _ _ _ u vs h hn h1 hs => rw [List.cons_append, List.append_assoc]; exact .cons sz x _ u _ h hn h1 (ih hs)

/-- An element's own cells. -/
theorem RepE.get {sz : Nat} {xs : List AV} {vs : List Value} (h : RepE w im et sz xs vs) {i : Nat} {x : AV} (hx : xs[i]? = some x) :
    ∃ us, RepL w im et x.cells us ∧ us.length = sz ∧ (∀ u ∈ us, u.oneCell' = true) ∧ (∀ j u, us[j]? = some u → vs[i * sz + j]? = some u) ∧
      vs.take (i * sz) ++ us ++ vs.drop (i * sz + sz) = vs := by
  induction xs generalizing vs i with
  | nil => simp at hx
  | cons y xs ih =>
    cases h with
    | cons _ _ _ us vs h hn h1 hs =>
      cases i with
      | zero =>
        simp at hx; subst hx
        refine ⟨us, h, hn, h1, fun j u hu => ?_, by simp [← hn]⟩
        have hj : j < us.length := (List.getElem?_eq_some_iff.1 hu).1
        rw [Nat.zero_mul, Nat.zero_add, List.getElem?_append_left hj]; exact hu
      | succ i =>
        simp at hx
        obtain ⟨us', h', hn', h1', hj', hw'⟩ := ih hs hx
        refine ⟨us', h', hn', h1', fun j u hu => ?_, ?_⟩
        · rw [List.getElem?_append_right (by rw [hn, Nat.add_mul]; omega), ← hj' j u hu]
          congr 1
          rw [hn, Nat.add_mul]; omega
        · have e1 : (i + 1) * sz = us.length + i * sz := by rw [hn, Nat.add_mul]; omega
          have e2 : (i + 1) * sz + sz = us.length + (i * sz + sz) := by rw [e1]; omega
          rw [e2, e1, List.take_length_add_append, List.drop_length_add_append]
          rw [List.append_assoc us, List.append_assoc us, hw']

theorem RepE.set {sz : Nat} {xs : List AV} {vs : List Value} (h : RepE w im et sz xs vs) {i : Nat} (hi : i < xs.length) {y : AV} {us : List Value} (hy : RepL w im et y.cells us)
    (hn : us.length = sz) (h1 : ∀ u ∈ us, u.oneCell' = true) : RepE w im et sz (xs.set i y) (vs.take (i * sz) ++ us ++ vs.drop (i * sz + sz)) := by
  induction xs generalizing vs i with
  | nil => simp at hi
  | cons x xs ih =>
    cases h with
    | cons _ _ _ u0 vs h hn0 h10 hs =>
      cases i with
      | zero =>
        have e : (u0 ++ vs).drop (0 * sz + sz) = vs := by simp [← hn0]
        rw [e]
        simp
        exact .cons sz y _ us _ hy hn h1 hs
      | succ i =>
        have e1 : (i + 1) * sz = u0.length + i * sz := by rw [hn0, Nat.add_mul]; omega
        have e2 : (i + 1) * sz + sz = u0.length + (i * sz + sz) := by rw [e1]; omega
        rw [e2, e1, List.take_length_add_append, List.drop_length_add_append]
        rw [List.append_assoc u0, List.append_assoc u0]
        exact .cons sz x _ u0 _ h hn0 h10 (ih hs (by simpa using hi))

theorem RepE.take {sz : Nat} {xs : List AV} {vs : List Value} (h : RepE w im et sz xs vs) (n : Nat) : RepE w im et sz (xs.take n) (vs.take (n * sz)) := by
  induction xs generalizing vs n with
  | nil => cases h; simp; exact .nil sz
  | cons x xs ih =>
    cases h with
    | cons _ _ _ us vs h hn h1 hs =>
      cases n with
      | zero => simp; exact .nil sz
      | succ n =>
        have e : (n + 1) * sz = us.length + n * sz := by rw [hn, Nat.add_mul]; omega
        rw [e, List.take_length_add_append]
        exact .cons sz x _ us _ h hn h1 (ih hs n)

theorem RepE.drop {sz : Nat} {xs : List AV} {vs : List Value} (h : RepE w im et sz xs vs) (n : Nat) : RepE w im et sz (xs.drop n) (vs.drop (n * sz)) := by
  induction xs generalizing vs n with
  | nil => cases h; simp; exact .nil sz
  | cons x xs ih =>
    cases h with
    | cons _ _ _ us vs h hn h1 hs =>
      cases n with
      | zero => simp; exact .cons sz x _ us _ h hn h1 hs
      | succ n =>
        have e : (n + 1) * sz = us.length + n * sz := by rw [hn, Nat.add_mul]; omega
        rw [e, List.drop_length_add_append]
        exact ih hs n

/-- The size of elements, where there is one. -/
theorem RepE.size {sz : Nat} {xs : List AV} {vs : List Value} (h : RepE w im et sz xs vs) {i : Nat} {x : AV} (hx : xs[i]? = some x) : x.nc = sz := by
  obtain ⟨us, hr, hn, _⟩ := h.get hx
  unfold AV.nc
  rw [← hr.len, hn]

theorem RepE.resize {sz sz' : Nat} {xs : List AV} {vs : List Value} (h : RepE w im et sz xs vs) (hs : ∀ (i : Nat) (x : AV), xs[i]? = some x → x.nc = sz') : RepE w im et sz' xs vs := by
  cases xs with
  | nil => cases h; exact .nil sz'
  | cons x xs => have := h.size (i := 0) (x := x) (by simp); rw [hs 0 x (by simp)] at this; exact this ▸ h

theorem allSz_spec {sz : Nat} : ∀ {xs : List AV}, A.allSz sz xs = true → ∀ (i : Nat) (x : AV), xs[i]? = some x → x.nc = sz
  | [], _, i, x, hx => by simp at hx
  | y :: ys, h, i, x, hx => by
    simp only [A.allSz, Bool.and_eq_true, beq_iff_eq] at h
    cases i with
    | zero => simp at hx; subst hx; exact h.1.1
    | succ i => simp at hx; exact allSz_spec h.2 i x hx

end

end Tr

namespace Tr
open Go

inductive Key where
  | box (t : Nat)
  | own (t i k : Nat)
  | heap (i : Nat)
  | arg (i k : Nat)

structure Gh where
  ow : Nat → Option Key
  im : Nat → Prop
  et : List Nat

def about (t : Nat) : Key → Prop
  | .box s => s = t
  | .own s _ _ => s = t
  | .heap _ => False
  | .arg _ _ => False

def tmp (a : Act) (t : Nat) : Value := a.tmps.getD t undef

/-- A slice's header, and its elements. -/
def OwnSl (x : AV) (xs : List AV) (v : Value) : Prop := (x = .sl xs ∧ ∃ a l c, v = .slice (some a) l c) ∨ (x = .nil ∧ xs = [] ∧ v = .slice none 0 0)

def OwnOk (w : World) (gh : Gh) (e sz : Nat) (key : Key) (x : AV) (v : Value) : Prop :=
  ∃ xs vs, OwnSl x xs v ∧ w.ownsRow 0 e sz v xs.length vs ∧ RepE w gh.im gh.et sz xs vs ∧ 0 < sz ∧ (∀ B, v.ownBlock = some B → gh.ow B = some key)

def CellOk (w : World) (gh : Gh) (key : Key) : CKd → AV → Value → Prop
  | .dead, _, _ => True
  | .v, x, v => Rep w gh.im gh.et x v
  | .own e sz, x, v => OwnOk w gh e sz key x v

def CellsOk (w : World) (gh : Gh) (kf : Nat → Key) (ks : List CKd) (cs : List AV) (vs : List Value) : Prop :=
  cs.length = ks.length ∧ vs.length = ks.length ∧ (∀ v ∈ vs, v.oneCell' = true) ∧
  ∀ (k : Nat) (c : CKd) (x : AV) (v : Value), ks[k]? = some c → cs[k]? = some x → vs[k]? = some v → CellOk w gh (kf k) c x v

def MdOk (w : World) (gh : Gh) (kf : Nat → Key) : Md → AV → Value → Prop
  | .dead, _, _ => True
  | .v, x, v => Rep w gh.im gh.et x v
  | .own e sz, x, v => OwnOk w gh e sz (kf 0) x v
  | .agg ks, x, v => ∃ cs vs, x = .agg cs ∧ v = .agg vs.toArray ∧ CellsOk w gh kf ks cs vs

def hdr (w : World) (a : Act) (tag : Tag) (t k : Nat) : Option Value :=
  match tag with
  | .one _ => if k = 0 then some (tmp a t) else none
  | .agg _ => match tmp a t with | .agg vs => vs[k]? | _ => none
  | .box _ => match tmp a t with | .pointer (some ad) => w.cell? (ad.add k) | _ => none
  | _ => none

def SlotOk (w : World) (gh : Gh) (T : Tags) (e : Env) (a : Act) (t : Nat) : Tag → Prop
  | .dead => True
  | .one c => ∃ x, e t = [x] ∧ CellOk w gh (.own t 0 0) c.k x (tmp a t)
  | .agg ks => ∃ vs, tmp a t = .agg vs.toArray ∧ CellsOk w gh (.own t 0) (ks.map CK.k) (e t) vs
  | .box ks => ∃ B vs el, gh.ow B = some (.box t) ∧ tmp a t = .pointer (some ⟨B, 0, none⟩) ∧ w.heap[B]? = some (.cells vs.toArray el (0, 0)) ∧ CellsOk w gh (.own t 0) (ks.map CK.k) (e t) vs
  | .tup ms => ∃ (xs : List AV) (vs : List Value), e t = [.tup xs] ∧ tmp a t = .tuple vs.toArray ∧ xs.length = ms.length ∧ vs.length = ms.length ∧
      ∀ (i : Nat) (m : Md) (x : AV) (v : Value), ms[i]? = some m → xs[i]? = some x → vs[i]? = some v → MdOk w gh (.own t i) m x v
  | .al t' k g u => ∀ y, alOk T t' k g u = some y → hdr w a (T t').tag t' k = some (tmp a t)
  | .bp t' off g => (T t').g = g → ∃ B, gh.ow B = some (.box t') ∧ tmp a t' = .pointer (some ⟨B, 0, none⟩) ∧ tmp a t = .pointer (some ⟨B, off, none⟩)
  | .ep t' k off g u => ∀ y, alOk T t' k g u = some y → ∃ kd i B len cap, e t = [.int kd i] ∧ hdr w a (T t').tag t' k = some (.slice (some ⟨B, 0, none⟩) len cap) ∧
      0 ≤ i ∧ i < (len : Int) ∧ tmp a t = .pointer (some ⟨B, i.toNat * y.2 + off, none⟩)

/-- What a stretch of text is run in: the memory at its begin, what it may write (O), what is shared, how many slots, whether it has the own memory at hand. -/
structure Fm where
  w0 : World
  O : Nat → Prop
  im0 : Nat → Prop
  n : Nat
  hp : Bool
  et0 : List Nat

structure Base (F : Fm) (gh : Gh) (w : World) : Prop where
  sz : F.w0.heap.size ≤ w.heap.size
  keep : ∀ b, b < F.w0.heap.size → ¬ F.O b → w.heap[b]? = F.w0.heap[b]?
  owned : ∀ b k, gh.ow b = some k → (F.O b ∨ F.w0.heap.size ≤ b) ∧ b < w.heap.size
  imm : ∀ b, gh.im b → gh.ow b = none ∧ b < w.heap.size ∧ (F.im0 b ∨ F.O b ∨ F.w0.heap.size ≤ b)
  im0 : ∀ b, F.im0 b → gh.im b
  et : ∀ (i B : Nat), F.et0[i]? = some B → gh.et[i]? = some B
  et2 : F.hp = false → gh.et = F.et0
  st : SameS F.w0 w

def HeapOk (w : World) (gh : Gh) (e : Env) : Prop :=
  ∃ bs, e HS = [.hp bs] ∧ bs.length = gh.et.length ∧ ∀ (i B : Nat), gh.et[i]? = some B → gh.ow B = some (.heap i) ∧
    ∃ cs vs el, bs[i]? = some (.agg cs) ∧ w.heap[B]? = some (.cells vs.toArray el (0, 0)) ∧ RepL w gh.im gh.et cs vs ∧ (∀ v ∈ vs, v.oneCell' = true)

def RefOk (T : Tags) : Tag → Prop
  | .al t k g u => g ≤ (T t).g ∧ (g = (T t).g → ∀ c, (T t).tag.ck k = some c → u ≤ c.u)
  | .bp t _ g => g ≤ (T t).g
  | .ep t k _ g u => g ≤ (T t).g ∧ (g = (T t).g → ∀ c, (T t).tag.ck k = some c → u ≤ c.u)
  | _ => True

def Tag.holds : Tag → Bool
  | .one _ | .agg _ | .box _ | .tup _ => true
  | _ => false

theorem Tag.holds_ck {x : Tag} {k : Nat} {c : CK} (h : x.ck k = some c) : x.holds = true := by
  cases x <;> first | rfl | simp [Tag.ck] at h

structure TOk (n : Nat) (T : Tags) : Prop where
  ref : ∀ t, RefOk T (T t).tag
  big : ∀ t, n ≤ t → (T t).tag = .dead
  gd : ∀ t s g b, (T t).gd = some (s, g, b) → g ≤ (T s).g
  ck : ∀ t, (T t).tag.holds = true → (T t).gd = none

def Tag.isOne : Tag → Bool | .one _ => true | _ => false

/-- Does a slot's guard hold? -/
def gdOn (T : Tags) (e : Env) : Option (Nat × Nat × Bool) → Prop
  | none => True
  | some (s, g, b) => (T s).g = g ∧ e s = [.bool b] ∧ (T s).tag.isOne = true

structure Rel (F : Fm) (gh : Gh) (T : Tags) (e : Env) (a : Act) (w : World) : Prop where
  base : Base F gh w
  tok : TOk F.n T
  n : a.tmps.size = F.n
  le : F.n ≤ HS
  df : a.defers = []
  slot : ∀ t, gdOn T e (T t).gd → SlotOk w gh T e a t (T t).tag
  hp : F.hp = true → HeapOk w gh e
  nh : F.hp = false → e HS = [.junk]

structure Pers (gh gh' : Gh) (w w' : World) (K : Key → Prop) : Prop where
  stay : Stay w w' gh.im gh'.im gh.et gh'.et
  keep : ∀ b key, gh.ow b = some key → K key → gh'.ow b = some key ∧ w'.heap[b]? = w.heap[b]?

theorem ownsRow_same {w w' : World} {base e size : Nat} {v : Value} {n : Nat} {xs : List Value} (h : w.ownsRow base e size v n xs)
    (hb : ∀ B, v.ownBlock = some B → w'.heap[B]? = w.heap[B]?) : w'.ownsRow base e size v n xs := by
  refine ⟨h.1, ?_⟩
  rcases h.2 with hn | ⟨g, cap, cur, rfl, hg0, hg, rest⟩
  · exact .inl hn
  · exact .inr ⟨g, cap, cur, rfl, hg0, by rw [hb g rfl]; exact hg, rest⟩

section
variable {gh gh' : Gh} {w w' : World} {K : Key → Prop}

theorem OwnOk.mono (P : Pers gh gh' w w' K) {e sz : Nat} {key : Key} {x : AV} {v : Value} (hk : K key) (h : OwnOk w gh e sz key x v) : OwnOk w' gh' e sz key x v := by
  obtain ⟨xs, vs, hx, ho, hr, hz, hb⟩ := h
  exact ⟨xs, vs, hx, ownsRow_same ho (fun B hB => (P.keep B key (hb B hB) hk).2), hr.mono P.stay, hz, fun B hB => (P.keep B key (hb B hB) hk).1⟩

theorem CellOk.mono (P : Pers gh gh' w w' K) {key : Key} {c : CKd} {x : AV} {v : Value} (hk : K key) (h : CellOk w gh key c x v) : CellOk w' gh' key c x v := by
  cases c with
  | dead => trivial
  | v => exact Rep.mono P.stay h
  | own e sz => exact OwnOk.mono P hk h

theorem CellsOk.mono (P : Pers gh gh' w w' K) {kf : Nat → Key} {ks : List CKd} {cs : List AV} {vs : List Value} (hk : ∀ k, K (kf k)) (h : CellsOk w gh kf ks cs vs) : CellsOk w' gh' kf ks cs vs :=
  ⟨h.1, h.2.1, h.2.2.1, fun k c x v h1 h2 h3 => CellOk.mono P (hk k) (h.2.2.2 k c x v h1 h2 h3)⟩

theorem MdOk.mono (P : Pers gh gh' w w' K) {kf : Nat → Key} {m : Md} {x : AV} {v : Value} (hk : ∀ k, K (kf k)) (h : MdOk w gh kf m x v) : MdOk w' gh' kf m x v := by
  cases m with
  | dead => trivial
  | v => exact Rep.mono P.stay h
  | own e sz => exact OwnOk.mono P (hk 0) h
  | agg ks =>
    obtain ⟨cs, vs, hx, hv, hc⟩ := h
    exact ⟨cs, vs, hx, hv, CellsOk.mono P hk hc⟩

theorem SlotOk.mono (P : Pers gh gh' w w' K) {T T' : Tags} {e e' : Env} {a a' : Act} {t : Nat} {tag : Tag} (hkb : K (.box t)) (hko : ∀ i k, K (.own t i k)) (he : e' t = e t) (ha : tmp a' t = tmp a t)
    (hal : ∀ t' k g u y, (tag = .al t' k g u ∨ ∃ off, tag = .ep t' k off g u) → alOk T' t' k g u = some y → alOk T t' k g u = some y ∧ hdr w' a' (T' t').tag t' k = hdr w a (T t').tag t' k)
    (hbp : ∀ t' off g, tag = .bp t' off g → (T' t').g = g → (T t').g = g ∧ tmp a' t' = tmp a t' ∧ (∀ B, gh.ow B = some (.box t') → gh'.ow B = some (.box t')))
    (h : SlotOk w gh T e a t tag) : SlotOk w' gh' T' e' a' t tag := by
  cases tag with
  | dead => trivial
  | one c => obtain ⟨x, hx, hc⟩ := h; exact ⟨x, he.trans hx, by rw [ha]; exact CellOk.mono P (hko 0 0) hc⟩
  | agg ks => obtain ⟨vs, hv, hc⟩ := h; exact ⟨vs, ha.trans hv, by rw [he]; exact CellsOk.mono P (hko 0) hc⟩
  | box ks => obtain ⟨B, vs, el, ho, hv, hb, hc⟩ := h; exact ⟨B, vs, el, (P.keep B _ ho hkb).1, ha.trans hv, ((P.keep B _ ho hkb).2).trans hb, by rw [he]; exact CellsOk.mono P (hko 0) hc⟩
  | tup ms => obtain ⟨xs, vs, hx, hv, h1, h2, hc⟩ := h; exact ⟨xs, vs, he.trans hx, ha.trans hv, h1, h2, fun i m x v a1 a2 a3 => MdOk.mono P (hko i) (hc i m x v a1 a2 a3)⟩
  | al t' k g u => intro y hy; obtain ⟨h1, h2⟩ := hal t' k g u y (.inl rfl) hy; rw [h2, ha]; exact h y h1
  | bp t' off g => intro hg; obtain ⟨h1, h2, h3⟩ := hbp t' off g rfl hg; obtain ⟨B, b1, b2, b3⟩ := h h1; exact ⟨B, h3 B b1, h2.trans b2, ha.trans b3⟩
  | ep t' k off g u =>
    intro y hy
    obtain ⟨h1, h2⟩ := hal t' k g u y (.inr ⟨off, rfl⟩) hy
    obtain ⟨kd, i, B, len, cap, c1, c2, c3, c4, c5⟩ := h y h1
    exact ⟨kd, i, B, len, cap, he.trans c1, h2.trans c2, c3, c4, ha.trans c5⟩

theorem HeapOk.monoK (P : Pers gh gh' w w' K) {e e' : Env} (hk : ∀ i, K (.heap i)) (he : e' HS = e HS) (het : gh'.et = gh.et) (h : HeapOk w gh e) : HeapOk w' gh' e' := by
  obtain ⟨bs, h1, h2, h3⟩ := h
  refine ⟨bs, he.trans h1, by rw [het]; exact h2, fun i B hi => ?_⟩
  rw [het] at hi
  obtain ⟨o, cs, vs, el, c1, c2, c3, c4⟩ := h3 i B hi
  exact ⟨(P.keep B _ o (hk i)).1, cs, vs, el, c1, ((P.keep B _ o (hk i)).2).trans c2, c3.mono P.stay, c4⟩
end

/-- Whether a slot's new tag can follow its old one. -/
def UpOk (o x : Tg) : Prop := o.g < x.g ∨ (o.g = x.g ∧ ∀ k c', x.tag.ck k = some c' → ∃ c, o.tag.ck k = some c ∧ c.u ≤ c'.u)

theorem up_same (T : Tags) (t : Nat) (x : Tg) : (T.up t x) t = x := by simp [Tags.up]
theorem up_other (T : Tags) (t s : Nat) (x : Tg) (h : s ≠ t) : (T.up t x) s = T s := by simp [Tags.up, h]
theorem UpOk.le {o x : Tg} (h : UpOk o x) : o.g ≤ x.g := by rcases h with h | h <;> omega

theorem RefOk.up {T : Tags} {t : Nat} {x : Tg} (h : UpOk (T t) x) {tag : Tag} (r : RefOk T tag) : RefOk (T.up t x) tag := by
  have key : ∀ s k g u, (g ≤ (T s).g ∧ (g = (T s).g → ∀ c, (T s).tag.ck k = some c → u ≤ c.u)) → (g ≤ ((T.up t x) s).g ∧ (g = ((T.up t x) s).g → ∀ c, ((T.up t x) s).tag.ck k = some c → u ≤ c.u)) := by
    intro s k g u ⟨h1, h2⟩
    by_cases hs : s = t
    · subst hs
      rw [up_same]
      have := h.le
      refine ⟨by omega, fun hg c' hc' => ?_⟩
      rcases h with h | ⟨h, hk⟩
      · omega
      · obtain ⟨c, hc, hu⟩ := hk k c' hc'
        have := h2 (by omega) c hc
        omega
    · rw [up_other _ _ _ _ hs]; exact ⟨h1, h2⟩
  cases tag with
  | al s k g u => exact key s k g u r
  | ep s k o g u => exact key s k g u r
  | bp s o g =>
    show g ≤ ((T.up t x) s).g
    by_cases hs : s = t
    · subst hs; rw [up_same]; have := h.le; have r' : g ≤ (T s).g := r; omega
    · rw [up_other _ _ _ _ hs]; exact r
  | _ => trivial

theorem TOk.up {n : Nat} {T : Tags} {t : Nat} {x : Tg} (h : TOk n T) (hu : UpOk (T t) x) (ht : t < n) (hr : RefOk (T.up t x) x.tag)
    (hg : ∀ s g b, x.gd = some (s, g, b) → g ≤ ((T.up t x) s).g) (hc : x.tag.holds = true → x.gd = none) : TOk n (T.up t x) := by
  refine ⟨fun s => ?_, fun s hs => ?_, fun s s' g b hgd => ?_, fun s hk => ?_⟩
  · by_cases e : s = t
    · subst e; rw [up_same]; exact hr
    · rw [up_other _ _ _ _ e]; exact (h.ref s).up hu
  · rw [up_other _ _ _ _ (by omega)]; exact h.big s hs
  · by_cases e : s = t
    · subst e; rw [up_same] at hgd; exact hg s' g b hgd
    · rw [up_other _ _ _ _ e] at hgd
      have := h.gd s s' g b hgd
      by_cases e' : s' = t
      · subst e'; rw [up_same]; have := hu.le; omega
      · rw [up_other _ _ _ _ e']; exact this
  · by_cases e : s = t
    · subst e; rw [up_same] at hk ⊢; exact hc hk
    · rw [up_other _ _ _ _ e] at hk ⊢; exact h.ck s hk

theorem alOk_up {T : Tags} {t t' k g u : Nat} {x : Tg} (h : t' ≠ t) : alOk (T.up t x) t' k g u = alOk T t' k g u := by
  unfold alOk; rw [up_other _ _ _ _ h]

theorem alOk_g {T : Tags} {t k g u : Nat} {y : Nat × Nat} (h : alOk T t k g u = some y) : (T t).g = g ∧ (T t).tag.ck k = some ⟨u, .own y.1 y.2⟩ := by
  unfold alOk at h
  split at h
  · rename_i hg
    split at h
    · rename_i u' e s hc
      split at h
      · rename_i hu; subst hu; simp at h; subst h; exact ⟨hg, hc⟩
      · cases h
    · cases h
  · cases h

theorem alOk_mk {T : Tags} {t k g u e s : Nat} (hg : (T t).g = g) (hc : (T t).tag.ck k = some ⟨u, .own e s⟩) : alOk T t k g u = some (e, s) := by
  unfold alOk; simp [hg, hc]

theorem set_same (e : Env) (t : Nat) (c : List AV) : (e.set t c) t = c := by simp [Env.set]
theorem set_other (e : Env) (t s : Nat) (c : List AV) (h : s ≠ t) : (e.set t c) s = e s := by simp [Env.set, h]

section
variable {F : Fm} {gh gh' : Gh} {T : Tags} {e : Env} {a a' : Act} {w w' : World}

/-- The block of a box slot's header stays as it is, if all that has an owner does. -/
theorem Rel.hdr_keep (R : Rel F gh T e a w) {K : Key → Prop} (P : Pers gh gh' w w' K) {t k g u : Nat} {y : Nat × Nat} (hy : alOk T t k g u = some y) (hk : K (.box t)) (ha : tmp a' t = tmp a t) :
    hdr w' a' (T t).tag t k = hdr w a (T t).tag t k := by
  obtain ⟨_, hc⟩ := alOk_g hy
  have hs := R.slot t (by rw [R.tok.ck t (Tag.holds_ck hc)]; trivial)
  cases htag : (T t).tag with
  | one c => simp only [hdr, ha]
  | agg ks => simp only [hdr, ha]
  | box ks =>
    rw [htag] at hs
    obtain ⟨B, vs, el, ho, hv, hb, _⟩ := hs
    simp only [hdr, ha, hv]
    exact World.cell?_of_block (by rw [Addr.add_block]; exact (P.keep B _ ho hk).2)
  | _ => rfl

/-- One slot is turned; all else stays as it was. -/
theorem Rel.step (R : Rel F gh T e a w) (t : Nat) (x : Tg) (c : List AV)
    (ht : t < F.n) (hn : a'.tmps.size = F.n) (hd : a'.defers = []) (hat : ∀ s, s ≠ t → tmp a' s = tmp a s)
    {K : Key → Prop} (hb : Base F gh' w') (P : Pers gh gh' w w' K) (k1 : ∀ s, s ≠ t → K (.box s)) (k2 : ∀ s i k, s ≠ t → K (.own s i k))
    (hu : UpOk (T t) x) (hr : RefOk (T.up t x) x.tag) (hg : ∀ s g b, x.gd = some (s, g, b) → g ≤ ((T.up t x) s).g) (hc : x.tag.holds = true → x.gd = none)
    (hbool : (T t).g = x.g → x.tag.isOne = true → (T t).tag.isOne = true ∧ ∀ b, c = [.bool b] → e t = [.bool b])
    (hal : ∀ k u y, (T t).g = x.g → (∀ c, (T t).tag.ck k = some c → u ≤ c.u) → alOk (T.up t x) t k x.g u = some y → alOk T t k x.g u = some y ∧ hdr w' a' x.tag t k = hdr w a (T t).tag t k)
    (hbp : (T t).g = x.g → tmp a' t = tmp a t ∧ (∀ B, gh.ow B = some (.box t) → gh'.ow B = some (.box t)))
    (hs : gdOn (T.up t x) (e.set t c) x.gd → SlotOk w' gh' (T.up t x) (e.set t c) a' t x.tag)
    (het : F.hp = true → HeapOk w' gh' (e.set t c)) :
    Rel F gh' (T.up t x) (e.set t c) a' w' := by
  refine ⟨hb, R.tok.up hu ht hr hg hc, hn, R.le, hd, fun s hgs => ?_, het, fun h => by have := R.le; rw [set_other _ _ _ _ (by omega)]; exact R.nh h⟩
  by_cases hst : s = t
  · subst hst; rw [up_same] at hgs ⊢; exact hs hgs
  · rw [up_other _ _ _ _ hst] at hgs ⊢
    have hgs' : gdOn T e (T s).gd := by
      cases hgd : (T s).gd with
      | none => trivial
      | some q =>
        obtain ⟨s', g, b⟩ := q
        rw [hgd] at hgs
        obtain ⟨h1, h2, h3⟩ := hgs
        by_cases e' : s' = t
        · subst e'
          rw [up_same] at h1 h3; rw [set_same] at h2
          have := R.tok.gd s s' g b hgd
          have hle := hu.le
          obtain ⟨p1, p2⟩ := hbool (by omega) h3
          exact ⟨by omega, p2 b h2, p1⟩
        · rw [up_other _ _ _ _ e'] at h1 h3; rw [set_other _ _ _ _ e'] at h2; exact ⟨h1, h2, h3⟩
    have hso := R.slot s hgs'
    refine SlotOk.mono P (k1 s hst) (fun i k => k2 s i k hst) (set_other _ _ _ _ hst) (hat s hst) ?_ ?_ hso
    · intro t' k g u y htag hy
      by_cases e' : t' = t
      · subst e'
        have hg1 := (alOk_g hy).1
        rw [up_same] at hg1
        have hro := R.tok.ref s
        have hle : g ≤ (T t').g := by rcases htag with h | ⟨off, h⟩ <;> rw [h] at hro <;> exact hro.1
        have hxe : (T t').g = x.g := by have := hu.le; omega
        have hgx : g = x.g := by omega
        subst hgx
        have hub : ∀ c, (T t').tag.ck k = some c → u ≤ c.u := by rcases htag with h | ⟨off, h⟩ <;> rw [h] at hro <;> exact hro.2 (by omega)
        obtain ⟨q1, q2⟩ := hal k u y hxe hub hy
        rw [up_same]
        exact ⟨q1, q2⟩
      · rw [alOk_up e'] at hy
        refine ⟨hy, ?_⟩
        rw [up_other _ _ _ _ e']
        exact R.hdr_keep P hy (k1 t' e') (hat t' e')
    · intro t' off g htag hg1
      by_cases e' : t' = t
      · subst e'
        rw [up_same] at hg1
        have hro := R.tok.ref s
        rw [htag] at hro
        have hle : g ≤ (T t').g := hro
        have hxe : (T t').g = x.g := by have := hu.le; omega
        obtain ⟨q1, q2⟩ := hbp hxe
        exact ⟨by omega, q1, q2⟩
      · rw [up_other _ _ _ _ e'] at hg1
        exact ⟨hg1, hat t' e', fun B hB => (P.keep B _ hB (k1 t' e')).1⟩

/-- Memory changes where nobody looks, or more is shared. -/
theorem Rel.world (R : Rel F gh T e a w) {K : Key → Prop} (hb : Base F gh' w') (P : Pers gh gh' w w' K) (het : gh'.et = gh.et) (k1 : ∀ t, K (.box t)) (k2 : ∀ t i k, K (.own t i k))
    (k3 : F.hp = true → ∀ i, K (.heap i)) : Rel F gh' T e a w' := by
  refine ⟨hb, R.tok, R.n, R.le, R.df, fun s hgs => ?_, fun h => (R.hp h).monoK P (k3 h) rfl het, R.nh⟩
  refine SlotOk.mono P (k1 s) (k2 s) rfl rfl ?_ ?_ (R.slot s hgs)
  · intro t' k g u y _ hy; exact ⟨hy, R.hdr_keep P hy (k1 t') rfl⟩
  · intro t' off g _ hg; exact ⟨hg, rfl, fun B hB => (P.keep B _ hB (k1 t')).1⟩

end

/-- Owners are named anew; what has none any more is shared from now on. -/
def Gh.ren (gh : Gh) (ρ : Key → Option Key) : Gh :=
  { ow := fun b => (gh.ow b).bind ρ, im := fun b => gh.im b ∨ ∃ key, gh.ow b = some key ∧ ρ key = none, et := gh.et }

section
variable {F : Fm} {gh gh' : Gh} {T : Tags} {e : Env} {a a' : Act} {w w' : World}

theorem Base.ren (h : Base F gh w) (ρ : Key → Option Key) : Base F (gh.ren ρ) w := by
  refine ⟨h.sz, h.keep, fun b k hk => ?_, fun b hb => ?_, fun b hb => .inl (h.im0 b hb), h.et, h.et2, h.st⟩
  · simp only [Gh.ren, Option.bind_eq_some_iff] at hk
    obtain ⟨k', hk', _⟩ := hk
    exact h.owned b k' hk'
  · rcases hb with hb | ⟨key, hk, hr⟩
    · obtain ⟨h1, h2, h3⟩ := h.imm b hb
      exact ⟨by simp [Gh.ren, h1], h2, h3⟩
    · obtain ⟨h1, h2⟩ := h.owned b key hk
      exact ⟨by simp [Gh.ren, hk, hr], h2, .inr h1⟩

theorem Pers.ren (gh : Gh) (w : World) (ρ : Key → Option Key) (K : Key → Prop) (hK : ∀ key, K key → ρ key = some key) : Pers gh (gh.ren ρ) w w K :=
  ⟨⟨fun _ h => .inl h, fun _ _ => rfl, fun _ _ h => h⟩, fun b key hb hk => ⟨by simp [Gh.ren, hb, hK key hk], rfl⟩⟩

/-- An own slice that is shared from now on. -/
theorem OwnOk.toRep {ρ : Key → Option Key} {e sz : Nat} {key : Key} {x : AV} {v : Value} (h : OwnOk w gh e sz key x v) (hr : ρ key = none) : Rep w (gh.ren ρ).im gh.et x v := by
  obtain ⟨xs, vs, hx, ho, hre, hz, hb⟩ := h
  have S : Stay w w gh.im (gh.ren ρ).im gh.et gh.et := ⟨fun _ h => .inl h, fun _ _ => rfl, fun _ _ h => h⟩
  rcases hx with ⟨rfl, ad, l, c, rfl⟩ | ⟨rfl, rfl, rfl⟩
  case inr => exact .nil
  rcases ho.2 with ⟨h0, hn⟩ | ⟨g, cap, cur, h1, _, hg, hc, _, hcs, htk⟩
  · cases h0
  · cases h1
    refine .sl xs ⟨g, 0, none⟩ _ sz vs (hre.mono S) hc (fun _ => .inr ⟨key, hb g rfl, hr⟩) (fun j u hu => ?_)
    exact ho.cells (g := g) rfl j u hu

/-- How a cell's kind may turn when owners are named anew. -/
inductive KLe (ρ : Key → Option Key) (key : Key) : CKd → CKd → Prop
  | v : KLe ρ key .v .v
  | keep (e s : Nat) (h : ρ key = some key) : KLe ρ key (.own e s) (.own e s)
  | fr (e s : Nat) (h : ρ key = none) : KLe ρ key (.own e s) .v
  | dead (c : CKd) : KLe ρ key c .dead

theorem CellOk.ren {ρ : Key → Option Key} {key : Key} {c c' : CKd} {x : AV} {v : Value} (h : CellOk w gh key c x v) (hk : KLe ρ key c c') : CellOk w (gh.ren ρ) key c' x v := by
  have S : Stay w w gh.im (gh.ren ρ).im gh.et gh.et := ⟨fun _ h => .inl h, fun _ _ => rfl, fun _ _ h => h⟩
  cases hk with
  | v => exact Rep.mono S h
  | keep e s hr =>
    obtain ⟨xs, vs, hx, ho, hre, hz, hb⟩ := h
    exact ⟨xs, vs, hx, ho, hre.mono S, hz, fun B hB => by simp [Gh.ren, hb B hB, hr]⟩
  | fr e s hr => exact OwnOk.toRep h hr
  | dead => trivial

theorem CellsOk.ren {ρ : Key → Option Key} {kf : Nat → Key} {ks ks' : List CKd} {cs : List AV} {vs : List Value} (h : CellsOk w gh kf ks cs vs) (hl : ks'.length = ks.length)
    (hk : ∀ (k : Nat) (c' : CKd), ks'[k]? = some c' → ∃ c, ks[k]? = some c ∧ KLe ρ (kf k) c c') : CellsOk w (gh.ren ρ) kf ks' cs vs := by
  refine ⟨h.1.trans hl.symm, h.2.1.trans hl.symm, h.2.2.1, fun k c' x v h1 h2 h3 => ?_⟩
  obtain ⟨c, hc, hle⟩ := hk k c' h1
  exact (h.2.2.2 k c x v hc h2 h3).ren hle

/-- A slot's tag turned, its place and its contents kept. -/
inductive TagLe (ρ : Key → Option Key) (t : Nat) : Tag → Tag → Prop
  | dead (x : Tag) : TagLe ρ t x .dead
  | one (c c' : CK) (hu : c.u = c'.u) (h : KLe ρ (.own t 0 0) c.k c'.k) : TagLe ρ t (.one c) (.one c')
  | agg (ks ks' : List CK) (hl : ks'.length = ks.length) (h : ∀ (k : Nat) (c' : CK), ks'[k]? = some c' → ∃ c, ks[k]? = some c ∧ c.u = c'.u ∧ KLe ρ (.own t 0 k) c.k c'.k) : TagLe ρ t (.agg ks) (.agg ks')
  | box (ks ks' : List CK) (hl : ks'.length = ks.length) (h : ∀ (k : Nat) (c' : CK), ks'[k]? = some c' → ∃ c, ks[k]? = some c ∧ c.u = c'.u ∧ KLe ρ (.own t 0 k) c.k c'.k) : TagLe ρ t (.box ks) (.box ks')

theorem map_k {ks : List CK} {k : Nat} {c : CKd} (h : (ks.map CK.k)[k]? = some c) : ∃ c0, ks[k]? = some c0 ∧ c0.k = c := by
  simpa [List.getElem?_map] using h

theorem TagLe.ck {ρ : Key → Option Key} {t : Nat} {x x' : Tag} (h : TagLe ρ t x x') {k : Nat} {c' : CK} (hc : x'.ck k = some c') : ∃ c, x.ck k = some c ∧ c.u = c'.u ∧ KLe ρ (.own t 0 k) c.k c'.k := by
  cases h with
  | dead => simp [Tag.ck] at hc
  | one c c0 hu h =>
    cases k with
    | zero => simp [Tag.ck] at hc; subst hc; exact ⟨c, rfl, hu, h⟩
    | succ k => simp [Tag.ck] at hc
  | agg ks ks' hl h => exact h k c' hc
  | box ks ks' hl h => exact h k c' hc

theorem TagLe.holds {ρ : Key → Option Key} {t : Nat} {x x' : Tag} (h : TagLe ρ t x x') (hh : x'.holds = true) : x.holds = true := by cases h <;> first | rfl | cases hh

theorem TagLe.isOne {ρ : Key → Option Key} {t : Nat} {x x' : Tag} (h : TagLe ρ t x x') (hh : x'.isOne = true) : x.isOne = true := by cases h <;> first | rfl | cases hh

theorem TagLe.ref {ρ : Key → Option Key} {t : Nat} {x x' : Tag} (h : TagLe ρ t x x') (T' : Tags) : RefOk T' x' := by cases h <;> trivial

theorem Rel.retag (R : Rel F gh T e a w) (t : Nat) (x : Tag) (ρ : Key → Option Key) (ht : t < F.n) (hρ : ∀ key, ¬ about t key → ρ key = some key) (hbx : ρ (.box t) = some (.box t))
    (hle : TagLe ρ t (T t).tag x) (hgd : (T t).gd = none ∨ x = .dead) : Rel F (gh.ren ρ) (T.up t ⟨(T t).g, x, (T t).gd⟩) e a w := by
  have hset : e.set t (e t) = e := by funext s; by_cases h : s = t <;> simp [Env.set, h]
  have P := Pers.ren gh w ρ (fun key => ¬ about t key) hρ
  have key := R.step (gh' := gh.ren ρ) (a' := a) (w' := w) t ⟨(T t).g, x, (T t).gd⟩ (e t) ht R.n R.df (fun _ _ => rfl) (R.base.ren ρ) P (fun s h => by simpa [about] using h) (fun s i k h => by simpa [about] using h)
    (.inr ⟨rfl, fun k c' hc' => by obtain ⟨c, h1, h2, _⟩ := hle.ck hc'; exact ⟨c, h1, by omega⟩⟩)
    (hle.ref _)
    (fun s g b h => by
      have := R.tok.gd t s g b h
      by_cases e' : s = t
      · subst e'; rw [up_same]; exact this
      · rw [up_other _ _ _ _ e']; exact this)
    (fun hh => R.tok.ck t (hle.holds hh))
    (fun _ h => ⟨hle.isOne h, fun b h => h⟩)
    (fun k u y _ _ hy => by
      obtain ⟨_, hck⟩ := alOk_g hy
      rw [up_same] at hck
      obtain ⟨c, h1, h2, h3⟩ := hle.ck hck
      have : c.k = .own y.1 y.2 := by cases hck' : c.k <;> rw [hck'] at h3 <;> cases h3 <;> rfl
      have hc : c = ⟨u, .own y.1 y.2⟩ := by cases c; simp_all
      refine ⟨alOk_mk rfl (hc ▸ h1), ?_⟩
      show hdr w a x t k = hdr w a (T t).tag t k
      have hck' : x.ck k = some ⟨u, .own y.1 y.2⟩ := hck
      clear hck hy h1 h2 h3
      revert hle
      generalize (T t).tag = y0
      intro hle
      cases hle with
      | dead => simp [Tag.ck] at hck'
      | one => rfl
      | agg => rfl
      | box => rfl)
    (fun _ => ⟨rfl, fun B hB => by simp [Gh.ren, hB, hbx]⟩)
    (by
      rw [hset]
      intro hg
      have hg' : gdOn T e (T t).gd := by
        rcases hgd with h | h
        · rw [h]; trivial
        · subst h
          simp only at hg
          cases hq : (T t).gd with
          | none => trivial
          | some q =>
            obtain ⟨s, g, b⟩ := q
            rw [hq] at hg
            obtain ⟨h1, h2, h3⟩ := hg
            refine ⟨?_, h2, ?_⟩
            · by_cases e' : s = t
              · subst e'; rw [up_same] at h1; exact h1
              · rw [up_other _ _ _ _ e'] at h1; exact h1
            · by_cases e' : s = t
              · subst e'; rw [up_same] at h3; cases h3
              · rw [up_other _ _ _ _ e'] at h3; exact h3
      have hs := R.slot t hg'
      show SlotOk w (gh.ren ρ) _ e a t x
      revert hs hle
      generalize (T t).tag = y0
      intro hle hs
      cases hle with
      | dead => trivial
      | one c c' hu h => obtain ⟨z, hz, hc⟩ := hs; exact ⟨z, hz, hc.ren h⟩
      | agg ks ks' hl h =>
        obtain ⟨vs, hv, hc⟩ := hs
        exact ⟨vs, hv, hc.ren (by simp [hl]) (fun k c' hk => by
          obtain ⟨c0, q1, q2⟩ := map_k hk
          obtain ⟨c, p1, p2, p3⟩ := h k c0 q1
          exact ⟨c.k, by simp [List.getElem?_map, p1], q2 ▸ p3⟩)⟩
      | box ks ks' hl h =>
        obtain ⟨B, vs, el, ho, hv, hb, hc⟩ := hs
        exact ⟨B, vs, el, by simp [Gh.ren, ho, hbx], hv, hb, hc.ren (by simp [hl]) (fun k c' hk => by
          obtain ⟨c0, q1, q2⟩ := map_k hk
          obtain ⟨c, p1, p2, p3⟩ := h k c0 q1
          exact ⟨c.k, by simp [List.getElem?_map, p1], q2 ▸ p3⟩)⟩)
    (fun hp => by rw [hset]; exact (R.hp hp).monoK P (fun i => by simp [about]) rfl rfl)
  rwa [hset] at key

end

theorem tmp_put_same (a : Act) (d : Nat) (v : Value) (h : d < a.tmps.size) : tmp (a.put (some d) v) d = v := by
  simp [tmp, Act.put, Array.getD, h]
theorem tmp_put_other (a : Act) (d s : Nat) (v : Value) (h : s ≠ d) : tmp (a.put (some d) v) s = tmp a s := by
  simp only [tmp, Act.put, Array.getD_eq_getD_getElem?]
  rw [Array.getElem?_setIfInBounds_ne (Ne.symm h)]
theorem put_size (a : Act) (d : Option Nat) (v : Value) : (a.put d v).tmps.size = a.tmps.size := by cases d <;> simp [Act.put]
theorem put_defers (a : Act) (d : Option Nat) (v : Value) : (a.put d v).defers = a.defers := by cases d <;> simp [Act.put]

section
variable {F : Fm} {gh gh' : Gh} {T : Tags} {e : Env} {a : Act} {w w' : World}

def offSlot (d : Nat) : Key → Prop
  | .box s => s ≠ d
  | .own s _ _ => s ≠ d
  | .heap _ => True
  | .arg _ _ => False

/-- A value is put into a slot. -/
theorem Rel.put (R : Rel F gh T e a w) (d : Nat) (hd : d < F.n) (tag : Tag) (gd : Option (Nat × Nat × Bool)) (c : List AV) (v : Value)
    (hb : Base F gh' w') (P : Pers gh gh' w w' (offSlot d)) (het : gh'.et = gh.et)
    (hr : RefOk T tag) (hg : ∀ s g b, gd = some (s, g, b) → g ≤ (T s).g) (hc : tag.holds = true → gd = none)
    (hs : gdOn (T.up d ⟨(T d).g + 1, tag, gd⟩) (e.set d c) gd → SlotOk w' gh' (T.up d ⟨(T d).g + 1, tag, gd⟩) (e.set d c) (a.put (some d) v) d tag) :
    Rel F gh' (T.up d ⟨(T d).g + 1, tag, gd⟩) (e.set d c) (a.put (some d) v) w' := by
  have hu : UpOk (T d) ⟨(T d).g + 1, tag, gd⟩ := .inl (Nat.lt_succ_self _)
  have hdn : d ≠ HS := by have := R.le; omega
  refine R.step d ⟨(T d).g + 1, tag, gd⟩ c hd (by rw [put_size]; exact R.n) (by rw [put_defers]; exact R.df) (fun s h => tmp_put_other a d s v h) hb P
    (fun s h => h) (fun s i k h => h) hu (hr.up hu) (fun s g b h => ?_) hc (fun h => by simp at h) (fun k u y h => by simp at h) (fun h => by simp at h) hs
    (fun hp => (R.hp hp).monoK P (fun i => trivial) (set_other _ _ _ _ (Ne.symm hdn)) het)
  have := hg s g b h
  by_cases e' : s = d
  · subst e'; rw [up_same]; simp; omega
  · rw [up_other _ _ _ _ e']; exact this

theorem Pers.refl (gh : Gh) (w : World) (K : Key → Prop) : Pers gh gh w w K := ⟨Stay.refl _ _ _, fun _ _ h _ => ⟨h, rfl⟩⟩

theorem Rel.putV (R : Rel F gh T e a w) (d : Nat) (hd : d < F.n) (x : AV) (v : Value) (hv : Rep w gh.im gh.et x v) :
    Rel F gh (T.up d ⟨(T d).g + 1, vT, none⟩) (e.set d [x]) (a.put (some d) v) w :=
  R.put d hd vT none [x] v R.base (Pers.refl _ _ _) rfl trivial (fun _ _ _ h => by cases h) (fun _ => rfl)
    (fun _ => ⟨x, set_same _ _ _, by rw [tmp_put_same a d v (by rw [R.n]; exact hd)]; exact hv⟩)

end

end Tr

namespace Tr
open Go

/-- What may become of the owners while operands are settled. -/
structure GS (gh gh' : Gh) : Prop where
  et : gh'.et = gh.et
  im : ∀ b, gh.im b → gh'.im b
  arg : ∀ b i k, gh.ow b = some (.arg i k) → gh'.ow b = some (.arg i k)

theorem GS.refl (gh : Gh) : GS gh gh := ⟨rfl, fun _ h => h, fun _ _ _ h => h⟩
theorem GS.trans {a b c : Gh} (h : GS a b) (k : GS b c) : GS a c := ⟨k.et.trans h.et, fun x hx => k.im x (h.im x hx), fun x i j hx => k.arg x i j (h.arg x i j hx)⟩
theorem GS.stay {gh gh' : Gh} (h : GS gh gh') (w : World) : Stay w w gh.im gh'.im gh.et gh'.et := ⟨h.im, fun _ _ => rfl, fun i B hb => by rw [h.et]; exact hb⟩

theorem GS.ren (gh : Gh) (ρ : Key → Option Key) (h : ∀ i k, ρ (.arg i k) = some (.arg i k)) : GS gh (gh.ren ρ) :=
  ⟨rfl, fun _ hb => .inl hb, fun b i k hb => by simp [Gh.ren, hb, h]⟩

theorem OwnOk.gs {w : World} {gh gh' : Gh} (S : GS gh gh') {e sz i k : Nat} {x : AV} {v : Value} (h : OwnOk w gh e sz (.arg i k) x v) : OwnOk w gh' e sz (.arg i k) x v := by
  obtain ⟨xs, vs, hx, ho, hr, hz, hb⟩ := h
  exact ⟨xs, vs, hx, ho, hr.mono (S.stay w), hz, fun B hB => S.arg B i k (hb B hB)⟩

/-- What reads so at this moment. -/
def Rd (w : World) (gh : Gh) (x : AV) (v : Value) : Prop := Rep w (fun b => b < w.heap.size) gh.et x v

/-- What is shared is there. -/
def ImB (w : World) (gh : Gh) : Prop := ∀ b, gh.im b → b < w.heap.size

theorem Rep.rd {w : World} {gh : Gh} (hb : ImB w gh) {x : AV} {v : Value} (h : Rep w gh.im gh.et x v) : Rd w gh x v := Rep.mono ⟨hb, fun _ _ => rfl, fun _ _ h => h⟩ h
theorem RepL.rd {w : World} {gh : Gh} (hb : ImB w gh) {x : List AV} {v : List Value} (h : RepL w gh.im gh.et x v) : RepL w (fun b => b < w.heap.size) gh.et x v := RepL.mono ⟨hb, fun _ _ => rfl, fun _ _ h => h⟩ h

theorem OwnOk.rd {w : World} {gh : Gh} (hb : ImB w gh) {e sz : Nat} {key : Key} {x : AV} {v : Value} (h : OwnOk w gh e sz key x v) : Rd w gh x v := by
  obtain ⟨xs, vs, hx, ho, hre, hz, _⟩ := h
  have S : Stay w w gh.im (fun b => b < w.heap.size) gh.et gh.et := ⟨hb, fun _ _ => rfl, fun _ _ h => h⟩
  rcases hx with ⟨rfl, ad, l, c, rfl⟩ | ⟨rfl, rfl, rfl⟩
  case' inr => exact .nil
  rcases ho.2 with ⟨h0, hn⟩ | ⟨g, cap, cur, h1, _, hg, hc, _, hcs, htk⟩
  · cases h0
  · cases h1
    refine .sl xs ⟨g, 0, none⟩ _ sz vs (hre.mono S) hc (fun _ => (Array.getElem?_eq_some_iff.1 hg).1) (fun j u hu => ?_)
    exact ho.cells (g := g) rfl j u hu

theorem CellOk.rd {w : World} {gh : Gh} (hb : ImB w gh) {key : Key} {c : CKd} {x : AV} {v : Value} (h : CellOk w gh key c x v) (hl : c.live = true) : Rd w gh x v := by
  cases c with
  | dead => cases hl
  | v => exact Rep.rd hb h
  | own e s => exact OwnOk.rd hb h

theorem repL_of {w : World} {im : Nat → Prop} {et : List Nat} : ∀ {cs : List AV} {vs : List Value}, cs.length = vs.length → (∀ (k : Nat) (x : AV) (v : Value), cs[k]? = some x → vs[k]? = some v → Rep w im et x v) → RepL w im et cs vs
  | [], [], _, _ => .nil
  | x :: xs, v :: vs, hl, h => .cons x xs v vs (h 0 x v rfl rfl) (repL_of (by simpa using hl) (fun k x v h1 h2 => h (k + 1) x v (by simpa using h1) (by simpa using h2)))

theorem CellsOk.rd {w : World} {gh : Gh} (hb : ImB w gh) {kf : Nat → Key} {ks : List CKd} {cs : List AV} {vs : List Value} (h : CellsOk w gh kf ks cs vs) (hl : ks.all CKd.live = true) : RepL w (fun b => b < w.heap.size) gh.et cs vs := by
  refine repL_of (h.1.trans h.2.1.symm) (fun k x v h1 h2 => ?_)
  have hk : k < ks.length := by have := (List.getElem?_eq_some_iff.1 h1).1; have h0 := h.1; omega
  have hc : ks[k]? = some ks[k] := List.getElem?_eq_getElem hk
  exact (h.2.2.2 k _ x v hc h1 h2).rd hb (List.all_eq_true.1 hl _ (List.getElem_mem hk))

theorem CellsOk.v {w : World} {gh : Gh} {kf : Nat → Key} {ks : List CKd} {cs : List AV} {vs : List Value} (h : CellsOk w gh kf ks cs vs) (hl : ks.all CKd.isV = true) : RepL w gh.im gh.et cs vs := by
  refine repL_of (h.1.trans h.2.1.symm) (fun k x v h1 h2 => ?_)
  have hk : k < ks.length := by have := (List.getElem?_eq_some_iff.1 h1).1; have h0 := h.1; omega
  have hc : ks[k]? = some ks[k] := List.getElem?_eq_getElem hk
  have hv := List.all_eq_true.1 hl _ (List.getElem_mem hk)
  have := h.2.2.2 k _ x v hc h1 h2
  cases hq : ks[k] <;> rw [hq] at hv this
  · cases hv
  · exact this
  · cases hv

theorem CR.ev_val {R : Type} (e : Env) (x : CR) (k : AV → Option R) : x.ev e k = (x.val e).bind k := by
  cases x with
  | c t => simp only [CR.ev, CR.val]; cases e t <;> rfl
  | _ => rfl

theorem cvV_rep {w : World} {im : Nat → Prop} {et : List Nat} {b : Bool} {v : Value} {x : AV} (h : cvV b v = some x) : Rep w im et x v := by
  unfold cvV at h
  split at h
  · cases h; exact .bool _
  · cases h; exact .int _ _
  · rename_i s
    cases h
    have : s = ⟨s.data.toList.toArray⟩ := by simp
    conv => rhs; rw [this]
    exact .str _
  · cases h; exact .nil
  · cases h; exact .nilp
  · cases h; exact .nilf
  · cases h

section
variable {F : Fm} {gh : Gh} {T : Tags} {e : Env} {a : Act} {w : World} {hn : Hn} {gd : Option (Nat × Nat × Bool)}

theorem Rel.imB (R : Rel F gh T e a w) : ImB w gh := fun b hb => (R.base.imm b hb).2.1

theorem tagAt_slot (R : Rel F gh T e a w) (hg : gdOn T e gd) {t : Nat} (hl : tagAt T gd t ≠ .dead) : tagAt T gd t = (T t).tag ∧ SlotOk w gh T e a t (T t).tag := by
  unfold tagAt at hl ⊢
  cases hq : (T t).gd with
  | none => simp only []; exact ⟨trivial, R.slot t (by rw [hq]; trivial)⟩
  | some q =>
    obtain ⟨s, g, b⟩ := q
    simp only [hq] at hl ⊢
    cases gd with
    | none => simp at hl
    | some q' =>
      obtain ⟨s', g', b'⟩ := q'
      simp only at hl ⊢
      split at hl
      · rename_i hc
        obtain ⟨rfl, rfl, rfl⟩ := hc
        simp only [and_self, if_true]
        exact ⟨trivial, R.slot t (by rw [hq]; exact hg)⟩
      · exact absurd rfl hl

theorem Rel.lt (R : Rel F gh T e a w) {t : Nat} (h : (T t).tag ≠ .dead) : t < F.n := by
  rcases Nat.lt_or_ge t F.n with h' | h'
  · exact h'
  · exact absurd (R.tok.big t h') h

theorem eval_tmp (a : Act) (t : Nat) : a.eval (.tmp t) = tmp a t := rfl

/-- The header that an alias stands for. -/
theorem alOk_own (R : Rel F gh T e a w) {t k g u : Nat} {y : Nat × Nat} (hy : alOk T t k g u = some y) :
    ∃ x v, (crAt T t k).val e = some x ∧ hdr w a (T t).tag t k = some v ∧ OwnOk w gh y.1 y.2 (.own t 0 k) x v := by
  obtain ⟨_, hc⟩ := alOk_g hy
  have hs := R.slot t (by rw [R.tok.ck t (Tag.holds_ck hc)]; trivial)
  unfold crAt
  cases htag : (T t).tag with
  | one c =>
    rw [htag] at hc hs
    cases k with
    | zero =>
      simp [Tag.ck] at hc
      subst hc
      obtain ⟨x, hx, ho⟩ := hs
      exact ⟨x, tmp a t, by simp [CR.val, hx], by simp [hdr], ho⟩
    | succ k => simp [Tag.ck] at hc
  | agg ks =>
    rw [htag] at hc hs
    obtain ⟨vs, hv, hcs⟩ := hs
    have hc' : ks[k]? = some ⟨u, .own y.1 y.2⟩ := hc
    have hk := (List.getElem?_eq_some_iff.1 hc').1
    have h1 : k < (e t).length := by have := hcs.1; simp at this; omega
    have h2 : k < vs.length := by have := hcs.2.1; simp at this; omega
    have := hcs.2.2.2 k (.own y.1 y.2) (e t)[k] vs[k] (by simp [List.getElem?_map, hc']) (List.getElem?_eq_getElem h1) (List.getElem?_eq_getElem h2)
    exact ⟨(e t)[k], vs[k], by simp [CR.val, h1], by simp [hdr, hv, h2], this⟩
  | box ks =>
    rw [htag] at hc hs
    obtain ⟨B, vs, el, ho, hv, hb, hcs⟩ := hs
    have hc' : ks[k]? = some ⟨u, .own y.1 y.2⟩ := hc
    have hk := (List.getElem?_eq_some_iff.1 hc').1
    have h1 : k < (e t).length := by have := hcs.1; simp at this; omega
    have h2 : k < vs.length := by have := hcs.2.1; simp at this; omega
    have := hcs.2.2.2 k (.own y.1 y.2) (e t)[k] vs[k] (by simp [List.getElem?_map, hc']) (List.getElem?_eq_getElem h1) (List.getElem?_eq_getElem h2)
    refine ⟨(e t)[k], vs[k], by simp [CR.val, h1], ?_, this⟩
    simp only [hdr, hv, Addr.add_lit, Nat.zero_add]
    rw [cell_of_row w B k vs.toArray el (0, 0) hb]
    simp [h2]
  | _ => rw [htag] at hc; simp [Tag.ck] at hc

theorem rdO_sound (R : Rel F gh T e a w) (hg : gdOn T e gd) {x : Operand} {cr : CR} {tr : List Nat} (h : rdO hn T gd x = some (cr, tr)) {av : AV} (hv : cr.val e = some av) : Rd w gh av (a.eval x) := by
  unfold rdO at h
  cases x with
  | const v =>
    simp only [Option.bind_eq_some_iff] at h
    obtain ⟨z, hz, h⟩ := h
    cases h
    simp [CR.val] at hv
    subst hv
    exact cvV_rep hz
  | func f =>
    cases h
    simp [CR.val] at hv
    subst hv
    exact .fn f [] [] [] [] .nil .nil
  | global g => cases h
  | tmp t =>
    simp only at h
    rw [eval_tmp]
    cases htag : tagAt T gd t with
    | one c =>
      rw [htag] at h
      obtain ⟨h1, h2⟩ := tagAt_slot R hg (t := t) (by rw [htag]; simp)
      rw [← h1, htag] at h2
      simp only at h
      split at h
      · rename_i hl
        cases h
        obtain ⟨z, hz, ho⟩ := h2
        simp [CR.val, hz] at hv
        subst hv
        exact ho.rd R.imB hl
      · cases h
    | agg ks =>
      rw [htag] at h
      obtain ⟨h1, h2⟩ := tagAt_slot R hg (t := t) (by rw [htag]; simp)
      rw [← h1, htag] at h2
      simp only at h
      split at h
      · rename_i hl
        cases h
        obtain ⟨vs, hvs, ho⟩ := h2
        simp [CR.val] at hv
        subst hv
        rw [hvs]
        exact .agg _ vs (ho.rd R.imB (by simpa [List.all_map] using hl)) ho.2.2.1
      · cases h
    | al t' k g u =>
      rw [htag] at h
      obtain ⟨h1, h2⟩ := tagAt_slot R hg (t := t) (by rw [htag]; simp)
      rw [← h1, htag] at h2
      simp only [Option.bind_eq_some_iff] at h
      obtain ⟨y, hy, h⟩ := h
      cases h
      obtain ⟨x, v, c1, c2, c3⟩ := alOk_own R hy
      have := h2 y hy
      rw [c2] at this
      cases this
      rw [c1] at hv
      cases hv
      exact c3.rd R.imB
    | _ => rw [htag] at h; cases h

theorem rdV_sound (R : Rel F gh T e a w) (hg : gdOn T e gd) {x : Operand} {cr : CR} {tr : List Nat} (h : rdV hn T gd x = some (cr, tr)) {av : AV} (hv : cr.val e = some av) : Rep w gh.im gh.et av (a.eval x) := by
  unfold rdV at h
  cases x with
  | const v =>
    simp only [Option.bind_eq_some_iff] at h
    obtain ⟨z, hz, h⟩ := h
    cases h
    simp [CR.val] at hv
    subst hv
    exact cvV_rep hz
  | func f =>
    cases h
    simp [CR.val] at hv
    subst hv
    exact .fn f [] [] [] [] .nil .nil
  | global g => cases h
  | tmp t =>
    simp only at h
    rw [eval_tmp]
    cases htag : tagAt T gd t with
    | one c =>
      rw [htag] at h
      obtain ⟨h1, h2⟩ := tagAt_slot R hg (t := t) (by rw [htag]; simp)
      rw [← h1, htag] at h2
      simp only at h
      split at h
      · rename_i hl
        cases h
        obtain ⟨z, hz, ho⟩ := h2
        simp [CR.val, hz] at hv
        subst hv
        cases hk : c.k with
        | v => rw [hk] at ho; exact ho
        | _ => simp [CK.isV, hk, CKd.isV] at hl
      · cases h
    | _ => rw [htag] at h; cases h

/-- Naming a place's own slices anew: those that are shared (none), those that are taken over (some arg). -/
noncomputable def rn (P : Key → Prop) (to : Option Key) : Key → Option Key := fun key => open Classical in if P key then to else some key

theorem rn_in {P : Key → Prop} {to : Option Key} {key : Key} (h : P key) : rn P to key = to := by simp [rn, h]
theorem rn_out {P : Key → Prop} {to : Option Key} {key : Key} (h : ¬ P key) : rn P to key = some key := by simp [rn, h]

/-- The own slices of a slot. -/
def ownsOf (t : Nat) : Key → Prop
  | .own s _ _ => s = t
  | _ => False

theorem kle_fr (t k : Nat) (c : CK) : KLe (rn (ownsOf t) none) (.own t 0 k) c.k (frK c).k := by
  cases hk : c.k with
  | dead => simp [frK, hk]; exact .dead _
  | v => simp [frK, hk]; exact .v
  | own e s => simp [frK, hk]; exact .fr e s (rn_in (by simp [ownsOf]))

theorem frK_u (c : CK) : (frK c).u = c.u := by unfold frK; split <;> rfl
theorem ddK_u (c : CK) : (ddK c).u = c.u := by unfold ddK; split <;> rfl
theorem frK_v {c : CK} (h : c.k.live = true) : (frK c).k = .v := by
  cases hk : c.k <;> simp [frK, hk] <;> simp [hk, CKd.live] at h

theorem tag_fr_all (t : Nat) (ks : List CK) : ∀ (k : Nat) (c' : CK), (ks.map frK)[k]? = some c' → ∃ c, ks[k]? = some c ∧ c.u = c'.u ∧ KLe (rn (ownsOf t) none) (.own t 0 k) c.k c'.k := by
  intro k c' hc
  simp only [List.getElem?_map, Option.map_eq_some_iff] at hc
  obtain ⟨c, h1, rfl⟩ := hc
  exact ⟨c, h1, (frK_u c).symm, kle_fr t k c⟩

theorem rn_about {t : Nat} {to : Option Key} {P : Key → Prop} (hP : ∀ key, P key → about t key) : ∀ key, ¬ about t key → rn P to key = some key := fun key h => rn_out (fun hp => h (hP key hp))

theorem ownsOf_about (t : Nat) : ∀ key, ownsOf t key → about t key := fun key h => by cases key <;> simp_all [ownsOf, about]

theorem rn_arg {P : Key → Prop} {to : Option Key} (hP : ∀ i k, ¬ P (.arg i k)) : ∀ i k, rn P to (.arg i k) = some (.arg i k) := fun i k => rn_out (hP i k)

/-- A slot whose every own slice is shared from now on. -/
theorem Rel.fzAll (R : Rel F gh T e a w) (t : Nat) (x : Tag) (hlt : (T t).tag ≠ .dead) (hck : (T t).tag.holds = true)
    (hx : TagLe (rn (ownsOf t) none) t (T t).tag x) : ∃ gh', GS gh gh' ∧ gh' = gh.ren (rn (ownsOf t) none) ∧ Rel F gh' (T.up t ⟨(T t).g, x, (T t).gd⟩) e a w := by
  refine ⟨_, GS.ren gh _ (rn_arg (by simp [ownsOf])), rfl, R.retag t x _ (R.lt hlt) (rn_about (ownsOf_about t)) (rn_out (by simp [ownsOf])) hx (.inl (R.tok.ck t hck))⟩

def isOwn (t k : Nat) : Key → Prop
  | .own s i j => s = t ∧ i = 0 ∧ j = k
  | _ => False

theorem isOwn_about (t k : Nat) : ∀ key, isOwn t k key → about t key := fun key h => by cases key <;> simp_all [isOwn, about]

/-- One own cell's tag is turned (shared, or taken over). -/
theorem tagLe_set {tag : Tag} {t k u : Nat} {ee ss : Nat} {c' : CKd} {to : Option Key} (h : tag.ck k = some ⟨u, .own ee ss⟩) (hc : (to = none ∧ c' = .v) ∨ c' = .dead) :
    TagLe (rn (isOwn t k) to) t tag (setCk tag k ⟨u, c'⟩) := by
  have hk : KLe (rn (isOwn t k) to) (.own t 0 k) (.own ee ss) c' := by
    rcases hc with ⟨rfl, rfl⟩ | rfl
    · exact .fr _ _ (rn_in (by simp [isOwn]))
    · exact .dead _
  have hl : ∀ (ks : List CK), ks[k]? = some ⟨u, .own ee ss⟩ → ∀ (j : Nat) (c1 : CK), (ks.set k ⟨u, c'⟩)[j]? = some c1 → ∃ c, ks[j]? = some c ∧ c.u = c1.u ∧ KLe (rn (isOwn t k) to) (.own t 0 j) c.k c1.k := by
    intro ks hks j c1 hj
    by_cases e : j = k
    · subst e
      have hlt := (List.getElem?_eq_some_iff.1 hks).1
      rw [List.getElem?_set_self hlt] at hj
      cases hj
      exact ⟨_, hks, rfl, hk⟩
    · rw [List.getElem?_set_ne (Ne.symm e)] at hj
      refine ⟨c1, hj, rfl, ?_⟩
      cases hq : c1.k with
      | dead => exact .dead _
      | v => exact .v
      | own a b => exact .keep a b (rn_out (by simp [isOwn, e]))
  cases tag with
  | one c =>
    cases k with
    | zero => simp [Tag.ck] at h; subst h; exact .one _ _ rfl hk
    | succ k => simp [Tag.ck] at h
  | agg ks => exact .agg _ _ (by simp) (hl ks h)
  | box ks => exact .box _ _ (by simp) (hl ks h)
  | _ => simp [Tag.ck] at h

theorem Rel.set1 (R : Rel F gh T e a w) {t k u ee ss : Nat} (c' : CKd) (to : Option Key) (h : (T t).tag.ck k = some ⟨u, .own ee ss⟩) (hc : (to = none ∧ c' = .v) ∨ c' = .dead) :
    GS gh (gh.ren (rn (isOwn t k) to)) ∧ Rel F (gh.ren (rn (isOwn t k) to)) (T.up t ⟨(T t).g, setCk (T t).tag k ⟨u, c'⟩, (T t).gd⟩) e a w :=
  ⟨GS.ren gh _ (rn_arg (by simp [isOwn])), R.retag t _ _ (R.lt (by intro hd; rw [hd] at h; simp [Tag.ck] at h)) (rn_about (isOwn_about t k)) (rn_out (by simp [isOwn])) (tagLe_set h hc) (.inl (R.tok.ck t (Tag.holds_ck h)))⟩

theorem useO_sound (R : Rel F gh T e a w) (hg : gdOn T e gd) {x : Operand} {cr : CR} {ups : List (Nat × Tg)} {tr : List Nat} (h : useO hn T gd x = some (cr, ups, tr)) {av : AV} (hv : cr.val e = some av) :
    ∃ gh', GS gh gh' ∧ Rel F gh' (T.ups ups) e a w ∧ Rep w gh'.im gh'.et av (a.eval x) := by
  unfold useO at h
  cases x with
  | const v =>
    simp only [Option.bind_eq_some_iff] at h
    obtain ⟨z, hz, h⟩ := h
    cases h
    simp [CR.val] at hv
    subst hv
    exact ⟨gh, GS.refl gh, R, cvV_rep hz⟩
  | func f =>
    cases h
    simp [CR.val] at hv
    subst hv
    exact ⟨gh, GS.refl gh, R, .fn f [] [] [] [] .nil .nil⟩
  | global g => cases h
  | tmp t =>
    simp only at h
    rw [eval_tmp]
    cases htag : tagAt T gd t with
    | one c =>
      rw [htag] at h
      obtain ⟨h1, h2⟩ := tagAt_slot R hg (t := t) (by rw [htag]; simp)
      rw [htag] at h1
      rw [← h1] at h2
      simp only at h
      obtain ⟨z, hz, ho⟩ := h2
      cases hk : c.k with
      | dead => rw [hk] at h; cases h
      | v =>
        rw [hk] at h ho
        cases h
        simp [CR.val, hz] at hv
        subst hv
        exact ⟨gh, GS.refl gh, R, ho⟩
      | own ee ss =>
        rw [hk] at h ho
        cases h
        simp [CR.val, hz] at hv
        subst hv
        obtain ⟨gh', g1, g2, g3⟩ := R.fzAll t (.one (frK c)) (by rw [← h1]; simp) (by rw [← h1]; rfl) (by rw [← h1]; exact .one _ _ (frK_u c).symm (kle_fr t 0 c))
        exact ⟨gh', g1, g3, by rw [g1.et, g2]; exact OwnOk.toRep ho (rn_in (by simp [ownsOf]))⟩
    | agg ks =>
      rw [htag] at h
      obtain ⟨h1, h2⟩ := tagAt_slot R hg (t := t) (by rw [htag]; simp)
      rw [htag] at h1
      rw [← h1] at h2
      simp only at h
      split at h
      · rename_i hl
        cases h
        obtain ⟨vs, hvs, ho⟩ := h2
        simp [CR.val] at hv
        subst hv
        obtain ⟨gh', g1, g2, g3⟩ := R.fzAll t (.agg (ks.map frK)) (by rw [← h1]; simp) (by rw [← h1]; rfl) (by rw [← h1]; exact .agg _ _ (by simp) (tag_fr_all t ks))
        refine ⟨gh', g1, g3, ?_⟩
        rw [hvs]
        have hco : CellsOk w gh' (.own t 0) ((ks.map frK).map CK.k) (e t) vs := by
          rw [g2]
          refine ho.ren (by simp) (fun k c' hk => ?_)
          obtain ⟨c0, q1, q2⟩ := map_k hk
          obtain ⟨c, p1, p2, p3⟩ := tag_fr_all t ks k c0 q1
          exact ⟨c.k, by simp [List.getElem?_map, p1], q2 ▸ p3⟩
        refine .agg _ vs (hco.v ?_) ho.2.2.1
        simp only [List.all_map, List.all_eq_true, Function.comp] at hl ⊢
        intro c hc
        rw [frK_v (hl c hc)]; rfl
      · cases h
    | al t' k g u =>
      rw [htag] at h
      obtain ⟨h1, h2⟩ := tagAt_slot R hg (t := t) (by rw [htag]; simp)
      rw [← h1, htag] at h2
      simp only [Option.bind_eq_some_iff] at h
      obtain ⟨y, hy, h⟩ := h
      cases h
      obtain ⟨x, v, c1, c2, c3⟩ := alOk_own R hy
      have := h2 y hy
      rw [c2] at this
      cases this
      rw [c1] at hv
      cases hv
      obtain ⟨g1, g2⟩ := R.set1 .v none (alOk_g hy).2 (.inl ⟨rfl, rfl⟩)
      exact ⟨_, g1, g2, OwnOk.toRep c3 (rn_in (by simp [isOwn]))⟩
    | _ => rw [htag] at h; cases h

theorem takeO_sound (R : Rel F gh T e a w) (hg : gdOn T e gd) {ee ss : Nat} {x : Operand} {cr : CR} {ups : List (Nat × Tg)} {tr : List Nat} (i : Nat) (hss : 0 < ss) (h : takeO T gd ee ss x = some (cr, ups, tr)) {av : AV}
    (hv : cr.val e = some av) : ∃ gh', GS gh gh' ∧ Rel F gh' (T.ups ups) e a w ∧ OwnOk w gh' ee ss (.arg i 0) av (a.eval x) := by
  unfold takeO at h
  split at h
  · rename_i t
    rw [eval_tmp]
    cases htag : tagAt T gd t with
    | one c =>
      rw [htag] at h
      obtain ⟨h1, h2⟩ := tagAt_slot R hg (t := t) (by rw [htag]; simp)
      rw [htag] at h1
      rw [← h1] at h2
      simp only at h
      obtain ⟨z, hz, ho⟩ := h2
      cases hk : c.k with
      | own e' s' =>
        rw [hk] at h ho
        simp only at h
        split at h
        · rename_i hee
          obtain ⟨rfl, rfl⟩ := hee
          cases h
          simp [CR.val, hz] at hv
          subst hv
          have hck : (T t).tag.ck 0 = some ⟨c.u, .own ee ss⟩ := by rw [← h1]; simp only [Tag.ck]; rw [← hk]
          obtain ⟨g1, g2⟩ := R.set1 .dead (some (.arg i 0)) hck (.inr rfl)
          refine ⟨_, g1, ?_, ?_⟩
          · have e1 : setCk (T t).tag 0 ⟨c.u, .dead⟩ = .one (ddK c) := by rw [← h1]; simp only [setCk, ddK, hk]
            rw [e1] at g2; exact g2
          · obtain ⟨xs, vs, q1, q2, q3, q4, q5⟩ := ho
            exact ⟨xs, vs, q1, q2, q3.mono (g1.stay w), q4, fun B hB => by simp [Gh.ren, q5 B hB, rn, isOwn]⟩
        · cases h
      | _ => rw [hk] at h; cases h
    | al t' k g u =>
      rw [htag] at h
      obtain ⟨h1, h2⟩ := tagAt_slot R hg (t := t) (by rw [htag]; simp)
      rw [← h1, htag] at h2
      simp only [Option.bind_eq_some_iff] at h
      obtain ⟨y, hy, h⟩ := h
      split at h
      · rename_i hee
        subst hee
        cases h
        obtain ⟨x, v, c1, c2, c3⟩ := alOk_own R hy
        have := h2 _ hy
        rw [c2] at this
        cases this
        rw [c1] at hv
        cases hv
        obtain ⟨g1, g2⟩ := R.set1 .dead (some (.arg i 0)) (alOk_g hy).2 (.inr rfl)
        obtain ⟨xs, vs, q1, q2, q3, q4, q5⟩ := c3
        exact ⟨_, g1, g2, xs, vs, q1, q2, q3.mono (g1.stay w), q4, fun B hB => by simp [Gh.ren, q5 B hB, rn, isOwn]⟩
      · cases h
    | _ => rw [htag] at h; cases h
  · cases h
    simp [CR.val] at hv
    subst hv
    exact ⟨gh, GS.refl gh, R, [], [], .inr ⟨rfl, rfl, rfl⟩, World.ownsRow_nil w 0 ee ss, .nil ss, hss, fun B hB => by simp [Act.eval, Value.ownBlock] at hB⟩
  · cases h

/-- The generations of slots. -/
def SameG (T T' : Tags) : Prop := ∀ s, (T' s).g = (T s).g ∧ ((T s).tag.isOne = true → (T' s).tag.isOne = true)

theorem SameG.refl (T : Tags) : SameG T T := fun _ => ⟨rfl, fun h => h⟩
theorem SameG.up (T : Tags) (t : Nat) (tag : Tag) (gd' : Option (Nat × Nat × Bool)) (h1 : (T t).tag.isOne = true → tag.isOne = true) : SameG T (T.up t ⟨(T t).g, tag, gd'⟩) := fun s => by
  by_cases h : s = t
  · subst h; rw [up_same]; exact ⟨rfl, h1⟩
  · rw [up_other _ _ _ _ h]; exact ⟨rfl, fun h => h⟩
theorem SameG.on {T T' : Tags} (h : SameG T T') {e : Env} {g0 : Option (Nat × Nat × Bool)} (hg : gdOn T e g0) : gdOn T' e g0 := by
  cases g0 with
  | none => trivial
  | some q => obtain ⟨s, g, b⟩ := q; exact ⟨(h s).1.trans hg.1, hg.2.1, (h s).2 hg.2.2⟩

theorem tagAt_tag {t : Nat} {x : Tag} (h : tagAt T gd t = x) (hx : x ≠ .dead) : (T t).tag = x := by
  unfold tagAt at h
  repeat' split at h
  all_goals first | exact h | exact absurd h.symm hx

theorem isOne_agg {t : Nat} {ks ks' : List CK} (h : tagAt T gd t = .agg ks) (h1 : (T t).tag.isOne = true) : (Tag.agg ks').isOne = true := by
  rw [tagAt_tag h (by simp)] at h1; cases h1

theorem isOne_setCk {x : Tag} {k : Nat} {c : CK} (h : x.isOne = true) : (setCk x k c).isOne = true := by cases x <;> first | rfl | cases h

theorem useO_g {x : Operand} {r : CR × List (Nat × Tg) × List Nat} (h : useO hn T gd x = some r) : SameG T (T.ups r.2.1) := by
  unfold useO at h
  repeat' split at h
  all_goals first
    | (cases h; exact SameG.refl T)
    | (cases h; exact SameG.up T _ _ _ (fun _ => rfl))
    | (cases h; exact SameG.up T _ _ _ (isOne_agg (by assumption)))
    | (simp only [Option.bind_eq_some_iff] at h; obtain ⟨_, _, h⟩ := h; cases h; exact SameG.up T _ _ _ isOne_setCk)
    | (simp only [Option.bind_eq_some_iff] at h; obtain ⟨_, _, h⟩ := h; cases h; exact SameG.refl T)
    | (cases h)

theorem takeO_g {ee ss : Nat} {x : Operand} {r : CR × List (Nat × Tg) × List Nat} (h : takeO T gd ee ss x = some r) : SameG T (T.ups r.2.1) := by
  unfold takeO at h
  repeat' split at h
  all_goals first
    | (cases h; exact SameG.refl T)
    | (cases h; exact SameG.up T _ _ _ (fun _ => rfl))
    | (simp only [Option.bind_eq_some_iff] at h; obtain ⟨_, _, h⟩ := h; split at h <;> first | (cases h; exact SameG.up T _ _ _ isOne_setCk) | cases h)
    | (cases h)

theorem argO_g {m : Md} {bor : Bool} {x : Operand} {r : CR × List (Nat × Tg) × List Nat} (h : argO hn T gd m bor x = some r) : SameG T (T.ups r.2.1) := by
  cases m with
  | dead => cases h
  | v =>
    simp only [argO] at h
    cases bor with
    | true => simp only [if_true, Option.bind_eq_some_iff] at h; obtain ⟨_, _, h⟩ := h; cases h; exact SameG.refl T
    | false => simp only [Bool.false_eq_true, if_false] at h; exact useO_g h
  | own ee ss => exact takeO_g h
  | agg ks =>
    simp only [argO] at h
    repeat' split at h
    all_goals first
      | (cases h; exact SameG.up T _ _ _ (isOne_agg (by assumption)))
      | (cases h)

/-- How an argument stands: shared, or the callee's own. -/
def mdPos : Md → Prop
  | .own _ s => 0 < s
  | _ => True

theorem kOk_spec : ∀ {ks : List CKd} {cs : List CK}, kOk ks cs = true → cs.length = ks.length ∧ ∀ (k : Nat) (q : CKd), ks[k]? = some q → ∃ c, cs[k]? = some c ∧
    (q = .dead ∨ (q = .v ∧ c.k.live = true) ∨ ∃ e z, q = .own e z ∧ c.k = .own e z)
  | [], [], _ => ⟨rfl, by simp⟩
  | q :: r, c :: s, h => by
    have hh : kOk r s = true ∧ (q = .dead ∨ (q = .v ∧ c.k.live = true) ∨ ∃ e z, q = .own e z ∧ c.k = .own e z) := by
      cases q with
      | dead => exact ⟨h, .inl rfl⟩
      | v => simp only [kOk, Bool.and_eq_true] at h; exact ⟨h.2, .inr (.inl ⟨rfl, h.1⟩)⟩
      | own e z =>
        simp only [kOk, Bool.and_eq_true] at h
        refine ⟨h.2, .inr (.inr ⟨e, z, rfl, ?_⟩)⟩
        cases hc : c.k <;> rw [hc] at h <;> simp at h
        obtain ⟨⟨rfl, rfl⟩, _⟩ := h; rfl
    obtain ⟨h1, h2⟩ := kOk_spec hh.1
    refine ⟨by simp [h1], fun k q' hq => ?_⟩
    cases k with
    | zero => simp at hq; subst hq; exact ⟨c, rfl, hh.2⟩
    | succ k => simpa using h2 k q' (by simpa using hq)
  | [], _ :: _, h => by simp [kOk] at h
  | q :: _, [], h => by cases q <;> simp [kOk] at h

theorem argO_sound (R : Rel F gh T e a w) (hg : gdOn T e gd) {m : Md} {x : Operand} {cr : CR} {ups : List (Nat × Tg)} {tr : List Nat} (i : Nat) (hm : mdPos m) (h : argO hn T gd m false x = some (cr, ups, tr))
    {av : AV} (hv : cr.val e = some av) : ∃ gh', GS gh gh' ∧ Rel F gh' (T.ups ups) e a w ∧ MdOk w gh' (.arg i) m av (a.eval x) := by
  cases m with
  | dead => cases h
  | v => simp only [argO, Bool.false_eq_true, if_false] at h; exact useO_sound R hg h hv
  | own ee ss => exact takeO_sound R hg i hm h hv
  | agg ks =>
    simp only [argO] at h
    split at h
    · rename_i t
      rw [eval_tmp]
      cases htag : tagAt T gd t with
      | agg cs =>
        rw [htag] at h
        obtain ⟨h1, h2⟩ := tagAt_slot R hg (t := t) (by rw [htag]; simp)
        rw [htag] at h1
        rw [← h1] at h2
        simp only at h
        split at h
        · rename_i hko
          cases h
          obtain ⟨vs, hvs, ho⟩ := h2
          simp [CR.val] at hv
          subst hv
          obtain ⟨kl, kk⟩ := kOk_spec hko
          -- own cells that are asked for are handed over, the others are shared
          let ρ : Key → Option Key := fun key => match key with
            | .own s i' k => if s = t ∧ i' = 0 then (match ks[k]? with | some (.own _ _) => some (.arg i k) | _ => none) else some (.own s i' k)
            | key => some key
          have hρ : ∀ key, ¬ about t key → ρ key = some key := fun key hk => by
            cases key with
            | own s i' k => simp only [about] at hk; simp [ρ, hk]
            | _ => rfl
          have hle : TagLe ρ t (T t).tag (.agg (cs.map ddK)) := by
            rw [← h1]
            refine .agg _ _ (by simp) (fun k c' hc => ?_)
            simp only [List.getElem?_map, Option.map_eq_some_iff] at hc
            obtain ⟨c, q1, rfl⟩ := hc
            refine ⟨c, q1, (ddK_u c).symm, ?_⟩
            cases hk : c.k with
            | dead => simp [ddK, hk]; exact .dead _
            | v => simp [ddK, hk]; exact .v
            | own _ _ => simp [ddK, hk]; exact .dead _
          have g1 : GS gh (gh.ren ρ) := GS.ren gh ρ (fun _ _ => rfl)
          refine ⟨_, g1, R.retag t _ ρ (R.lt (by rw [← h1]; simp)) hρ rfl hle (.inl (R.tok.ck t (by rw [← h1]; rfl))), _, vs, rfl, hvs, ?_⟩
          refine ⟨ho.1.trans (by simp [kl]), ho.2.1.trans (by simp [kl]), ho.2.2.1, fun k q x v a1 a2 a3 => ?_⟩
          obtain ⟨c, c1, c2⟩ := kk k q a1
          have hco := ho.2.2.2 k c.k x v (by simp [List.getElem?_map, c1]) a2 a3
          rcases c2 with rfl | ⟨rfl, hl⟩ | ⟨ee, z, rfl, hc⟩
          · trivial
          · cases hck : c.k with
            | dead => rw [hck] at hl; cases hl
            | v => rw [hck] at hco; exact Rep.mono (g1.stay w) hco
            | own _ _ => rw [hck] at hco; exact OwnOk.toRep hco (by simp [ρ, a1])
          · rw [hc] at hco
            obtain ⟨xs, us, q1, q2, q3, q4, q5⟩ := hco
            exact ⟨xs, us, q1, q2, q3.mono (g1.stay w), q4, fun B hB => by simp [Gh.ren, q5 B hB, ρ, a1]⟩
        · cases h
      | _ => rw [htag] at h; cases h
    · cases h

/-- What was handed over stays so while the others are settled. -/
theorem MdOk.gs {w : World} {gh gh' : Gh} (S : GS gh gh') {i : Nat} {m : Md} {x : AV} {v : Value} (h : MdOk w gh (.arg i) m x v) : MdOk w gh' (.arg i) m x v := by
  cases m with
  | dead => trivial
  | v => exact Rep.mono (S.stay w) h
  | own e s => exact OwnOk.gs S h
  | agg ks =>
    obtain ⟨cs, vs, hx, hv, h1, h2, h3, h4⟩ := h
    refine ⟨cs, vs, hx, hv, h1, h2, h3, fun k c x v a1 a2 a3 => ?_⟩
    have := h4 k c x v a1 a2 a3
    cases c with
    | dead => trivial
    | v => exact Rep.mono (S.stay w) this
    | own e s => exact OwnOk.gs S this

inductive ArgsOk (w : World) (gh : Gh) : Nat → List Md → List AV → List Value → Prop
  | nil (i : Nat) : ArgsOk w gh i [] [] []
  | cons (i : Nat) (m : Md) (ms : List Md) (x : AV) (xs : List AV) (v : Value) (vs : List Value) (h : MdOk w gh (.arg i) m x v) (hs : ArgsOk w gh (i + 1) ms xs vs) : ArgsOk w gh i (m :: ms) (x :: xs) (v :: vs)

theorem ArgsOk.gs {w : World} {gh gh' : Gh} (S : GS gh gh') {i : Nat} {ms : List Md} {xs : List AV} {vs : List Value} (h : ArgsOk w gh i ms xs vs) : ArgsOk w gh' i ms xs vs := by
  induction h with
  | nil i => exact .nil i
  | cons i m ms x xs v vs h _ ih => exact .cons i m ms x xs v vs (h.gs S) ih

def valCRs (e : Env) : List CR → Option (List AV)
  | [] => some []
  | x :: r => (x.val e).bind fun a => (valCRs e r).bind fun as => some (a :: as)

theorem evCRs_val {R : Type} (e : Env) (xs : List CR) (k : List AV → Option R) : evCRs e xs k = (valCRs e xs).bind k := by
  induction xs generalizing k with
  | nil => rfl
  | cons x xs ih =>
    simp only [evCRs, valCRs, CR.ev_val]
    cases x.val e with
    | none => rfl
    | some a =>
      simp only [Option.bind_some]
      rw [ih]
      cases valCRs e xs <;> rfl

theorem ups_append (T : Tags) (u v : List (Nat × Tg)) : T.ups (u ++ v) = (T.ups u).ups v := by
  induction u generalizing T with
  | nil => rfl
  | cons x u ih => obtain ⟨t, y⟩ := x; simp only [List.cons_append, Tags.ups]; exact ih _

theorem argsO_sound (R : Rel F gh T e a w) (hg : gdOn T e gd) {ms : List Md} {xs : List Operand} {crs : List CR} {ups : List (Nat × Tg)} {tr : List Nat} (i : Nat) (hm : ∀ m ∈ ms, mdPos m)
    (h : argsO hn T gd false ms xs = some (crs, ups, tr)) {avs : List AV} (hv : valCRs e crs = some avs) :
    ∃ gh', GS gh gh' ∧ Rel F gh' (T.ups ups) e a w ∧ SameG T (T.ups ups) ∧ ArgsOk w gh' i ms avs (xs.map a.eval) := by
  induction ms generalizing T gh xs crs ups tr i avs with
  | nil =>
    cases xs with
    | nil => cases h; cases hv; exact ⟨gh, GS.refl gh, R, SameG.refl T, .nil i⟩
    | cons => cases h
  | cons m ms ih =>
    cases xs with
    | nil => cases h
    | cons x xs =>
      simp only [argsO, Option.bind_eq_some_iff] at h
      obtain ⟨r, h1, s, h2, h⟩ := h
      cases h
      simp only [valCRs, Option.bind_eq_some_iff] at hv
      obtain ⟨av, hv1, as, hv2, hv⟩ := hv
      cases hv
      obtain ⟨gh1, g1, g2, g3⟩ := argO_sound R hg i (hm m (by simp)) h1 hv1
      obtain ⟨gh2, k1, k2, k3, k4⟩ := ih g2 (SameG.on (argO_g h1) hg) (i + 1) (fun m hm' => hm m (by simp [hm'])) h2 hv2
      refine ⟨gh2, g1.trans k1, by rw [ups_append]; exact k2, ?_, .cons i m ms av as _ _ (g3.gs k1) k4⟩
      rw [ups_append]
      exact fun s' => ⟨(k3 s').1.trans (argO_g h1 s').1, fun h => (k3 s').2 ((argO_g h1 s').2 h)⟩

theorem usesO_sound (R : Rel F gh T e a w) (hg : gdOn T e gd) {xs : List Operand} {crs : List CR} {ups : List (Nat × Tg)} {tr : List Nat}
    (h : usesO hn T gd xs = some (crs, ups, tr)) {avs : List AV} (hv : valCRs e crs = some avs) :
    ∃ gh', GS gh gh' ∧ Rel F gh' (T.ups ups) e a w ∧ SameG T (T.ups ups) ∧ RepL w gh'.im gh'.et avs (xs.map a.eval) := by
  induction xs generalizing T gh crs ups tr avs with
  | nil => cases h; cases hv; exact ⟨gh, GS.refl gh, R, SameG.refl T, .nil⟩
  | cons x xs ih =>
    simp only [usesO, Option.bind_eq_some_iff] at h
    obtain ⟨r, h1, s, h2, h⟩ := h
    cases h
    simp only [valCRs, Option.bind_eq_some_iff] at hv
    obtain ⟨av, hv1, as, hv2, hv⟩ := hv
    cases hv
    obtain ⟨gh1, g1, g2, g3⟩ := useO_sound R hg h1 hv1
    obtain ⟨gh2, k1, k2, k3, k4⟩ := ih g2 (SameG.on (useO_g h1) hg) h2 hv2
    refine ⟨gh2, g1.trans k1, by rw [ups_append]; exact k2, ?_, .cons _ _ _ _ (Rep.mono (k1.stay w) g3) k4⟩
    rw [ups_append]
    exact fun s' => ⟨(k3 s').1.trans (useO_g h1 s').1, fun h => (k3 s').2 ((useO_g h1 s').2 h)⟩

/-- Whatever is read for a call that gives back neither place nor slice. -/
theorem argsB_sound (R : Rel F gh T e a w) (hg : gdOn T e gd) {ms : List Md} (hms : ms.all (fun m => match m with | .v => true | _ => false) = true) {xs : List Operand} {crs : List CR} {ups : List (Nat × Tg)} {tr : List Nat}
    (h : argsO hn T gd true ms xs = some (crs, ups, tr)) {avs : List AV} (hv : valCRs e crs = some avs) :
    ups = [] ∧ RepL w (fun b => b < w.heap.size) gh.et avs (xs.map a.eval) := by
  induction ms generalizing xs crs ups tr avs with
  | nil =>
    cases xs with
    | nil => cases h; cases hv; exact ⟨rfl, .nil⟩
    | cons => cases h
  | cons m ms ih =>
    cases xs with
    | nil => cases h
    | cons x xs =>
      simp only [List.all_cons, Bool.and_eq_true] at hms
      simp only [argsO, Option.bind_eq_some_iff] at h
      obtain ⟨r, h1, s, h2, h⟩ := h
      cases h
      simp only [valCRs, Option.bind_eq_some_iff] at hv
      obtain ⟨av, hv1, as, hv2, hv⟩ := hv
      cases hv
      cases m with
      | dead => simp at hms
      | v =>
        simp only [argO, if_true, Option.bind_eq_some_iff] at h1
        obtain ⟨q, hq, h1⟩ := h1
        cases h1
        obtain ⟨k1, k2⟩ := ih hms.2 h2 hv2
        exact ⟨by simp [k1], .cons _ _ _ _ (rdO_sound R hg hq hv1) k2⟩
      | own => simp at hms
      | agg => simp at hms

end
end Tr

namespace Tr
open Go

/-- A value that tells nothing of memory. -/
def Sc (x : AV) (v : Value) : Prop := ∀ (w : World) (im : Nat → Prop) (et : List Nat), Rep w im et x v

theorem sc_bool (b : Bool) : Sc (.bool b) (.bool b) := fun _ _ _ => .bool b
theorem sc_int (k : IntKind) (n : Int) : Sc (.int k n) (.int k n) := fun _ _ _ => .int k n
theorem sc_str (s : List UInt8) : Sc (.str s) (.string ⟨s.toArray⟩) := fun _ _ _ => .str s
theorem sc_string (b : ByteArray) : Sc (.str b.data.toList) (.string b) := by
  have : b = ⟨b.data.toList.toArray⟩ := by simp
  conv => rhs; rw [this]
  exact sc_str _

theorem toList_mk' (s : List UInt8) : (⟨s.toArray⟩ : ByteArray).toList = s := ByteArray.toList_mk s

section
variable {P : Program} {w : World} {gh : Gh} {x y : AV} {vx vy : Value} {av : AV}

theorem run_bin {op : BinOp} {t : TypeId} {ox oy : Operand} (hx : Rd w gh x vx) (hy : Rd w gh y vy) (h : A.bin op x y = some av) :
    ∃ v, (do eqGuard op t ox oy vx vy; binOp op t vx vy : Sem Value).run P w = .ok v w ∧ Sc av v := by
  unfold A.bin at h
  split at h
  · rename_i k a k' b
    cases hx; cases hy
    have hgd : (eqGuard op t ox oy (.int k a) (.int k' b)).run P w = .ok () w := by cases op <;> simp [eqGuard]
    simp only [Sem.run_bind, hgd, Result.andThen]
    unfold A.ibin at h
    cases op <;> simp only [] at h
    case shl => split at h; · cases h
                · rename_i hb; cases h; exact ⟨_, by simp only [binOp, Op.shift, hb, if_false]; rfl, sc_int _ _⟩
    case shr => split at h; · cases h
                · rename_i hb; cases h; exact ⟨_, by simp only [binOp, Op.shift, hb, if_false]; rfl, sc_int _ _⟩
    all_goals (repeat' split at h) <;> (try cases h) <;> simp_all [binOp, Op.intArith, Op.intDiv, Op.intBits, Op.intCmp, sc_int, sc_bool]
  · rename_i a b
    cases hx; cases hy
    have hgd : (eqGuard op t ox oy (.string ⟨a.toArray⟩) (.string ⟨b.toArray⟩)).run P w = .ok () w := by cases op <;> simp [eqGuard]
    simp only [Sem.run_bind, hgd, Result.andThen]
    unfold A.sbin at h
    cases op <;> simp only [] at h
    case add =>
      split at h
      · rename_i hl
        cases h
        have hs : ¬ (((⟨a.toArray⟩ : ByteArray).size + (⟨b.toArray⟩ : ByteArray).size : Nat) : Int) > IntKind.i64.max := by
          have : IntKind.i64.max = 9223372036854775807 := by decide
          rw [this]
          have h1 : (⟨a.toArray⟩ : ByteArray).size = a.length := by simp [ByteArray.size]
          have h2 : (⟨b.toArray⟩ : ByteArray).size = b.length := by simp [ByteArray.size]
          rw [h1, h2]; omega
        refine ⟨.string (⟨a.toArray⟩ ++ ⟨b.toArray⟩), by simp only [binOp, Op.stringOp, hs, if_false]; rfl, ?_⟩
        have e : (⟨a.toArray⟩ ++ ⟨b.toArray⟩ : ByteArray) = ⟨(a ++ b).toArray⟩ := by
          apply ByteArray.ext
          simp [ByteArray.data_append]
        rw [e]; exact sc_str _
      · cases h
    all_goals (try cases h) <;> simp_all [binOp, Op.stringOp, sc_bool]
  · cases h

theorem eqL_app : ∀ {k1 k2 : List Nat} {a1 b1 a2 b2 : List AV} {b : Bool}, a1.length = k1.length → b1.length = k1.length → A.eqL (k1 ++ k2) (a1 ++ a2) (b1 ++ b2) = some b →
    ∃ p q, A.eqL k1 a1 b1 = some p ∧ A.eqL k2 a2 b2 = some q ∧ b = (p && q)
  | [], k2, [], [], a2, b2, b, _, _, h => ⟨true, b, rfl, h, by simp⟩
  | k :: k1, k2, x :: a1, y :: b1, a2, b2, b, hl, hl2, h => by
    simp only [List.cons_append, A.eqL, Option.bind_eq_some_iff] at h
    obtain ⟨p, hp, q, hq, h⟩ := h
    cases h
    obtain ⟨p', q', h1, h2, h3⟩ := eqL_app (by simpa using hl) (by simpa using hl2) hq
    exact ⟨p && p', q', by simp [A.eqL, hp, h1], h2, by simp [h3, Bool.and_assoc]⟩
  | [], _, _ :: _, _, _, _, _, hl, _, _ => by simp at hl
  | [], _, [], _ :: _, _, _, _, _, hl, _ => by simp at hl
  | _ :: _, _, [], _, _, _, _, hl, _, _ => by simp at hl
  | _ :: _, _, _ :: _, [], _, _, _, _, hl, _ => by simp at hl

theorem eqL_len : ∀ {ks : List Nat} {a b : List AV} {r : Bool}, A.eqL ks a b = some r → a.length = ks.length ∧ b.length = ks.length
  | [], [], [], _, _ => ⟨rfl, rfl⟩
  | k :: ks, x :: a, y :: b, r, h => by
    simp only [A.eqL, Option.bind_eq_some_iff] at h
    obtain ⟨p, hp, q, hq, h⟩ := h
    obtain ⟨h1, h2⟩ := eqL_len hq
    exact ⟨by simp [h1], by simp [h2]⟩
  | [], _ :: _, _, _, h => by simp [A.eqL] at h
  | [], [], _ :: _, _, h => by simp [A.eqL] at h
  | _ :: _, [], _, _, h => by simp [A.eqL] at h
  | _ :: _, _ :: _, [], _, h => by simp [A.eqL] at h

/-- A type's value, out of its cells. -/
def valOf (P : Program) (t : TypeId) (cs : List Value) : Option Value := if isAg P t then some (.agg cs.toArray) else cs[0]?

theorem run_isAgg {t : TypeId} {d : TypeDesc} (h : P.underlying t = some d) : (Go.isAgg t).run P w = .ok (isAg P t) w := by
  unfold Go.isAgg isAg
  simp only [Sem.run_bind, run_underlying h, Result.andThen, h]
  cases d <;> rfl

theorem info_of_underlying {t : TypeId} {d : TypeDesc} (h : P.underlying t = some d) : ∃ i, P.info? t = some i := by
  unfold Program.underlying at h
  cases hi : P.info? t with
  | none => rw [hi] at h; cases h
  | some i => exact ⟨i, rfl⟩

theorem run_sizeOf {t : TypeId} {d : TypeDesc} (h : P.underlying t = some d) : (Go.sizeOf t).run P w = .ok (P.cellsOf t) w := by
  obtain ⟨i, hi⟩ := info_of_underlying h
  simp [Go.sizeOf, typeInfo, hi, Program.cellsOf]

theorem run_part {t : TypeId} {d : TypeDesc} (h : P.underlying t = some d) {cs : List Value} {off : Nat} {v : Value} (hv : valOf P t ((cs.drop off).take (P.cellsOf t)) = some v) (hz : isAg P t = false → P.cellsOf t ≠ 0) :
    (part t cs.toArray off).run P w = .ok v w := by
  unfold part
  simp only [Sem.run_bind, run_isAgg h, Result.andThen]
  unfold valOf at hv
  cases ha : isAg P t with
  | true =>
    rw [ha] at hv
    simp only [if_true] at hv ⊢
    cases hv
    simp only [Sem.run_bind, run_sizeOf h, Result.andThen, Sem.run_pure]
    congr 2
    simp [List.extract_eq_take_drop]
  | false =>
    rw [ha] at hv
    simp only [Bool.false_eq_true, if_false] at hv ⊢
    have hz' := hz ha
    have : cs[off]? = some v := by
      rw [List.getElem?_take] at hv
      split at hv
      · simpa [List.getElem?_drop] using hv
      · cases hv
    simp [this]

theorem plain_sound : ∀ (d : Nat) (t : TypeId) (ks : List Nat), plainKs P d t = some ks → ∃ desc, P.underlying t = some desc ∧ ks.length = P.cellsOf t ∧ (isAg P t = false → P.cellsOf t ≠ 0) ∧
    ∀ (X Y : List Value) (a b : List AV) (r : Bool), RepL w (fun b => b < w.heap.size) gh.et a X → RepL w (fun b => b < w.heap.size) gh.et b Y → A.eqL ks a b = some r →
      ∃ vx vy, valOf P t X = some vx ∧ valOf P t Y = some vy ∧ ∀ n, d ≤ n → (Op.equalIn n t vx vy).run P w = .ok r w := by
  intro d
  induction d with
  | zero => intro t ks h; cases h
  | succ d ih =>
    intro t ks h
    unfold plainKs at h
    have lone : ∀ (kd : Nat) (desc : TypeDesc), P.underlying t = some desc → isAg P t = false → P.cellsOf t = 1 → ks = [kd] →
        (∀ (x y : AV) (vx vy : Value) (r : Bool), Rd w gh x vx → Rd w gh y vy → A.eqc kd x y = some r → ∀ n, (Op.equalIn (n + 1) t vx vy).run P w = .ok r w) →
        ∃ desc, P.underlying t = some desc ∧ ks.length = P.cellsOf t ∧ (isAg P t = false → P.cellsOf t ≠ 0) ∧
    ∀ (X Y : List Value) (a b : List AV) (r : Bool), RepL w (fun b => b < w.heap.size) gh.et a X → RepL w (fun b => b < w.heap.size) gh.et b Y → A.eqL ks a b = some r →
      ∃ vx vy, valOf P t X = some vx ∧ valOf P t Y = some vy ∧ ∀ n, d + 1 ≤ n → (Op.equalIn n t vx vy).run P w = .ok r w := by
      intro kd desc hd ha hc hk hrun
      subst hk
      refine ⟨desc, hd, by simp [hc], by simp [hc], fun X Y a b r hX hY hr => ?_⟩
      obtain ⟨l1, l2⟩ := eqL_len hr
      match a, b, hX, hY, l1, l2, hr with
      | [x], [y], .cons _ _ v1 _ hx .nil, .cons _ _ v2 _ hy .nil, _, _, hr =>
        simp only [A.eqL, Option.bind_eq_some_iff] at hr
        obtain ⟨p, hp, q, hq, hr⟩ := hr
        cases hq; cases hr
        simp only [Bool.and_true] 
        refine ⟨v1, v2, by simp [valOf, ha], by simp [valOf, ha], fun n hn => ?_⟩
        obtain ⟨m, rfl⟩ : ∃ m, n = m + 1 := ⟨n - 1, by omega⟩
        exact hrun x y v1 v2 p hx hy hp m
    obtain ⟨o, hd⟩ : ∃ o, P.underlying t = o := ⟨_, rfl⟩
    rw [hd] at h
    cases o with
    | none => cases h
    | some desc =>
      cases desc with
      | bool =>
        simp only at h
        split at h
        · rename_i hc; cases h
          refine lone 0 _ hd (by simp [isAg, hd]) hc rfl (fun x y vx vy r hx hy hr n => ?_)
          cases x <;> cases y <;> simp [A.eqc] at hr
          cases hx; cases hy
          rw [run_equalIn_bool' w n t _ _ hd, hr]
        · cases h
      | int kk =>
        simp only at h
        split at h
        · rename_i hc; cases h
          refine lone 1 _ hd (by simp [isAg, hd]) hc rfl (fun x y vx vy r hx hy hr n => ?_)
          cases x <;> cases y <;> simp [A.eqc] at hr
          obtain ⟨rfl, hr⟩ := hr
          cases hx; cases hy
          rw [run_equalIn_int w n t _ _ _ _ hd, hr]
        · cases h
      | string =>
        simp only at h
        split at h
        · rename_i hc; cases h
          refine lone 2 _ hd (by simp [isAg, hd]) hc rfl (fun x y vx vy r hx hy hr n => ?_)
          cases x <;> cases y <;> simp [A.eqc] at hr
          cases hx; cases hy
          rw [run_equalIn_string w n t _ _ hd, toList_mk', toList_mk', hr]
        · cases h
      | struct fs =>
        simp only at h
        split at h
        · cases h
        · rename_i hst
          simp only [Option.bind_eq_some_iff] at h
          obtain ⟨acc, hacc, h⟩ := h
          split at h
          · rename_i hlen
            cases h
            have hag : isAg P t = true := by simp [isAg, hd]
            refine ⟨_, hd, hlen, by simp [hag], fun X Y a b r hX hY hr => ⟨.agg X.toArray, .agg Y.toArray, by simp [valOf, hag], by simp [valOf, hag], fun n hn => ?_⟩⟩
            obtain ⟨m, rfl⟩ : ∃ m, n = m + 1 := ⟨n - 1, by omega⟩
            have hfs : P.fieldsOf t = fs := by simp [Program.fieldsOf, hd]
            rw [run_equalIn_agg w m t _ _ (by rw [hfs]; exact hd) (by simpa using hst), hfs]
            -- the fields, one by one
            have key : ∀ (fl : List Field) (k0 acc : List Nat), fl.foldl (fun r f => r.bind fun acc => if f.offset = acc.length ∧ f.name ≠ "_" then (plainKs P d f.type).bind fun k => some (acc ++ k) else none) (some k0) = some acc →
                ∃ k1, acc = k0 ++ k1 ∧ ∀ (a b : List AV) (r : Bool), RepL w (fun b => b < w.heap.size) gh.et a (X.drop k0.length) → RepL w (fun b => b < w.heap.size) gh.et b (Y.drop k0.length) → A.eqL k1 a b = some r → (Op.eqFields m X.toArray Y.toArray fl).run P w = .ok r w := by
              intro fl
              induction fl with
              | nil =>
                intro k0 acc h
                cases h
                refine ⟨[], by simp, fun a b r ha hb hr => ?_⟩
                match a, b, hr with
                | [], [], hr => cases hr; rfl
              | cons f fl ihf =>
                intro k0 acc h
                simp only [List.foldl_cons, Option.bind_some] at h
                split at h
                · rename_i hf
                  obtain ⟨hf1, hf2⟩ := hf
                  cases hk : plainKs P d f.type with
                  | none =>
                    rw [hk] at h
                    simp only [Option.bind_none] at h
                    exfalso
                    have : ∀ (l : List Field), l.foldl (fun (r : Option (List Nat)) f => r.bind fun acc => if f.offset = acc.length ∧ f.name ≠ "_" then (plainKs P d f.type).bind fun k => some (acc ++ k) else none) none = none := by
                      intro l; induction l with
                      | nil => rfl
                      | cons g l ihl => simpa using ihl
                    rw [this] at h; cases h
                  | some kf =>
                    rw [hk] at h
                    simp only [Option.bind_some] at h
                    obtain ⟨k1, e1, hrest⟩ := ihf _ _ h
                    refine ⟨kf ++ k1, by rw [e1]; simp, fun a b r ha hb hr => ?_⟩
                    obtain ⟨desc, q1, q2, q3, q4⟩ := ih f.type kf hk
                    obtain ⟨l1, l2⟩ := eqL_len hr
                    rw [List.length_append] at l1 l2
                    have ea : a = a.take kf.length ++ a.drop kf.length := by simp
                    have eb : b = b.take kf.length ++ b.drop kf.length := by simp
                    rw [ea, eb] at hr
                    obtain ⟨p, q, r1, r2, r3⟩ := eqL_app (by simp; omega) (by simp; omega) hr
                    obtain ⟨vx, vy, c1, c2, c3⟩ := q4 _ _ _ _ p (ha.take kf.length) (hb.take kf.length) r1
                    rw [q2] at c1 c2
                    have p1 := run_part (w := w) q1 (off := f.offset) (cs := X) (by rw [hf1]; exact c1) q3
                    have p2 := run_part (w := w) q1 (off := f.offset) (cs := Y) (by rw [hf1]; exact c2) q3
                    have hr2 := hrest _ _ q (by have := ha.drop kf.length; rwa [List.drop_drop, ← List.length_append] at this) (by have := hb.drop kf.length; rwa [List.drop_drop, ← List.length_append] at this) r2
                    simp only [Op.eqFields, hf2, ne_eq, not_false_eq_true, if_true, Sem.run_bind, p1, p2, Result.andThen, c3 m (by omega)]
                    subst r3
                    cases p
                    · rfl
                    · simpa using hr2
                · exfalso
                  have : ∀ (l : List Field), l.foldl (fun (r : Option (List Nat)) f => r.bind fun acc => if f.offset = acc.length ∧ f.name ≠ "_" then (plainKs P d f.type).bind fun k => some (acc ++ k) else none) none = none := by
                    intro l; induction l with
                    | nil => rfl
                    | cons g l ihl => simpa using ihl
                  rw [this] at h; cases h
            obtain ⟨k1, e1, hrun⟩ := key fs.toList [] _ hacc
            simp only [List.nil_append] at e1; subst e1
            exact hrun a b r (by simpa using hX) (by simpa using hY) hr
          · cases h
      | _ => cases h

theorem slice_eq {t el : TypeId} (hd : P.underlying t = some (.slice el)) (a b : Option Addr) {l c l' c' : Nat} {r : Bool} (h : (a = none ∧ r = b.isNone) ∨ (b = none ∧ r = a.isNone)) :
    (Op.equal t (.slice a l c) (.slice b l' c')).run P w = .ok r w := by
  have key : ∀ n, (Op.equalIn (n + 1) t (.slice a l c) (.slice b l' c')).run P w = .ok r w := by
    intro n
    simp only [Op.equalIn, Sem.run_bind, run_underlying hd, Result.andThen]
    rcases h with ⟨rfl, rfl⟩ | ⟨rfl, rfl⟩
    · rfl
    · cases a <;> rfl
  exact key 9999

theorem ptr_eq {t el : TypeId} (hd : P.underlying t = some (.pointer el)) (a b : Option Addr) {r : Bool} (h : (a = none ∧ r = b.isNone) ∨ (b = none ∧ r = a.isNone)) :
    (Op.equal t (.pointer a) (.pointer b)).run P w = .ok r w := by
  have key : ∀ n, (Op.equalIn (n + 1) t (.pointer a) (.pointer b)).run P w = .ok r w := by
    intro n
    simp only [Op.equalIn, Sem.run_bind, run_underlying hd, Result.andThen]
    rcases h with ⟨rfl, rfl⟩ | ⟨rfl, rfl⟩
    · rfl
    · cases a <;> rfl
  exact key 9999

theorem run_eq {ne : Bool} {t : TypeId} {ox oy : Operand} (hc : (eqCls P t).1 ≠ 0) (hx : Rd w gh x vx) (hy : Rd w gh y vy) (h : A.eq ne (eqCls P t).1 (eqCls P t).2 x y = some av) :
    ∃ v, (do eqGuard (if ne then .neq else .eql) t ox oy vx vy; binOp (if ne then .neq else .eql) t vx vy : Sem Value).run P w = .ok v w ∧ Sc av v := by
  unfold A.eq at h
  simp only [Option.bind_eq_some_iff] at h
  obtain ⟨b, hb, h⟩ := h
  cases h
  have fin : ∀ (hg : ∀ op, (eqGuard op t ox oy vx vy).run P w = .ok () w) (he : (Op.equal t vx vy).run P w = .ok b w) (h1 : ∀ op, (op = .eql ∨ op = .neq) → (binOp op t vx vy).run P w = (match op with | .eql => (do pure (.bool (← Op.equal t vx vy)) : Sem Value) | _ => (do pure (.bool (!(← Op.equal t vx vy))) : Sem Value)).run P w),
      ∃ v, (do eqGuard (if ne then .neq else .eql) t ox oy vx vy; binOp (if ne then .neq else .eql) t vx vy : Sem Value).run P w = .ok v w ∧ Sc (.bool (if ne then !b else b)) v := by
    intro hg he h1
    refine ⟨.bool (if ne then !b else b), ?_, sc_bool _⟩
    cases ne
    · simp only [Bool.false_eq_true, if_false, Sem.run_bind, hg, Result.andThen, h1 .eql (.inl rfl), he, Sem.run_pure]
    · simp only [if_true, Sem.run_bind, hg, Result.andThen, h1 .neq (.inr rfl), he, Sem.run_pure]
  unfold eqCls at hc hb
  obtain ⟨o, hd⟩ : ∃ o, P.underlying t = o := ⟨_, rfl⟩
  rw [hd] at hc hb
  cases o with
  | none => simp at hc
  | some desc =>
    cases desc with
    | bool =>
      simp only at hb
      unfold A.eqk at hb
      split at hb <;> first | (rename_i hcc; cases hcc) | skip
      all_goals first | cases hb | skip
      all_goals (try (cases hx; cases hy))
      all_goals first
        | (refine fin (fun op => by cases op <;> simp [eqGuard]) ?_ (fun op hop => by rcases hop with rfl | rfl <;> rfl)
           simp only [Op.equal, Op.maxDepth]
           exact run_equalIn_bool' w 9999 t _ _ hd)
        | (exfalso; simp_all)
    | struct fs =>
      simp only at hb hc
      cases hk : plainKs P 20 t with
      | none => rw [hk] at hc; simp at hc
      | some ks =>
        rw [hk] at hb hc
        simp only at hb hc
        split at hc
        · rename_i hgt
          rw [if_pos hgt] at hb
          simp only at hb
          unfold A.eqk at hb
          split at hb <;> first | (rename_i hcc; cases hcc) | skip
          all_goals first | cases hb | skip
          all_goals first
            | (obtain ⟨desc, q1, q2, q3, q4⟩ := plain_sound (w := w) (gh := gh) 20 t ks hk
               cases hx with
               | agg cs1 vs1 r1 o1 =>
                 cases hy with
                 | agg cs2 vs2 r2 o2 =>
                   obtain ⟨vx, vy, c1, c2, c3⟩ := q4 vs1 vs2 _ _ b r1 r2 hb
                   have hag : isAg P t = true := by simp [isAg, hd]
                   simp only [valOf, hag, if_true, Option.some.injEq] at c1 c2
                   subst c1 c2
                   exact fin (fun op => run_eqGuard_agg w op t ox oy _ _ hgt) (by simp only [Op.equal, Op.maxDepth]; exact c3 10000 (by omega)) (fun op hop => by rcases hop with rfl | rfl <;> rfl))
            | (exfalso; simp_all)
        · simp at hc
    | slice el =>
      simp only at hb
      unfold A.eqk at hb
      split at hb <;> first | (rename_i hcc; cases hcc) | skip
      all_goals first | cases hb | skip
      all_goals (try (cases hx; cases hy))
      all_goals first
        | (refine fin (fun op => by cases op <;> simp [eqGuard]) ?_ (fun op hop => by rcases hop with rfl | rfl <;> rfl)
           exact slice_eq hd _ _ (by simp))
        | (exfalso; simp_all)
    | pointer el =>
      simp only at hb hc
      split at hc
      · simp at hc
      · rename_i hz
        rw [if_neg hz] at hb
        simp only at hb
        unfold A.eqk at hb
        split at hb <;> first | (rename_i hcc; cases hcc) | skip
        all_goals first | cases hb | skip
        all_goals (try (cases hx; cases hy))
        all_goals first
          | (refine fin (fun op => by cases op <;> simp [eqGuard]) ?_ (fun op hop => by rcases hop with rfl | rfl <;> rfl)
             exact ptr_eq hd _ _ (by simp))
          | (exfalso; simp_all)
    | _ => simp at hc

theorem run_un {op : UnOp} (hx : Rd w gh x vx) (h : A.un op x = some av) : ∃ v, (Op.unary op vx).run P w = .ok v w ∧ Sc av v := by
  unfold A.un at h
  split at h
  · cases hx
    cases op with
    | neg => cases h; exact ⟨_, by simp only [Op.unary, Op.intArith]; rfl, sc_int _ _⟩
    | _ => cases h
  · cases hx
    cases op with
    | not => cases h; exact ⟨_, by simp only [Op.unary]; rfl, sc_bool _⟩
    | _ => cases h
  · cases h

theorem run_cvi {s t : TypeId} {k k' : IntKind} (hs : isInt P s = some k') (ht : isInt P t = some k) (hx : Rd w gh x vx) (h : A.cvi k x = some av) : ∃ v, (convert s t vx).run P w = .ok v w ∧ Sc av v := by
  unfold isInt at hs ht
  split at hs
  · rename_i hs'
    split at ht
    · rename_i ht'
      cases hs; cases ht
      unfold A.cvi at h
      split at h
      · cases hx
        cases h
        refine ⟨_, ?_, sc_int _ _⟩
        simp only [convert, Sem.run_bind, run_underlying hs', run_underlying ht', Result.andThen, Conv.intToInt]
        rfl
      · cases h
    · cases ht
  · cases hs

theorem run_cvid {s t : TypeId} (hs : isStr P s = true) (ht : isStr P t = true) (l : List UInt8) : (convert s t (.string ⟨l.toArray⟩)).run P w = .ok (.string ⟨l.toArray⟩) w := by
  unfold isStr at hs ht
  split at hs
  · rename_i hs'
    split at ht
    · rename_i ht'
      simp only [convert, Sem.run_bind, run_underlying hs', run_underlying ht', Result.andThen, Sem.run_pure]
    · cases ht
  · cases hs

theorem run_len {t ty : TypeId} (ht : isStr P t = true ∨ (elemT P t).isSome = true) (hx : Rd w gh x vx) (h : A.len (isStr P t) x = some av) : ∃ v, (Builtin.len_ #[t] ty #[vx]).run P w = .ok v w ∧ Sc av v := by
  cases hs : isStr P t with
  | true =>
    rw [hs] at h
    unfold A.len at h
    split at h
    · rename_i s
      cases hx
      cases h
      unfold isStr at hs
      split at hs
      · rename_i ht'
        refine ⟨goInt (ByteArray.mk s.toArray).size, by simp [Builtin.len_, run_underlying ht'], ?_⟩
        have : (ByteArray.mk s.toArray).size = s.length := by simp [ByteArray.size]
        rw [this]; exact sc_int _ _
      · cases hs
    all_goals simp at h
  | false =>
    rw [hs] at h ht
    have ht' : (elemT P t).isSome = true := by simpa using ht
    unfold elemT at ht'
    split at ht'
    · rename_i el hd
      unfold A.len at h
      split at h
      · simp at h
      · cases h
        cases hx
        exact ⟨_, by simp only [Builtin.len_]; simp [run_underlying hd]; rfl, sc_int _ _⟩
      · cases h
        cases hx
        · exact ⟨_, by simp only [Builtin.len_]; simp [run_underlying hd]; rfl, sc_int _ _⟩
      · cases h
    · cases ht'

end
end Tr

namespace Tr
open Go

theorem add_add (a : Addr) (m n : Nat) : (a.add m).add n = a.add (m + n) := by
  unfold Addr.add
  by_cases hm : m = 0
  · subst hm; simp
  · by_cases hn : n = 0
    · subst hn; simp
    · simp [hm, hn]; omega

theorem hdSz_spec {w : World} {im : Nat → Prop} {et : List Nat} {sz sz' : Nat} {xs : List AV} {vs : List Value} (h : RepE w im et sz xs vs) (hh : A.hdSz sz' xs = true) : RepE w im et sz' xs vs := by
  cases xs with
  | nil => cases h; exact .nil sz'
  | cons x xs =>
    have h1 := h.size (i := 0) (x := x) (by simp)
    simp only [A.hdSz, beq_iff_eq] at hh
    rw [h1] at hh; exact hh ▸ h

section
variable {P : Program} {w : World} {im : Nat → Prop} {et : List Nat} {gh : Gh} {x y : AV} {vx vy : Value} {av : AV}

theorem run_sizeOf' {t : TypeId} (h : P.cellsOf t ≠ 0) : (Go.sizeOf t).run P w = .ok (P.cellsOf t) w := by
  unfold Program.cellsOf at h ⊢
  cases hi : P.info? t with
  | none => rw [hi] at h; simp at h
  | some i => simp [Go.sizeOf, typeInfo, hi]

theorem run_idx {t : TypeId} (ht : isStr P t = true) (hx : Rd w gh x vx) (hy : Rd w gh y vy) (h : A.idx x y = some av) : ∃ v, (Instr.index t vx vy).run P w = .ok v w ∧ Sc av v := by
  unfold isStr at ht
  split at ht
  · rename_i hd
    unfold A.idx at h
    split at h
    · rename_i s k i
      cases hx; cases hy
      split at h
      · rename_i h0
        simp only [Option.bind_eq_some_iff] at h
        obtain ⟨b, hb, h⟩ := h
        cases h
        have hlt : i.toNat < s.length := (List.getElem?_eq_some_iff.1 hb).1
        have hsz : (ByteArray.mk s.toArray).size = s.length := by simp [ByteArray.size]
        refine ⟨.int .u8 b.toNat, ?_, sc_int _ _⟩
        rw [run_index_string w t _ k i hd]
        rw [dif_pos ⟨h0, by rw [hsz]; omega⟩]
        have hbb : (ByteArray.mk s.toArray)[i.toNat]'(by rw [hsz]; omega) = b := by
          have := (List.getElem?_eq_some_iff.1 hb).2
          show (s.toArray)[i.toNat] = b
          simpa using this
        rw [hbb]
      · cases h
    · cases h
  · cases ht

theorem run_bounds {isS : Bool} {len cap l h : Nat} {lo hi : Option Value} (hl : l ≤ h) (hh : h ≤ cap) (hlo : (lo = none ∧ l = 0) ∨ ∃ k, lo = some (.int k l)) (hhi : (hi = none ∧ h = len) ∨ ∃ k, hi = some (.int k h)) :
    (Instr.sliceBounds isS len cap lo hi none).run P w = .ok (l, h, cap) w := by
  unfold Instr.sliceBounds
  rcases hhi with ⟨rfl, rfl⟩ | ⟨k, rfl⟩
  · rcases hlo with ⟨rfl, rfl⟩ | ⟨k', rfl⟩
    · simp
    · have := run_sliceBound (P := P) w k' (l : Int) h (.sliceB) (by omega) (by omega)
      simp [this]
  · have h1 := run_sliceBound (P := P) w k (h : Int) cap (if isS = true then BoundsCode.sliceAcap else BoundsCode.sliceAlen) (by omega) (by omega)
    rcases hlo with ⟨rfl, rfl⟩ | ⟨k', rfl⟩
    · simp [h1]
    · have := run_sliceBound (P := P) w k' (l : Int) h (.sliceB) (by omega) (by omega)
      simp [h1, this]

/-- The bounds of a slice expression, as the abstract one asks them. -/
def bnds (n : Nat) (lo hi : Option AV) : Option (Nat × Nat) :=
  match lo, hi with
  | some (.int _ l), some (.int _ h) => if 0 ≤ l ∧ l ≤ h ∧ h ≤ n then some (l.toNat, h.toNat) else none
  | some (.int _ l), none => if 0 ≤ l ∧ l ≤ n then some (l.toNat, n) else none
  | none, some (.int _ h) => if 0 ≤ h ∧ h ≤ n then some (0, h.toNat) else none
  | none, none => some (0, n)
  | _, _ => none

inductive RdOpt (w : World) (gh : Gh) : Option AV → Option Value → Prop
  | none : RdOpt w gh none none
  | some (x : AV) (v : Value) (h : Rd w gh x v) : RdOpt w gh (some x) (some v)

theorem bnds_run {isS : Bool} {n cap : Nat} (hc : n ≤ cap) {lo hi : Option AV} {vlo vhi : Option Value} (hlo : RdOpt w gh lo vlo) (hhi : RdOpt w gh hi vhi) {l h : Nat} (hb : bnds n lo hi = some (l, h)) :
    l ≤ h ∧ h ≤ n ∧ (Instr.sliceBounds isS n cap vlo vhi none).run P w = .ok (l, h, cap) w := by
  unfold bnds at hb
  split at hb
  · split at hb
    · rename_i hc'
      obtain ⟨h1, h2, h3⟩ := hc'
      cases hb
      cases hlo with | some _ _ q1 => cases hhi with | some _ _ q2 =>
        cases q1; cases q2
        exact ⟨by omega, by omega, run_bounds (by omega) (by omega) (.inr ⟨_, by rw [Int.toNat_of_nonneg h1]⟩) (.inr ⟨_, by rw [Int.toNat_of_nonneg (by omega)]⟩)⟩
    · cases hb
  · split at hb
    · rename_i hc'
      obtain ⟨h1, h2⟩ := hc'
      cases hb
      cases hlo with | some _ _ q1 => ?_
      cases hhi with | none => ?_
      cases q1
      exact ⟨by omega, by omega, run_bounds (by omega) (by omega) (.inr ⟨_, by rw [Int.toNat_of_nonneg h1]⟩) (.inl ⟨rfl, rfl⟩)⟩
    · cases hb
  · split at hb
    · rename_i hc'
      obtain ⟨h1, h2⟩ := hc'
      cases hb
      cases hhi with | some _ _ q1 => ?_
      cases hlo with | none => ?_
      cases q1
      exact ⟨by omega, by omega, run_bounds (by omega) (by omega) (.inl ⟨rfl, rfl⟩) (.inr ⟨_, by rw [Int.toNat_of_nonneg h1]⟩)⟩
    · cases hb
  · cases hb
    cases hlo; cases hhi
    exact ⟨by omega, by omega, run_bounds (by omega) (by omega) (.inl ⟨rfl, rfl⟩) (.inl ⟨rfl, rfl⟩)⟩
  · cases hb

theorem sub_str {sz : Nat} {s : List UInt8} {lo hi : Option AV} (h : A.sub true sz (.str s) lo hi = some av) : ∃ l r, bnds s.length lo hi = some (l, r) ∧ av = .str ((s.take r).drop l) := by
  unfold A.sub at h
  simp only [Bool.not_true, Bool.false_eq_true, if_false] at h
  unfold bnds
  split at h
  · split at h
    · rename_i hc; cases h; simp only [hc, and_self, if_true]; exact ⟨_, _, rfl, rfl⟩
    · cases h
  · split at h
    · rename_i hc; cases h; simp only [hc, and_self, if_true]; exact ⟨_, _, rfl, by simp⟩
    · cases h
  · split at h
    · rename_i hc; cases h; simp only [hc, and_self, if_true]; exact ⟨_, _, rfl, by simp⟩
    · cases h
  · cases h; exact ⟨_, _, rfl, by simp⟩
  · cases h

theorem sub_sl {sz : Nat} {x : AV} {xs : List AV} (hx : A.els x = some xs) {lo hi : Option AV} (h : A.sub false sz x lo hi = some av) : A.hdSz sz xs = true ∧ ∃ l r, bnds xs.length lo hi = some (l, r) ∧ av = A.slW x ((xs.take r).drop l) := by
  have h' : (if (!A.hdSz sz xs) = true then none else
    match lo, hi with
    | some (.int _ l), some (.int _ h) => if 0 ≤ l ∧ l ≤ h ∧ h ≤ xs.length then some (A.slW x ((xs.take h.toNat).drop l.toNat)) else none
    | some (.int _ l), none => if 0 ≤ l ∧ l ≤ xs.length then some (A.slW x (xs.drop l.toNat)) else none
    | none, some (.int _ h) => if 0 ≤ h ∧ h ≤ xs.length then some (A.slW x (xs.take h.toNat)) else none
    | none, none => some (A.slW x xs)
    | _, _ => none) = some av := by
    unfold A.els at hx
    split at hx
    · cases hx; exact h
    · cases hx; exact h
    · cases hx
  clear h
  split at h'
  · cases h'
  · rename_i hz
    refine ⟨by simpa using hz, ?_⟩
    unfold bnds
    split at h'
    · split at h'
      · rename_i hc; cases h'; simp only [hc, and_self, if_true]; exact ⟨_, _, rfl, rfl⟩
      · cases h'
    · split at h'
      · rename_i hc; cases h'; simp only [hc, and_self, if_true]; exact ⟨_, _, rfl, by simp⟩
      · cases h'
    · split at h'
      · rename_i hc; cases h'; simp only [hc, and_self, if_true]; exact ⟨_, _, rfl, by simp⟩
      · cases h'
    · cases h'; exact ⟨_, _, rfl, by simp⟩
    · cases h'

theorem run_sub_str {t : TypeId} (ht : P.underlying t = some .string) {sz : Nat} {lo hi : Option AV} {vlo vhi : Option Value} (hx : Rep w im et x vx) (hlo : RdOpt w gh lo vlo) (hhi : RdOpt w gh hi vhi) (h : A.sub true sz x lo hi = some av) :
    ∃ v, (Instr.sliceAt t vx vlo vhi none).run P w = .ok v w ∧ Sc av v := by
  have hx' : ∃ s, x = .str s := by
    unfold A.sub at h
    split at h
    · exact ⟨_, rfl⟩
    · simp at h
    · simp at h
    · cases h
  obtain ⟨s, rfl⟩ := hx'
  cases hx
  obtain ⟨l, r, hb, rfl⟩ := sub_str h
  have hsz : (ByteArray.mk s.toArray).size = s.length := by simp [ByteArray.size]
  obtain ⟨h1, h2, h3⟩ := bnds_run (P := P) (isS := false) (Nat.le_refl _) hlo hhi hb
  refine ⟨.string ((ByteArray.mk s.toArray).extract l r), ?_, ?_⟩
  · unfold Instr.sliceAt Instr.slice
    simp only [Sem.run_bind, run_underlying ht, Result.andThen, Option.isSome_none, Bool.false_eq_true, if_false, hsz, h3, Sem.run_pure]
  · have e : (ByteArray.mk s.toArray).extract l r = ⟨((s.take r).drop l).toArray⟩ := by
      apply ByteArray.ext
      simp [ByteArray.data_extract]
      rw [List.drop_take]
    rw [e]; exact sc_str _

theorem run_sub_sl {t el : TypeId} (ht : P.underlying t = some (.slice el)) (hel : P.cellsOf el ≠ 0) {lo hi : Option AV} {vlo vhi : Option Value} (hx : Rep w im et x vx) (hlo : RdOpt w gh lo vlo) (hhi : RdOpt w gh hi vhi)
    (h : A.sub false (P.cellsOf el) x lo hi = some av) : ∃ v, (Instr.sliceAt t vx vlo vhi none).run P w = .ok v w ∧ Rep w im et av v := by
  have hx' : ∃ xs, A.els x = some xs := by
    unfold A.sub at h
    split at h
    · simp at h
    · exact ⟨_, rfl⟩
    · exact ⟨_, rfl⟩
    · cases h
  obtain ⟨xs, hxs⟩ := hx'
  obtain ⟨hz, l, r, hb, rfl⟩ := sub_sl hxs h
  have run : ∀ (a : Option Addr) (len cap : Nat), len = xs.length → len ≤ cap → l ≤ r ∧ r ≤ len ∧
      (Instr.sliceAt t (.slice a len cap) vlo vhi none).run P w = .ok (.slice (if cap = l then a else a.map (·.add (l * P.cellsOf el))) (r - l) (cap - l)) w := by
    intro a len cap hl hc
    subst hl
    obtain ⟨h1, h2, h3⟩ := bnds_run (P := P) (isS := true) hc hlo hhi hb
    refine ⟨h1, h2, ?_⟩
    unfold Instr.sliceAt Instr.slice
    simp only [Sem.run_bind, run_underlying ht, Result.andThen, h3, run_sizeOf' hel, Sem.run_pure]
  have empty : xs = [] → ∃ v, (Instr.sliceAt t (.slice none 0 0) vlo vhi none).run P w = .ok v w ∧ Rep w im et .nil v := by
    intro hx0
    subst hx0
    obtain ⟨h1, h2, h3⟩ := run none 0 0 rfl (Nat.le_refl _)
    have : r = 0 := by omega
    subst this
    have : l = 0 := by omega
    subst this
    exact ⟨_, h3, by simpa using Rep.nil⟩
  cases hx with
  | nil => simp [A.els] at hxs; exact empty hxs
  | sl xs' a cap sz vs hE hc hi' hm =>
    simp [A.els] at hxs
    subst hxs
    obtain ⟨h1, h2, h3⟩ := run (some a) xs'.length cap rfl hc
    refine ⟨_, h3, ?_⟩
    have hE' := hdSz_spec hE hz
    have hlen : ((xs'.take r).drop l).length = r - l := by simp; omega
    have hrep : RepE w im et (P.cellsOf el) ((xs'.take r).drop l) ((vs.take (r * P.cellsOf el)).drop (l * P.cellsOf el)) := (hE'.take r).drop l
    rw [← hlen]
    by_cases hcl : cap = l
    · have : (xs'.take r).drop l = [] := by apply List.eq_nil_of_length_eq_zero; omega
      rw [if_pos hcl, this]
      exact .sl [] a (cap - l) (P.cellsOf el) [] (.nil _) (Nat.zero_le _) (fun h => absurd rfl h) (by simp)
    · rw [if_neg hcl]
      refine .sl _ (a.add (l * P.cellsOf el)) (cap - l) (P.cellsOf el) _ hrep (by omega) (fun hne => ?_) (fun j u hu => ?_)
      · rw [Addr.add_block]; exact hi' (by intro e; subst e; simp at hne)
      · rw [add_add]
        apply hm
        rw [List.getElem?_drop, List.getElem?_take] at hu
        split at hu
        · exact hu
        · cases hu
  | _ => simp [A.els] at hxs

theorem at_spec {xs : List AV} {i a : AV} (h : A.at_ xs i = some a) : ∃ k n, i = .int k n ∧ 0 ≤ n ∧ n.toNat < xs.length ∧ xs[n.toNat]? = some a := by
  unfold A.at_ at h
  split at h
  · split at h
    · rename_i hn; exact ⟨_, _, rfl, hn, (List.getElem?_eq_some_iff.1 h).1, h⟩
    · cases h
  · cases h

theorem run_indexAt {t el : TypeId} (ht : P.underlying t = some (.slice el)) (hel : P.cellsOf el ≠ 0) {a : Addr} {len cap : Nat} {k : IntKind} {n : Int} (h0 : 0 ≤ n) (h1 : n < (len : Int)) :
    (Instr.indexAt t (.slice (some a) len cap) (.int k n)).run P w = .ok (.pointer (some (a.add (n.toNat * P.cellsOf el)))) w := by
  unfold Instr.indexAt
  simp only [asIntOf, Sem.run_bind, Sem.run_pure, run_underlying ht, Result.andThen, h0, h1, and_self, if_true, run_sizeOf' hel]

theorem run_elp {t el : TypeId} (ht : P.underlying t = some (.slice el)) (hel : P.cellsOf el ≠ 0) (hx : Rep w im et x vx) (hy : Rd w gh y vy) (h : A.elp (P.cellsOf el) x y = some av) :
    ∃ v, (Instr.indexAt t vx vy).run P w = .ok v w ∧ Rep w im et av v := by
  unfold A.elp at h
  simp only [Option.bind_eq_some_iff] at h
  obtain ⟨xs, hxs, a, ha, h⟩ := h
  obtain ⟨k, n, rfl, h0, hlt, hget⟩ := at_spec ha
  split at h
  · rename_i hnc
    cases h
    cases hy
    cases hx with
    | nil => simp [A.els] at hxs; subst hxs; simp at hlt
    | sl xs' ad cap sz vs hE hc hi hm =>
      simp [A.els] at hxs
      subst hxs
      refine ⟨_, run_indexAt ht hel h0 (by omega), ?_⟩
      have hsz := hE.size hget
      obtain ⟨us, r1, r2, r3, r4, _⟩ := hE.get hget
      refine .ip a.cells _ us r1 r3 (by rw [Addr.add_block]; exact hi (by intro e; subst e; simp at hlt)) (fun j u hu => ?_)
      rw [add_add, ← hnc, hsz]
      exact hm _ u (r4 j u hu)
    | _ => simp [A.els] at hxs
  · cases h

/-- A load of what lies at a place. -/
theorem run_loadAt {ty : TypeId} {d : TypeDesc} (hd : P.underlying ty = some d) {a : Addr} {cs : List AV} {vs : List Value} (hr : RepL w im et cs vs) (h1 : ∀ v ∈ vs, v.oneCell' = true) (hm : ∀ j u, vs[j]? = some u → w.cell? (a.add j) = some u)
    (h : A.cut (isAg P ty) (P.cellsOf ty) cs = some av) : ∃ v, (Instr.loadAt ty (.pointer (some a))).run P w = .ok v w ∧ Rep w im et av v := by
  unfold Instr.loadAt Instr.sureAddr loadVar
  simp only [Sem.run_bind, Sem.run_pure, Result.andThen, run_isAgg hd]
  unfold A.cut at h
  cases hag : isAg P ty with
  | true =>
    rw [hag] at h
    simp only [if_true] at h ⊢
    split at h
    · rename_i hn
      cases h
      have hl : (vs.take (P.cellsOf ty)).length = P.cellsOf ty := by simp [hr.len]; omega
      have hld : (loadCells a (P.cellsOf ty)).run P w = .ok (vs.take (P.cellsOf ty)).toArray w := by
        have := run_loadCells_list (P := P) w a (vs.take (P.cellsOf ty)) (fun j v hj => by
          rw [List.getElem?_take] at hj
          split at hj
          · exact hm j v hj
          · cases hj)
        rw [hl] at this; exact this
      refine ⟨_, by simp only [Sem.run_bind, run_sizeOf hd, Result.andThen, hld, Sem.run_pure]; rfl, ?_⟩
      exact .agg _ _ (hr.take _) (fun v hv => h1 v (List.mem_of_mem_take hv))
    · cases h
  | false =>
    rw [hag] at h
    simp only [Bool.false_eq_true, if_false] at h ⊢
    match cs, vs, hr, h with
    | x :: _, v :: _, .cons _ _ _ _ hx _, h =>
      cases h
      have hc := hm 0 v rfl
      have e0 : a.add 0 = a := by simp [Addr.add]
      rw [e0] at hc
      exact ⟨v, by simp [hc], hx⟩

end
end Tr

namespace Tr
open Go

section
variable {P : Program} {w : World} {im : Nat → Prop} {et : List Nat} {gh : Gh} {x y : AV} {vx vy : Value} {av : AV}

theorem okT_spec {t : TypeId} (h : okT P t = true) : (∃ d, P.underlying t = some d) ∧ ∃ i, P.info? t = some i := by
  unfold okT at h
  simp only [Bool.and_eq_true, Option.isSome_iff_exists] at h
  exact h

theorem run_sizeOfT {t : TypeId} (h : okT P t = true) : (Go.sizeOf t).run P w = .ok (P.cellsOf t) w := by
  obtain ⟨⟨d, hd⟩, _⟩ := okT_spec h
  exact run_sizeOf hd

theorem cs_cells (hx : Rep w im et x vx) {ag : Bool} {m : List AV} (h : A.cs ag x = some m) : RepL w im et m vx.cells.toList ∧ (∀ u ∈ vx.cells.toList, u.oneCell' = true) := by
  unfold A.cs at h
  cases hx <;> simp only at h
  case agg cs vs hr h1 =>
    cases ag <;> simp at h
    subst h
    exact ⟨by simpa [Value.cells] using hr, by simpa [Value.cells] using h1⟩
  case undef => cases h
  case tup => cases h
  case bool b => cases ag <;> simp at h; subst h; exact ⟨by simp [Value.cells]; exact .cons _ _ _ _ (.bool b) .nil, by simp [Value.cells, Value.oneCell']⟩
  case int k n => cases ag <;> simp at h; subst h; exact ⟨by simp [Value.cells]; exact .cons _ _ _ _ (.int k n) .nil, by simp [Value.cells, Value.oneCell']⟩
  case str s => cases ag <;> simp at h; subst h; exact ⟨by simp [Value.cells]; exact .cons _ _ _ _ (.str s) .nil, by simp [Value.cells, Value.oneCell']⟩
  case nil => cases ag <;> simp at h; subst h; exact ⟨by simp [Value.cells]; exact .cons _ _ _ _ .nil .nil, by simp [Value.cells, Value.oneCell']⟩
  case nilp => cases ag <;> simp at h; subst h; exact ⟨by simp [Value.cells]; exact .cons _ _ _ _ .nilp .nil, by simp [Value.cells, Value.oneCell']⟩
  case nilf => cases ag <;> simp at h; subst h; exact ⟨by simp [Value.cells]; exact .cons _ _ _ _ .nilf .nil, by simp [Value.cells, Value.oneCell']⟩
  case sl xs a cap sz vs r1 r2 r3 r4 => cases ag <;> simp at h; subst h; exact ⟨by simp [Value.cells]; exact .cons _ _ _ _ (.sl xs a cap sz vs r1 r2 r3 r4) .nil, by simp [Value.cells, Value.oneCell']⟩
  case ip cs a vs r1 r2 r3 r4 => cases ag <;> simp at h; subst h; exact ⟨by simp [Value.cells]; exact .cons _ _ _ _ (.ip cs a vs r1 r2 r3 r4) .nil, by simp [Value.cells, Value.oneCell']⟩
  case fn f fs cs fv cv r1 r2 => cases ag <;> simp at h; subst h; exact ⟨by simp [Value.cells]; exact .cons _ _ _ _ (.fn f fs cs fv cv r1 r2) .nil, by simp [Value.cells, Value.oneCell']⟩
  case ref id off B r => cases ag <;> simp at h; subst h; exact ⟨by simp [Value.cells]; exact .cons _ _ _ _ (.ref id off B r) .nil, by simp [Value.cells, Value.oneCell']⟩

theorem csn_cells (hx : Rep w im et x vx) {ag : Bool} {n : Nat} {m : List AV} (h : A.csn ag n x = some m) : RepL w im et m vx.cells.toList ∧ (∀ u ∈ vx.cells.toList, u.oneCell' = true) ∧ m.length = n ∧ vx.cells.toList.length = n := by
  unfold A.csn at h
  simp only [Option.bind_eq_some_iff] at h
  obtain ⟨m', h1, h2⟩ := h
  split at h2
  · rename_i hl
    cases h2
    obtain ⟨r1, r2⟩ := cs_cells hx h1
    exact ⟨r1, r2, hl, by rw [r1.len, hl]⟩
  · cases h2

theorem fieldOf_spec {s : TypeId} {f : Nat} {fl : Field} (h : fieldOf P s f = some fl) : ∃ fs, P.underlying s = some (.struct fs) ∧ fs[f]? = some fl := by
  unfold fieldOf at h
  split at h
  · rename_i fs hd; exact ⟨fs, hd, h⟩
  · cases h

theorem run_fieldAt {s : TypeId} {f : Nat} {fl : Field} (h : fieldOf P s f = some fl) (hz : P.cellsOf fl.type ≠ 0) (a : Addr) : (Instr.fieldAt s (.pointer (some a)) f).run P w = .ok (.pointer (some (a.add fl.offset))) w := by
  obtain ⟨fs, hd, hf⟩ := fieldOf_spec h
  simp only [Instr.fieldAt, Sem.run_bind, run_underlying hd, Result.andThen, hf, Instr.sureAddr, Sem.run_pure, fieldPlace, run_sizeOf' hz, hz, if_false]

theorem run_fa {s : TypeId} {f : Nat} {fl : Field} (hf : fieldOf P s f = some fl) (hz : P.cellsOf fl.type ≠ 0) (hx : Rep w im et x vx) (h : A.fa fl.offset x = some av) : ∃ v, (Instr.fieldAt s vx f).run P w = .ok v w ∧ Rep w im et av v := by
  unfold A.fa at h
  split at h
  · cases h
    cases hx with
    | ip cs a vs h1 h2 h3 h4 =>
      refine ⟨_, run_fieldAt hf hz a, .ip _ (a.add fl.offset) (vs.drop fl.offset) (h1.drop _) (fun v hv => h2 v (List.mem_of_mem_drop hv)) (by rw [Addr.add_block]; exact h3) (fun j u hu => ?_)⟩
      rw [add_add]
      exact h4 _ u (by rw [List.getElem?_drop] at hu; exact hu)
  · rename_i id o
    cases h
    cases hx with
    | ref _ _ B h1 =>
      have : (⟨B, o, none⟩ : Addr).add fl.offset = ⟨B, o + fl.offset, none⟩ := Addr.add_lit _ _ _
      exact ⟨_, run_fieldAt hf hz ⟨B, o, none⟩, by rw [this]; exact .ref id _ B h1⟩
  · cases h

/-- What is held of an own memory's block. -/
theorem heap_block {e : Env} {h : AV} (hh : HeapOk w gh e) (he : e HS = h :: []) {id B : Nat} {c : List AV} (hB : gh.et[id]? = some B) (hc : A.block h id = some c) :
    ∃ vs el, w.heap[B]? = some (.cells vs.toArray el (0, 0)) ∧ RepL w gh.im gh.et c vs ∧ (∀ v ∈ vs, v.oneCell' = true) := by
  obtain ⟨bs, h1, h2, h3⟩ := hh
  rw [he] at h1
  cases h1
  obtain ⟨o, cs, vs, el, c1, c2, c3, c4⟩ := h3 id B hB
  simp only [A.block, c1] at hc
  cases hc
  exact ⟨vs, el, c2, c3, c4⟩

theorem run_ld {e : Env} {h : AV} (hp : ∀ id o, x = .ref id o → HeapOk w gh e ∧ e HS = [h]) {ty : TypeId} (ht : okT P ty = true) (hx : Rep w gh.im gh.et x vx) (hl : A.ld h (isAg P ty) (P.cellsOf ty) x = some av) :
    ∃ v, (Instr.loadAt ty vx).run P w = .ok v w ∧ Rep w gh.im gh.et av v := by
  obtain ⟨⟨d, hd⟩, _⟩ := okT_spec ht
  unfold A.ld at hl
  split at hl
  · cases hx with
    | ip cs a vs h1 h2 h3 h4 => exact run_loadAt hd h1 h2 h4 hl
  · rename_i id off
    simp only [Option.bind_eq_some_iff] at hl
    obtain ⟨c, hc, hl⟩ := hl
    cases hx with
    | ref _ _ B h1 =>
      obtain ⟨hh, he⟩ := hp _ _ rfl
      obtain ⟨vs, el, b1, b2, b3⟩ := heap_block hh he h1 hc
      refine run_loadAt hd (b2.drop off) (fun v hv => b3 v (List.mem_of_mem_drop hv)) (fun j u hu => ?_) hl
      rw [Addr.add_lit, cell_of_row w B _ _ el (0, 0) b1]
      rw [List.getElem?_drop] at hu
      simpa using hu
  · cases hl

theorem run_storeAt {ty : TypeId} (ht : okT P ty = true) {B off : Nat} {vs : List Value} {el : TypeId} (hb : w.heap[B]? = some (.cells vs.toArray el (0, 0))) {v : Value}
    (hl : v.cells.toList.length = P.cellsOf ty) (h1 : ∀ u ∈ v.cells.toList, u.oneCell' = true) (hfit : off + P.cellsOf ty ≤ vs.length) :
    (Instr.storeAt ty (.pointer (some ⟨B, off, none⟩)) v).run P w = .ok () (w.setRow B (vs.take off ++ v.cells.toList ++ vs.drop (off + P.cellsOf ty)).toArray) := by
  have hst := run_storeCells_at P B off el v.cells.toList 0 vs.toArray w hb (by simp only [List.size_toArray]; omega) h1
  have hsz : v.cells.size = P.cellsOf ty := by simpa using hl
  simp only [Nat.add_zero, hl] at hst
  simp only [Instr.storeAt, Instr.sureAddr, Sem.run_bind, Sem.run_pure, Result.andThen, storeVar, run_sizeOfT ht, hsz, ne_eq, not_true_eq_false, if_false]
  exact hst

theorem run_field {s : TypeId} {f : Nat} {fl : Field} (hf : fieldOf P s f = some fl) (ht : okT P fl.type = true) (hz : P.cellsOf fl.type ≠ 0) (hx : Rep w im et x vx) (h : A.fld (isAg P fl.type) fl.offset (P.cellsOf fl.type) x = some av) :
    ∃ v, (Instr.field s vx f).run P w = .ok v w ∧ Rep w im et av v := by
  obtain ⟨fs, hd, hf'⟩ := fieldOf_spec hf
  obtain ⟨⟨d, hdf⟩, _⟩ := okT_spec ht
  unfold A.fld at h
  split at h
  · rename_i cs
    cases hx with
    | agg _ vs hr h1 =>
      have key : ∀ v, valOf P fl.type ((vs.drop fl.offset).take (P.cellsOf fl.type)) = some v → (Instr.field s (.agg vs.toArray) f).run P w = .ok v w := by
        intro v hv
        have := run_part (w := w) hdf (off := fl.offset) hv (fun _ => hz)
        simp only [Instr.field, Sem.run_bind, run_underlying hd, Result.andThen, hf', asAgg, Sem.run_pure, this]
      unfold A.cut at h
      cases hag : isAg P fl.type with
      | true =>
        rw [hag] at h
        simp only [if_true] at h
        split at h
        · cases h
          refine ⟨_, key _ (by simp [valOf, hag]), .agg _ _ ((hr.drop _).take _) (fun v hv => h1 v (List.mem_of_mem_drop (List.mem_of_mem_take hv)))⟩
        · cases h
      | false =>
        rw [hag] at h
        simp only [Bool.false_eq_true, if_false] at h
        have hr' := hr.drop fl.offset
        revert h hr'
        cases hcs : cs.drop fl.offset with
        | nil => intro h; cases h
        | cons z zs =>
          intro h hr'
          cases h
          cases hvs : vs.drop fl.offset with
          | nil => rw [hvs] at hr'; cases hr'
          | cons u us =>
            rw [hvs] at hr'
            cases hr' with
            | cons _ _ _ _ hz' _ =>
              refine ⟨u, key u ?_, hz'⟩
              rw [hvs]
              obtain ⟨k, hk⟩ := Nat.exists_eq_succ_of_ne_zero hz
              simp [valOf, hag, hk]
  · cases h

theorem run_ext {i : Nat} {vs : List Value} {v : Value} (h : vs[i]? = some v) : (Instr.extract (.tuple vs.toArray) i).run P w = .ok v w := by
  simp [Instr.extract, h]

theorem run_nilc (h : A.nilc x = some av) (hx : Rep w im et x vx) : av = x ∧ ∃ a, vx = .pointer (some a) := by
  unfold A.nilc at h
  split at h
  · cases h; cases hx with | ref _ _ B h1 => exact ⟨rfl, _, rfl⟩
  · cases h; cases hx with | ip _ a vs h1 h2 h3 h4 => exact ⟨rfl, _, rfl⟩
  · cases h

end
end Tr

namespace Tr
open Go

theorem foldl_set (off : Nat) : ∀ (m : List Value) (k : Nat) (cs : Array Value), off + k + m.length ≤ cs.size →
    ((m.zipIdx k).foldl (fun cs (x : Value × Nat) => cs.setIfInBounds (off + x.2) x.1) cs).toList = cs.toList.take (off + k) ++ m ++ cs.toList.drop (off + k + m.length)
  | [], k, cs, h => by simp
  | v :: m, k, cs, h => by
    simp only [List.zipIdx_cons, List.foldl_cons]
    rw [foldl_set off m (k + 1) _ (by simp at h ⊢; omega)]
    have hlt : off + k < cs.toList.length := by simp at h ⊢; omega
    simp only [Array.toList_setIfInBounds]
    have e1 : (cs.toList.set (off + k) v).take (off + (k + 1)) = cs.toList.take (off + k) ++ [v] := by
      rw [← Nat.add_assoc, List.take_succ_eq_append_getElem (by simpa using hlt), List.take_set, List.set_eq_of_length_le (by simp; omega)]
      simp
    have e2 : (cs.toList.set (off + k) v).drop (off + (k + 1) + m.length) = cs.toList.drop (off + k + (v :: m).length) := by
      rw [List.drop_set_of_lt (by omega)]
      congr 1
      simp; omega
    rw [e1, e2]
    simp

theorem fill_step (off : Nat) (v : Value) (cs : Array Value) (h : off + v.cells.size ≤ cs.size) :
    (v.cells.zipIdx.foldl (fun cs (c, j) => cs.setIfInBounds (off + j) c) cs).toList = cs.toList.take off ++ v.cells.toList ++ cs.toList.drop (off + v.cells.size) := by
  rw [← Array.foldl_toList, Array.toList_zipIdx]
  have := foldl_set off v.cells.toList 0 cs (by simpa using h)
  simpa using this

section
variable {P : Program} {w : World} {im : Nat → Prop} {et : List Nat} {gh : Gh} {x y : AV} {vx vy : Value} {av : AV}

theorem okE_cells (hx : Rep w im et x vx) (h : A.okE x = true) : RepL w im et x.cells vx.cells.toList ∧ (∀ u ∈ vx.cells.toList, u.oneCell' = true) := by
  have key : ∀ ag, A.cs ag x = some x.cells → RepL w im et x.cells vx.cells.toList ∧ (∀ u ∈ vx.cells.toList, u.oneCell' = true) := fun ag h => cs_cells hx h
  cases hx <;> first | exact key true rfl | exact key false rfl | cases h

theorem CellsOk.splice {w : World} {gh : Gh} {kf : Nat → Key} {ks ns : List CKd} {cs m : List AV} {vs us : List Value} {off : Nat} (h : CellsOk w gh kf ks cs vs) (k : CellsOk w gh (fun j => kf (off + j)) ns m us)
    (hle : off + ns.length ≤ ks.length) : CellsOk w gh kf (ks.take off ++ ns ++ ks.drop (off + ns.length)) (A.splice cs off m) (vs.take off ++ us ++ vs.drop (off + us.length)) := by
  obtain ⟨a1, a2, a3, a4⟩ := h
  obtain ⟨b1, b2, b3, b4⟩ := k
  unfold A.splice
  have g : ∀ {α : Type} (l m : List α) (n i : Nat), m.length = n → off + n ≤ l.length → (l.take off ++ m ++ l.drop (off + m.length))[i]? = if i < off then l[i]? else if i < off + n then m[i - off]? else l[i]? := by
    intro α l m n i hm hl
    subst hm
    by_cases h1 : i < off
    · rw [if_pos h1, List.append_assoc, List.getElem?_append_left (by simp; omega), List.getElem?_take, if_pos h1]
    · rw [if_neg h1]
      by_cases h2 : i < off + m.length
      · rw [if_pos h2, List.append_assoc, List.getElem?_append_right (by simp; omega), List.getElem?_append_left (by simp; omega)]
        congr 1; simp; omega
      · rw [if_neg h2, List.append_assoc, List.getElem?_append_right (by simp; omega), List.getElem?_append_right (by simp; omega), List.getElem?_drop]
        congr 1; simp; omega
  refine ⟨by simp; omega, by simp; omega, fun v hv => ?_, fun i c x v h1 h2 h3 => ?_⟩
  · rcases List.mem_append.1 hv with hv | hv
    · rcases List.mem_append.1 hv with hv | hv
      · exact a3 v (List.mem_of_mem_take hv)
      · exact b3 v hv
    · exact a3 v (List.mem_of_mem_drop hv)
  · rw [g ks ns ns.length i rfl hle] at h1
    rw [g cs m ns.length i b1 (by omega)] at h2
    rw [g vs us ns.length i b2 (by omega)] at h3
    by_cases q1 : i < off
    · rw [if_pos q1] at h1 h2 h3; exact a4 i c x v h1 h2 h3
    · rw [if_neg q1] at h1 h2 h3
      by_cases q2 : i < off + ns.length
      · rw [if_pos q2] at h1 h2 h3
        have := b4 (i - off) c x v h1 h2 h3
        have e : off + (i - off) = i := by omega
        simpa only [e] using this
      · rw [if_neg q2] at h1 h2 h3; exact a4 i c x v h1 h2 h3

theorem cells_v {w : World} {gh : Gh} {kf : Nat → Key} {m : List AV} {us : List Value} (h : RepL w gh.im gh.et m us) (h1 : ∀ u ∈ us, u.oneCell' = true) : CellsOk w gh kf (List.replicate m.length .v) m us := by
  refine ⟨by simp, by simp [h.len], h1, fun k c x v a1 a2 a3 => ?_⟩
  rw [List.getElem?_replicate] at a1
  split at a1
  · cases a1
    obtain ⟨v', q1, q2⟩ := h.get a2
    rw [a3] at q1; cases q1
    exact q2
  · cases a1

theorem putKs_k (ks : List CK) (off : Nat) (ns : List CKd) (h : off + ns.length ≤ ks.length) : (putKs ks off ns).map CK.k = (ks.map CK.k).take off ++ ns ++ (ks.map CK.k).drop (off + ns.length) := by
  have key : ∀ (l : List CK) (ns : List CKd), ns.length ≤ l.length → (newKs l ns).map CK.k = ns ++ (l.map CK.k).drop ns.length := by
    intro l
    induction l with
    | nil => intro ns h; have : ns = [] := List.eq_nil_of_length_eq_zero (by simpa using h); subst this; rfl
    | cons c l ih =>
      intro ns h
      cases ns with
      | nil => simp [newKs]
      | cons k ns => simp [newKs, ih ns (by simpa using h)]
  unfold putKs
  rw [List.map_append, key _ _ (by simp; omega), List.map_take, List.map_drop, List.drop_drop, List.append_assoc]

theorem putKs_len (ks : List CK) (off : Nat) (ns : List CKd) : (putKs ks off ns).length = ks.length := by
  have key : ∀ (l : List CK) (ns : List CKd), (newKs l ns).length = l.length := by
    intro l
    induction l with
    | nil => intro ns; cases ns <;> rfl
    | cons c l ih => intro ns; cases ns <;> simp [newKs, ih]
  unfold putKs
  simp [key]; omega

theorem bldKs_len : ∀ (q : List (Nat × Bool × Nat)) (ks : List CK), (bldKs ks q).length = ks.length
  | [], _ => rfl
  | (off, _, n) :: r, ks => by rw [bldKs, bldKs_len r, putKs_len]

theorem partsOf_len {fs : Array Field} : ∀ {ps : List (Nat × Operand)} {q : List (Nat × Bool × Nat)}, partsOf P fs ps = some q → q.length = ps.length
  | [], q, h => by cases h; rfl
  | (i, o) :: r, q, h => by
    simp only [partsOf, Option.bind_eq_some_iff] at h
    obtain ⟨f, _, s, hs, h⟩ := h
    cases h
    simp [partsOf_len hs]

theorem fill_sound {kf : Nat → Key} {fs : Array Field} {place : Nat → Option (Nat × Nat)} (hpl : ∀ i f, fs[i]? = some f → place i = some (f.offset, P.cellsOf f.type)) (ρ : Operand → Value) :
    ∀ (ps : List (Nat × Operand)) (q : List (Nat × Bool × Nat)) (avs : List AV) (ks : List CK) (z : List AV) (zs : Array Value) (av : AV), partsOf P fs ps = some q → RepL w gh.im gh.et avs (ps.map fun p => ρ p.2) →
      CellsOk w gh kf (ks.map CK.k) z zs.toList → A.bld z (zip3 q avs) = some av →
      ∃ (cells : Array Value) (c : List AV), Instr.fill place zs (ps.map fun p => (p.1, ρ p.2)) = some cells ∧ av = .agg c ∧ CellsOk w gh kf ((bldKs ks q).map CK.k) c cells.toList
  | [], q, avs, ks, z, zs, av, hq, hr, hz, h => by
    cases hq
    simp only [zip3, A.bld] at h
    cases h
    exact ⟨zs, z, rfl, rfl, hz⟩
  | (i, o) :: r, q, avs, ks, z, zs, av, hq, hr, hz, h => by
    simp only [partsOf, Option.bind_eq_some_iff] at hq
    obtain ⟨f, hf, s, hs, hq⟩ := hq
    cases hq
    cases hr with
    | cons x xs v vs hx hxs =>
      simp only [zip3, A.bld, Option.bind_eq_some_iff] at h
      obtain ⟨m, hm, h⟩ := h
      split at h
      · rename_i hc
        obtain ⟨hc1, hc2⟩ := hc
        obtain ⟨c1, c2⟩ := cs_cells hx hm
        have hvl : (ρ o).cells.toList.length = P.cellsOf f.type := by rw [c1.len]; exact hc1
        have hvs : (ρ o).cells.size = P.cellsOf f.type := by simpa using hvl
        have hzl : zs.size = z.length := by have := hz.1; have := hz.2.1; simp at *; omega
        have hfit : f.offset + (ρ o).cells.size ≤ zs.size := by rw [hvs, hzl]; exact hc2
        have hst := fill_step f.offset (ρ o) zs hfit
        have hks : f.offset + m.length ≤ ks.length := by have := hz.1; simp at this; rw [hc1]; unfold szOf at hc2 ⊢; omega
        have hsp := hz.splice (off := f.offset) (cells_v (kf := fun j => kf (f.offset + j)) c1 c2) (by simp; omega)
        have hzz : CellsOk w gh kf ((putKs ks f.offset (List.replicate (szOf P f.type) .v)).map CK.k) (A.splice z f.offset m) ((ρ o).cells.zipIdx.foldl (fun cs (c, j) => cs.setIfInBounds (f.offset + j) c) zs).toList := by
          rw [putKs_k _ _ _ (by simp; rw [← hc1]; exact hks), hst]
          rw [← hc1]
          simpa using hsp
        obtain ⟨cells, c, r1, r2, r3⟩ := fill_sound hpl ρ r s xs _ _ _ av hs hxs hzz h
        refine ⟨cells, c, ?_, r2, r3⟩
        simp only [List.map_cons, Instr.fill, hpl i f hf]
        rw [if_neg (by simp [hvs]; rw [← hvs]; omega)]
        exact r1
      · cases h

theorem cvV_one {b : Bool} {v : Value} {x : AV} (h : cvV b v = some x) : v.oneCell' = true := by
  unfold cvV at h
  split at h <;> first | rfl | cases h

theorem cvL_spec {w : World} {im : Nat → Prop} {et : List Nat} : ∀ {vs : List Value} {z : List AV}, cvL vs = some z → RepL w im et z vs ∧ (∀ v ∈ vs, v.oneCell' = true)
  | [], z, h => by cases h; exact ⟨.nil, by simp⟩
  | v :: r, z, h => by
    simp only [cvL, Option.bind_eq_some_iff] at h
    obtain ⟨a, ha, b, hb, h⟩ := h
    cases h
    obtain ⟨h1, h2⟩ := cvL_spec (w := w) (im := im) (et := et) hb
    exact ⟨.cons _ _ _ _ (cvV_rep ha) h1, fun u hu => by
      rcases List.mem_cons.1 hu with rfl | hu
      · exact cvV_one ha
      · exact h2 u hu⟩

theorem zeroC_spec {t : TypeId} {z : List AV} (h : zeroC P t = some z) : ∃ i zv, P.info? t = some i ∧ i.zero = some zv ∧ cvL zv.cells.toList = some z := by
  unfold zeroC at h
  simp only [Option.bind_eq_some_iff] at h
  obtain ⟨i, hi, zv, hz, h⟩ := h
  exact ⟨i, zv, hi, hz, h⟩

theorem cvV_sl {v : Value} (h : cvV false v = some .nil) : v = .slice none 0 0 := by
  unfold cvV at h
  split at h <;> first | rfl | simp at h

theorem kz_cells {w : World} {gh : Gh} {kf : Nat → Key} : ∀ {ks : List CK} {vs : List Value} {z : List AV}, kzOk ks z = true → cvL vs = some z → CellsOk w gh kf (ks.map CK.k) z vs := by
  intro ks vs z hk hz
  obtain ⟨h1, h2⟩ := cvL_spec (w := w) (im := gh.im) (et := gh.et) hz
  have key : ∀ (ks : List CK) (vs : List Value) (z : List AV), kzOk ks z = true → cvL vs = some z → z.length = ks.length ∧ ∀ (k : Nat) (c : CKd) (x : AV) (v : Value), (ks.map CK.k)[k]? = some c → z[k]? = some x → vs[k]? = some v →
      (c = .v ∨ c = .dead ∨ ∃ e s, c = .own e s ∧ 0 < s ∧ x = .nil ∧ v = .slice none 0 0) := by
    intro ks
    induction ks with
    | nil => intro vs z hk hz; cases z <;> simp [kzOk] at hk; simp
    | cons c ks ih =>
      intro vs z hk hz
      cases z with
      | nil => simp [kzOk] at hk
      | cons x z =>
        cases vs with
        | nil => cases hz
        | cons v vs =>
          simp only [kzOk, Bool.and_eq_true] at hk
          simp only [cvL, Option.bind_eq_some_iff] at hz
          obtain ⟨a, ha, b, hb, hz⟩ := hz
          cases hz
          obtain ⟨i1, i2⟩ := ih vs z hk.2 hb
          refine ⟨by simp [i1], fun k c' x' v' a1 a2 a3 => ?_⟩
          cases k with
          | zero =>
            simp at a1 a2 a3
            subst a1 a2 a3
            cases hq : c.k with
            | dead => exact .inr (.inl rfl)
            | v => exact .inl rfl
            | own e s =>
              have hk1 := hk.1
              rw [hq] at hk1
              simp only at hk1
              split at hk1
              · simp only [bne_iff_ne, ne_eq] at hk1
                exact .inr (.inr ⟨e, s, rfl, by omega, rfl, cvV_sl ha⟩)
              · cases hk1
          | succ k => exact i2 k c' x' v' (by simpa using a1) (by simpa using a2) (by simpa using a3)
  obtain ⟨k1, k2⟩ := key ks vs z hk hz
  refine ⟨by simp [k1], by rw [h1.len]; simp [k1], h2, fun k c x v a1 a2 a3 => ?_⟩
  rcases k2 k c x v a1 a2 a3 with rfl | rfl | ⟨e, s, rfl, hs, rfl, rfl⟩
  · obtain ⟨v', q1, q2⟩ := h1.get a2
    rw [a3] at q1; cases q1
    exact q2
  · trivial
  · exact ⟨[], [], .inr ⟨rfl, rfl, rfl⟩, World.ownsRow_nil w 0 e s, .nil s, hs, fun B hB => by simp [Value.ownBlock] at hB⟩

theorem built_eq {t : TypeId} {fs : Array Field} {i : TypeInfo} {zv : Value} (hd : P.underlying t = some (.struct fs)) (hi : P.info? t = some i) (hz : i.zero = some zv) (hok : fs.toList.all (fun f => okT P f.type) = true) (parts : List (Nat × Value)) :
    ∃ place : Nat → Option (Nat × Nat), (∀ i f, fs[i]? = some f → place i = some (f.offset, P.cellsOf f.type)) ∧ P.built t parts = Instr.fill place zv.cells parts := by
  have hm : ∀ (l : List Field), l.all (fun f => okT P f.type) = true → l.mapM (fun f => (P.info? f.type).map fun i => (f.offset, i.size)) = some (l.map fun f => (f.offset, P.cellsOf f.type)) := by
    intro l
    induction l with
    | nil => intro _; rfl
    | cons f l ih =>
      intro h
      simp only [List.all_cons, Bool.and_eq_true] at h
      obtain ⟨_, i, hi⟩ := okT_spec h.1
      simp [List.mapM_cons, hi, ih h.2, Program.cellsOf]
  refine ⟨fun i => (fs.toList.map fun f => (f.offset, P.cellsOf f.type)).toArray[i]?, fun i f hf => ?_, ?_⟩
  · simp [hf]
  · unfold Program.built
    rw [hi, hd]
    simp only [hz, hm _ hok]

end
end Tr

namespace Tr
open Go

section
variable {P : Program} {w : World} {im : Nat → Prop} {et : List Nat} {gh : Gh} {x y : AV} {vx vy : Value} {av : AV}

theorem madeCells_succ (z : Array Value) (n : Nat) : (madeCells z ((n + 1) * z.size)).toList = (madeCells z (n * z.size)).toList ++ z.toList := by
  unfold madeCells
  simp only [Array.toList_map, Array.toList_range]
  rw [Nat.add_mul, Nat.one_mul, List.range_add, List.map_append]
  congr 1
  apply List.ext_getElem
  · simp
  · intro j h1 h2
    simp at h1 h2 ⊢
    rw [Nat.mod_eq_of_lt h2]
    simp [h2]

theorem made_rep {sz : Nat} {z : AV} {zs : Array Value} (hr : RepL w im et z.cells zs.toList) (h1 : ∀ u ∈ zs.toList, u.oneCell' = true) (hs : zs.size = sz) : ∀ n, RepE w im et sz (List.replicate n z) (madeCells zs (n * sz)).toList
  | 0 => by simp [madeCells]; exact .nil sz
  | n + 1 => by
    subst hs
    rw [madeCells_succ, List.replicate_succ']
    have := RepE.cons zs.size z [] zs.toList [] hr (by simp) h1 (.nil _)
    simp at this
    exact (made_rep hr h1 rfl n).app this

theorem fill_slice {sz : Nat} (ρ : Operand → Value) : ∀ (ps : List (Nat × Operand)) (i : Nat) (avs : List AV) (cs : Array Value), inOrder i ps = true → RepL w im et avs (ps.map fun p => ρ p.2) → A.allSz sz avs = true → (i + ps.length) * sz ≤ cs.size →
    ∃ cells vs, Instr.fill (fun i => some (i * sz, sz)) cs (ps.map fun p => (p.1, ρ p.2)) = some cells ∧ cells.toList = cs.toList.take (i * sz) ++ vs ++ cs.toList.drop ((i + ps.length) * sz) ∧ RepE w im et sz avs vs
  | [], i, avs, cs, _, hr, _, _ => by cases hr; exact ⟨cs, [], rfl, by simp, .nil sz⟩
  | (j, o) :: ps, i, avs, cs, ho, hr, hz, hl => by
    simp only [inOrder, Bool.and_eq_true, beq_iff_eq] at ho
    obtain ⟨rfl, ho⟩ := ho
    cases hr with
    | cons x xs v vs hx hxs =>
      simp only [A.allSz, Bool.and_eq_true, beq_iff_eq] at hz
      obtain ⟨⟨hz1, hz2⟩, hz3⟩ := hz
      obtain ⟨c1, c2⟩ := okE_cells hx hz2
      have hsz : (ρ o).cells.size = sz := by have := c1.len; simp at this; rw [this]; exact hz1
      have e1 : (i + 1) * sz = i * sz + sz := by rw [Nat.add_mul]; omega
      have e2 : (i + (ps.length + 1)) * sz = (i + 1 + ps.length) * sz := by congr 1; omega
      have e3 : (i + 1) * sz ≤ (i + 1 + ps.length) * sz := Nat.mul_le_mul_right _ (by omega)
      simp only [List.length_cons] at hl ⊢
      have hst := fill_step (i * sz) (ρ o) cs (by rw [hsz]; omega)
      generalize hC : ((ρ o).cells.zipIdx.foldl (fun cs (c, j) => cs.setIfInBounds (i * sz + j) c) cs) = C at hst
      have hCs : C.size = cs.size := by
        have := congrArg List.length hst
        simp [hsz] at this
        omega
      obtain ⟨cells, us, r1, r2, r3⟩ := fill_slice ρ ps (i + 1) xs C ho hxs hz3 (by rw [hCs]; omega)
      refine ⟨cells, (ρ o).cells.toList ++ us, ?_, ?_, .cons sz x xs _ us c1 (by simpa using hsz) c2 r3⟩
      · simp only [List.map_cons, Instr.fill]
        rw [if_neg (by simp [hsz]; omega)]
        rw [hC]; exact r1
      · rw [r2, hst, hsz, e2, e1]
        have hlen : (cs.toList.take (i * sz) ++ (ρ o).cells.toList).length = i * sz + sz := by simp [hsz]; omega
        rw [List.take_append_of_le_length (by omega), List.take_of_length_le (by omega)]
        have hd : (cs.toList.take (i * sz) ++ (ρ o).cells.toList ++ cs.toList.drop (i * sz + sz)).drop ((i + 1 + ps.length) * sz) = cs.toList.drop ((i + 1 + ps.length) * sz) := by
          have : (i + 1 + ps.length) * sz = (cs.toList.take (i * sz) ++ (ρ o).cells.toList).length + ((i + 1 + ps.length) * sz - (i * sz + sz)) := by rw [hlen]; omega
          rw [this, List.drop_length_add_append, List.drop_drop, hlen]
        rw [hd]
        simp

/-- What two worlds share, but for one block and what is new. -/
structure Grown (w w' : World) (row : Option Nat) : Prop where
  size : w.heap.size ≤ w'.heap.size
  block : ∀ k, k < w.heap.size → some k ≠ row → w'.heap[k]? = w.heap[k]?
  st : SameS w w'

theorem Grown.refl (w : World) (row : Option Nat) : Grown w w row := ⟨Nat.le_refl _, fun _ _ _ => rfl, SameS.refl _⟩
theorem Grown.of {w w' : World} {row : Option Nat} (h : w.grownBy w' row) : Grown w w' row := ⟨h.size, h.block, h.os, h.tape, h.output⟩
theorem Grown.alloc (w : World) (o : Obj) : Grown w (w.alloc o) none := ⟨by simp, fun k hk _ => heap_alloc_old w o k hk, rfl, rfl, rfl⟩
theorem Grown.setRow (w : World) (g : Nat) (cs : Array Value) : Grown w (w.setRow g cs) (some g) := ⟨by simp, fun k _ hk => setRow_other w g k cs (fun e => hk (by rw [e])), rfl, rfl, rfl⟩

theorem run_buildSlice {t el : TypeId} (ht : P.underlying t = some (.slice el)) (hz : zOk P el = true) (hn0 : P.cellsOf el ≠ 0) {n : Nat} (hn : n * P.cellsOf el ≤ 16777216) {ps : Array (Nat × Operand)} (ho : inOrder 0 ps.toList = true) (hl : ps.size = n)
    (ρ : Operand → Value) {avs : List AV} (hr : RepL w im et avs (ps.toList.map fun p => ρ p.2)) (h : A.mksl (P.cellsOf el) avs = some av) :
    av = .sl avs ∧ ∃ (cells : Array Value), (Instr.buildSlice t n (ps.map fun (i, x) => (i, ρ x))).run P w = .ok (.slice (some ⟨w.heap.size, 0, none⟩) n n) (w.alloc (.cells cells el)) ∧ cells.size = n * P.cellsOf el ∧ avs.length = n ∧ RepE w im et (P.cellsOf el) avs cells.toList := by
  unfold A.mksl at h
  split at h
  · rename_i hall
    cases h
    refine ⟨rfl, ?_⟩
    have havs : avs.length = n := by have := hr.len; simp at this; omega
    unfold zOk at hz
    split at hz
    · rename_i i hi
      split at hz
      · rename_i z hz0
        simp only [Bool.and_eq_true, beq_iff_eq] at hz
        have hcs : P.cellsOf el = i.size := by simp [Program.cellsOf, hi]
        obtain ⟨cells, vs, r1, r2, r3⟩ := fill_slice (sz := P.cellsOf el) ρ ps.toList 0 avs (madeCells z.cells (n * P.cellsOf el)) ho hr hall (by simp [size_madeCells, hl])
        have hlv : vs.length = n * P.cellsOf el := by rw [r3.len, havs]
        have e : cells.toList = vs := by
          rw [r2]
          simp [hl, madeCells]
        refine ⟨cells, ?_, by rw [← Array.length_toList, e, hlv], havs, by rw [e]; exact r3⟩
        have hmap : (ps.map fun (i, x) => (i, ρ x)).toList = ps.toList.map fun p => (p.1, ρ p.2) := by simp
        have h24 : ¬ (n * P.cellsOf el > 2 ^ 24) := by simp; omega
        by_cases h0 : n * P.cellsOf el = 0
        · have r1' := r1
          have em : madeCells z.cells (n * P.cellsOf el) = #[] := by rw [h0]; simp [madeCells]
          rw [em] at r1'
          simp only [Instr.buildSlice, Sem.run_bind, run_underlying ht, run_sizeOf' hn0, Result.andThen, h24, if_false, h0, if_true, Sem.run_pure, hmap]
          simp [r1', newRow, Array.range_zero']
        · have hzv : (zeroValue el).run P w = .ok z w := by simp [zeroValue, typeInfo, hi, hz0]
          simp only [Instr.buildSlice, Sem.run_bind, run_underlying ht, run_sizeOf' hn0, Result.andThen, h24, if_false, h0, if_false, hzv, Sem.run_pure, hmap]
          have r1' : Instr.fill (fun i => some (i * P.cellsOf el, P.cellsOf el)) (Array.map (fun x => z.cells[x % z.cells.size]!) (Array.range (n * P.cellsOf el))) (ps.toList.map fun p => (p.1, ρ p.2)) = some cells := r1
          simp [r1', newRow]
      · cases hz
    · cases hz
  · cases h

theorem zOk_spec {el : TypeId} (h : zOk P el = true) : ∃ i z, P.info? el = some i ∧ i.zero = some z ∧ i.size = P.cellsOf el ∧ z.cells.size = P.cellsOf el := by
  unfold zOk at h
  split at h
  · rename_i i hi
    split at h
    · rename_i z hz
      simp only [Bool.and_eq_true, beq_iff_eq] at h
      exact ⟨i, z, hi, hz, by simp [Program.cellsOf, hi], by simp [Program.cellsOf, hi, h.1]⟩
    · cases h
  · cases h

theorem zeroE_spec {el : TypeId} {z : AV} (h : zeroE P el = some z) {i : TypeInfo} {zv : Value} (hi : P.info? el = some i) (hz : i.zero = some zv) (hs : zv.cells.size ≠ 0) (hag : isAg P el = false → zv.cells.size = 1) :
    RepL w im et z.cells zv.cells.toList ∧ (∀ u ∈ zv.cells.toList, u.oneCell' = true) := by
  unfold zeroE at h
  simp only [Option.bind_eq_some_iff] at h
  obtain ⟨c, hc, h⟩ := h
  obtain ⟨i', zv', hi', hz', hc⟩ := zeroC_spec hc
  rw [hi] at hi'; cases hi'
  rw [hz] at hz'; cases hz'
  obtain ⟨h1, h2⟩ := cvL_spec (w := w) (im := im) (et := et) hc
  cases ha : isAg P el with
  | true => rw [ha] at h; simp at h; subst h; exact ⟨h1, h2⟩
  | false =>
    rw [ha] at h
    have hl := h1.len
    have := hag ha
    simp at hl
    have hc1 : c.length = 1 := by omega
    match c, hc1, h with
    | [x], _, h =>
      simp at h
      subst h
      refine ⟨?_, h2⟩
      have : x.cells = [x] := by
        cases x <;> try rfl
        exfalso
        revert h1
        generalize zv.cells.toList = l
        intro h1
        have hc' := hc
        clear h2 hl hc
        revert hc'
        cases hzl : zv.cells.toList with
        | nil => intro hc'; cases hc'
        | cons v r =>
          intro hc'
          simp only [cvL, Option.bind_eq_some_iff] at hc'
          obtain ⟨a, ha', b, hb, hc'⟩ := hc'
          cases hc'
          unfold cvV at ha'
          split at ha' <;> simp at ha'
      rw [this]; exact h1

theorem run_mks {t el : TypeId} (ht : P.underlying t = some (.slice el)) (hz : zOk P el = true) (hn0 : P.cellsOf el ≠ 0) (hag : isAg P el = false → P.cellsOf el = 1) {z : AV} (hze : zeroE P el = some z) (hx : Rd w gh x vx) (hy : Rd w gh y vy)
    (h : A.mks (P.bytesOf el) z x y = some av) :
    ∃ (n : Nat) (cells : Array Value), av = .sl (List.replicate n z) ∧ (Instr.makeSlice t vx vy).run P w = .ok (.slice (some ⟨w.heap.size, 0, none⟩) n n) (w.alloc (.cells cells el)) ∧ cells.size = n * P.cellsOf el ∧ n ≤ maxLen ∧
      ∀ im et, RepE w im et (P.cellsOf el) (List.replicate n z) cells.toList := by
  obtain ⟨i, zv, hi, hzv, hsz, hcs⟩ := zOk_spec hz
  unfold A.mks at h
  split at h
  · rename_i n m
    split at h
    · rename_i hc
      obtain ⟨rfl, h0, hb, hm⟩ := hc
      cases h
      cases hx; cases hy
      have hby : P.bytesOf el = i.bytes := by simp [Program.bytesOf, hi]
      have hr := run_make (P := P) w t el i zv ht hi hzv .i64 .i64 n n h0 (Int.le_refl _) (by rw [hby] at hb; rw [Int.mul_comm]; omega) (by omega)
      refine ⟨n.toNat, _, rfl, hr, by rw [size_madeCells, hsz], by simp [maxLen]; omega, fun im et => ?_⟩
      obtain ⟨r1, r2⟩ := zeroE_spec (w := w) (im := im) (et := et) hze hi hzv (by omega) (fun h => by rw [hcs]; exact hag h)
      rw [hsz]
      exact made_rep r1 r2 hcs n.toNat
    · cases h
  · cases h

theorem run_app {base : Nat} {t t2 ty e : TypeId} {i : TypeInfo} {z : Value} (ht : P.underlying t = some (.slice e)) (hi : P.info? e = some i) (hz : i.zero = some z)
    (hzs : z.cells.size = i.size) (hsz : 0 < i.size) (hby : 0 < i.bytes)
    {v : Value} {n : Nat} {xs : List Value} (hown : w.ownsRow base e i.size v n xs)
    {x : Value} {m : Nat} {news : List Value} (hs : Src P i.size t2 x m news w) (hbytes : (n + m) * i.bytes ≤ 140737488355328) (hbase : base ≤ w.heap.size) :
    ∃ v' w', (Builtin.append_ #[t, t2] ty #[v, x]).run P w = .ok v' w' ∧ w'.ownsRow base e i.size v' (n + m) (xs ++ news) ∧ Grown w w' v.ownBlock ∧
      (v'.ownBlock = v.ownBlock ∨ v'.ownBlock = some w.heap.size) ∧ (∀ B, v'.ownBlock = some B → B < w'.heap.size) ∧ (v = .slice none 0 0 → m = 0 → v' = .slice none 0 0) ∧ ((v ≠ .slice none 0 0 ∨ m ≠ 0) → ∃ a l c, v' = .slice (some a) l c) := by
  have h47 : n + m ≤ 140737488355328 := Nat.le_trans (Nat.le_mul_of_pos_right _ hby) hbytes
  have h63 : n + m ≤ maxLen := by simp [maxLen]; omega
  have hl := hs.newsLen
  have hlen : (xs ++ news).length = (n + m) * i.size := by rw [List.length_append, hown.1, hl, Nat.add_mul]
  have grown : ∀ (old : Nat), old < n + m → ∀ (row : Option Nat),
      (w.drew.alloc (.cells ((xs ++ news).toArray ++ Builtin.zeroCells z.cells (grownCap w (n + m) old e - (n + m))) e)).ownsRow base e i.size
        (.slice (some ⟨w.heap.size, 0, none⟩) (n + m) (grownCap w (n + m) old e)) (n + m) (xs ++ news) ∧
      w.grownBy (w.drew.alloc (.cells ((xs ++ news).toArray ++ Builtin.zeroCells z.cells (grownCap w (n + m) old e - (n + m))) e)) row := by
    intro old ho row
    have hge := grownCap_ge w (n + m) old e
    have hcm : grownCap w (n + m) old e ≤ maxLen := grownCap_le_maxLen w (n + m) old e h63
    refine ⟨⟨hlen, .inr ⟨w.heap.size, _, _, rfl, hbase, heap_alloc_new w.drew _, hge, hcm, ?_, ?_⟩⟩, ⟨rfl, rfl, rfl, by simp, fun k hk _ => heap_alloc_old w.drew _ k hk⟩⟩
    · simp only [Array.size_append, List.size_toArray, size_zeroCells, hzs, hlen, ← Nat.add_mul]
      congr 1
      omega
    · simp only [Array.toList_append]
      rw [← hlen]
      exact List.take_left
  have fin : ∀ (v' : Value) (w' : World), w'.ownsRow base e i.size v' (n + m) (xs ++ news) → ∀ B, v'.ownBlock = some B → B < w'.heap.size := fun v' w' ho B hB => (ho.lt B hB).2
  have grow : ∀ (b : Option Addr) (cap : Nat), v = .slice b n cap → (v = .slice none 0 0 → m ≠ 0) → cap < n + m → (Builtin.firstCells i.size n (.slice b n cap)).run P w.drew = .ok xs.toArray w.drew → _ := fun b cap hv hvm hcap hold => by
    have hr := run_append_grow_src (P := P) w t t2 ty e i z ht hi hz b n cap xs hold x m news hs hcap (by simp [maxLen] at h63; omega) (growslice_fits hcap hbytes)
    have hgr := grown cap hcap v.ownBlock
    exact (⟨_, _, by rw [hv]; exact hr, hgr.1, Grown.of hgr.2, .inr rfl, fin _ _ hgr.1, fun h1 h2 => absurd h2 (hvm h1), fun _ => ⟨_, _, _, rfl⟩⟩ : ∃ v' w', (Builtin.append_ #[t, t2] ty #[v, x]).run P w = .ok v' w' ∧ w'.ownsRow base e i.size v' (n + m) (xs ++ news) ∧ Grown w w' v.ownBlock ∧
      (v'.ownBlock = v.ownBlock ∨ v'.ownBlock = some w.heap.size) ∧ (∀ B, v'.ownBlock = some B → B < w'.heap.size) ∧ (v = .slice none 0 0 → m = 0 → v' = .slice none 0 0) ∧ ((v ≠ .slice none 0 0 ∨ m ≠ 0) → ∃ a l c, v' = .slice (some a) l c))
  rcases hown.2 with ⟨rfl, rfl⟩ | ⟨g, cap, cur, rfl, hbg, hg, hnc, hcm, hcs, htake⟩
  · have hx : xs = [] := List.eq_nil_of_length_eq_zero (by simpa using hown.1)
    subst hx
    by_cases hm : m = 0
    · subst hm
      have hn : news = [] := List.eq_nil_of_length_eq_zero (by simpa using hl)
      subst hn
      refine ⟨.slice none 0 0, w, ?_, World.ownsRow_nil w base e i.size, Grown.refl _ _, .inl rfl, fun B hB => by simp [Value.ownBlock] at hB, fun _ _ => rfl, fun h => by simp at h⟩
      rcases hs.kind with ⟨e', hk⟩ | hk <;> simp [Builtin.append_, run_underlying ht, run_underlying hk, Go.sizeOf, typeInfo, hi, hs.len, hs.cells]
    · exact grow none 0 rfl (fun _ => hm) (by omega) (by simp [Builtin.firstCells])
  · by_cases hroom : n + m ≤ cap
    · have hfit : n * i.size + news.length ≤ cur.size := by rw [hl, hcs, ← Nat.add_mul]; exact Nat.mul_le_mul_right _ hroom
      have hst := run_storeCells_at P g (n * i.size) e news 0 cur w hg (by simpa using hfit) hs.one
      simp only [Nat.add_zero] at hst
      have hr : (Builtin.append_ #[t, t2] ty #[.slice (some ⟨g, 0, none⟩) n cap, x]).run P w = .ok (.slice (some ⟨g, 0, none⟩) (n + m) cap) (w.setRow g (cur.toList.take (n * i.size) ++ news ++ cur.toList.drop (n * i.size + news.length)).toArray) := by
        rcases hs.kind with ⟨e', hk⟩ | hk <;> simp [Builtin.append_, run_underlying ht, run_underlying hk, Go.sizeOf, typeInfo, hi, hs.len, hroom, hs.cells, Addr.add_lit, hst]
      have ho : (w.setRow g (cur.toList.take (n * i.size) ++ news ++ cur.toList.drop (n * i.size + news.length)).toArray).ownsRow base e i.size (.slice (some ⟨g, 0, none⟩) (n + m) cap) (n + m) (xs ++ news) := by
        refine ⟨hlen, .inr ⟨g, cap, _, rfl, hbg, setRow_heap w g cur _ e _ hg, hroom, hcm, ?_, ?_⟩⟩
        · simp only [List.size_toArray, List.length_append, List.length_take, List.length_drop, Array.length_toList]
          omega
        · rw [htake, ← hlen]
          exact List.take_left
      exact ⟨_, _, hr, ho, Grown.setRow _ _ _, .inl rfl, fin _ _ ho, fun h => by simp at h, fun _ => ⟨_, _, _, rfl⟩⟩
    · have holds : ∀ j u, xs[j]? = some u → w.drew.cell? ((⟨g, 0, none⟩ : Addr).add j) = some u := hown.cells (g := g) rfl
      exact grow (some ⟨g, 0, none⟩) cap rfl (fun h => by simp at h) (by omega) (run_firstCells_some (P := P) w.drew i.size n ⟨g, 0, none⟩ n cap xs hown.1 holds)

end
end Tr

namespace Tr
open Go

section
variable {P : Program} {w : World} {im : Nat → Prop} {et : List Nat} {gh : Gh} {x y : AV} {vx vy : Value} {av : AV}

theorem isInt_spec {t : TypeId} {k : IntKind} (h : isInt P t = some k) : P.underlying t = some (.int k) := by
  unfold isInt at h
  split at h
  · rename_i hd; cases h; exact hd
  · cases h
theorem isStr_spec {t : TypeId} (h : isStr P t = true) : P.underlying t = some .string := by
  unfold isStr at h
  split at h
  · rename_i hd; exact hd
  · cases h
theorem elemT_spec {t e : TypeId} (h : elemT P t = some e) : P.underlying t = some (.slice e) := by
  unfold elemT at h
  split at h
  · rename_i hd; cases h; exact hd
  · cases h

theorem take_mid {α : Type} (cur ms : List α) (p N : Nat) (h : p + ms.length ≤ N) (hN : N ≤ cur.length) :
    (cur.take p ++ ms ++ cur.drop (p + ms.length)).take N = (cur.take N).take p ++ ms ++ (cur.take N).drop (p + ms.length) := by
  have e : N = (cur.take p ++ ms).length + (N - (p + ms.length)) := by simp; omega
  rw [List.take_take, Nat.min_eq_left (by omega), List.drop_take]
  conv => lhs; rw [e]
  rw [List.take_length_add_append]

/-- Bytes, as elements. -/
theorem toBytes_rep {sz : Nat} : ∀ {xs : List AV} {vs : List Value} {s : List UInt8}, RepE w im et sz xs vs → A.toBytes xs = some s →
    ∃ ns : List Int, vs = ns.map (Value.int .u8) ∧ s = ns.map (fun n => UInt8.ofNat n.toNat) ∧ ns.length = xs.length
  | [], vs, s, h, hs => by cases h; cases hs; exact ⟨[], rfl, rfl, rfl⟩
  | x :: xs, vs, s, h, hs => by
    cases h with
    | cons _ _ _ us vs h hn h1 hr =>
      unfold A.toBytes at hs
      split at hs
      · rename_i he; cases he
      · rename_i n r he
        cases he
        simp only [Option.bind_eq_some_iff] at hs
        obtain ⟨t, ht, hs⟩ := hs
        cases hs
        obtain ⟨ns, r1, r2, r3⟩ := toBytes_rep hr ht
        cases h with
        | cons _ _ v us hv hus =>
          cases hv
          cases hus
          exact ⟨n :: ns, by simp [r1], by simp [r2], by simp [r3]⟩
      · cases hs

theorem foldl_push_ints : ∀ (l : List Int) (r : ByteArray), l.foldl (fun r n => r.push (UInt8.ofNat n.toNat)) r = ⟨r.data ++ (l.map (fun n => UInt8.ofNat n.toNat)).toArray⟩
  | [], r => by simp
  | b :: l, r => by
    simp only [List.foldl_cons, List.map_cons]
    rw [foldl_push_ints l]
    simp [ByteArray.push]

theorem run_cvs {s t e : TypeId} (hs : P.underlying s = some (.slice e)) (he : P.underlying e = some (.int .u8)) (hd : P.underlying t = some .string) (hx : Rd w gh x vx) (h : A.cvs x = some av) : ∃ v, (convert s t vx).run P w = .ok v w ∧ Sc av v := by
  unfold A.cvs at h
  simp only [Option.bind_eq_some_iff] at h
  obtain ⟨xs, hxs, l, hl, h⟩ := h
  cases h
  have none_ : xs = [] → vx = .slice none 0 0 → ∃ v, (convert s t vx).run P w = .ok v w ∧ Sc (.str l) v := by
    intro hx0 hv
    subst hx0 hv
    cases hl
    refine ⟨.string .empty, ?_, ?_⟩
    · rw [run_convert_bytes_string w s t e none 0 0 hs he hd]
      simp [Conv.bytesToString]
    · have : ByteArray.empty = ⟨([] : List UInt8).toArray⟩ := rfl
      rw [this]; exact sc_str []
  cases hx with
  | nil => simp [A.els] at hxs; exact none_ hxs rfl
  | sl xs' a cap sz vs hE hc hi hm =>
    simp [A.els] at hxs
    subst hxs
    obtain ⟨ns, r1, r2, r3⟩ := toBytes_rep hE hl
    have hld := run_loadCells_list (P := P) w a vs hm
    have hvl : vs.length = xs'.length := by rw [r1]; simp [r3]
    rw [hvl, r1] at hld
    refine ⟨.string ⟨l.toArray⟩, ?_, sc_str l⟩
    rw [run_convert_bytes_string w s t e (some a) xs'.length cap hs he hd, run_bytesToString w a xs'.length cap ns hld, foldl_push_ints, r2]
    simp
  | _ => simp [A.els] at hxs

theorem ofBytes_rep (s : List UInt8) : RepE w im et 1 (A.ofBytes s) (s.map fun b => Value.int .u8 b.toNat) := by
  induction s with
  | nil => exact .nil 1
  | cons b s ih =>
    have := RepE.cons (w := w) (im := im) (et := et) 1 (.int .u8 b.toNat) (A.ofBytes s) [.int .u8 b.toNat] (s.map fun b => Value.int .u8 b.toNat) (.cons _ _ _ _ (.int _ _) .nil) rfl (by simp [Value.oneCell']) ih
    exact this

theorem run_cvb {s t e : TypeId} (hs : P.underlying s = some .string) (he : P.underlying e = some (.int .u8)) (hd : P.underlying t = some (.slice e)) (hx : Rd w gh x vx) (h : A.cvb x = some av) :
    ∃ l o cap, av = .sl (A.ofBytes l) ∧ (convert s t vx).run P w = .ok (.slice (some ⟨w.heap.size, 0, none⟩) l.length cap) (w.drew.alloc o) ∧ l.length ≤ cap ∧
      ∀ j u, (l.map fun b => Value.int .u8 b.toNat)[j]? = some u → (w.drew.alloc o).cell? ⟨w.heap.size, j, none⟩ = some u := by
  unfold A.cvb at h
  split at h
  · rename_i l
    split at h
    · cases h
      cases hx
      have hsz : (ByteArray.mk l.toArray).size = l.length := by simp [ByteArray.size]
      have hr := run_bytes_of_string (P := P) w s t e ⟨l.toArray⟩ hs hd he
      rw [hsz] at hr
      refine ⟨l, _, _, rfl, hr, grownCap_ge _ _ _ _, fun j u hu => ?_⟩
      rw [show w.heap.size = w.drew.heap.size from rfl, World.cell?_alloc_mark]
      have hj : j < l.length := by have := (List.getElem?_eq_some_iff.1 hu).1; simpa using this
      rw [bytesRow_at _ _ j (by simpa using hj)]
      simp [hj] at hu
      rw [← hu]
      simp
    · cases h
  · cases h

/-- An own slice's element. -/
theorem own_elem {e sz : Nat} {key : Key} {xs : List AV} {v : Value} (h : OwnOk w gh e sz key (.sl xs) v) {i : Nat} {a : AV} (ha : xs[i]? = some a) :
    ∃ B len cap us, v = .slice (some ⟨B, 0, none⟩) len cap ∧ len = xs.length ∧ a.nc = sz ∧ gh.ow B = some key ∧ RepL w gh.im gh.et a.cells us ∧ (∀ u ∈ us, u.oneCell' = true) ∧
      (∀ j u, us[j]? = some u → w.cell? ⟨B, i * sz + j, none⟩ = some u) := by
  obtain ⟨xs', vs, hx, ho, hr, hz, hb⟩ := h
  have hx' : xs = xs' := by rcases hx with ⟨hx, _⟩ | ⟨hx, _⟩ <;> cases hx; rfl
  subst hx'
  clear hx
  have hi := (List.getElem?_eq_some_iff.1 ha).1
  rcases ho.2 with ⟨rfl, hn⟩ | ⟨g, cap, cur, rfl, h0, hg, hc, hm, hcs, htk⟩
  · have : xs = [] := List.eq_nil_of_length_eq_zero hn
    subst this
    simp at hi
  · obtain ⟨us, r1, r2, r3, r4, _⟩ := hr.get ha
    refine ⟨g, _, cap, us, rfl, rfl, hr.size ha, hb g rfl, r1, r3, fun j u hu => ?_⟩
    have := ho.cells (g := g) rfl _ u (r4 j u hu)
    simpa [Addr.add_lit] using this

theorem run_eld {ty : TypeId} (ht : okT P ty = true) {e sz : Nat} {key : Key} {i : AV} {hv : Value} (h : OwnOk w gh e sz key x hv) {off : Nat} (hl : A.eld sz off (isAg P ty) (P.cellsOf ty) x i = some av) :
    ∃ k n B len cap, i = .int k n ∧ 0 ≤ n ∧ hv = .slice (some ⟨B, 0, none⟩) len cap ∧ ∃ v, (Instr.loadAt ty (.pointer (some ⟨B, n.toNat * sz + off, none⟩))).run P w = .ok v w ∧ Rep w gh.im gh.et av v := by
  obtain ⟨⟨d, hd⟩, _⟩ := okT_spec ht
  unfold A.eld at hl
  simp only [Option.bind_eq_some_iff] at hl
  obtain ⟨xs, hxs, a, ha, hl⟩ := hl
  obtain ⟨k, n, rfl, h0, hlt, hget⟩ := at_spec ha
  split at hl
  · have hx : x = .sl xs := by
      obtain ⟨xs', _, hx, _⟩ := h
      rcases hx with ⟨rfl, _⟩ | ⟨rfl, rfl, _⟩
      · simp [A.els] at hxs
        rw [hxs]
      · simp [A.els] at hxs
        subst hxs
        simp at hlt
    subst hx
    obtain ⟨B, len, cap, us, c1, c2, c3, c4, c5, c6, c7⟩ := own_elem h hget
    refine ⟨k, n, B, len, cap, rfl, h0, c1, run_loadAt hd (c5.drop off) (fun v hv => c6 v (List.mem_of_mem_drop hv)) (fun j u hu => ?_) hl⟩
    rw [Addr.add_lit, Nat.add_assoc]
    exact c7 _ u (by rw [List.getElem?_drop] at hu; exact hu)
  · cases hl

theorem RepE.setPart {sz : Nat} {xs : List AV} {vs : List Value} (h : RepE w im et sz xs vs) {i : Nat} {a y : AV} (ha : xs[i]? = some a) {off : Nat} {m : List AV} {ms : List Value} (hm : RepL w im et m ms) (h1 : ∀ u ∈ ms, u.oneCell' = true)
    (hf : off + m.length ≤ sz) (hy : y.cells = A.splice a.cells off m) : RepE w im et sz (xs.set i y) (vs.take (i * sz + off) ++ ms ++ vs.drop (i * sz + off + ms.length)) := by
  obtain ⟨us, r1, r2, r3, r4, r5⟩ := h.get ha
  have hi := (List.getElem?_eq_some_iff.1 ha).1
  have hml := hm.len
  have hs := h.set hi (y := y) (us := us.take off ++ ms ++ us.drop (off + ms.length)) (by rw [hy]; exact r1.splice hm off) (by simp; omega) (fun u hu => by
    rcases List.mem_append.1 hu with hu | hu
    · rcases List.mem_append.1 hu with hu | hu
      · exact r3 u (List.mem_of_mem_take hu)
      · exact h1 u hu
    · exact r3 u (List.mem_of_mem_drop hu))
  have hvl := h.len
  have hle : i * sz + sz ≤ vs.length := by rw [hvl]; have := Nat.mul_le_mul_right sz (show i + 1 ≤ xs.length by omega); rw [Nat.add_mul] at this; omega
  have hA : (vs.take (i * sz)).length = i * sz := by simp; omega
  have e1 : vs.take (i * sz + off) = vs.take (i * sz) ++ us.take off := by
    revert hA r5
    generalize vs.take (i * sz) = A
    generalize vs.drop (i * sz + sz) = D
    intro r5 hA
    rw [← r5, ← hA, List.append_assoc, List.take_length_add_append, List.take_append_of_le_length (by omega)]
  have e2 : vs.drop (i * sz + off + ms.length) = us.drop (off + ms.length) ++ vs.drop (i * sz + sz) := by
    revert hA r5
    generalize vs.take (i * sz) = A
    generalize vs.drop (i * sz + sz) = D
    intro r5 hA
    rw [← r5, ← hA, List.append_assoc, Nat.add_assoc, List.drop_length_add_append, List.drop_append_of_le_length (by omega)]
  rw [e1, e2]
  simpa [List.append_assoc] using hs

theorem run_est {el ty : TypeId} {sz : Nat} (ht : okT P ty = true) {key : Key} {i v : AV} {hv vv : Value} (h : OwnOk w gh el sz key x hv) {off : Nat} (hvv : Rep w gh.im gh.et v vv)
    (hl : A.est sz off (isAg P el) (isAg P ty) (P.cellsOf ty) x i v = some av) :
    ∃ k n B len cap cur, i = .int k n ∧ 0 ≤ n ∧ hv = .slice (some ⟨B, 0, none⟩) len cap ∧ gh.ow B = some key ∧ (Instr.storeAt ty (.pointer (some ⟨B, n.toNat * sz + off, none⟩)) vv).run P w = .ok () (w.setRow B cur) ∧
      ∀ gh', gh'.et = gh.et → gh'.ow B = some key → Stay w (w.setRow B cur) gh.im gh'.im gh.et gh'.et → OwnOk (w.setRow B cur) gh' el sz key av hv := by
  unfold A.est at hl
  simp only [Option.bind_eq_some_iff] at hl
  obtain ⟨xs, hxs, a, ha, m, hm, hl⟩ := hl
  obtain ⟨k, n, rfl, h0, hlt, hget⟩ := at_spec ha
  simp only at hl
  split at hl
  · rename_i hc
    obtain ⟨hc1, hc2, hc3, hc4⟩ := hc
    cases hl
    obtain ⟨xs', vs, hx, ho, hr, hz, hb⟩ := h
    rcases hx with ⟨rfl, hxv⟩ | ⟨rfl, rfl, rfl⟩
    case inr => simp [A.els] at hxs; subst hxs; simp at hlt
    simp [A.els] at hxs
    subst hxs
    obtain ⟨c1, c2⟩ := cs_cells hvv hm
    have hml := c1.len
    have hcl : vv.cells.toList.length = P.cellsOf ty := by rw [hml]; exact hc2
    rcases ho.2 with ⟨rfl, hn⟩ | ⟨g, cap, cur, rfl, hg0, hg, hc, hmx, hcs, htk⟩
    · have : xs' = [] := List.eq_nil_of_length_eq_zero hn
      subst this
      simp at hlt
    · have hlt2 : n.toNat * sz + sz ≤ xs'.length * sz := by have := Nat.mul_le_mul_right sz (show n.toNat + 1 ≤ xs'.length by omega); rw [Nat.add_mul] at this; omega
      have hcap : xs'.length * sz ≤ cap * sz := Nat.mul_le_mul_right _ hc
      have hst := run_storeAt (P := P) ht (off := n.toNat * sz + off) (vs := cur.toList) (by simpa using hg) hcl c2 (by simp only [Array.length_toList, hcs]; omega)
      refine ⟨k, n, g, _, cap, _, rfl, h0, rfl, hb g rfl, hst, fun gh' e1 e2 S => ?_⟩
      have hE := (hr.setPart hget (y := if isAg P el then .agg (A.splice a.cells off m) else v) c1 c2 (off := off) (by omega) (by
        cases hag : isAg P el with
        | true => simp [AV.cells]
        | false =>
          simp only [Bool.false_eq_true, if_false]
          rw [hag] at hc4
          obtain ⟨q1, q2⟩ := hc4.resolve_left (by simp)
          have hvc : v.cells = m := by
            unfold A.cs at hm
            split at hm
            · split at hm <;> simp at hm; exact hm
            · cases hm
            · cases hm
            · cases hm
            · split at hm <;> simp at hm
              subst hm
              cases v <;> first | rfl | (exfalso; simp_all)
          rw [hvc, q1]
          unfold A.splice
          have : a.cells.length = m.length := by rw [hc2, q2]; exact hc1
          simp [this]))
      refine ⟨_, _, .inl ⟨rfl, _, _, _, rfl⟩, ⟨?_, .inr ⟨g, cap, _, ?_, hg0, setRow_heap w g cur _ el _ hg, by simpa using hc, hmx, ?_, ?_⟩⟩, hE.mono S, hz, fun B hB => by simp [Value.ownBlock] at hB; subst hB; exact e2⟩
      · rw [hE.len]
      · simp
      · simp only [List.size_toArray, List.length_append, List.length_take, List.length_drop, Array.length_toList, hcl]
        omega
      · rw [← htk]
        have hN : (xs'.set n.toNat (if isAg P el then .agg (A.splice a.cells off m) else v)).length * sz = xs'.length * sz := by simp
        rw [hN]
        generalize xs'.length * sz = N at *
        generalize hp : n.toNat * sz + off = p at *
        have hpN : p + vv.cells.toList.length ≤ N := by omega
        have hNc : N ≤ cur.toList.length := by simp; omega
        rw [← hcl]
        exact take_mid _ _ _ _ hpN hNc
  · cases hl

end
end Tr

namespace Tr
open Go

def valOpt (e : Env) : Option CR → Option (Option AV)
  | none => some none
  | some x => (x.val e).bind fun a => some (some a)

theorem evOpt_val {R : Type} (e : Env) (x : Option CR) (k : Option AV → Option R) : evOpt e x k = (valOpt e x).bind k := by
  cases x with
  | none => rfl
  | some x => simp only [evOpt, valOpt, CR.ev_val]; cases x.val e <;> rfl

theorem PX.ev_val {R : Type} (S : Fns) (e : Env) (p : PX) (k : AV → Option R) : p.ev S e k = (p.ev S e some).bind k := by
  cases p
  case ld ag n x => simp only [PX.ev, CR.ev_val]; cases x.val e <;> simp <;> split <;> simp
  case call f b xs => simp only [PX.ev, evCRs_val]; cases valCRs e xs <;> simp <;> split <;> simp [Option.bind_assoc]
  all_goals simp [PX.ev, CR.ev_val, evCRs_val, evOpt_val, Option.bind_assoc]

def Good (P : Program) (F : Fm) (o : Oper) (a : Act) (w : World) (T' : Tags) (e' : Env) : Prop :=
  ∀ (K : Act → World → Prop) (Q : Exit → Act → World → Prop), (∀ gh' a' w', Rel F gh' T' e' a' w' → K a' w') → o.wp P a w K Q

section
variable {P : Program} {F : Fm} {gh gh' : Gh} {T T' : Tags} {e e' : Env} {a : Act} {w w' : World} {o : Oper} {hn : Hn} {gd : Option (Nat × Nat × Bool)} {S : Fns} {d : Nat}

theorem good_value {v : Value} (h : (execOp a.eval o).run P w = .ok (.value v) w') (hR : Rel F gh' T' e' (a.put o.dst v) w') : Good P F o a w T' e' := by
  intro K Q hK
  unfold Oper.wp
  rw [h]
  exact hK _ _ _ hR

theorem good_skip (h : (execOp a.eval o).run P w = .ok .skip w') (hd : o.dst = none) (hR : Rel F gh' T' e' a w') : Good P F o a w T' e' := by
  intro K Q hK
  unfold Oper.wp
  rw [h]
  show K (a.put o.dst undef) w'
  rw [hd]
  exact hK _ _ _ hR

theorem dstT_v (T : Tags) (gd : Option (Nat × Nat × Bool)) (d : Nat) : dstT T gd d vT = (d, ⟨(T d).g + 1, vT, none⟩) := by
  unfold dstT vT
  cases gd with
  | none => rfl
  | some q => rfl

theorem set1_v {p : PX} {ups : List (Nat × Tg)} {tr : List Nat} {plan : Plan} (hs : set1 T gd d p vT ups tr = some plan) (hd : d < F.n) (he : plan.dyn.ev S e some = some e') :
    ∃ av, p.ev S e some = some av ∧ e' = e.set d [av] ∧ ∀ gh' w' v, Rel F gh' (T.ups ups) e a w' → Rep w' gh'.im gh'.et av v → Rel F gh' (T.ups plan.ups) e' (a.put (some d) v) w' := by
  unfold set1 at hs
  cases hs
  simp only [Dyn.ev] at he
  rw [PX.ev_val] at he
  simp only [Option.bind_eq_some_iff] at he
  obtain ⟨av, h1, h2⟩ := he
  cases h2
  refine ⟨av, h1, rfl, fun gh' w' v hR hv => ?_⟩
  rw [ups_append, dstT_v]
  exact hR.putV d hd av v hv

/-- An operation whose value has no place. -/
theorem good_v {p : PX} {ups : List (Nat × Tg)} {tr : List Nat} {plan : Plan} (hs : set1 T gd d p vT ups tr = some plan) (ho : o.dst = some d) (hd : d < F.n) (he : plan.dyn.ev S e some = some e')
    (h : ∀ av, p.ev S e some = some av → ∃ v gh', (execOp a.eval o).run P w = .ok (.value v) w ∧ Rel F gh' (T.ups ups) e a w ∧ Rep w gh'.im gh'.et av v) : Good P F o a w (T.ups plan.ups) e' := by
  obtain ⟨av, h1, rfl, h2⟩ := set1_v (a := a) hs hd he
  obtain ⟨v, gh', r1, r2, r3⟩ := h av h1
  refine good_value (gh' := gh') r1 ?_
  rw [ho]
  exact h2 gh' w v r2 r3

theorem pick_sound (R : Rel F gh T e a w) (hg : gdOn T e gd) {c x y : Operand} (ho : o.op = .pick c x y) (hdst : o.dst = some d) (hd : d < F.n) {plan : Plan} (he : plan.dyn.ev S e some = some e')
    (h : ((rdO hn T gd c).bind fun c => (rdV hn T gd x).bind fun a => (rdV hn T gd y).bind fun b => set1 T gd d (.pick c.1 a.1 b.1) vT [] (c.2 ++ a.2 ++ b.2)) = some plan) : Good P F o a w (T.ups plan.ups) e' := by
  simp only [Option.bind_eq_some_iff] at h
  obtain ⟨rc, hc, rx, hx, ry, hy, h⟩ := h
  refine good_v h hdst hd he (fun av hav => ?_)
  simp only [PX.ev, CR.ev_val, Option.bind_eq_some_iff] at hav
  obtain ⟨ac, c1, ax, x1, ay, y1, r, hr, hav⟩ := hav
  cases hav
  have kc := rdO_sound R hg hc c1
  have kx := rdV_sound R hg hx x1
  have ky := rdV_sound R hg hy y1
  unfold A.pick at hr
  split at hr
  · rename_i b
    cases hr
    refine ⟨if b then a.eval x else a.eval y, gh, ?_, R, by cases b <;> simpa⟩
    have hc' : a.eval c = .bool b := by
      revert kc
      generalize a.eval c = vc
      intro kc
      cases kc
      rfl
    cases b <;> simp [execOp, ho, hc', asBool]
  · cases hr

theorem run_v {s : Sem Value} {v : Value} (h : s.run P w = .ok v w') : (do pure (Next.value (← s)) : Sem Next).run P w = .ok (.value v) w' := by
  simp only [Sem.run_bind, h, Result.andThen_ok, Sem.run_pure]

/-- What reads, and yields a value that has no place. -/
theorem good_sc (R : Rel F gh T e a w) {p : PX} {tr : List Nat} {plan : Plan} {s : Sem Value} (hs : set1 T gd d p vT [] tr = some plan) (hdst : o.dst = some d) (hd : d < F.n) (he : plan.dyn.ev S e some = some e')
    (hx : execOp a.eval o = (do pure (Next.value (← s)))) (h : ∀ av, p.ev S e some = some av → ∃ v, s.run P w = .ok v w ∧ Sc av v) : Good P F o a w (T.ups plan.ups) e' :=
  good_v hs hdst hd he fun av hav => by
    obtain ⟨v, h1, h2⟩ := h av hav
    exact ⟨v, gh, by rw [hx]; exact run_v h1, R, h2 _ _ _⟩

theorem good_rep (R : Rel F gh T e a w) {p : PX} {ups : List (Nat × Tg)} {tr : List Nat} {plan : Plan} {s : Sem Value} (hs : set1 T gd d p vT ups tr = some plan) (hdst : o.dst = some d) (hd : d < F.n) (he : plan.dyn.ev S e some = some e')
    (hx : execOp a.eval o = (do pure (Next.value (← s)))) (h : ∀ av, p.ev S e some = some av → ∃ v gh', s.run P w = .ok v w ∧ Rel F gh' (T.ups ups) e a w ∧ Rep w gh'.im gh'.et av v) : Good P F o a w (T.ups plan.ups) e' :=
  good_v hs hdst hd he fun av hav => by
    obtain ⟨v, gh', h1, h2, h3⟩ := h av hav
    exact ⟨v, gh', by rw [hx]; exact run_v h1, h2, h3⟩

theorem binOp_sound (R : Rel F gh T e a w) (hg : gdOn T e gd) {op : BinOp} {t : TypeId} {x y : Operand} {b : TypeId} (ho : o.op = .binOp op t x y b) (hdst : o.dst = some d) (hd : d < F.n) {plan : Plan} (he : plan.dyn.ev S e some = some e')
    (h : ((rdO hn T gd x).bind fun x => (rdO hn T gd y).bind fun y =>
    match op with
    | .eql => if (eqCls P t).1 = 0 then set1 T gd d (.bin op x.1 y.1) vT [] (x.2 ++ y.2) else set1 T gd d (.eq false (eqCls P t).1 (eqCls P t).2 x.1 y.1) vT [] (x.2 ++ y.2)
    | .neq => if (eqCls P t).1 = 0 then set1 T gd d (.bin op x.1 y.1) vT [] (x.2 ++ y.2) else set1 T gd d (.eq true (eqCls P t).1 (eqCls P t).2 x.1 y.1) vT [] (x.2 ++ y.2)
    | _ => set1 T gd d (.bin op x.1 y.1) vT [] (x.2 ++ y.2)) = some plan) : Good P F o a w (T.ups plan.ups) e' := by
  simp only [Option.bind_eq_some_iff] at h
  obtain ⟨rx, hx, ry, hy, h⟩ := h
  have hex : execOp a.eval o = (do pure (Next.value (← (do eqGuard op t x y (a.eval x) (a.eval y); binOp op t (a.eval x) (a.eval y) : Sem Value)))) := by
    simp only [execOp, ho]
  have bin : set1 T gd d (.bin op rx.1 ry.1) vT [] (rx.2 ++ ry.2) = some plan → Good P F o a w (T.ups plan.ups) e' := fun h =>
    good_sc R h hdst hd he hex fun av hav => by
      simp only [PX.ev, CR.ev_val, Option.bind_eq_some_iff] at hav
      obtain ⟨ax, x1, ay, y1, r, hr, hav⟩ := hav
      cases hav
      exact run_bin (rdO_sound R hg hx x1) (rdO_sound R hg hy y1) hr
  have eq : ∀ ne : Bool, op = (if ne then .neq else .eql) → ¬ (eqCls P t).1 = 0 → set1 T gd d (.eq ne (eqCls P t).1 (eqCls P t).2 rx.1 ry.1) vT [] (rx.2 ++ ry.2) = some plan → Good P F o a w (T.ups plan.ups) e' := fun ne hop hc h =>
    good_sc R h hdst hd he hex fun av hav => by
      simp only [PX.ev, CR.ev_val, Option.bind_eq_some_iff] at hav
      obtain ⟨ax, x1, ay, y1, r, hr, hav⟩ := hav
      cases hav
      rw [hop]
      exact run_eq hc (rdO_sound R hg hx x1) (rdO_sound R hg hy y1) hr
  split at h
  · split at h
    · exact bin h
    · rename_i hc; exact eq false rfl hc h
  · split at h
    · exact bin h
    · rename_i hc; exact eq true rfl hc h
  · exact bin h

theorem unOp_sound (R : Rel F gh T e a w) (hg : gdOn T e gd) {op : UnOp} {t : TypeId} {x : Operand} (ho : o.op = .unOp op t x) (hdst : o.dst = some d) (hd : d < F.n) {plan : Plan} (he : plan.dyn.ev S e some = some e')
    (h : ((rdO hn T gd x).bind fun x => set1 T gd d (.un op x.1) vT [] x.2) = some plan) : Good P F o a w (T.ups plan.ups) e' := by
  simp only [Option.bind_eq_some_iff] at h
  obtain ⟨rx, hx, h⟩ := h
  refine good_sc R h hdst hd he (s := Op.unary op (a.eval x)) (by simp only [execOp, ho]) fun av hav => ?_
  simp only [PX.ev, CR.ev_val, Option.bind_eq_some_iff] at hav
  obtain ⟨ax, x1, r, hr, hav⟩ := hav
  cases hav
  exact run_un (rdO_sound R hg hx x1) hr

theorem Base.alloc {F : Fm} {gh : Gh} {w w' : World} (h : Base F gh w) {row : Option Nat} (hG : Grown w w' row) (hr : ∀ b, row = some b → F.O b ∨ F.w0.heap.size ≤ b) (key : Option Key) (new : w.heap.size < w'.heap.size) :
    Base F { gh with ow := fun b => if b = w.heap.size then key else gh.ow b, im := fun b => gh.im b ∨ (key = none ∧ b = w.heap.size) } w' := by
  refine ⟨Nat.le_trans h.sz hG.size, fun b hb hO => ?_, fun b k hk => ?_, fun b hb => ?_, fun b hb => .inl (h.im0 b hb), h.et, h.et2, h.st.trans hG.st⟩
  · rw [← h.keep b hb hO]
    refine hG.block b (Nat.lt_of_lt_of_le hb h.sz) (fun e => ?_)
    rcases hr b e.symm with h1 | h1
    · exact hO h1
    · omega
  · simp only at hk
    split at hk
    · rename_i e; subst e; exact ⟨.inr h.sz, new⟩
    · obtain ⟨h1, h2⟩ := h.owned b k hk
      exact ⟨h1, Nat.lt_of_lt_of_le h2 hG.size⟩
  · rcases hb with hb | ⟨rfl, rfl⟩
    · obtain ⟨h1, h2, h3⟩ := h.imm b hb
      refine ⟨?_, Nat.lt_of_lt_of_le h2 hG.size, h3⟩
      simp only
      rw [if_neg (by omega)]; exact h1
    · exact ⟨by simp, new, .inr (.inr h.sz)⟩

theorem Pers.alloc {F : Fm} {gh : Gh} {w w' : World} (h : Base F gh w) {row : Option Nat} (hG : Grown w w' row) (key : Option Key) {K : Key → Prop} (hr : ∀ b k, row = some b → gh.ow b = some k → ¬ K k) (hi : ∀ b, row = some b → ¬ gh.im b) :
    Pers gh { gh with ow := fun b => if b = w.heap.size then key else gh.ow b, im := fun b => gh.im b ∨ (key = none ∧ b = w.heap.size) } w w' K := by
  refine ⟨⟨fun _ h => .inl h, fun b hb => ?_, fun _ _ h => h⟩, fun b k hb hk => ?_⟩
  · exact hG.block b (h.imm b hb).2.1 (fun e => hi b e.symm hb)
  · have hlt := (h.owned b k hb).2
    refine ⟨by simp only; rw [if_neg (by omega)]; exact hb, hG.block b hlt (fun e => hr b k e.symm hb hk)⟩

theorem convert_sound (R : Rel F gh T e a w) (hg : gdOn T e gd) {s t : TypeId} {x : Operand} (ho : o.op = .convert s t x) (hdst : o.dst = some d) (hd : d < F.n) {plan : Plan} (he : plan.dyn.ev S e some = some e')
    (h : (if isStr P t && isStr P s then (rdV hn T gd x).bind fun q => set1 T gd d (.sub true 1 q.1 none none) vT [] q.2 else (rdO hn T gd x).bind fun q =>
    match isInt P t, isInt P s with
    | some k, some _ => set1 T gd d (.cvi k q.1) vT [] q.2
    | _, _ =>
       if isStr P t then (elemT P s).bind fun e => if isInt P e = some .u8 then set1 T gd d (.cvs q.1) vT [] q.2 else none
      else if isStr P s then (elemT P t).bind fun e => if isInt P e = some .u8 then set1 T gd d (.cvb q.1) vT [] q.2 else none
      else none) = some plan) : Good P F o a w (T.ups plan.ups) e' := by
  have hex : execOp a.eval o = (do pure (Next.value (← convert s t (a.eval x)))) := by simp only [execOp, ho]
  split at h
  · rename_i hss
    simp only [Bool.and_eq_true] at hss
    simp only [Option.bind_eq_some_iff] at h
    obtain ⟨rx, hx, h⟩ := h
    refine good_rep R h hdst hd he hex fun av hav => ?_
    simp only [PX.ev, CR.ev_val, Option.bind_eq_some_iff] at hav
    simp only [evOpt, Option.bind_eq_some_iff] at hav
    obtain ⟨ax, x1, r, hr, hav⟩ := hav
    cases hav
    have k := rdV_sound R hg hx x1
    have hx' : ∃ s, ax = .str s ∧ av = .str s := by
      unfold A.sub at hr
      split at hr
      · simp at hr; exact ⟨_, rfl, hr.symm⟩
      · simp at hr
      · simp at hr
      · cases hr
    obtain ⟨l, rfl, rfl⟩ := hx'
    refine ⟨a.eval x, gh, ?_, R, k⟩
    revert k
    generalize a.eval x = vx
    intro k
    cases k
    exact run_cvid hss.2 hss.1 l
  · simp only [Option.bind_eq_some_iff] at h
    obtain ⟨rx, hx, h⟩ := h
    split at h
    · rename_i k k' hk hk'
      refine good_sc R h hdst hd he hex fun av hav => ?_
      simp only [PX.ev, CR.ev_val, Option.bind_eq_some_iff] at hav
      obtain ⟨ax, x1, r, hr, hav⟩ := hav
      cases hav
      exact run_cvi hk' hk (rdO_sound R hg hx x1) hr
    · split at h
      · rename_i ht
        simp only [Option.bind_eq_some_iff] at h
        obtain ⟨el, hel, h⟩ := h
        split at h
        · rename_i h8
          refine good_sc R h hdst hd he hex fun av hav => ?_
          simp only [PX.ev, CR.ev_val, Option.bind_eq_some_iff] at hav
          obtain ⟨ax, x1, r, hr, hav⟩ := hav
          cases hav
          exact run_cvs (elemT_spec hel) (isInt_spec h8) (isStr_spec ht) (rdO_sound R hg hx x1) hr
        · cases h
      · split at h
        · rename_i hss
          simp only [Option.bind_eq_some_iff] at h
          obtain ⟨el, hel, h⟩ := h
          split at h
          · rename_i h8
            obtain ⟨av, h1, rfl, h2⟩ := set1_v (a := a) h hd he
            simp only [PX.ev, CR.ev_val, Option.bind_eq_some_iff] at h1
            obtain ⟨ax, x1, r, hr, hav⟩ := h1
            cases hav
            obtain ⟨l, ob, cap, rfl, c2, c3, c4⟩ := run_cvb (isStr_spec hss) (isInt_spec h8) (elemT_spec hel) (rdO_sound R hg hx x1) hr
            have hG : Grown w (w.drew.alloc ob) none := ⟨by show w.heap.size ≤ (w.heap.push ob).size; simp, fun k hk _ => heap_alloc_old w.drew ob k hk, rfl, rfl, rfl⟩
            have hnew : w.heap.size < (w.drew.alloc ob).heap.size := by show w.heap.size < (w.heap.push ob).size; simp
            have hR := R.world (R.base.alloc hG (fun b h => by cases h) none hnew) (Pers.alloc R.base hG none (K := fun _ => True) (fun b k h => by cases h) (fun b h => by cases h)) rfl (fun _ => trivial) (fun _ _ _ => trivial) (fun _ _ => trivial)
            refine good_value (by rw [hex]; exact run_v c2) (by rw [hdst]; exact h2 _ _ _ hR (by
              have hol : (A.ofBytes l).length = l.length := by simp [A.ofBytes]
              rw [← hol]
              refine .sl (A.ofBytes l) ⟨w.heap.size, 0, none⟩ cap 1 _ (ofBytes_rep l) (by rw [hol]; exact c3) (fun _ => .inr ⟨rfl, rfl⟩) (fun j u hu => ?_)
              rw [Addr.add_lit, Nat.zero_add]
              exact c4 j u hu))
          · cases h
        · cases h

end
end Tr

namespace Tr
open Go

section
variable {P : Program} {F : Fm} {gh gh' : Gh} {T T' : Tags} {e e' : Env} {a : Act} {w w' : World} {o : Oper} {hn : Hn} {gd : Option (Nat × Nat × Bool)} {S : Fns} {d : Nat}

theorem set1_g {p : PX} {tag : Tag} {ups : List (Nat × Tg)} {tr : List Nat} {plan : Plan} (hs : set1 T gd d p tag ups tr = some plan) (he : plan.dyn.ev S e some = some e') :
    ∃ av, p.ev S e some = some av ∧ e' = e.set d [av] ∧ T.ups plan.ups = (T.ups ups).ups [dstT (T.ups ups) gd d tag] := by
  unfold set1 at hs
  cases hs
  simp only [Dyn.ev] at he
  rw [PX.ev_val] at he
  simp only [Option.bind_eq_some_iff] at he
  obtain ⟨av, h1, h2⟩ := he
  cases h2
  exact ⟨av, h1, rfl, ups_append _ _ _⟩

/-- Where what was handed over goes. -/
def toSlot (i d j : Nat) : Key → Option Key
  | .arg i' k => if i' = i then some (.own d j k) else some (.arg i' k)
  | key => some key

theorem toSlot_arg (i d j k : Nat) : toSlot i d j (.arg i k) = some (.own d j k) := by simp [toSlot]

theorem pers_toSlot (gh : Gh) (w : World) (i d j : Nat) : Pers gh (gh.ren (toSlot i d j)) w w (offSlot d) :=
  Pers.ren gh w _ _ (fun key hk => by cases key <;> first | rfl | exact hk.elim)

theorem OwnOk.rename {w : World} {gh : Gh} {ρ : Key → Option Key} {e sz : Nat} {key key' : Key} {x : AV} {v : Value} (h : OwnOk w gh e sz key x v) (hr : ρ key = some key') : OwnOk w (gh.ren ρ) e sz key' x v := by
  obtain ⟨xs, vs, q1, q2, q3, q4, q5⟩ := h
  exact ⟨xs, vs, q1, q2, q3.mono ⟨fun _ h => .inl h, fun _ _ => rfl, fun _ _ h => h⟩, q4, fun B hB => by simp [Gh.ren, q5 B hB, hr]⟩

theorem CellOk.rename {w : World} {gh : Gh} {ρ : Key → Option Key} {c : CKd} {key key' : Key} {x : AV} {v : Value} (h : CellOk w gh key c x v) (hr : ρ key = some key') : CellOk w (gh.ren ρ) key' c x v := by
  cases c with
  | dead => trivial
  | v => exact Rep.mono ⟨fun _ h => .inl h, fun _ _ => rfl, fun _ _ h => h⟩ h
  | own e s => exact OwnOk.rename h hr

theorem CellsOk.rename {w : World} {gh : Gh} {ρ : Key → Option Key} {kf kf' : Nat → Key} {ks : List CKd} {cs : List AV} {vs : List Value} (h : CellsOk w gh kf ks cs vs) (hr : ∀ k, ρ (kf k) = some (kf' k)) : CellsOk w (gh.ren ρ) kf' ks cs vs :=
  ⟨h.1, h.2.1, h.2.2.1, fun k c x v a1 a2 a3 => (h.2.2.2 k c x v a1 a2 a3).rename (hr k)⟩

theorem dstT_own (T : Tags) (d : Nat) (e s : Nat) (gd : Option (Nat × Nat × Bool)) : dstT T gd d (.one ⟨0, .own e s⟩) = (d, ⟨(T d).g + 1, .one ⟨0, if gd.isSome then .v else .own e s⟩, none⟩) := by
  cases gd <;> rfl

/-- An own slice is put into a slot. -/
theorem Rel.putOwn (R : Rel F gh T e a w) (hd : d < F.n) {e0 s0 i : Nat} {av : AV} {v : Value} (h : OwnOk w gh e0 s0 (.arg i 0) av v) :
    ∃ gh', Rel F gh' (T.ups [dstT T gd d (.one ⟨0, .own e0 s0⟩)]) (e.set d [av]) (a.put (some d) v) w := by
  rw [dstT_own]
  have ht := tmp_put_same a d v (by rw [R.n]; exact hd)
  cases gd with
  | none =>
    refine ⟨gh.ren (toSlot i d 0), ?_⟩
    exact R.put d hd (.one ⟨0, .own e0 s0⟩) none [av] v (R.base.ren _) (pers_toSlot gh w i d 0) rfl trivial (fun _ _ _ h => by cases h) (fun _ => rfl)
      (fun _ => ⟨av, set_same _ _ _, by rw [ht]; exact OwnOk.rename h (toSlot_arg i d 0 0)⟩)
  | some q =>
    let ρ : Key → Option Key := fun key => match key with | .arg _ _ => none | key => some key
    refine ⟨gh.ren ρ, ?_⟩
    exact R.put d hd (.one ⟨0, .v⟩) none [av] v (R.base.ren _) (Pers.ren gh w _ _ (fun key hk => by cases key <;> first | rfl | exact hk.elim)) rfl trivial (fun _ _ _ h => by cases h) (fun _ => rfl)
      (fun _ => ⟨av, set_same _ _ _, by rw [ht]; exact OwnOk.toRep h rfl⟩)

/-- A struct is put into a slot. -/
theorem Rel.putAgg (R : Rel F gh T e a w) (hd : d < F.n) {ks : List CK} {i : Nat} {cs : List AV} {vs : List Value} (h : CellsOk w gh (.arg i) (ks.map CK.k) cs vs) :
    ∃ gh', Rel F gh' (T.ups [dstT T none d (.agg ks)]) (e.set d cs) (a.put (some d) (.agg vs.toArray)) w := by
  refine ⟨gh.ren (toSlot i d 0), ?_⟩
  have ht := tmp_put_same a d (.agg vs.toArray) (by rw [R.n]; exact hd)
  exact R.put d hd (.agg ks) none cs _ (R.base.ren _) (pers_toSlot gh w i d 0) rfl trivial (fun _ _ _ h => by cases h) (fun _ => rfl)
    (fun _ => ⟨vs, by rw [ht], by rw [set_same]; exact h.rename (fun k => toSlot_arg i d 0 k)⟩)

/-- Where what was handed over, part by part, goes. -/
def toAll (d : Nat) : Key → Option Key
  | .arg i k => some (.own d i k)
  | key => some key

theorem MdOk.rename {w : World} {gh : Gh} {ρ : Key → Option Key} {kf kf' : Nat → Key} {m : Md} {x : AV} {v : Value} (h : MdOk w gh kf m x v) (hr : ∀ k, ρ (kf k) = some (kf' k)) : MdOk w (gh.ren ρ) kf' m x v := by
  cases m with
  | dead => trivial
  | v => exact Rep.mono ⟨fun _ h => .inl h, fun _ _ => rfl, fun _ _ h => h⟩ h
  | own e s => exact OwnOk.rename h (hr 0)
  | agg ks => obtain ⟨cs, vs, q1, q2, q3⟩ := h; exact ⟨cs, vs, q1, q2, q3.rename hr⟩

/-- Some values together. -/
def MdsOk (w : World) (gh : Gh) (kf : Nat → Nat → Key) (ms : List Md) (xs : List AV) (vs : List Value) : Prop :=
  xs.length = ms.length ∧ vs.length = ms.length ∧ ∀ (i : Nat) (m : Md) (x : AV) (v : Value), ms[i]? = some m → xs[i]? = some x → vs[i]? = some v → MdOk w gh (kf i) m x v

theorem Rel.putTup (R : Rel F gh T e a w) (hd : d < F.n) {ms : List Md} {xs : List AV} {vs : List Value} (h : MdsOk w gh .arg ms xs vs) :
    ∃ gh', Rel F gh' (T.ups [dstT T none d (.tup ms)]) (e.set d [.tup xs]) (a.put (some d) (.tuple vs.toArray)) w := by
  refine ⟨gh.ren (toAll d), ?_⟩
  have ht := tmp_put_same a d (.tuple vs.toArray) (by rw [R.n]; exact hd)
  exact R.put d hd (.tup ms) none _ _ (R.base.ren _) (Pers.ren gh w _ _ (fun key hk => by cases key <;> first | rfl | exact hk.elim)) rfl trivial (fun _ _ _ h => by cases h) (fun _ => rfl)
    (fun _ => ⟨xs, vs, set_same _ _ _, ht, h.1, h.2.1, fun i m x v a1 a2 a3 => (h.2.2 i m x v a1 a2 a3).rename (fun k => rfl)⟩)

theorem dstT_al (T : Tags) (gd : Option (Nat × Nat × Bool)) (d t k g u : Nat) : dstT T gd d (.al t k g u) = (d, ⟨(T d).g + 1, .al t k g u, gd⟩) := by cases gd <;> rfl
theorem dstT_bp (T : Tags) (gd : Option (Nat × Nat × Bool)) (d t k g : Nat) : dstT T gd d (.bp t k g) = (d, ⟨(T d).g + 1, .bp t k g, gd⟩) := by cases gd <;> rfl
theorem dstT_ep (T : Tags) (gd : Option (Nat × Nat × Bool)) (d t k o g u : Nat) : dstT T gd d (.ep t k o g u) = (d, ⟨(T d).g + 1, .ep t k o g u, gd⟩) := by cases gd <;> rfl

theorem gd_le (hg : gdOn T e gd) : ∀ s g b, gd = some (s, g, b) → g ≤ (T s).g := fun s g b h => by
  subst h
  exact Nat.le_of_eq hg.1.symm

theorem hdr_put {a : Act} {tag : Tag} {t k : Nat} {v : Value} (h : t ≠ d) : hdr w (a.put (some d) v) tag t k = hdr w a tag t k := by
  cases tag <;> simp only [hdr, tmp_put_other a d t v h]

theorem Rel.putAl (R : Rel F gh T e a w) (hg : gdOn T e gd) (hd : d < F.n) {t k g u : Nat} {v : Value} (hr : RefOk T (.al t k g u)) (h : ∀ y, alOk T t k g u = some y → hdr w a (T t).tag t k = some v) :
    Rel F gh (T.ups [dstT T gd d (.al t k g u)]) (e.set d (e d)) (a.put (some d) v) w := by
  rw [dstT_al]
  have ht := tmp_put_same a d v (by rw [R.n]; exact hd)
  refine R.put d hd (.al t k g u) gd (e d) v R.base (Pers.refl _ _ _) rfl hr (gd_le hg) (fun h => by cases h) (fun _ y hy => ?_)
  by_cases e' : t = d
  · subst e'
    have := (alOk_g hy).1
    rw [up_same] at this
    simp only at this
    have h1 : g ≤ (T t).g := hr.1
    omega
  · rw [alOk_up e'] at hy
    rw [ht, up_other _ _ _ _ e', hdr_put e']
    exact h y hy

theorem Rel.putBp (R : Rel F gh T e a w) (hg : gdOn T e gd) (hd : d < F.n) {t off g : Nat} {v : Value} (hr : g ≤ (T t).g) (h : (T t).g = g → ∃ B, gh.ow B = some (.box t) ∧ tmp a t = .pointer (some ⟨B, 0, none⟩) ∧ v = .pointer (some ⟨B, off, none⟩)) :
    Rel F gh (T.ups [dstT T gd d (.bp t off g)]) (e.set d (e d)) (a.put (some d) v) w := by
  rw [dstT_bp]
  have ht := tmp_put_same a d v (by rw [R.n]; exact hd)
  refine R.put d hd (.bp t off g) gd (e d) v R.base (Pers.refl _ _ _) rfl hr (gd_le hg) (fun h => by cases h) (fun _ hy => ?_)
  by_cases e' : t = d
  · subst e'
    rw [up_same] at hy
    simp only at hy
    omega
  · rw [up_other _ _ _ _ e'] at hy
    obtain ⟨B, h1, h2, h3⟩ := h hy
    exact ⟨B, h1, by rw [tmp_put_other a d t v e']; exact h2, by rw [ht]; exact h3⟩

theorem Rel.putEp (R : Rel F gh T e a w) (hg : gdOn T e gd) (hd : d < F.n) {t k off g u : Nat} {v : Value} {c : List AV} (hr : RefOk T (.ep t k off g u)) (h : ∀ y, alOk T t k g u = some y → ∃ kd i B len cap, c = [.int kd i] ∧ hdr w a (T t).tag t k = some (.slice (some ⟨B, 0, none⟩) len cap) ∧
      0 ≤ i ∧ i < (len : Int) ∧ v = .pointer (some ⟨B, i.toNat * y.2 + off, none⟩)) :
    Rel F gh (T.ups [dstT T gd d (.ep t k off g u)]) (e.set d c) (a.put (some d) v) w := by
  rw [dstT_ep]
  have ht := tmp_put_same a d v (by rw [R.n]; exact hd)
  refine R.put d hd (.ep t k off g u) gd c v R.base (Pers.refl _ _ _) rfl hr (gd_le hg) (fun h => by cases h) (fun _ y hy => ?_)
  by_cases e' : t = d
  · subst e'
    have := (alOk_g hy).1
    rw [up_same] at this
    simp only at this
    have h1 : g ≤ (T t).g := hr.1
    omega
  · rw [alOk_up e'] at hy
    obtain ⟨kd, i, B, len, cap, h1, h2, h3, h4, h5⟩ := h y hy
    exact ⟨kd, i, B, len, cap, by rw [set_same]; exact h1, by rw [up_other _ _ _ _ e', hdr_put e']; exact h2, h3, h4, by rw [ht]; exact h5⟩

theorem set_id (e : Env) (d : Nat) : e.set d (e d) = e := by funext s; by_cases h : s = d <;> simp [Env.set, h]

end
end Tr

namespace Tr
open Go

section
variable {P : Program} {F : Fm} {gh gh' : Gh} {T T' : Tags} {e e' : Env} {a : Act} {w w' : World} {o : Oper} {hn : Hn} {gd : Option (Nat × Nat × Bool)} {S : Fns} {d : Nat}

theorem refOk_own (R : Rel F gh T e a w) {t k u ee ss : Nat} (h : (T t).tag.ck k = some ⟨u, .own ee ss⟩) : RefOk T (.al t k (T t).g u) := by
  refine ⟨Nat.le_refl _, fun _ c hc => ?_⟩
  rw [h] at hc; cases hc; exact Nat.le_refl _

/-- Contents moved into a slot, all of the old owner's slices with them. -/
theorem Rel.moveAgg (R : Rel F gh T e a w) (hg : gdOn T e none) (hd : d < F.n) {t : Nat} {ks : List CK} (ht : tagAt T none t = .agg ks) :
    ∃ gh', Rel F gh' (T.ups [(t, ⟨(T t).g, .agg (ks.map ddK), (T t).gd⟩), dstT T none d (.agg ks)]) (e.set d (e t)) (a.put (some d) (tmp a t)) w := by
  obtain ⟨h1, h2⟩ := tagAt_slot R hg (t := t) (by rw [ht]; simp)
  rw [ht] at h1
  rw [← h1] at h2
  obtain ⟨vs, hv, ho⟩ := h2
  let ρ : Key → Option Key := fun key => match key with | .own s i k => if s = t ∧ i = 0 then some (.arg 0 k) else some (.own s i k) | key => some key
  have hρ : ∀ key, ¬ about t key → ρ key = some key := fun key hk => by
    cases key with
    | own s i k => simp only [about] at hk; simp [ρ, hk]
    | _ => rfl
  have hle : TagLe ρ t (T t).tag (.agg (ks.map ddK)) := by
    rw [← h1]
    refine .agg _ _ (by simp) (fun k c' hc => ?_)
    simp only [List.getElem?_map, Option.map_eq_some_iff] at hc
    obtain ⟨c, q1, rfl⟩ := hc
    refine ⟨c, q1, (ddK_u c).symm, ?_⟩
    cases hk : c.k with
    | dead => simp [ddK, hk]; exact .dead _
    | v => simp [ddK, hk]; exact .v
    | own _ _ => simp [ddK, hk]; exact .dead _
  have R1 := R.retag t _ ρ (R.lt (by rw [← h1]; simp)) hρ rfl hle (.inl (R.tok.ck t (by rw [← h1]; rfl)))
  have hco : CellsOk w (gh.ren ρ) (.arg 0) (ks.map CK.k) (e t) vs := ho.rename (fun k => by simp [ρ])
  have e1 : dstT T none d (.agg ks) = dstT (T.up t ⟨(T t).g, .agg (ks.map ddK), (T t).gd⟩) none d (.agg ks) := by
    unfold dstT
    by_cases e' : d = t
    · subst e'; rw [up_same]
    · rw [up_other _ _ _ _ e']
  rw [hv]
  simp only [Tags.ups]
  rw [e1]
  exact R1.putAgg hd hco

theorem Rel.moveTup (R : Rel F gh T e a w) (hg : gdOn T e none) (hd : d < F.n) {t : Nat} {ms : List Md} (ht : tagAt T none t = .tup ms) :
    ∃ gh', Rel F gh' (T.ups [(t, ⟨(T t).g, .dead, none⟩), dstT T none d (.tup ms)]) (e.set d (e t)) (a.put (some d) (tmp a t)) w := by
  obtain ⟨h1, h2⟩ := tagAt_slot R hg (t := t) (by rw [ht]; simp)
  rw [ht] at h1
  rw [← h1] at h2
  obtain ⟨xs, vs, q1, q2, q3, q4, q5⟩ := h2
  let ρ : Key → Option Key := fun key => match key with | .own s i k => if s = t then some (.arg i k) else some (.own s i k) | key => some key
  have hρ : ∀ key, ¬ about t key → ρ key = some key := fun key hk => by
    cases key with
    | own s i k => simp only [about] at hk; simp [ρ, hk]
    | _ => rfl
  have hgd := R.tok.ck t (by rw [← h1]; rfl)
  have R1 := R.retag t .dead ρ (R.lt (by rw [← h1]; simp)) hρ rfl (.dead _) (.inr rfl)
  rw [hgd] at R1
  have hco : MdsOk w (gh.ren ρ) .arg ms xs vs := ⟨q3, q4, fun i m x v a1 a2 a3 => (q5 i m x v a1 a2 a3).rename (fun k => by simp [ρ])⟩
  have e1 : dstT T none d (.tup ms) = dstT (T.up t ⟨(T t).g, .dead, none⟩) none d (.tup ms) := by
    unfold dstT
    by_cases e' : d = t
    · subst e'; rw [up_same]
    · rw [up_other _ _ _ _ e']
  rw [q2, q1]
  simp only [Tags.ups]
  rw [e1]
  exact R1.putTup hd hco

theorem mv_sound (R : Rel F gh T e a w) (hg : gdOn T e gd) {x : Operand} {pol : Nat} (hex : execOp a.eval o = pure (.value (a.eval x))) (hdst : o.dst = some d) (hd : d < F.n) {plan : Plan} (he : plan.dyn.ev S e some = some e')
    (hgk : gdOk gd plan = true) (h : planMv P hn T gd d pol x = some plan) : Good P F o a w (T.ups plan.ups) e' := by
  have fin : ∀ {gh'}, Rel F gh' (T.ups plan.ups) e' (a.put (some d) (a.eval x)) w → Good P F o a w (T.ups plan.ups) e' := fun hR =>
    good_value (v := a.eval x) (by rw [hex]; rfl) (by rw [hdst]; exact hR)
  -- shared
  have shared : ∀ {cr : CR} {ups : List (Nat × Tg)} {tr : List Nat}, set1 T gd d (.mv cr) vT ups tr = some plan → (∀ av, cr.val e = some av → ∃ gh', Rel F gh' (T.ups ups) e a w ∧ Rep w gh'.im gh'.et av (a.eval x)) → Good P F o a w (T.ups plan.ups) e' := fun hs hu =>
    good_v hs hdst hd he fun av hav => by
      simp only [PX.ev, CR.ev_val, Option.bind_eq_some_iff] at hav
      obtain ⟨av', h1, hav⟩ := hav
      cases hav
      obtain ⟨gh', r1, r2⟩ := hu av h1
      exact ⟨a.eval x, gh', by rw [hex]; rfl, r1, r2⟩
  -- taken over
  have taken : ∀ {cr : CR} {ee ss : Nat} {ups : List (Nat × Tg)} {tr : List Nat}, set1 T gd d (.mv cr) (.one ⟨0, .own ee ss⟩) ups tr = some plan → (∀ av, cr.val e = some av → ∃ gh', Rel F gh' (T.ups ups) e a w ∧ OwnOk w gh' ee ss (.arg 0 0) av (a.eval x)) → Good P F o a w (T.ups plan.ups) e' := fun hs hu => by
    obtain ⟨av, h1, rfl, h3⟩ := set1_g hs he
    simp only [PX.ev, CR.ev_val, Option.bind_eq_some_iff] at h1
    obtain ⟨av', h1, hav⟩ := h1
    cases hav
    obtain ⟨gh', r1, r2⟩ := hu av h1
    rw [h3] at fin ⊢
    obtain ⟨gh2, r3⟩ := r1.putOwn (gd := gd) hd r2
    exact fin r3
  have useT : ∀ {cr : CR} {ups : List (Nat × Tg)} {tr : List Nat}, useO hn T gd x = some (cr, ups, tr) → (∀ av, cr.val e = some av → ∃ gh', Rel F gh' (T.ups ups) e a w ∧ Rep w gh'.im gh'.et av (a.eval x)) := fun hu av hv => by
    obtain ⟨gh', g1, g2, g3⟩ := useO_sound R hg hu hv
    exact ⟨gh', g2, g3⟩
  have takeT : ∀ {cr : CR} {ee ss : Nat} {ups : List (Nat × Tg)} {tr : List Nat}, 0 < ss → takeO T gd ee ss x = some (cr, ups, tr) → (∀ av, cr.val e = some av → ∃ gh', Rel F gh' (T.ups ups) e a w ∧ OwnOk w gh' ee ss (.arg 0 0) av (a.eval x)) := fun hs hu av hv => by
    obtain ⟨gh', g1, g2, g3⟩ := takeO_sound R hg 0 hs hu hv
    exact ⟨gh', g2, g3⟩
  have nop : plan.dyn = .nop → e' = e := fun hn => by rw [hn] at he; cases he; rfl
  have cpy : ∀ t, plan.dyn = .cpy d t → e' = e.set d (e t) := fun t hn => by rw [hn] at he; cases he; rfl
  unfold planMv at h
  split at h
  · -- a slot
    rename_i t
    split at h
    · -- one
      rename_i c htag
      obtain ⟨h1, h2⟩ := tagAt_slot R hg (t := t) (by rw [htag]; simp)
      rw [htag] at h1
      rw [← h1] at h2
      split at h
      · -- v
        rename_i hk
        exact shared h (useT (tr := [t]) (by simp only [useO, htag, hk]))
      · -- own
        rename_i ee ss hk
        have hck : (T t).tag.ck 0 = some ⟨c.u, .own ee ss⟩ := by rw [← h1, ← hk]; rfl
        obtain ⟨z, hz, ho⟩ := h2
        rw [hk] at ho
        have hss : 0 < ss := by obtain ⟨_, _, _, _, _, h, _⟩ := ho; exact h
        split at h
        · cases h
          have := nop rfl
          subst this
          refine fin (gh' := gh) ?_
          have := R.putAl (d := d) (v := tmp a t) hg hd (refOk_own R hck) (fun y hy => by rw [← h1]; rfl)
          rw [set_id] at this
          exact this
        · exact taken h (takeT (tr := [t]) hss (by simp only [takeO, htag, hk, and_self, if_true]))
        · exact shared h (useT (tr := [t]) (by simp only [useO, htag, hk]))
      · cases h
    · -- agg
      rename_i ks htag
      obtain ⟨h1, h2⟩ := tagAt_slot R hg (t := t) (by rw [htag]; simp)
      rw [htag] at h1
      split at h
      · split at h
        · rename_i hall
          cases h
          cases gd with
          | some q => simp [gdOk, dstT] at hgk
          | none =>
            have := cpy t rfl
            subst this
            rw [← h1] at h2
            obtain ⟨vs, hv, ho⟩ := h2
            refine fin (gh' := gh) ?_
            have ht := tmp_put_same a d (a.eval (.tmp t)) (by rw [R.n]; exact hd)
            have hallk : (ks.map CK.k).all CKd.isV = true := by simpa [allV, List.all_map, CK.isV] using hall
            have hrep := ho.v hallk
            have hco : CellsOk w gh (.own d 0) (ks.map CK.k) (e t) vs := by
              refine ⟨ho.1, ho.2.1, ho.2.2.1, fun k c x v a1 a2 a3 => ?_⟩
              have hv' := List.all_eq_true.1 hallk c (List.mem_of_getElem? a1)
              have := ho.2.2.2 k c x v a1 a2 a3
              cases c with
              | v => exact this
              | _ => cases hv'
            exact R.put d hd (.agg ks) none (e t) _ R.base (Pers.refl _ _ _) rfl trivial (fun _ _ _ h => by cases h) (fun _ => rfl)
              (fun _ => ⟨vs, by rw [ht]; exact hv, by rw [set_same]; exact hco⟩)
        · cases h
      · cases h
        cases gd with
        | some q => simp [gdOk, dstT] at hgk
        | none =>
          have := cpy t rfl
          subst this
          obtain ⟨gh', hR⟩ := R.moveAgg hg hd htag
          exact fin hR
    · -- tup
      rename_i ms htag
      obtain ⟨h1, h2⟩ := tagAt_slot R hg (t := t) (by rw [htag]; simp)
      rw [htag] at h1
      rw [← h1] at h2
      cases h
      cases gd with
      | some q => simp [gdOk, dstT] at hgk
      | none =>
        have := cpy t rfl
        subst this
        obtain ⟨gh', hR⟩ := R.moveTup hg hd htag
        exact fin hR
    · -- al
      rename_i t' k g u htag
      obtain ⟨h1, h2⟩ := tagAt_slot R hg (t := t) (by rw [htag]; simp)
      rw [htag] at h1
      rw [← h1] at h2
      simp only [Option.bind_eq_some_iff] at h
      obtain ⟨y, hy, h⟩ := h
      split at h
      · cases h
        have := nop rfl
        subst this
        refine fin (gh' := gh) ?_
        have hro := R.tok.ref t
        rw [← h1] at hro
        have := R.putAl (d := d) (v := tmp a t) hg hd hro (fun y hy => h2 y hy)
        rw [set_id] at this
        exact this
      · obtain ⟨_, _, _, _, ho⟩ := alOk_own R hy
        have hss : 0 < y.2 := by obtain ⟨_, _, _, _, _, h, _⟩ := ho; exact h
        exact taken h (takeT (tr := [t, t']) hss (by simp [takeO, htag, hy]))
      · exact shared h (useT (tr := [t, t']) (by simp [useO, htag, hy]))
    · -- bp
      rename_i t' off g htag
      obtain ⟨h1, h2⟩ := tagAt_slot R hg (t := t) (by rw [htag]; simp)
      rw [htag] at h1
      rw [← h1] at h2
      cases h
      have := nop rfl
      subst this
      have hro := R.tok.ref t
      rw [← h1] at hro
      have := R.putBp (d := d) (v := tmp a t) hg hd hro (fun hgg => h2 hgg)
      rw [set_id] at this
      exact fin this
    · -- ep
      rename_i t' k off g u htag
      obtain ⟨h1, h2⟩ := tagAt_slot R hg (t := t) (by rw [htag]; simp)
      rw [htag] at h1
      rw [← h1] at h2
      cases h
      have := cpy t rfl
      subst this
      have hro := R.tok.ref t
      rw [← h1] at hro
      exact fin (R.putEp (d := d) (v := tmp a t) hg hd hro (fun y hy => h2 y hy))
    · cases h
  · -- nil
    split at h
    · refine shared h (fun av hav => ⟨gh, R, ?_⟩)
      simp only [CR.val] at hav
      cases hav
      exact .nil
    · rename_i ee
      split at h
      · cases h
      · rename_i hz
        refine taken h (fun av hav => ⟨gh, R, ?_⟩)
        simp only [CR.val] at hav
        cases hav
        exact ⟨[], [], .inr ⟨rfl, rfl, rfl⟩, World.ownsRow_nil w 0 ee _, .nil _, by omega, fun B hB => by simp [Act.eval, Value.ownBlock] at hB⟩
  · simp only [Option.bind_eq_some_iff] at h
    obtain ⟨r, hr, h⟩ := h
    exact shared h (fun av hav => ⟨gh, R, rdV_sound R hg hr hav⟩)

end
end Tr

