/- A symbolic executor over the model's own code: expressions, abstract values and states, trees, and the executor 'xc' itself. Nothing is claimed here: the later texts prove it sound. -/
import Derived.OrdersHeld
import Derived.Scope
import Derived.KernelRfl
namespace Go.Proofs.Sx
open Go

/-! ## Expressions -/

inductive F2 where
  | add | sub | mul | quo | rem | and | or | xor | andNot | shl | shr | max | min

def F2.ev (f : F2) (k : IntKind) (x y : Int) : Int :=
  match f with
  | .add => k.wrap (x + y)
  | .sub => k.wrap (x - y)
  | .mul => k.wrap (x * y)
  | .quo => k.wrap (x.tdiv y)
  | .rem => x.tmod y
  | .and => k.wrap (BitVec.ofInt k.bits x &&& BitVec.ofInt k.bits y).toNat
  | .or => k.wrap (BitVec.ofInt k.bits x ||| BitVec.ofInt k.bits y).toNat
  | .xor => k.wrap (BitVec.ofInt k.bits x ^^^ BitVec.ofInt k.bits y).toNat
  | .andNot => k.wrap (BitVec.ofInt k.bits x &&& ~~~(BitVec.ofInt k.bits y)).toNat
  | .shl => k.wrap (x * 2 ^ (Nat.min y.toNat k.bits))
  | .shr => x.fdiv (2 ^ (Nat.min y.toNat k.bits))
  | .max => if y > x then y else x
  | .min => if y < x then y else x

def F2.beq : F2 → F2 → Bool
  | .add, .add | .sub, .sub | .mul, .mul | .quo, .quo | .rem, .rem | .and, .and | .or, .or | .xor, .xor | .andNot, .andNot
  | .shl, .shl | .shr, .shr | .max, .max | .min, .min => true
  | _, _ => false

/-- A list of numbers, as a number. -/
def encI : Int → Nat
  | .ofNat a => 2 * a
  | .negSucc a => 2 * a + 1
def enc : List Int → Nat
  | [] => 0
  | x :: l => 2 ^ encI x * (2 * enc l + 1)
/-- the same, as a whole number -/
def lst (l : List Int) : Int := (enc l : Int)
/-- the list that a number stands for -/
noncomputable def dec (x : Int) : List Int := by
  classical exact if h : ∃ l, lst l = x then h.choose else []

inductive IE where
  | lit (n : Int)
  | var (i : Nat)
  | op (f : F2) (k : IntKind) (a b : IE)
  | wrap (k : IntKind) (a : IE)
  | pl (a b : IE)
  | mi (a b : IE)
  | byt (a : IE)
  | sel (r m : Nat) (a : IE) (j : Nat)
  | len (r : Nat)
  | lnil
  | lone (a : IE)
  | lcat (a b : IE)
  | lsub (r m : Nat) (off len : IE)
  | lat (a : IE) (m : Nat) (i : IE) (j : Nat)
  | lcnt (a : IE) (m : Nat)
  | lset (a : IE) (m : Nat) (i : IE) (j : Nat) (e : IE)
  | lrep (n e : IE)

/-- Values of the variables below 'n', and of the lists that came in. -/
structure Val where
  n : Nat
  v : Nat → Int
  r : Nat → List Int

noncomputable def IE.ev (σ : Val) : IE → Int
  | .lit n => n
  | .var i => σ.v i
  | .op f k a b => f.ev k (a.ev σ) (b.ev σ)
  | .wrap k a => k.wrap (a.ev σ)
  | .pl a b => a.ev σ + b.ev σ
  | .mi a b => a.ev σ - b.ev σ
  | .byt a => (((a.ev σ).toNat % 256 : Nat) : Int)
  | .sel r m a j => (σ.r r).getD ((a.ev σ).toNat * m + j) 0
  | .len r => ((σ.r r).length : Int)
  | .lnil => lst []
  | .lone a => lst [a.ev σ]
  | .lcat a b => lst (dec (a.ev σ) ++ dec (b.ev σ))
  | .lsub r m o n => lst (((σ.r r).drop ((o.ev σ).toNat * m)).take ((n.ev σ).toNat * m))
  | .lat a m i j => (dec (a.ev σ)).getD ((i.ev σ).toNat * m + j) 0
  | .lcnt a m => (((dec (a.ev σ)).length / m : Nat) : Int)
  | .lset a m i j e => lst ((dec (a.ev σ)).set ((i.ev σ).toNat * m + j) (e.ev σ))
  | .lrep n e => lst (List.replicate (n.ev σ).toNat (e.ev σ))

def IE.ok (n : Nat) : IE → Bool
  | .lit _ => true
  | .var i => Nat.blt i n
  | .op _ _ a b => a.ok n && b.ok n
  | .wrap _ a => a.ok n
  | .pl a b | .mi a b => a.ok n && b.ok n
  | .byt a => a.ok n
  | .sel _ _ a _ => a.ok n
  | .len _ => true
  | .lnil => true
  | .lone a => a.ok n
  | .lcat a b => a.ok n && b.ok n
  | .lsub _ _ a b => a.ok n && b.ok n
  | .lat a _ i _ => a.ok n && i.ok n
  | .lcnt a _ => a.ok n
  | .lset a _ i _ e => a.ok n && i.ok n && e.ok n
  | .lrep a e => a.ok n && e.ok n

def kbeq : IntKind → IntKind → Bool
  | .i8, .i8 | .i16, .i16 | .i32, .i32 | .i64, .i64 | .u8, .u8 | .u16, .u16 | .u32, .u32 | .u64, .u64 => true
  | _, _ => false

def fbeq : FloatKind → FloatKind → Bool
  | .f32, .f32 | .f64, .f64 => true
  | _, _ => false

def ibeq : Int → Int → Bool
  | .ofNat a, .ofNat b => Nat.beq a b
  | .negSucc a, .negSucc b => Nat.beq a b
  | _, _ => false

def IE.beq : IE → IE → Bool
  | .lit a, .lit b => ibeq a b
  | .var a, .var b => Nat.beq a b
  | .op f k a b, .op g l c d => f.beq g && kbeq k l && a.beq c && b.beq d
  | .wrap k a, .wrap l b => kbeq k l && a.beq b
  | .pl a b, .pl c d => a.beq c && b.beq d
  | .mi a b, .mi c d => a.beq c && b.beq d
  | .byt a, .byt b => a.beq b
  | .sel r m a j, .sel s n b i => Nat.beq r s && Nat.beq m n && Nat.beq j i && a.beq b
  | .len r, .len s => Nat.beq r s
  | .lnil, .lnil => true
  | .lone a, .lone b => a.beq b
  | .lcat a b, .lcat c d => a.beq c && b.beq d
  | .lsub r m a b, .lsub s n c d => Nat.beq r s && Nat.beq m n && a.beq c && b.beq d
  | .lat a m i j, .lat b n k l => Nat.beq m n && Nat.beq j l && a.beq b && i.beq k
  | .lcnt a m, .lcnt b n => Nat.beq m n && a.beq b
  | .lset a m i j e, .lset b n k l f => Nat.beq m n && Nat.beq j l && a.beq b && i.beq k && e.beq f
  | .lrep a b, .lrep c d => a.beq c && b.beq d
  | _, _ => false

inductive BE where
  | lit (b : Bool)
  | eq (a b : IE)
  | lt (a b : IE)
  | le (a b : IE)
  | nz (a : IE)
  | not (a : BE)
  | and (a b : BE)
  | or (a b : BE)
  | flt (o : BinOp) (k : FloatKind) (a b : IE)

def fcmp (o : BinOp) (k : FloatKind) (x y : Nat) : Bool :=
  let c := k.format.order x y
  match o with
  | .eql => c == some .eq
  | .neq => c != some .eq
  | .lss => c == some .lt
  | .leq => c == some .lt || c == some .eq
  | .gtr => c == some .gt
  | .geq => c == some .gt || c == some .eq
  | _ => false

noncomputable def BE.ev (σ : Val) : BE → Bool
  | .lit b => b
  | .eq a b => a.ev σ == b.ev σ
  | .lt a b => decide (a.ev σ < b.ev σ)
  | .le a b => decide (a.ev σ ≤ b.ev σ)
  | .nz a => a.ev σ != 0
  | .not a => !a.ev σ
  | .and a b => a.ev σ && b.ev σ
  | .or a b => a.ev σ || b.ev σ
  | .flt o k a b => fcmp o k (a.ev σ).toNat (b.ev σ).toNat

def BE.ok (n : Nat) : BE → Bool
  | .lit _ => true
  | .eq a b | .lt a b | .le a b | .flt _ _ a b => a.ok n && b.ok n
  | .nz a => a.ok n
  | .not a => a.ok n
  | .and a b | .or a b => a.ok n && b.ok n

def bopbeq : BinOp → BinOp → Bool
  | .eql, .eql | .neq, .neq | .lss, .lss | .leq, .leq | .gtr, .gtr | .geq, .geq => true
  | _, _ => false

def BE.beq : BE → BE → Bool
  | .lit a, .lit b => a == b
  | .eq a b, .eq c d => a.beq c && b.beq d
  | .lt a b, .lt c d => a.beq c && b.beq d
  | .le a b, .le c d => a.beq c && b.beq d
  | .nz a, .nz b => a.beq b
  | .not a, .not b => a.beq b
  | .and a b, .and c d => a.beq c && b.beq d
  | .or a b, .or c d => a.beq c && b.beq d
  | .flt o k a b, .flt p l c d => bopbeq o p && fbeq k l && a.beq c && b.beq d
  | _, _ => false

/-- An argument of a specified call, or what a loop carries: a number or a truth (1, 0). -/
inductive AE where
  | num (e : IE)
  | tru (c : BE)

noncomputable def AE.ev (σ : Val) : AE → Int
  | .num e => e.ev σ
  | .tru c => if c.ev σ then 1 else 0

def AE.ok (n : Nat) : AE → Bool
  | .num e => e.ok n
  | .tru c => c.ok n

def AE.beq : AE → AE → Bool
  | .num x, .num y => x.beq y
  | .tru x, .tru y => x.beq y
  | _, _ => false

/-! the same, for the kernel: powers of two written out -/
def pw (k : IntKind) : Nat :=
  match k with
  | .i8 | .u8 => 256
  | .i16 | .u16 => 65536
  | .i32 | .u32 => 4294967296
  | .i64 | .u64 => 18446744073709551616
def hw (k : IntKind) : Nat :=
  match k with
  | .i8 => 128
  | .i16 => 32768
  | .i32 => 2147483648
  | .i64 => 9223372036854775808
  | .u8 => 256
  | .u16 => 65536
  | .u32 => 4294967296
  | .u64 => 18446744073709551616
def emodF (n : Int) (m : Nat) : Nat :=
  match n with
  | .ofNat a => a % m
  | .negSucc a => m - 1 - a % m
def wrapF (k : IntKind) (n : Int) : Int :=
  let m := emodF n (pw k)
  if Nat.ble (hw k) m then Int.negSucc (pw k - m - 1) else .ofNat m
def bitsF (k : IntKind) : Nat :=
  match k with
  | .i8 | .u8 => 8
  | .i16 | .u16 => 16
  | .i32 | .u32 => 32
  | .i64 | .u64 => 64
def F2.evF (f : F2) (k : IntKind) (x y : Int) : Int :=
  match f with
  | .add => wrapF k (x + y)
  | .sub => wrapF k (x - y)
  | .mul => wrapF k (x * y)
  | .quo => wrapF k (x.tdiv y)
  | .rem => x.tmod y
  | .and => wrapF k (.ofNat (Nat.land (emodF x (pw k)) (emodF y (pw k))))
  | .or => wrapF k (.ofNat (Nat.lor (emodF x (pw k)) (emodF y (pw k))))
  | .xor => wrapF k (.ofNat (Nat.xor (emodF x (pw k)) (emodF y (pw k))))
  | .andNot => wrapF k (.ofNat (Nat.land (emodF x (pw k)) (pw k - 1 - emodF y (pw k))))
  | .shl => wrapF k (x * .ofNat (Nat.pow 2 (Nat.min y.toNat (bitsF k))))
  | .shr => x.fdiv (.ofNat (Nat.pow 2 (Nat.min y.toNat (bitsF k))))
  | .max => if y > x then y else x
  | .min => if y < x then y else x

/-! smart makers: what is known is reckoned at once -/
def mkOp (f : F2) (k : IntKind) (a b : IE) : IE :=
  match a, b with
  | .lit x, .lit y => .lit (f.evF k x y)
  | a, b => .op f k a b
def mkWrap (k : IntKind) (a : IE) : IE :=
  match a with
  | .lit x => .lit (wrapF k x)
  | a => .wrap k a
def mkPl (a b : IE) : IE :=
  match a, b with
  | .lit x, .lit y => .lit (x + y)
  | .lit x, b => if ibeq x 0 then b else .pl (.lit x) b
  | a, b => .pl a b
def mkMi (a b : IE) : IE :=
  match a, b with
  | .lit x, .lit y => .lit (x - y)
  | a, .lit y => if ibeq y 0 then a else .mi a (.lit y)
  | a, b => .mi a b
def F2.small : F2 → Bool
  | .add | .sub | .mul | .quo | .and | .or | .xor | .andNot | .shl => true
  | _ => false
def mkByt (a : IE) : IE :=
  match a with
  | .lit x => .lit ((x.toNat % 256 : Nat) : Int)
  | .wrap .u8 a => .wrap .u8 a
  | .byt a => .byt a
  | .op f .u8 a b => if f.small then .op f .u8 a b else .byt (.op f .u8 a b)
  | a => .byt a
def mkEq (a b : IE) : BE :=
  match a, b with
  | .lit x, .lit y => .lit (ibeq x y)
  | a, b => if a.beq b then .lit true else .eq a b
def mkLt (a b : IE) : BE :=
  match a, b with
  | .lit x, .lit y => .lit (decide (x < y))
  | a, b => .lt a b
def mkLe (a b : IE) : BE :=
  match a, b with
  | .lit x, .lit y => .lit (decide (x ≤ y))
  | a, b => .le a b
def mkNot : BE → BE
  | .lit b => .lit (!b)
  | .not a => a
  | a => .not a
def mkAnd (a b : BE) : BE :=
  match a with
  | .lit true => b
  | .lit false => .lit false
  | a => match b with
    | .lit true => a
    | .lit false => .lit false
    | b => .and a b
def mkNz (a : IE) : BE :=
  match a with
  | .lit x => .lit (!(ibeq x 0))
  | a => .nz a
def mkFlt (o : BinOp) (k : FloatKind) (a b : IE) : BE :=
  match a, b with
  | .lit x, .lit y => .lit (fcmp o k x.toNat y.toNat)
  | a, b => .flt o k a b

/-! ## Values, objects, states -/

inductive AV where
  | bool (c : BE)
  | int (k : IntKind) (e : IE)
  | flt (k : FloatKind) (e : IE)
  | str (l : List IE)
  | nilp
  | ptr (b off : Nat)
  | sl (b off : Nat) (len cap : IE)
  | rsl (r : Nat) (off len cap : IE)
  | rp (r : Nat) (a : IE) (j : Nat)
  | lp (b m : Nat) (a : IE) (j : Nat)
  | sst (r : Nat)
  | fn (f : Fn) (first cap : List AV)
  | nilfn
  | ifc (t : TypeId) (v : AV)
  | nilifc
  | agg (l : List AV)
  | tup (l : List AV)
  | junk

/-- The kind of a cell; 'con': a number that is known. -/
inductive CK where
  | int (k : IntKind)
  | bool
  | flt (k : FloatKind)
  | con (k : IntKind) (n : Int)

/-- A block's cells; or a list of so many kinds of cells over and over. 'spare': there may be more behind them, so that all together are as many as so many elements of so many cells take. -/
structure AObj where
  cs : List AV
  ty : TypeId
  spare : Option (IE × Nat)
  lst : Option (IE × List CK) := none

/-- The slots, as a tree: slot 0 at the root, the odd ones to the left, the even ones to the right. -/
inductive Tm where
  | nil
  | nd (v : AV) (l r : Tm)

def Tm.get (m : Tm) (i : Nat) : AV :=
  match m with
  | .nil => .junk
  | .nd v l r => match i with
    | 0 => v
    | i + 1 => if Nat.beq (i % 2) 0 then l.get (i / 2) else r.get (i / 2)

def Tm.set (m : Tm) (i : Nat) (w : AV) : Tm :=
  match m with
  | .nil => .nil
  | .nd v l r => match i with
    | 0 => .nd w l r
    | i + 1 => if Nat.beq (i % 2) 0 then .nd v (l.set (i / 2) w) r else .nd v l (r.set (i / 2) w)

def undefA : AV := .tup []

def Tm.full : Nat → Tm
  | 0 => .nil
  | d + 1 => .nd undefA (full d) (full d)

def Tm.sets (m : Tm) (i : Nat) : List AV → Tm
  | [] => m
  | v :: l => (m.set i v).sets (i + 1) l

def Tm.enter (n : Nat) (args : List AV) : Tm := (Tm.full (Nat.log2 n + 1)).sets 0 args

structure St where
  tm : Tm
  nt : Nat
  hp : List (Nat × AObj)
  nb : Nat
  nv : Nat
  pc : List (BE × Bool)


/-- The shape of an argument or a result of a specified call: one cell, or several in an aggregate. -/
inductive Sh where
  | cell (k : CK)
  | agg (l : List CK)
  | lst (l : List CK) (ty : TypeId)

structure Row where
  args : List Sh
  res : List Sh

inductive Tr (α : Type) where
  | ret (x : α)
  | br (c : BE) (t e : Tr α)
  | call (f : Nat) (args : List AE) (n : Nat) (k : Tr α)
  | loop (id : Nat) (init : List AE) (k : Nat) (body : Tr α)
  | again (id : Nat) (vs : List AE)
  | join (id : Nat) (n : Nat) (body k : Tr α)
  | any (k : Tr α)
  | asm (c : BE) (k : Tr α)
  | fail (why : Nat)

inductive PT (α : Type) where
  | ret (x : α)
  | br (c : BE) (t e : PT α)
  | fail (why : Nat)

/-- A slice that a loop carries: in a slot, or in a cell behind a pointer in a slot; its elements' cells; may it become another block? -/
structure LH where
  slot : Nat
  off : Option Nat
  ks : List CK
  ty : TypeId
  new : Bool

/-- What a loop carries: slots, cells behind a pointer in a slot, slots with parts of lists that came in, lists of ours. Or, of a block: what its ways out have in common. -/
structure Hint where
  slots : List Nat
  cells : List (Nat × Nat)
  views : List Nat := []
  lists : List LH := []
  join : Bool := false

structure Ctx where
  P : Program
  sp : FuncId → Option Row
  hint : FuncId → Nat → Option Hint
  ro : Nat → List CK

def AV.cells : AV → List AV
  | .agg l => l
  | v => [v]

def bytesOfL : List UInt8 → List IE
  | [] => []
  | b :: l => .lit (Int.ofNat b.toNat) :: bytesOfL l

def ofVal1 : Value → AV
  | .bool b => .bool (.lit b)
  | .int k n => .int k (.lit n)
  | .float k n => .flt k (.lit (Int.ofNat n))
  | .string s => .str (bytesOfL s.data.toList)
  | .pointer none => .nilp
  | .slice none 0 0 => .sl 0 0 (.lit 0) (.lit 0)
  | .nilFunc => .nilfn
  | .nilIface => .nilifc
  | _ => .junk

def ofVal1s : List Value → List AV
  | [] => []
  | v :: l => ofVal1 v :: ofVal1s l

def ofVal : Value → AV
  | .agg cs => .agg (ofVal1s cs.toList)
  | v => ofVal1 v

def St.ev (st : St) : Operand → AV
  | .tmp t => st.tm.get t
  | .const v => ofVal v
  | .global _ => .junk
  | .func f => .fn (.func f) [] []

def lset {α : Type} (l : List α) (i : Nat) (v : α) : List α :=
  match l, i with
  | [], _ => []
  | _ :: l, 0 => v :: l
  | x :: l, i + 1 => x :: lset l i v

def St.put (st : St) (dst : Option Nat) (v : AV) : St :=
  match dst with
  | none => st
  | some d => if Nat.blt d st.nt then { st with tm := st.tm.set d v } else st

def hget (h : List (Nat × AObj)) (b : Nat) : Option AObj :=
  match h with
  | [] => none
  | (c, o) :: h => if Nat.beq c b then some o else hget h b

def hset (h : List (Nat × AObj)) (b : Nat) (o : AObj) : List (Nat × AObj) :=
  match h with
  | [] => []
  | (c, x) :: h => if Nat.beq c b then (c, o) :: h else (c, x) :: hset h b o

/-- a block that is no list; one that is -/
def hgetc (h : List (Nat × AObj)) (b : Nat) : Option AObj :=
  match hget h b with
  | some o => match o.lst with
    | none => some o
    | some _ => none
  | none => none
def hgetl (h : List (Nat × AObj)) (b : Nat) : Option (AObj × IE × List CK) :=
  match hget h b with
  | some o => match o.lst with
    | some (L, ks) => some (o, L, ks)
    | none => none
  | none => none

/-- ids fall along the list -/
def hins (h : List (Nat × AObj)) (b : Nat) (o : AObj) : List (Nat × AObj) :=
  match h with
  | [] => [(b, o)]
  | (c, x) :: h => if Nat.blt c b then (b, o) :: (c, x) :: h else (c, x) :: hins h b o

def hdel (h : List (Nat × AObj)) (b : Nat) : List (Nat × AObj) :=
  match h with
  | [] => []
  | (c, x) :: h => if Nat.beq c b then hdel h b else (c, x) :: hdel h b

def pcget (l : List (BE × Bool)) (c : BE) : Option Bool :=
  match l with
  | [] => none
  | (d, b) :: l => if d.beq c then some b else pcget l c

def St.dec (st : St) (c : BE) : Option Bool :=
  match c with
  | .lit b => some b
  | .not c => match st.dec c with
    | some b => some (!b)
    | none => none
  | .and a b => match st.dec a with
    | some false => some false
    | some true => st.dec b
    | none => match st.dec b with
      | some false => some false
      | _ => none
  | .or a b => match st.dec a with
    | some true => some true
    | some false => st.dec b
    | none => match st.dec b with
      | some true => some true
      | _ => none
  | c => pcget st.pc c

def pcadd (l : List (BE × Bool)) (c : BE) (v : Bool) : List (BE × Bool) :=
  match c, v with
  | .not a, v => pcadd l a (!v)
  | .and a b, true => pcadd (pcadd l a true) b true
  | .or a b, false => pcadd (pcadd l a false) b false
  | .lt a b, true => (.lt a b, true) :: (.le b a, false) :: l
  | .lt a b, false => (.lt a b, false) :: (.le b a, true) :: l
  | .le a b, v => (.le a b, v) :: (.lt b a, !v) :: l
  | c, v => (c, v) :: l

def St.assume (st : St) (c : BE) (v : Bool) : St := { st with pc := pcadd st.pc c v }

def St.split {α : Type} (st : St) (c : BE) (kt ke : St → Tr α) : Tr α :=
  match st.dec c with
  | some true => kt st
  | some false => ke st
  | none => .br c (kt (st.assume c true)) (ke (st.assume c false))

def PT.run {α β : Type} (p : PT α) (st : St) (k : α → St → Tr β) : Tr β :=
  match p with
  | .ret x => k x st
  | .br c t e => st.split c (fun s => t.run s k) (fun s => e.run s k)
  | .fail n => .fail n

def Tr.bind {α β : Type} (t : Tr α) (k : α → Tr β) : Tr β :=
  match t with
  | .ret x => k x
  | .br c t e => .br c (t.bind k) (e.bind k)
  | .call f args n t => .call f args n (t.bind k)
  | .loop id init n b => .loop id init n (b.bind k)
  | .again id vs => .again id vs
  | .join id n b k' => .join id n (b.bind k) (k'.bind k)
  | .any k' => .any (k'.bind k)
  | .asm c k' => .asm c (k'.bind k)
  | .fail n => .fail n

end Go.Proofs.Sx
