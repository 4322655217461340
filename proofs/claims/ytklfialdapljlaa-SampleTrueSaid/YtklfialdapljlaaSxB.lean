/- The executor's operations: what each operation of the model's code comes to on abstract values. -/
import Derived.Test.YtklfialdapljlaaSxA
namespace Go.Proofs.Sx
open Go

def isAggD : TypeDesc → Bool
  | .struct _ => true
  | .array _ _ => true
  | _ => false

def szOf (P : Program) (t : TypeId) : Option Nat := (P.info? t).map (·.size)
def zeroA (P : Program) (t : TypeId) : Option AV := (P.info? t).bind fun i => i.zero.map ofVal

def ltake {α : Type} : Nat → List α → Option (List α)
  | 0, _ => some []
  | _ + 1, [] => none
  | n + 1, x :: l => (ltake n l).map (x :: ·)
def ldrop {α : Type} : Nat → List α → List α
  | 0, l => l
  | _ + 1, [] => []
  | n + 1, _ :: l => ldrop n l
def lsub {α : Type} (l : List α) (off n : Nat) : Option (List α) := ltake n (ldrop off l)
/-- the cells 'new' laid over 'l' from 'off' on -/
def lput {α : Type} (l : List α) (off : Nat) (new : List α) : List α :=
  match new with
  | [] => l
  | x :: new => lput (lset l off x) (off + 1) new

def partA (P : Program) (t : TypeId) (cs : List AV) (off : Nat) : Option AV :=
  match P.underlying t with
  | none => none
  | some d =>
    if isAggD d then
      match szOf P t with
      | none => none
      | some n => (lsub cs off n).map .agg
    else (lsub cs off 1).map fun
      | [v] => v
      | _ => .junk

def beqB (a b : BE) : BE :=
  match a, b with
  | .lit true, b => b
  | .lit false, b => mkNot b
  | a, .lit true => a
  | a, .lit false => mkNot a
  | a, b => .or (.and a b) (.and (.not a) (.not b))

def strEq : List IE → List IE → BE
  | [], [] => .lit true
  | a :: x, b :: y => mkAnd (mkEq (mkByt a) (mkByt b)) (strEq x y)
  | _, _ => .lit false

def eqFields (P : Program) (eq : TypeId → AV → AV → Option BE) (xs ys : List AV) : List Field → Option BE
  | [] => some (.lit true)
  | f :: fs =>
    if f.name ≠ "_" then
      match partA P f.type xs f.offset, partA P f.type ys f.offset with
      | some p, some q =>
        match eq f.type p q, eqFields P eq xs ys fs with
        | some c, some r => some (mkAnd c r)
        | _, _ => none
      | _, _ => none
    else eqFields P eq xs ys fs

def eqElems (P : Program) (eq : TypeId → AV → AV → Option BE) (xs ys : List AV) (elem : TypeId) (n : Nat) : Nat → Nat → Option BE
  | 0, _ => some (.lit true)
  | m + 1, i =>
    match partA P elem xs (i * n), partA P elem ys (i * n) with
    | some p, some q =>
      match eq elem p q, eqElems P eq xs ys elem n m (i + 1) with
      | some c, some r => some (mkAnd c r)
      | _, _ => none
    | _, _ => none

/-- '==' at a type. -/
def eqv (P : Program) : Nat → TypeId → AV → AV → Option BE
  | 0, _, _, _ => none
  | d + 1, t, x, y =>
    match P.underlying t with
    | none => none
    | some td =>
      match td, x, y with
      | .bool, .bool a, .bool b => some (beqB a b)
      | .int _, .int k a, .int k' b => if kbeq k k' then some (mkEq a b) else none
      | .float _, .flt k a, .flt k' b => if fbeq k k' then some (mkFlt .eql k a b) else none
      | .struct fields, .agg xs, .agg ys => if P.stoodInHeld t then none else eqFields P (eqv P d) xs ys fields.toList
      | .array len elem, .agg xs, .agg ys =>
        match szOf P elem with
        | none => none
        | some n => eqElems P (eqv P d) xs ys elem n len 0
      | _, _, _ => none

def nway {α : Type} (e : IE) (n : Nat) (f : Nat → PT α) : PT α :=
  match e with
  | .lit x => match x with
    | .ofNat i => if Nat.blt i n then f i else .fail 1
    | .negSucc _ => .fail 1
  | e =>
    let rec go : Nat → Nat → PT α
      | 0, _ => .fail 2
      | m + 1, i => .br (.eq e (.lit (Int.ofNat i))) (f i) (go m (i + 1))
    go n 0

def popInt (op : BinOp) (k : IntKind) (a b : IE) : PT AV :=
  match op with
  | .add => .ret (.int k (mkOp .add k a b))
  | .sub => .ret (.int k (mkOp .sub k a b))
  | .mul => .ret (.int k (mkOp .mul k a b))
  | .quo => .br (mkEq b (.lit 0)) (.fail 3) (.ret (.int k (mkOp .quo k a b)))
  | .rem => .br (mkEq b (.lit 0)) (.fail 3) (.ret (.int k (mkOp .rem k a b)))
  | .and => .ret (.int k (mkOp .and k a b))
  | .or => .ret (.int k (mkOp .or k a b))
  | .xor => .ret (.int k (mkOp .xor k a b))
  | .andNot => .ret (.int k (mkOp .andNot k a b))
  | .eql => .ret (.bool (mkEq a b))
  | .neq => .ret (.bool (mkNot (mkEq a b)))
  | .lss => .ret (.bool (mkLt a b))
  | .leq => .ret (.bool (mkLe a b))
  | .gtr => .ret (.bool (mkLt b a))
  | .geq => .ret (.bool (mkLe b a))
  | _ => .fail 4

def popShift (op : BinOp) (k : IntKind) (a b : IE) : PT AV :=
  match op with
  | .shl => .br (mkLt b (.lit 0)) (.fail 5) (.ret (.int k (mkOp .shl k a b)))
  | .shr => .br (mkLt b (.lit 0)) (.fail 5) (.ret (.int k (mkOp .shr k a b)))
  | _ => .fail 5

def isShift : BinOp → Bool
  | .shl | .shr => true
  | _ => false

def popEq (P : Program) (neg : Bool) (t : TypeId) (x y : AV) : PT AV :=
  let back (c : BE) : PT AV := .ret (.bool (if neg then mkNot c else c))
  match x, y with
  | .agg _, .agg _ =>
    if P.eqGuardType P.depth t then .fail 6 else
    match eqv P 40 t x y with
    | some c => back c
    | none => .fail 7
  | .bool _, .bool _ =>
    match eqv P 40 t x y with
    | some c => back c
    | none => .fail 7
  | _, _ => .fail 8

def popBin (P : Program) (op : BinOp) (t : TypeId) (x y : AV) : PT AV :=
  match x, y with
  | .int k a, .int k' b => if isShift op then popShift op k a b else if kbeq k k' then popInt op k a b else .fail 9
  | .flt k a, .flt k' b =>
    if fbeq k k' then
      match op with
      | .eql | .neq | .lss | .leq | .gtr | .geq => .ret (.bool (mkFlt op k a b))
      | _ => .fail 10
    else .fail 10
  | .str a, .str b =>
    match op with
    | .add => if Nat.ble (a.length + b.length) 1000000 then .ret (.str (a ++ b)) else .fail 11
    | .eql => .ret (.bool (strEq a b))
    | .neq => .ret (.bool (mkNot (strEq a b)))
    | _ => .fail 11
  | x, y =>
    match op with
    | .eql => popEq P false t x y
    | .neq => popEq P true t x y
    | _ => .fail 12

def popUn (op : UnOp) (x : AV) : PT AV :=
  match op, x with
  | .neg, .int k a => .ret (.int k (mkOp .sub k (.lit 0) a))
  | .xor, .int k a => .ret (.int k (mkOp .xor k (.lit (if k.signed then -1 else k.max)) a))
  | .not, .bool c => .ret (.bool (mkNot c))
  | _, _ => .fail 13

def known : AV → Bool
  | .junk => false
  | _ => true

/-- a struct's or an array's cells with parts laid in -/
def fillA (place : Nat → Option (Nat × Nat)) (cells : List AV) : List (Nat × AV) → Option (List AV)
  | [] => some cells
  | (i, v) :: rest =>
    match place i with
    | none => none
    | some (off, size) =>
      if v.cells.length ≠ size || off + v.cells.length > cells.length || !known v then none
      else fillA place (lput cells off v.cells) rest

def placesA (P : Program) : List Field → Option (List (Nat × Nat))
  | [] => some []
  | f :: fs => match szOf P f.type, placesA P fs with
    | some n, some l => some ((f.offset, n) :: l)
    | _, _ => none

def nth2 (l : List (Nat × Nat)) (i : Nat) : Option (Nat × Nat) :=
  match l, i with
  | [], _ => none
  | x :: _, 0 => some x
  | _ :: l, i + 1 => nth2 l i

def buildA (P : Program) (t : TypeId) (parts : List (Nat × AV)) : Option AV :=
  match zeroA P t, P.underlying t with
  | some z, some (.struct fields) =>
    match placesA P fields.toList with
    | some places => (fillA (nth2 places) z.cells parts).map .agg
    | none => none
  | some z, some (.array _ elem) =>
    match szOf P elem with
    | some n => (fillA (fun i => some (i * n, n)) z.cells parts).map .agg
    | none => none
  | _, _ => none

def repl {α : Type} : Nat → List α → List α
  | 0, _ => []
  | n + 1, l => l ++ repl n l

def buildSliceA (P : Program) (t : TypeId) (len : Nat) (parts : List (Nat × AV)) : Option (TypeId × List AV) :=
  match P.underlying t with
  | some (.slice elem) =>
    match szOf P elem, zeroA P elem with
    | some n, some z =>
      if Nat.beq z.cells.length n && Nat.blt 0 n && Nat.ble (len * n) 10000 then
        (fillA (fun i => some (i * n, n)) (repl len z.cells) parts).map fun l => (elem, l)
      else none
    | _, _ => none
  | _ => none

def litNat : IE → Option Nat
  | .lit (.ofNat n) => some n
  | _ => none

/-- a list without what was written into it; how many elements it has -/
def rootL : IE → IE
  | .lset a _ _ _ _ => rootL a
  | a => a
def cntL (L : IE) (m : Nat) : IE := .lcnt (rootL L) m

def ckbeq : CK → CK → Bool
  | .int k, .int l => kbeq k l
  | .bool, .bool => true
  | .flt k, .flt l => fbeq k l
  | .con k n, .con l m => kbeq k l && ibeq n m
  | _, _ => false
def cksbeq : List CK → List CK → Bool
  | [], [] => true
  | a :: x, b :: y => ckbeq a b && cksbeq x y
  | _, _ => false

def popIndexAddr (D : Ctx) (hp : List (Nat × AObj)) (t : TypeId) (x i : AV) : PT AV :=
  match i with
  | .int _ e =>
    match D.P.underlying t, x with
    | some (.array len elem), .ptr b off =>
      match szOf D.P elem with
      | some n => if Nat.ble len 1 then (match litNat e with | some 0 => if Nat.beq len 1 then .ret (.ptr b off) else .fail 14 | _ => .fail 14) else nway e len fun j => .ret (.ptr b (off + j * n))
      | none => .fail 14
    | some (.slice elem), .sl b off len _ =>
      match hgetl hp b with
      | some (_, L, ks) => match szOf D.P elem with
        | some n => if Nat.beq n ks.length && Nat.beq off 0 then .br (mkAnd (mkAnd (mkLe (.lit 0) e) (mkLt e len)) (mkLt e (cntL L n))) (.ret (.lp b n e 0)) (.fail 15) else .fail 14
        | none => .fail 14
      | none => match szOf D.P elem, litNat len with
        | some n, some m => nway e m fun j => .ret (.ptr b (off + j * n))
        | _, _ => .fail 14
    | some (.slice elem), .rsl r off len _ =>
      match szOf D.P elem with
      | some n => if Nat.beq n (D.ro r).length then .br (mkAnd (mkLe (.lit 0) e) (mkLt e len)) (.ret (.rp r (mkPl off e) 0)) (.fail 15) else .fail 14
      | none => .fail 14
    | _, _ => .fail 14
  | _ => .fail 14

def popIndex (P : Program) (t : TypeId) (x i : AV) : PT AV :=
  match i with
  | .int _ e =>
    match P.underlying t, x with
    | some (.array len elem), .agg cs =>
      match szOf P elem with
      | some n => nway e len fun j => match partA P elem cs (j * n) with
        | some v => .ret v
        | none => .fail 16
      | none => .fail 16
    | some .string, .str l =>
      nway e l.length fun j => match lsub l j 1 with
        | some [b] => .ret (.int .u8 (mkByt b))
        | _ => .fail 16
    | _, _ => .fail 16
  | _ => .fail 16

/-- a bound of a slice expression: a number up to 'y' -/
def boundA (x : Option AV) (dflt y : Nat) (f : Nat → PT AV) : PT AV :=
  match x with
  | none => f dflt
  | some (.int _ e) => nway e (y + 1) f
  | some _ => .fail 17

def popSlice (D : Ctx) (t : TypeId) (x : AV) (lo hi mx : Option AV) : PT AV :=
  match mx with
  | some _ => .fail 18
  | none =>
    match D.P.underlying t, x with
    | some (.array n elem), .ptr b off =>
      match szOf D.P elem with
      | some size => boundA hi n n fun h => boundA lo 0 h fun l =>
          .ret (.sl b (off + l * size) (.lit (Int.ofNat (h - l))) (.lit (Int.ofNat (n - l))))
      | none => .fail 18
    | some .string, .str s => boundA hi s.length s.length fun h => boundA lo 0 h fun l =>
        match lsub s l (h - l) with
        | some r => .ret (.str r)
        | none => .fail 18
    | some (.slice elem), .sl b off len cap =>
      match szOf D.P elem, litNat len with
      | some size, some n =>
        match hi with
        | none => boundA lo 0 n fun l => .ret (.sl b (off + l * size) (.lit (Int.ofNat (n - l))) (mkMi cap (.lit (Int.ofNat l))))
        | some _ => match litNat cap with
          | some c => boundA hi n c fun h => boundA lo 0 h fun l => .ret (.sl b (off + l * size) (.lit (Int.ofNat (h - l))) (.lit (Int.ofNat (c - l))))
          | none => .fail 18
      | _, _ => .fail 18
    | some (.slice elem), .rsl r off len _ =>
      match szOf D.P elem with
      | some n =>
        if Nat.beq n (D.ro r).length then
          match lo, hi with
          | some (.int _ l), none => .br (mkAnd (mkLe (.lit 0) l) (mkLe l len)) (.ret (.rsl r (mkPl off l) (mkMi len l) (.lit 0))) (.fail 19)
          | _, _ => .fail 18
        else .fail 18
      | none => .fail 18
    | _, _ => .fail 18

def popExtract (x : AV) (i : Nat) : PT AV :=
  match x with
  | .tup l => match lsub l i 1 with
    | some [v] => .ret v
    | _ => .fail 20
  | _ => .fail 20

def popConvert (P : Program) (src dst : TypeId) (x : AV) : Option (PT AV) :=
  match P.underlying src, P.underlying dst with
  | some sd, some dd =>
    match dd, x with
    | .int k, .int _ e => some (.ret (.int k (mkWrap k e)))
    | .string, .str l => match sd with
      | .string => some (.ret (.str l))
      | _ => none
    | _, _ => none
  | _, _ => none

def popMM (f : F2) : AV → List AV → PT AV
  | v, [] => .ret v
  | .int k a, .int _ b :: l => popMM f (.int k (mkOp f k a b)) l
  | _, _ => .fail 21

def popLen (D : Ctx) (ts : List TypeId) (as : List AV) : PT AV :=
  match ts, as with
  | [t], [x] =>
    match D.P.underlying t, x with
    | some .string, .str l => .ret (.int .i64 (.lit (Int.ofNat l.length)))
    | some .string, .sst r => .ret (.int .i64 (.len r))
    | some (.array n _), _ => .ret (.int .i64 (.lit (Int.ofNat n)))
    | some (.slice _), .sl _ _ len _ => .ret (.int .i64 len)
    | some (.slice _), .rsl _ _ len _ => .ret (.int .i64 len)
    | _, _ => .fail 22
  | _, _ => .fail 22

/-- An operation that only reckons: no memory, no call. -/
def pop (D : Ctx) (st : St) (o : Op) : Option (PT AV) :=
  match o with
  | .move x | .assign x => some (.ret (st.ev x))
  | .pick c a b => match st.ev c with
    | .bool c => some (.br c (.ret (st.ev a)) (.ret (st.ev b)))
    | _ => some (.fail 23)
  | .binOp op t x y _ => some (popBin D.P op t (st.ev x) (st.ev y))
  | .unOp op _ x => some (popUn op (st.ev x))
  | .convert src dst x => popConvert D.P src dst (st.ev x)
  | .makeInterface t x => match D.P.underlying t with
    | some (.interface _) => some (.fail 24)
    | some _ => some (.ret (.ifc t (st.ev x)))
    | none => some (.fail 24)
  | .makeFunc fn first cap => some (.ret (.fn fn (first.toList.map st.ev) (cap.toList.map st.ev)))
  | .fieldAddr s x f => match D.P.underlying s with
    | some (.struct fields) => match fields[f]? with
      | some fd => match szOf D.P fd.type with
        | some (_ + 1) => match st.ev x with
          | .ptr b off => some (.ret (.ptr b (off + fd.offset)))
          | .rp r a j => some (.ret (.rp r a (j + fd.offset)))
          | .lp b m a j => some (.ret (.lp b m a (j + fd.offset)))
          | _ => some (.fail 25)
        | _ => some (.fail 25)
      | none => some (.fail 25)
    | _ => some (.fail 25)
  | .field t x f => match D.P.underlying t, st.ev x with
    | some (.struct fields), .agg cs => match fields[f]? with
      | some fd => match partA D.P fd.type cs fd.offset with
        | some v => some (.ret v)
        | none => some (.fail 26)
      | none => some (.fail 26)
    | _, _ => some (.fail 26)
  | .indexAddr t x i => some (popIndexAddr D st.hp t (st.ev x) (st.ev i))
  | .index t x i => some (popIndex D.P t (st.ev x) (st.ev i))
  | .slice t x lo hi mx => some (popSlice D t (st.ev x) (lo.map st.ev) (hi.map st.ev) (mx.map st.ev))
  | .extract t i => some (popExtract (st.ev t) i)
  | .build t parts => match buildA D.P t (parts.toList.map fun (i, x) => (i, st.ev x)) with
    | some v => some (.ret v)
    | none => some (.fail 27)
  | .nilCheck x => match st.ev x with
    | .ptr b off => some (.ret (.ptr b off))
    | .rp r a j => some (.ret (.rp r a j))
    | .lp b m a j => some (.ret (.lp b m a j))
    | .fn (.func f) a b => some (.ret (.fn (.func f) a b))
    | .ifc t v => some (.ret (.ifc t v))
    | _ => some (.fail 28)
  | .call c => match c.callee with
    | .builtin .len => some (popLen D c.argTypes.toList (c.args.toList.map st.ev))
    | .builtin .max => match c.args.toList.map st.ev with
      | v :: l => some (popMM .max v l)
      | [] => some (.fail 29)
    | .builtin .min => match c.args.toList.map st.ev with
      | v :: l => some (popMM .min v l)
      | [] => some (.fail 29)
    | _ => none
  | _ => none

def ckA (k : CK) (e : IE) : AV :=
  match k with
  | .int k => .int k e
  | .bool => .bool (mkNz e)
  | .flt k => .flt k e
  | .con k n => .int k (.lit n)

def roCells (r m : Nat) (a : IE) : Nat → List CK → List AV
  | _, [] => []
  | j, k :: l => ckA k (.sel r m a j) :: roCells r m a (j + 1) l

def ltCells (L : IE) (m : Nat) (a : IE) : Nat → List CK → List AV
  | _, [] => []
  | j, k :: l => ckA k (.lat L m a j) :: ltCells L m a (j + 1) l

def yes : Option Bool → Bool
  | some true => true
  | _ => false

/-- what lies at an address: 'n' cells -/
def readA (D : Ctx) (st : St) (p : AV) (n : Nat) : Option (List AV) :=
  match p with
  | .lp b m a j => match hgetl st.hp b with
    | some (_, L, ks) => if Nat.beq ks.length m && yes (pcget st.pc (mkLt a (cntL L m))) then match lsub ks j n with
        | some ks' => some (ltCells L m a j ks')
        | none => none
      else none
    | none => none
  | .ptr b off => match hgetc st.hp b with
    | some o => lsub o.cs off n
    | none => none
  | .rp r a j => match lsub (D.ro r) j n with
    | some ks => some (roCells r (D.ro r).length a j ks)
    | none => none
  | _ => none

/-- A load: its value, and the block that it reads (none: a list that came in). -/
def loadA (D : Ctx) (st : St) (t : TypeId) (p : AV) : Option AV :=
  match D.P.underlying t, szOf D.P t with
  | some d, some n =>
    if isAggD d then (readA D st p n).map .agg
    else match readA D st p 1 with
      | some [v] => some v
      | _ => none
  | _, _ => none

def blockOf : AV → Option Nat
  | .ptr b _ => some b
  | .lp b _ _ _ => some b
  | .sl b _ _ _ => some b
  | _ => none

def bytesA : List AV → Option (List IE)
  | [] => some []
  | .int .u8 e :: l => (bytesA l).map (e :: ·)
  | _ => none

/-- []byte to string -/
def strOfA (st : St) (x : AV) : Option AV :=
  match x with
  | .sl b off len _ => match litNat len, hgetc st.hp b with
    | some n, some o => match lsub o.cs off n with
      | some l => (bytesA l).map .str
      | none => none
    | _, _ => none
  | _ => none

/-- An operation that only reads. -/
def rop (D : Ctx) (st : St) (o : Op) : Option (Option AV × Option Nat) :=
  match o with
  | .load t a => some (loadA D st t (st.ev a), blockOf (st.ev a))
  | .convert src dst x => match D.P.underlying src, D.P.underlying dst with
    | some (.slice e), some .string => match D.P.underlying e with
      | some (.int .u8) => some (strOfA st (st.ev x), blockOf (st.ev x))
      | _ => none
    | _, _ => none
  | _ => none

def St.new (st : St) (id : Option Nat) (l : List AV) (t : TypeId) (spare : Option (IE × Nat)) : Nat × St :=
  match id with
  | none => (st.nb, { st with hp := hins st.hp st.nb { cs := l, ty := t, spare := spare }, nb := st.nb + 1 })
  | some i => (i, { st with hp := hins st.hp i { cs := l, ty := t, spare := spare } })

def St.newL (st : St) (id : Option Nat) (L : IE) (ks : List CK) (t : TypeId) (spare : Option (IE × Nat)) : Nat × St :=
  match id with
  | none => (st.nb, { st with hp := hins st.hp st.nb { cs := [], ty := t, spare := spare, lst := some (L, ks) }, nb := st.nb + 1 })
  | some i => (i, { st with hp := hins st.hp i { cs := [], ty := t, spare := spare, lst := some (L, ks) } })

/-- cells of numbers, of these kinds over and over -/
def numsA (ks : List CK) : List CK → List AV → Option (List IE)
  | _, [] => some []
  | [], v :: vs => match ks, v with
    | .int k :: r, .int k' e => if kbeq k k' then (numsA ks r vs).map (e :: ·) else none
    | .flt k :: r, .flt k' e => if fbeq k k' then (numsA ks r vs).map (e :: ·) else none
    | _, _ => none
  | .int k :: r, .int k' e :: vs => if kbeq k k' then (numsA ks r vs).map (e :: ·) else none
  | .flt k :: r, .flt k' e :: vs => if fbeq k k' then (numsA ks r vs).map (e :: ·) else none
  | _, _ => none

def consL : List IE → IE
  | [] => .lnil
  | [e] => .lone e
  | e :: l => .lcat (.lone e) (consL l)

def setsL (L : IE) (m : Nat) (a : IE) (j : Nat) : List IE → IE
  | [] => L
  | e :: l => setsL (.lset L m a j e) m a (j + 1) l

/-- what a slice holds, as a list -/
def listOf (D : Ctx) (st : St) (ks : List CK) (x : AV) : Option IE :=
  match x with
  | .sl b off len _ => match litNat len with
    | some 0 => some .lnil
    | _ => match hget st.hp b with
      | some o => match o.lst with
        | some (L, ks') => if cksbeq ks ks' && Nat.beq off 0 && len.beq (cntL L ks.length) then some L else none
        | none => match litNat len with
          | some n => match lsub o.cs off (n * ks.length) with
            | some cs => (numsA ks ks cs).map consL
            | none => none
          | none => none
      | none => none
  | .rsl r off len _ => if cksbeq ks (D.ro r) && Nat.blt 0 ks.length then some (.lsub r ks.length off len) else none
  | _ => none

def ckArgs : List CK → List AV → Option (List AE)
  | [], [] => some []
  | .int k :: ks, .int k' e :: vs => if kbeq k k' then (ckArgs ks vs).map (.num e :: ·) else none
  | .bool :: ks, .bool c :: vs => (ckArgs ks vs).map (.tru c :: ·)
  | .flt k :: ks, .flt k' e :: vs => if fbeq k k' then (ckArgs ks vs).map (.num e :: ·) else none
  | .con k n :: ks, .int k' (.lit m) :: vs => if kbeq k k' && ibeq n m then (ckArgs ks vs).map (.num (.lit n) :: ·) else none
  | _, _ => none

def shArgs (D : Ctx) (st : St) : List Sh → List AV → Option (List AE)
  | [], [] => some []
  | .cell k :: ks, v :: vs => match ckArgs [k] [v], shArgs D st ks vs with
    | some a, some b => some (a ++ b)
    | _, _ => none
  | .agg l :: ks, .agg cs :: vs => match ckArgs l cs, shArgs D st ks vs with
    | some a, some b => some (a ++ b)
    | _, _ => none
  | .lst l _ :: ks, v :: vs => match listOf D st l v, shArgs D st ks vs with
    | some a, some b => some (.num a :: b)
    | _, _ => none
  | _, _ => none

def ckRes : List CK → Nat → List AV
  | [], _ => []
  | k :: ks, i => ckA k (.var i) :: ckRes ks (i + 1)

/-- what a call yields: variables; a list lies in block 'ob' (none: it is empty) -/
def shRes (ob : Option Nat) : List Sh → Nat → List AV
  | [], _ => []
  | .cell k :: ks, i => ckA k (.var i) :: shRes ob ks (i + 1)
  | .agg l :: ks, i => .agg (ckRes l i) :: shRes ob ks (i + l.length)
  | .lst l _ :: ks, i => (match ob with
    | none => .sl 0 0 (.lit 0) (.lit 0)
    | some b => .sl b 0 (cntL (.var i) l.length) (.var (i + 1))) :: shRes ob ks (i + 2)

/-- how many numbers: of an argument; of a result (a list's capacity is told, too) -/
def Sh.count : Sh → Nat
  | .cell _ => 1
  | .agg l => l.length
  | .lst _ _ => 1
def Sh.rcount : Sh → Nat
  | .cell _ => 1
  | .agg l => l.length
  | .lst _ _ => 2

def shCount : List Sh → Nat
  | [] => 0
  | s :: l => s.count + shCount l
def shRCount : List Sh → Nat
  | [] => 0
  | s :: l => s.rcount + shRCount l

/-- the lists among results: where their variables are, their cells -/
def lstsOf : List Sh → Nat → List (Nat × List CK × TypeId)
  | [], _ => []
  | .lst l t :: ks, i => (i, l, t) :: lstsOf ks (i + 2)
  | s :: ks, i => lstsOf ks (i + s.rcount)

def oneOrTup : List AV → AV
  | [v] => v
  | l => .tup l

/-- A call: handed to whoever carries it out. -/
abbrev CallH (β : Type) := FuncId → List AV → St → (AV → St → Tr β) → Tr β

def methodA (D : Ctx) (t : TypeId) (v : AV) (name : String) : Option (FuncId × AV) :=
  match D.P.info? t with
  | none => none
  | some i => match i.methods.toList.find? (fun m => m.name == name) with
    | none => none
    | some m => if m.path.isEmpty then
        match m.func, D.P.underlying t with
        | some (f, true), some (.pointer _) => some (f, v)
        | some (_, false), some (.pointer _) => none
        | some (f, false), some _ => some (f, v)
        | _, _ => none
      else none

def viaA (D : Ctx) (t : TypeId) (path : Array FieldStep) (ptr : Bool) (x : AV) : Option AV :=
  if path.isEmpty then
    match D.P.underlying t, ptr with
    | some (.pointer _), true => some x
    | some (.pointer _), false => none
    | some _, false => some x
    | _, _ => none
  else none

/-- one cell, and known -/
def flatA : AV → Bool
  | .agg _ | .tup _ | .junk => false
  | _ => true
def flatL : List AV → Bool
  | [] => true
  | v :: l => flatA v && flatL l
def okZero (P : Program) (e : TypeId) (sz : Nat) : Bool :=
  match zeroA P e with
  | some z => Nat.beq z.cells.length sz
  | none => false

/-- the cells of a slice that is appended to: none yet, or a whole block -/
def oldA (st : St) (b off n : Nat) (cap : IE) (sz : Option Nat) (ty : TypeId) : Option (List AV) :=
  if Nat.beq n 0 then
    match litNat cap with
    | some 0 => some []
    | _ => none
  else match hgetc st.hp b, sz with
    | some o, some sz =>
      if Nat.beq off 0 && Nat.beq o.cs.length (n * sz) && Nat.beq o.ty ty then
        match o.spare with
        | none => match litNat cap with
          | some c => if Nat.beq c n then some o.cs else none
          | none => none
        | some (e, z) => if e.beq cap && Nat.beq z sz then some o.cs else none
      else none
    | _, _ => none

def isU8 : TypeDesc → Bool
  | .int .u8 => true
  | _ => false

def allZero : List AV → Bool
  | [] => true
  | .int .u8 (.lit (.ofNat 0)) :: l => allZero l
  | _ => false

/-- what copy to 'n' elements from 'off' on says, and writes -/
def copyA (st : St) (o : AObj) (off n sz : Nat) (ue : TypeDesc) (src : AV) : Option (AV × List AV) :=
  match src with
  | .sst r =>
    if isU8 ue && Nat.beq sz 1 then
      match lsub o.cs off n with
      | some old => if allZero old then some (.int .i64 (.op .min .i64 (.len r) (.lit (Int.ofNat n))), (List.range n).map fun i => .int .u8 (.sel r 1 (.lit (Int.ofNat i)) 0)) else none
      | none => none
    else none
  | .str l =>
    if isU8 ue && Nat.beq sz 1 then
      match ltake (Nat.min l.length n) l with
      | some new => some (.int .i64 (.lit (Int.ofNat (Nat.min l.length n))), new.map fun e => .int .u8 (mkByt e))
      | none => none
    else none
  | .sl b2 off2 len2 _ =>
    match litNat len2, hgetc st.hp b2 with
    | some (n2 + 1), some o2 => match lsub o2.cs off2 (Nat.min (n2 + 1) n * sz) with
      | some new => some (.int .i64 (.lit (Int.ofNat (Nat.min (n2 + 1) n))), new)
      | none => none
    | _, _ => none
  | _ => none

/-- append where all is known cell by cell -/
def appendC {β : Type} (D : Ctx) (id : Option Nat) (t1 t2 : TypeId) (x1 x2 : AV) (st : St) (k : AV → St → Tr β) : Tr β :=
  match x1, x2 with
  | .sl b off len cap, .sl b2 off2 len2 _ =>
        match D.P.underlying t1, D.P.underlying t2, litNat len, litNat len2 with
        | some (.slice e), some (.slice _), some n, some m =>
          match szOf D.P e, D.P.info? e, oldA st b off n cap (szOf D.P e) e, (match hgetc st.hp b2 with | some o => lsub o.cs off2 (m * (szOf D.P e).getD 0) | none => none) with
          | some sz, some ie, some old, some new =>
            if Nat.blt 0 sz && Nat.ble (n + m) 1000000 && Nat.blt 0 m && Nat.ble ie.bytes 100000 && okZero D.P e sz && (Nat.beq n 0 || !Nat.beq b b2) && flatL new then
              let st1 := if Nat.beq n 0 then st else { st with hp := hdel st.hp b }
              let v := st1.nv
              let (b', s) := { st1 with nv := v + 1 }.new id (old ++ new) e (some (.var v, sz))
              .any (k (.sl b' 0 (.lit (Int.ofNat (n + m))) (.var v)) s)
            else .fail 46
          | _, _, _, _ => .fail 46
        | _, _, _, _ => .fail 46
  | _, _ => .fail 46

/-- is there a list in it? its elements' cells -/
def lksOf (st : St) (x : AV) : Option (List CK) :=
  match x with
  | .sl b _ _ _ => match hgetl st.hp b with
    | some (_, _, ks) => some ks
    | none => none
  | _ => none
def inLists (st : St) (x1 x2 : AV) : Bool :=
  match x2 with
  | .rsl _ _ _ _ => true
  | _ => (lksOf st x1).isSome || (lksOf st x2).isSome

/-- the slice that is appended to is a whole block, or nothing yet; its block -/
def oldL (st : St) (x : AV) (sz : Nat) (ty : TypeId) : Option (Option Nat) :=
  match x with
  | .sl b off len cap =>
    match litNat len, litNat cap with
    | some 0, some 0 => some none
    | _, _ => match hget st.hp b with
      | some o => if Nat.beq off 0 && Nat.beq o.ty ty then
          match o.lst with
          | some (L, ks) => match o.spare with
            | some (e, z) => if e.beq cap && Nat.beq z sz && len.beq (cntL L ks.length) then some (some b) else none
            | none => none
          | none => match litNat len with
            | some n => if Nat.beq o.cs.length (n * sz) && Nat.blt 0 n then
                match o.spare with
                | none => match litNat cap with
                  | some c => if Nat.beq c n then some (some b) else none
                  | none => none
                | some (e, z) => if e.beq cap && Nat.beq z sz then some (some b) else none
              else none
            | none => none
        else none
      | none => none
  | _ => none

/-- the slice of what is appended, and how many elements -/
def lenOf : AV → Option (IE × Option Nat)
  | .sl b _ len _ => some (len, some b)
  | .rsl _ _ len _ => some (len, none)
  | _ => none

def nbeqO : Option Nat → Option Nat → Bool
  | some a, some b => !Nat.beq a b
  | _, _ => true

/-- the state without a block -/
def outL (ob : Option Nat) (st : St) : St :=
  match ob with
  | none => st
  | some b => { st with hp := hdel st.hp b }

/-- append where there are lists -/
def appendL {β : Type} (D : Ctx) (id : Option Nat) (t1 t2 : TypeId) (x1 x2 : AV) (st : St) (k : AV → St → Tr β) : Tr β :=
  match D.P.underlying t1, D.P.underlying t2 with
  | some (.slice e), some (.slice _) =>
    match (match lksOf st x1 with | some ks => some ks | none => match x2 with | .rsl r _ _ _ => some (D.ro r) | x2 => lksOf st x2), szOf D.P e, D.P.info? e with
    | some ks, some sz, some ie => match listOf D st ks x1, listOf D st ks x2, oldL st x1 sz e, lenOf x2 with
      | some L1, some L2, some ob, some (len2, b2) =>
        if Nat.beq sz ks.length && Nat.blt 0 sz && Nat.ble ie.bytes 100000 && okZero D.P e sz && nbeqO ob b2 then
          st.split (mkEq len2 (.lit 0)) (fun s => k x1 s) fun st =>
          st.split (mkLe (.lcnt (.lcat L1 L2) sz) (.lit 1000000)) (fun st =>
            let r := ({ outL ob st with nv := (outL ob st).nv + 1 } : St).newL id (.lcat L1 L2) ks e (some (.var (outL ob st).nv, sz))
            .any (k (.sl r.1 0 (cntL (.lcat L1 L2) sz) (.var (outL ob st).nv)) r.2)) (fun _ => .fail 46)
        else .fail 46
      | _, _, _, _ => .fail 46
    | _, _, _ => .fail 46
  | _, _ => .fail 46

/-- make of so many elements of one number each -/
def makeL {β : Type} (D : Ctx) (id : Option Nat) (e : TypeId) (l : IE) (st : St) (k : AV → St → Tr β) : Tr β :=
  match D.P.info? e, zeroA D.P e with
  | some ie, some (.int kk (.lit z)) =>
    if Nat.beq ie.size 1 && Nat.ble ie.bytes 100000 then
      st.split (mkAnd (mkLe (.lit 0) l) (mkLe l (.lit 1000000))) (fun st =>
        let (b, s) := st.newL id (.lrep l (.lit z)) [.int kk] e (some (l, 1))
        k (.sl b 0 (cntL (.lrep l (.lit z)) 1) l) s) (fun _ => .fail 50)
    else .fail 50
  | _, _ => .fail 50

/-- An operation that makes or writes memory, or calls. -/
def iop {β : Type} (D : Ctx) (call : CallH β) (id : Option Nat) (o : Op) (st : St) (k : AV → St → Tr β) : Tr β :=
  match o with
  | .alloc t => match zeroA D.P t with
    | some z => let (b, s) := st.new id z.cells t none
      k (.ptr b 0) s
    | none => .fail 40
  | .box t x => if known (st.ev x) then
      let (b, s) := st.new id (st.ev x).cells t none
      k (.ptr b 0) s
    else .fail 39
  | .buildSlice t len parts => match buildSliceA D.P t len (parts.toList.map fun (i, x) => (i, st.ev x)) with
    | some (e, l) => let (b, s) := st.new id l e none
      k (.sl b 0 (.lit (Int.ofNat len)) (.lit (Int.ofNat len))) s
    | none => .fail 41
  | .store t a x => match st.ev a with
    | .lp b m a j => match hgetl st.hp b, szOf D.P t with
      | some (o, L, ks), some n => match lsub ks j n with
        | some ks' => match numsA [] ks' (st.ev x).cells with
          | some es => if Nat.beq ks.length m && Nat.beq es.length n && Nat.blt 0 n && yes (pcget st.pc (mkLt a (cntL L m))) then
              k undefA { st with hp := hset st.hp b { o with lst := some (setsL L m a j es, ks) } }
            else .fail 42
          | none => .fail 42
        | none => .fail 42
      | _, _ => .fail 42
    | .ptr b off => match hgetc st.hp b, szOf D.P t with
      | some o, some n =>
        let cs := (st.ev x).cells
        if Nat.beq cs.length n && Nat.ble (off + n) o.cs.length && flatL cs then
          k undefA { st with hp := hset st.hp b { o with cs := lput o.cs off cs } }
        else .fail 42
      | _, _ => .fail 42
    | _ => .fail 42
  | .call c => match c.callee with
    | .value f => match st.ev f with
      | .fn (.func g) first cap => call g (first ++ c.args.toList.map st.ev ++ cap) st k
      | .fn (.via t path g ptr) first _ => match first ++ c.args.toList.map st.ev with
        | x :: rest => match viaA D t path ptr x with
          | some r => call g (r :: rest) st k
          | none => .fail 43
        | [] => .fail 43
      | _ => .fail 44
    | .invoke r name => match st.ev r with
      | .ifc t v => match methodA D t v name with
        | some (g, rv) => call g (rv :: c.args.toList.map st.ev) st k
        | none => .fail 45
      | _ => .fail 45
    | .builtin .append => match c.argTypes.toList, c.args.toList.map st.ev with
      | [t1, t2], [x1, x2] => if inLists st x1 x2 then appendL D id t1 t2 x1 x2 st k else appendC D id t1 t2 x1 x2 st k
      | _, _ => .fail 46
    | .builtin .copy => match c.argTypes.toList, c.args.toList.map st.ev with
      | [t1, _], [.sl b off len _, src] =>
        match D.P.underlying t1, litNat len, hgetc st.hp b with
        | some (.slice e), some (n + 1), some o =>
          match D.P.underlying e, szOf D.P e with
          | some ue, some sz =>
            match copyA st o off (n + 1) sz ue src with
            | some (v, new) => if Nat.ble (off + new.length) o.cs.length && flatL new then
                k v { st with hp := hset st.hp b { o with cs := lput o.cs off new } }
              else .fail 47
            | none => .fail 47
          | _, _ => .fail 47
        | _, _, _ => .fail 47
      | _, _ => .fail 47
    | _ => .fail 48
  | .convert src dst x => match D.P.underlying src, D.P.underlying dst, st.ev x with
    | some .string, some (.slice e), .str l => match D.P.underlying e with
      | some (.int .u8) =>
        let v := st.nv
        let (b, s) := { st with nv := v + 1 }.new id (l.map fun e => .int .u8 (mkByt e)) e (some (.var v, 1))
        .any (k (.sl b 0 (.lit (Int.ofNat l.length)) (.var v)) s)
      | _ => .fail 49
    | _, _, _ => .fail 49
  | .makeSlice t len cap => match D.P.underlying t, st.ev len, st.ev cap with
    | some (.slice e), .int _ l, .int _ c => match litNat l with
     | none => if l.beq c then makeL D id e l st k else .fail 50
     | some n => match litNat c, D.P.info? e, zeroA D.P e with
      | some m, some ie, some z =>
        if Nat.ble n m && Nat.ble m 1000000 && Nat.beq z.cells.length ie.size && Nat.blt 0 ie.size && Nat.ble ie.bytes 100000 then
          let (b, s) := st.new id (repl m z.cells) e none
          k (.sl b 0 (.lit (Int.ofNat n)) (.lit (Int.ofNat m))) s
        else .fail 50
      | _, _, _ => .fail 50
    | _, _, _ => .fail 50
  | _ => .fail 51

/-- a function of the library without a body: what must not be, and what it yields -/
def extA (name : String) (args : List AV) : Option (BE × AV) :=
  if name = "math.Float64bits" then
    match args with
    | [.flt .f64 e] => some (mkLt e (.lit 0), .int .u64 e)
    | _ => none
  else if name = "math.Float64frombits" then
    match args with
    | [.int .u64 e] => some (.lit false, .flt .f64 e)
    | _ => none
  else none

/-- Any operation, its guard aside. -/
def xop {β : Type} (D : Ctx) (call : CallH β) (id : Option Nat) (o : Op) (st : St) (k : AV → St → Tr β) : Tr β :=
  match pop D st o with
  | some p => p.run st k
  | none => match rop D st o with
    | some (some v, _) => k v st
    | some (none, _) => .fail 60
    | none => iop D call id o st k

/-- Is the operation's guard met? -/
def guardA (ops : List Oper) (st : St) (o : Oper) : Option BE :=
  match o.guard with
  | none => some (.lit true)
  | some (j, want) => match ops[j]? with
    | none => some (.lit false)
    | some oj => match oj.dst with
      | none => some (.lit false)
      | some d => match st.tm.get d with
        | .bool c => some (if want then c else mkNot c)
        | .tup _ => some (.lit false)
        | _ => none

def gop {β : Type} (D : Ctx) (call : CallH β) (ops : List Oper) (id : Option Nat) (o : Oper) (st : St) (k : St → Tr β) : Tr β :=
  match guardA ops st o with
  | none => .fail 61
  | some g => st.split g (fun s => xop D call id o.op s fun v s => k (s.put o.dst v)) (fun s => k (s.put o.dst undefA))

/-- A region in the order of the text. -/
def xops {β : Type} (D : Ctx) (call : CallH β) (ops : List Oper) : List Oper → St → (St → Tr β) → Tr β
  | [], st, k => k st
  | o :: rest, st, k => gop D call ops none o st fun s => xops D call ops rest s k

end Go.Proofs.Sx
