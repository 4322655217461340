/- The executor: code, calls, loops, regions that draw their order. -/
import Derived.Test.YtklfialdapljlaaSxB
namespace Go.Proofs.Sx
open Go

/-! ## Equality of abstract data, as Bools -/

def ielbeq : List IE → List IE → Bool
  | [], [] => true
  | a :: x, b :: y => a.beq b && ielbeq x y
  | _, _ => false

def aelbeq : List AE → List AE → Bool
  | [], [] => true
  | a :: x, b :: y => a.beq b && aelbeq x y
  | _, _ => false

def stepbeq : FieldStep → FieldStep → Bool
  | a, b => Nat.beq a.struct b.struct && Nat.beq a.index b.index && (a.deref == b.deref)
def stepsbeq : List FieldStep → List FieldStep → Bool
  | [], [] => true
  | a :: x, b :: y => stepbeq a b && stepsbeq x y
  | _, _ => false

def fnbeq : Fn → Fn → Bool
  | .func a, .func b => Nat.beq a b
  | .via t p f b, .via t' p' f' b' => Nat.beq t t' && stepsbeq p.toList p'.toList && Nat.beq f f' && (b == b')
  | _, _ => false

mutual
def AV.beq : AV → AV → Bool
  | .bool c, .bool d => c.beq d
  | .int k e, .int l f => kbeq k l && e.beq f
  | .flt k e, .flt l f => fbeq k l && e.beq f
  | .str x, .str y => ielbeq x y
  | .nilp, .nilp => true
  | .ptr b o, .ptr c p => Nat.beq b c && Nat.beq o p
  | .sl b o x y, .sl c p z w => Nat.beq b c && Nat.beq o p && x.beq z && y.beq w
  | .rsl b o x y, .rsl c p z w => Nat.beq b c && o.beq p && x.beq z && y.beq w
  | .rp b o x, .rp c p z => Nat.beq b c && o.beq p && Nat.beq x z
  | .lp b m o x, .lp c n p z => Nat.beq b c && Nat.beq m n && o.beq p && Nat.beq x z
  | .sst b, .sst c => Nat.beq b c
  | .fn f a b, .fn g c d => fnbeq f g && AV.beqL a c && AV.beqL b d
  | .nilfn, .nilfn => true
  | .ifc t v, .ifc u w => Nat.beq t u && v.beq w
  | .nilifc, .nilifc => true
  | .agg x, .agg y => AV.beqL x y
  | .tup x, .tup y => AV.beqL x y
  | .junk, .junk => true
  | _, _ => false
def AV.beqL : List AV → List AV → Bool
  | [], [] => true
  | a :: x, b :: y => a.beq b && AV.beqL x y
  | _, _ => false
end

def spbeq : Option (IE × Nat) → Option (IE × Nat) → Bool
  | none, none => true
  | some (e, n), some (f, m) => e.beq f && Nat.beq n m
  | _, _ => false

def lsbeq : Option (IE × List CK) → Option (IE × List CK) → Bool
  | none, none => true
  | some (e, n), some (f, m) => e.beq f && cksbeq n m
  | _, _ => false

def AObj.beq (a b : AObj) : Bool := AV.beqL a.cs b.cs && Nat.beq a.ty b.ty && spbeq a.spare b.spare && lsbeq a.lst b.lst

def hpbeq : List (Nat × AObj) → List (Nat × AObj) → Bool
  | [], [] => true
  | (b, o) :: x, (c, p) :: y => Nat.beq b c && o.beq p && hpbeq x y
  | _, _ => false

def pcbeq : List (BE × Bool) → List (BE × Bool) → Bool
  | [], [] => true
  | (b, o) :: x, (c, p) :: y => b.beq c && (o == p) && pcbeq x y
  | _, _ => false

def Tm.beq : Tm → Tm → Bool
  | .nil, .nil => true
  | .nd v l r, .nd w x y => v.beq w && l.beq x && r.beq y
  | _, _ => false

def St.beq (a b : St) : Bool := a.tm.beq b.tm && Nat.beq a.nt b.nt && hpbeq a.hp b.hp && Nat.beq a.nb b.nb && Nat.beq a.nv b.nv && pcbeq a.pc b.pc

def Tr.beq : Tr St → Tr St → Bool
  | .ret a, .ret b => a.beq b
  | .br c t e, .br d u f => c.beq d && t.beq u && e.beq f
  | .call f as n k, .call g bs m l => Nat.beq f g && aelbeq as bs && Nat.beq n m && k.beq l
  | .any k, .any l => k.beq l
  | .asm c k, .asm d l => c.beq d && k.beq l
  | _, _ => false

/-! ## Loops with what they carry -/

def dsts : List Oper → List Nat
  | [] => []
  | o :: l => match o.dst with
    | some d => d :: dsts l
    | none => dsts l

def writesC : Code → List Nat
  | .region _ ops _ => dsts ops.toList
  | .seq a b => writesC a ++ writesC b
  | .cond _ a b => writesC a ++ writesC b
  | .block _ b => writesC b
  | .loop b => writesC b
  | .scope b => writesC b
  | .rangeFunc _ ps a b => ps.toList ++ writesC a ++ writesC b
  | _ => []

/-- what is carried as one number: a cell's number; a part of a list that came in (a list of two: where it begins, how long it is) -/
inductive VK where
  | ck (k : CK)
  | view (r : Nat)

def vkA (k : VK) (e : IE) : AV :=
  match k with
  | .ck k => ckA k e
  | .view r => .rsl r (.lat e 1 (.lit 0) 0) (.lat e 1 (.lit 0) 1) (.lit 0)

def scal : AV → Option (AE × VK)
  | .int k e => some (.num e, .ck (.int k))
  | .bool c => some (.tru c, .ck .bool)
  | .flt k e => some (.num e, .ck (.flt k))
  | .rsl r off len _ => some (.num (.lcat (.lone off) (.lone len)), .view r)
  | _ => none

/-- the carried cells, by block and place -/
def carPs : List (Nat × Nat) → St → Option (List (Nat × Nat))
  | [], _ => some []
  | (t, off) :: l, st => match st.tm.get t with
    | .ptr b o => match carPs l st with
      | some ps => some ((b, o + off) :: ps)
      | none => none
    | _ => none

def rdCells : List (Nat × Nat) → List (Nat × AObj) → Option (List (AE × VK))
  | [], _ => some []
  | (b, o) :: l, hp => match hget hp b with
    | some ob => match ob.cs[o]? with
      | some c => match scal c, rdCells l hp with
        | some x, some r => some (x :: r)
        | _, _ => none
      | none => none
    | none => none

def rdSlots : List Nat → Tm → Option (List (AE × VK))
  | [], _ => some []
  | t :: l, m => match scal (m.get t), rdSlots l m with
    | some x, some r => some (x :: r)
    | _, _ => none

def wrCells : List (Nat × Nat) → List (AE × VK) → Nat → List (Nat × AObj) → List (Nat × AObj)
  | (b, o) :: l, (_, k) :: r, v, hp => match hget hp b with
    | some ob => wrCells l r (v + 1) (hset hp b { ob with cs := lset ob.cs o (vkA k (.var v)) })
    | none => wrCells l r (v + 1) hp
  | _, _, _, hp => hp

def wrSlots : List Nat → List (AE × VK) → Nat → Tm → Tm
  | t :: l, (_, k) :: r, v, m => wrSlots l r (v + 1) (m.set t (vkA k (.var v)))
  | _, _, _, m => m

def fsts : List (AE × VK) → List AE
  | [] => []
  | (e, _) :: l => e :: fsts l

/-- what the carried things hold; and the state with variables in their place -/
def carry (h : Hint) (ps : List (Nat × Nat)) (st : St) (v : Nat) : Option (List AE × St) :=
  match rdCells ps st.hp, rdSlots h.slots st.tm with
  | some cs, some ss => some (fsts cs ++ fsts ss, { st with hp := wrCells ps cs v st.hp, tm := wrSlots h.slots ss (v + cs.length) st.tm })
  | _, _ => none

def forget (keep : List Nat) (m : Tm) : List Nat → Tm
  | [] => m
  | t :: ws => if keep.contains t then forget keep m ws else forget keep (m.set t .junk) ws

def okPc (n : Nat) : List (BE × Bool) → List (BE × Bool)
  | [] => []
  | (c, b) :: l => if c.ok n then (c, b) :: okPc n l else okPc n l

/-- The state at a loop's head, and what the carried things hold at first. -/
def headA (h : Hint) (body : Code) (st : St) : Option (List (Nat × Nat) × List AE × St) :=
  match carPs h.cells st with
  | some ps => match carry h ps st st.nv with
    | some (es, s) => some (ps, es, { s with tm := forget h.slots s.tm (writesC body), nv := st.nv + es.length, pc := okPc st.nv st.pc })
    | none => none
  | none => none

def subA (a b : AV) : Bool :=
  match a with
  | .junk => true
  | a => a.beq b

def subTm : Tm → Tm → Bool
  | .nil, _ => true
  | .nd v l r, .nd w x y => subA v w && subTm l x && subTm r y
  | _, _ => false

def subHp : List (Nat × AObj) → List (Nat × AObj) → Bool
  | [], _ => true
  | (b, o) :: x, h => (match hget h b with | some p => o.beq p | none => false) && subHp x h

/-- the slice of a list that is carried: where it is, what it is -/
def locL (h : LH) (st : St) : Option AV :=
  match h.off with
  | none => some (st.tm.get h.slot)
  | some o => match st.tm.get h.slot with
    | .ptr b p => match hgetc st.hp b with
      | some ob => ob.cs[p + o]?
      | none => none
    | _ => none
def putL (h : LH) (v : AV) (st : St) : Option St :=
  match h.off with
  | none => some { st with tm := st.tm.set h.slot v }
  | some o => match st.tm.get h.slot with
    | .ptr b p => match hgetc st.hp b with
      | some ob => if Nat.blt (p + o) ob.cs.length then some { st with hp := hset st.hp b { ob with cs := lset ob.cs (p + o) v } } else none
      | none => none
    | _ => none

/-- a whole block as a list -/
def blockL (ks : List CK) (o : AObj) : Option IE :=
  match o.lst with
  | some (L, ks') => if cksbeq ks ks' then some L else none
  | none => if Nat.blt 0 ks.length && Nat.beq (o.cs.length % ks.length) 0 then (numsA ks ks o.cs).map consL else none

def nilA (len cap : IE) : Bool :=
  match litNat len, litNat cap with
  | some 0, some 0 => true
  | _, _ => false

/-- how many elements a whole block has, and may have -/
def wholeA (ks : List CK) (o : AObj) (len cap : IE) : Bool :=
  (match o.lst with
    | some (L, _) => len.beq (cntL L ks.length)
    | none => match litNat len with
      | some n => Nat.beq o.cs.length (n * ks.length)
      | none => false) &&
  (match o.spare with
    | some (e, z) => e.beq cap && Nat.beq z ks.length
    | none => match o.lst, litNat cap with
      | none, some c => Nat.beq o.cs.length (c * ks.length)
      | _, _ => false)

/-- what stays of a list's block: its number, its cells' type, its room -/
abbrev LInfo := Option (Nat × TypeId × Option (IE × Nat))

def infobeq : LInfo → LInfo → Bool
  | none, none => true
  | some (b, t, s), some (c, u, r) => Nat.beq b c && Nat.beq t u && spbeq s r
  | _, _ => false
def infosbeq : List LInfo → List LInfo → Bool
  | [], [] => true
  | a :: x, b :: y => infobeq a b && infosbeq x y
  | _, _ => false

/-- A list is taken out of the state: its numbers. -/
def takeL1 (h : LH) (st : St) : Option (List AE × LInfo × St) :=
  match locL h st with
  | some (.sl b off len cap) =>
    if h.new then
      if nilA len cap then match putL h .junk st with
        | some s => some ([.num .lnil, .num (.lit 0)], none, s)
        | none => none
      else match hget st.hp b with
        | some o => match blockL h.ks o with
          | some L => if Nat.beq off 0 && Nat.beq o.ty h.ty && wholeA h.ks o len cap then match putL h .junk { st with hp := hdel st.hp b } with
              | some s => some ([.num L, .num cap], none, s)
              | none => none
            else none
          | none => none
        | none => none
    else match hget st.hp b with
      | some o => match blockL h.ks o with
        | some L => some ([.num L], some (b, o.ty, o.spare), { st with hp := hdel st.hp b })
        | none => none
      | none => none
  | _ => none

def takeL : List LH → St → Option (List AE × List LInfo × St)
  | [], st => some ([], [], st)
  | h :: l, st => match takeL1 h st with
    | some (es, i, s) => match takeL l s with
      | some (fs, is, s') => some (es ++ fs, i :: is, s')
      | none => none
    | none => none

/-- Lists are given back to a state, as variables from 'v' on. -/
def giveL {β : Type} : List LH → List LInfo → Nat → St → (St → Tr β) → Tr β
  | [], [], _, H, k => k H
  | h :: l, some (b, ty, sp) :: is, v, H, k =>
    if h.new then .fail 97 else giveL l is (v + 1) { H with hp := hins H.hp b { cs := [], ty := ty, spare := sp, lst := some (.var v, h.ks) } } k
  | h :: l, none :: is, v, H, k =>
    if h.new then
      H.split (.eq (.var (v + 1)) (.lit 0))
        (fun H => .asm (.eq (.lcnt (.var v) 1) (.lit 0)) (match putL h (.sl 0 0 (.lit 0) (.lit 0)) { H with nb := H.nb + 1 } with
          | some H1 => giveL l is (v + 2) H1 k
          | none => .fail 97))
        (fun H => match putL h (.sl H.nb 0 (cntL (.var v) h.ks.length) (.var (v + 1))) { H with hp := hins H.hp H.nb { cs := [], ty := h.ty, spare := some (.var (v + 1), h.ks.length), lst := some (.var v, h.ks) }, nb := H.nb + 1 } with
          | some H1 => giveL l is (v + 2) H1 k
          | none => .fail 97)
    else .fail 97
  | _, _, _, _, _ => .fail 97

/-- Behind a round: what the carried things hold, if all else is as it was at the head. -/
def againA (h : Hint) (ps : List (Nat × Nat)) (head : St) (id : Nat) (s : St) : Option (List AE) :=
  match carry h ps s id with
  | some (es, s') => if subTm head.tm s'.tm && subHp head.hp s'.hp && Nat.beq head.nt s.nt then some es else none
  | none => none

/-! ## Regions that draw their order -/

def heldA (hold : List (Nat × AObj)) (s : St) : Bool := subHp hold s.hp

mutual
/-- it stands for one value alone -/
def detA : AV → Bool
  | .bool _ | .int _ _ | .flt _ _ | .str _ | .nilp | .ptr _ _ | .rp _ _ _ | .lp _ _ _ _ | .nilfn | .nilifc => true
  | .fn _ a b => detL a && detL b
  | .ifc _ v => detA v
  | .agg l | .tup l => detL l
  | _ => false
def detL : List AV → Bool
  | [] => true
  | a :: l => detA a && detL l
end

/-- an address that stands for the same all through the region -/
def stayA (hold : List (Nat × AObj)) (nv0 : Nat) (p : AV) : Bool :=
  match p with
  | .ptr b _ => (hget hold b).isSome
  | .rp _ a _ => a.ok nv0
  | .lp b _ a _ => (hget hold b).isSome && a.ok nv0
  | _ => false

def quietA (D : Ctx) (hold : List (Nat × AObj)) (nv0 : Nat) (st : St) (o : Oper) : Bool :=
  match pop D st o.op with
  | some _ => true
  | none => match o.op with
    | .load t x => stayA hold nv0 (st.ev x) && (match loadA D st t (st.ev x) with | some v => detA v | none => false)
    | _ => false

/-- any two operations: one waits for the other, or they are apart -/
def waitsOn (o : Oper) (i : Nat) : Bool := o.after.toList.any fun e => Region.binds .any e && Nat.beq e.on i
def okPairs1 (ops : Array Oper) (oi : Oper) (i : Nat) : List Oper → Nat → Bool
  | [], _ => true
  | oj :: l, j => (Nat.beq i j || waitsOn oj i || waitsOn oi j || oi.apart ops oj) && okPairs1 ops oi i l (j + 1)
def okPairs (ops : Array Oper) : List Oper → Nat → Bool
  | [], _ => true
  | oi :: l, i => okPairs1 ops oi i ops.toList 0 && okPairs ops l (i + 1)
/-- every operation waits for earlier ones alone -/
def fwdOk : List Oper → Nat → Bool
  | [], _ => true
  | o :: l, i => o.after.toList.all (fun e => !Region.binds .any e || Nat.blt e.on i) && fwdOk l (i + 1)

def elem (i : Nat) : List Nat → Bool
  | [] => false
  | j :: l => Nat.beq i j || elem i l
def readyA (o : Oper) (todo : List Nat) : Bool := o.after.toList.all fun e => !Region.binds .any e || !elem e.on todo

def lgetO (l : List Oper) (i : Nat) : Option Oper :=
  match l, i with
  | [], _ => none
  | o :: _, 0 => some o
  | _ :: l, i + 1 => lgetO l i

/-- the first of 'todo' that may come up and is quiet -/
def findQuiet (D : Ctx) (ops : List Oper) (hold : List (Nat × AObj)) (nv0 : Nat) (st : St) (todo : List Nat) : List Nat → Option (Nat × Oper)
  | [] => none
  | i :: l => match lgetO ops i with
    | some o => if readyA o todo && quietA D hold nv0 st o then some (i, o) else findQuiet D ops hold nv0 st todo l
    | none => none

def allReady (ops : List Oper) (todo : List Nat) : List Nat → Option (List (Nat × Oper))
  | [] => some []
  | i :: l => match lgetO ops i, allReady ops todo l with
    | some o, some r => if readyA o todo then some ((i, o) :: r) else some r
    | _, _ => none

def without1 (i : Nat) : List Nat → List Nat
  | [] => []
  | j :: l => if Nat.beq i j then l else j :: without1 i l

def mergeA : List (Tr St) → Tr St
  | [] => .fail 80
  | t :: l => if l.all (fun u => t.beq u) then t else .fail 81

def xdraw (D : Ctx) (call : CallH St) (ops : List Oper) (nb0 nv0 : Nat) (hold : List (Nat × AObj)) (pc0 : List (BE × Bool)) : Nat → List Nat → St → Tr St
  | 0, _, _ => .fail 82
  | n + 1, todo, st =>
    match todo with
    | [] => .ret { st with pc := pc0 }
    | todo =>
      match findQuiet D ops hold nv0 st todo todo with
      | some (j, o) => gop D call ops none o st fun s => xdraw D call ops nb0 nv0 hold pc0 n (without1 j todo) s
      | none => match allReady ops todo todo with
        | some rs => mergeA (rs.map fun (j, o) => gop D call ops (some (nb0 + j)) o st fun s =>
            if heldA hold s then xdraw D call ops nb0 nv0 hold pc0 n (without1 j todo) s else .fail 83)
        | none => .fail 84

/-- the slot, laid ahead of the region, that an address is reckoned from -/
def rootOf (ops : List Oper) : Nat → Operand → Option Nat
  | 0, _ => none
  | n + 1, .tmp t =>
    match ops.find? (fun o => match o.dst with | some d => Nat.beq d t | none => false) with
    | none => some t
    | some o => match o.op with
      | .fieldAddr _ x _ => rootOf ops n x
      | .indexAddr _ x _ => rootOf ops n x
      | .move x => rootOf ops n x
      | .nilCheck x => rootOf ops n x
      | .alloc _ => some 1000000
      | _ => none
  | _, _ => none

def written (st : St) (ops : List Oper) : List Oper → Option (List Nat)
  | [] => some []
  | o :: l => match o.op with
    | .store _ a _ => match rootOf ops 10 a, written st ops l with
      | some t, some bs => match blockOf (st.tm.get t) with
        | some b => some (b :: bs)
        | none => if Nat.beq t 1000000 then some bs else none
      | _, _ => none
    | .call c => match c.callee with
      | .builtin .copy => none
      | .builtin .append => none
      | _ => written st ops l
    | _ => written st ops l

def without (bs : List Nat) : List (Nat × AObj) → List (Nat × AObj)
  | [] => []
  | (b, o) :: l => if bs.contains b then without bs l else (b, o) :: without bs l

def holdOf (st : St) (ops : List Oper) : List (Nat × AObj) :=
  match written st ops ops with
  | some bs => without bs st.hp
  | none => []

def xregion {β : Type} (D : Ctx) (call : CallH β) (callS : CallH St) (ops : Array Oper) (draw : Bool) (st : St) (k : St → Tr β) : Tr β :=
  if draw then
    if Region.noSelect ops && okPairs ops ops.toList 0 && fwdOk ops.toList 0 then
      (xdraw D callS ops.toList st.nb st.nv (holdOf st ops.toList) st.pc (ops.size + 1) (List.range ops.size) { st with nb := st.nb + ops.size }).bind k
    else .fail 85
  else xops D call ops.toList ops.toList st k

/-! ## Code -/

inductive Ex where
  | nrm
  | exit (id : Nat)
  | ret

def resultsA (D : Ctx) (st : St) : List ResultVar → Option (List AV)
  | [] => some []
  | .tmp t :: l => (resultsA D st l).map (st.tm.get t :: ·)
  | .cell a t :: l => match loadA D st t (st.tm.get a), resultsA D st l with
    | some v, some vs => some (v :: vs)
    | _, _ => none

def callA (D : Ctx) {β : Type} (body : FuncId → Code → St → (Ex → St → Tr β) → Tr β) : CallH β := fun g args st k =>
  match D.sp g with
  | some row => match shArgs D st row.args args with
    | some es => .call g es (shRCount row.res) (let s := { st with nv := st.nv + shRCount row.res }
      match lstsOf row.res st.nv with
      | [] => k (oneOrTup (shRes none row.res st.nv)) s
      | [(i, ks, ty)] =>
        s.split (.eq (.var (i + 1)) (.lit 0)) (fun s => .asm (.eq (.lcnt (.var i) 1) (.lit 0)) (k (oneOrTup (shRes none row.res st.nv)) s))
          (fun s => let (b, s1) := s.newL none (.var i) ks ty (some (.var (i + 1), ks.length))
            k (oneOrTup (shRes (some b) row.res st.nv)) s1)
      | _ => .fail 77)
    | none => .fail 70
  | none => match D.P.funcs[g]? with
    | some fn => match fn.body with
      | some c => body g c { st with tm := Tm.enter fn.ntmps args, nt := Nat.max fn.ntmps args.length } fun ex s => match ex with
        | .exit _ => .fail 71
        | _ => match resultsA D s fn.results.toList with
          | some rs => k (oneOrTup rs) { s with tm := st.tm, nt := st.nt }
          | none => .fail 72
      | none => match extA fn.name args with
        | some (c, v) => st.split c (fun _ => .fail 75) (fun s => k v s)
        | none => .fail 73
    | none => .fail 74

/-- what is carried, as numbers: to a loop's head, or to a block's end -/
def joinA {β : Type} (h : Hint) (ps : List (Nat × Nat)) (is : List LInfo) (head : St) (id : Nat) (s : St) : Tr β :=
  match takeL h.lists s with
  | some (ls, is', s0) => match againA h ps head id s0 with
    | some vs => if infosbeq is is' then .again id (vs ++ ls) else .fail 92
    | none => .fail 92
  | none => .fail 96

def xc (D : Ctx) : Nat → {β : Type} → FuncId → Code → St → (Ex → St → Tr β) → Tr β
  | 0, _, _, _, _, _ => .fail 90
  | n + 1, _, f, c, st, k =>
    match c with
    | .skip => k .nrm st
    | .ret => k .ret st
    | .exit id => k (.exit id) st
    | .label _ => k .nrm st
    | .seq a b => xc D n f a st fun ex s => match ex with
      | .nrm => xc D n f b s k
      | ex => k ex s
    | .cond c a b => match st.ev c with
      | .bool c => st.split c (fun s => xc D n f a s k) (fun s => xc D n f b s k)
      | _ => .fail 91
    | .scope b => xc D n f b st k
    | .block id b =>
      match D.hint f id with
      | some h =>
        if h.join then
          match takeL h.lists st with
          | some (ls, is, st0) =>
            match headA h b st0 with
            | some (ps, es, head) =>
              .join st.nv (es ++ ls).length (xc D n f b { st with nv := st.nv + 1 } fun ex s => match ex with
                | .ret => k .ret s
                | .exit i => if Nat.beq i id then joinA h ps is head st.nv s else k (.exit i) s
                | .nrm => joinA h ps is head st.nv s)
                (giveL h.lists is (st.nv + es.length) { head with nv := st.nv + (es ++ ls).length } fun hd => k .nrm hd)
            | none => .fail 94
          | none => .fail 96
        else match b with
        | .loop body =>
          match takeL h.lists st with
          | some (ls, is, st0) =>
            match headA h body st0 with
            | some (ps, es, head) =>
              if Nat.blt 0 (es ++ ls).length then
                .loop st.nv (es ++ ls) (es ++ ls).length (giveL h.lists is (st.nv + es.length) { head with nv := st.nv + (es ++ ls).length } fun hd => xc D n f body hd fun ex s => match ex with
                  | .nrm => joinA h ps is head st.nv s
                  | .exit i => if Nat.beq i id then k .nrm s else k (.exit i) s
                  | .ret => k .ret s)
              else .fail 93
            | none => .fail 94
          | none => .fail 96
        | b => xc D n f b st fun ex s => match ex with
          | .exit i => if Nat.beq i id then k .nrm s else k (.exit i) s
          | ex => k ex s
      | none => xc D n f b st fun ex s => match ex with
        | .exit i => if Nat.beq i id then k .nrm s else k (.exit i) s
        | ex => k ex s
    | .loop b => xc D n f b st fun ex s => match ex with
      | .nrm => xc D n f (.loop b) s k
      | ex => k ex s
    | .region _ ops draw => xregion D (callA D (xc D n)) (callA D (xc D n)) ops draw st fun s => k .nrm s
    | _ => .fail 95

def st0 (nv : Nat) : St := { tm := .nil, nt := 1, hp := [], nb := 1, nv := nv, pc := [] }

/-- A call from the outside. -/
def run (D : Ctx) (n : Nat) (g : FuncId) (args : List AV) (nv : Nat) {β : Type} (k : AV → St → Tr β) : Tr β :=
  callA D (xc D n) g args (st0 nv) k

/-- what a call gets: variables; lists lie where they came in -/
def shIn : List Sh → Nat → List AV
  | [], _ => []
  | .cell k :: ks, i => ckA k (.var i) :: shIn ks (i + 1)
  | .agg l :: ks, i => .agg (ckRes l i) :: shIn ks (i + l.length)
  | .lst l _ :: ks, i => .rsl i (.lit 0) (.lcnt (.var i) l.length) (.lit 0) :: shIn ks (i + 1)

/-- the kinds of the cells of the lists that came in -/
def roIn : List Sh → Nat → Nat → List CK
  | [], _, _ => []
  | .lst l _ :: ks, i, r => if Nat.beq i r then l else roIn ks (i + 1) r
  | s :: ks, i, r => roIn ks (i + s.count) r

/-- what came out, as numbers -/
def resEs (D : Ctx) (st : St) : List Sh → List AV → Option (List AE)
  | [], [] => some []
  | .cell k :: ks, v :: vs => match ckArgs [k] [v], resEs D st ks vs with
    | some a, some b => some (a ++ b)
    | _, _ => none
  | .agg l :: ks, .agg cs :: vs => match ckArgs l cs, resEs D st ks vs with
    | some a, some b => some (a ++ b)
    | _, _ => none
  | .lst l ty :: ks, .sl b off len cap :: vs => match resEs D st ks vs with
    | some r => if !(Nat.blt 0 l.length) then none else if nilA len cap then some (.num .lnil :: .num (.lit 0) :: r)
      else match hget st.hp b with
        | some o => match blockL l o with
          | some L => if Nat.beq off 0 && Nat.beq o.ty ty && wholeA l o len cap then some (.num L :: .num cap :: r) else none
          | none => none
        | none => none
    | none => none
  | _, _ => none

def resOf (D : Ctx) (st : St) (res : List Sh) (v : AV) : Option (List AE) :=
  match res with
  | [_] => resEs D st res [v]
  | _ => match v with
    | .tup l => resEs D st res l
    | _ => none

/-- A function, by its row: what comes out, as numbers. -/
def runRow (D : Ctx) (n : Nat) (g : FuncId) (row : Row) : Tr (List AE) :=
  run D n g (shIn row.args 0) (shCount row.args) fun v st => match resOf D st row.res v with
    | some es => if Nat.ble (lstsOf row.res 0).length 1 then .ret es else .fail 78
    | none => .fail 79

end Go.Proofs.Sx
