/- Products and quotients of words, bit by bit and by halves: their trees. -/
import Derived.Test.YtklfialdapljlaaTxC
import Derived.Test.YtklfialdapljlaaTxD
namespace Go.Proofs.Tx
open Go Go.Proofs.Sx
set_option maxRecDepth 100000
set_option linter.unusedSimpArgs false
set_option linter.unusedVariables false
def c222 : Con := ⟨222, ⟨[.cell (.int .u64), .cell (.int .i64)], [.cell (.int .u64)]⟩, fun | [n, k] => U64 n ∧ 0 ≤ k ∧ k ≤ 63 | _ => False, fun | [n, k], [r] => r = n / 2 ^ k.toNat % 2 | _, _ => False⟩
theorem pre222 (n k : Int) : c222.pre [n, k] = (U64 n ∧ 0 ≤ k ∧ k ≤ 63) := rfl
theorem post222 (n k r : Int) : c222.post [n, k] [r] = (r = n / 2 ^ k.toNat % 2) := rfl
def T222 : Tr (List AE) :=
 (.br (.lt (.var 1) (.lit 0))
  (.fail 5)
  (.ret [.num (.op .and .u64 (.op .shr .u64 (.var 0) (.var 1)) (.lit 1))]))
theorem run222 : runRow (ctx [] noHint (roIn c222.row.args 0)) 1000 222 c222.row = T222 := by kernel_rfl
def c194 : Con := ⟨194, ⟨[.cell (.int .u64), .cell (.int .u64)], [.cell (.int .u64), .cell (.int .u64)]⟩, fun | [a, b] => U64 a ∧ U64 b | _ => False, fun | [a, b], [p, q] => U64 p ∧ U64 q ∧ W p q = a * b | _, _ => False⟩
theorem pre194 (a b : Int) : c194.pre [a, b] = (U64 a ∧ U64 b) := rfl
theorem post194 (a b p q : Int) : c194.post [a, b] [p, q] = (U64 p ∧ U64 q ∧ W p q = a * b) := rfl
def T194 : Tr (List AE) :=
 (.ret [.num (.op .or .u64 (.op .shl .u64 (.op .add .u64 (.op .add .u64 (.lit 0) (.op .shr .u64 (.op .mul .u64 (.op .shr .u64 (.var 0) (.lit 32)) (.op .shr .u64 (.var 1) (.lit 32))) (.lit 32))) (.op .shr .u64 (.op .add .u64 (.op .add .u64 (.op .add .u64 (.op .add .u64 (.lit 0) (.op .shr .u64 (.op .mul .u64 (.op .and .u64 (.var 0) (.lit 4294967295)) (.op .shr .u64 (.var 1) (.lit 32))) (.lit 32))) (.op .shr .u64 (.op .mul .u64 (.op .shr .u64 (.var 0) (.lit 32)) (.op .and .u64 (.var 1) (.lit 4294967295))) (.lit 32))) (.op .and .u64 (.op .mul .u64 (.op .shr .u64 (.var 0) (.lit 32)) (.op .shr .u64 (.var 1) (.lit 32))) (.lit 4294967295))) (.op .shr .u64 (.op .add .u64 (.op .add .u64 (.op .add .u64 (.op .add .u64 (.lit 0) (.op .shr .u64 (.op .mul .u64 (.op .and .u64 (.var 0) (.lit 4294967295)) (.op .and .u64 (.var 1) (.lit 4294967295))) (.lit 32))) (.op .and .u64 (.op .mul .u64 (.op .and .u64 (.var 0) (.lit 4294967295)) (.op .shr .u64 (.var 1) (.lit 32))) (.lit 4294967295))) (.op .and .u64 (.op .mul .u64 (.op .shr .u64 (.var 0) (.lit 32)) (.op .and .u64 (.var 1) (.lit 4294967295))) (.lit 4294967295))) (.op .shr .u64 (.op .add .u64 (.lit 0) (.op .and .u64 (.op .mul .u64 (.op .and .u64 (.var 0) (.lit 4294967295)) (.op .and .u64 (.var 1) (.lit 4294967295))) (.lit 4294967295))) (.lit 32))) (.lit 32))) (.lit 32))) (.lit 32)) (.op .and .u64 (.op .add .u64 (.op .add .u64 (.op .add .u64 (.op .add .u64 (.lit 0) (.op .shr .u64 (.op .mul .u64 (.op .and .u64 (.var 0) (.lit 4294967295)) (.op .shr .u64 (.var 1) (.lit 32))) (.lit 32))) (.op .shr .u64 (.op .mul .u64 (.op .shr .u64 (.var 0) (.lit 32)) (.op .and .u64 (.var 1) (.lit 4294967295))) (.lit 32))) (.op .and .u64 (.op .mul .u64 (.op .shr .u64 (.var 0) (.lit 32)) (.op .shr .u64 (.var 1) (.lit 32))) (.lit 4294967295))) (.op .shr .u64 (.op .add .u64 (.op .add .u64 (.op .add .u64 (.op .add .u64 (.lit 0) (.op .shr .u64 (.op .mul .u64 (.op .and .u64 (.var 0) (.lit 4294967295)) (.op .and .u64 (.var 1) (.lit 4294967295))) (.lit 32))) (.op .and .u64 (.op .mul .u64 (.op .and .u64 (.var 0) (.lit 4294967295)) (.op .shr .u64 (.var 1) (.lit 32))) (.lit 4294967295))) (.op .and .u64 (.op .mul .u64 (.op .shr .u64 (.var 0) (.lit 32)) (.op .and .u64 (.var 1) (.lit 4294967295))) (.lit 4294967295))) (.op .shr .u64 (.op .add .u64 (.lit 0) (.op .and .u64 (.op .mul .u64 (.op .and .u64 (.var 0) (.lit 4294967295)) (.op .and .u64 (.var 1) (.lit 4294967295))) (.lit 4294967295))) (.lit 32))) (.lit 32))) (.lit 4294967295))), .num (.op .or .u64 (.op .shl .u64 (.op .and .u64 (.op .add .u64 (.op .add .u64 (.op .add .u64 (.op .add .u64 (.lit 0) (.op .shr .u64 (.op .mul .u64 (.op .and .u64 (.var 0) (.lit 4294967295)) (.op .and .u64 (.var 1) (.lit 4294967295))) (.lit 32))) (.op .and .u64 (.op .mul .u64 (.op .and .u64 (.var 0) (.lit 4294967295)) (.op .shr .u64 (.var 1) (.lit 32))) (.lit 4294967295))) (.op .and .u64 (.op .mul .u64 (.op .shr .u64 (.var 0) (.lit 32)) (.op .and .u64 (.var 1) (.lit 4294967295))) (.lit 4294967295))) (.op .shr .u64 (.op .add .u64 (.lit 0) (.op .and .u64 (.op .mul .u64 (.op .and .u64 (.var 0) (.lit 4294967295)) (.op .and .u64 (.var 1) (.lit 4294967295))) (.lit 4294967295))) (.lit 32))) (.lit 4294967295)) (.lit 32)) (.op .and .u64 (.op .add .u64 (.lit 0) (.op .and .u64 (.op .mul .u64 (.op .and .u64 (.var 0) (.lit 4294967295)) (.op .and .u64 (.var 1) (.lit 4294967295))) (.lit 4294967295))) (.lit 4294967295)))])
theorem run194 : runRow (ctx [] noHint (roIn c194.row.args 0)) 1000 194 c194.row = T194 := by kernel_rfl
def c199 : Con := ⟨199, ⟨[.cell (.int .u64), .cell (.int .u64)], [.cell (.int .u64), .cell (.int .u64)]⟩, fun | [a, b] => U64 a ∧ U64 b | _ => False, fun | [a, b], [p, q] => U64 p ∧ U64 q ∧ W p q = a * b | _, _ => False⟩
theorem pre199 (a b : Int) : c199.pre [a, b] = (U64 a ∧ U64 b) := rfl
theorem post199 (a b p q : Int) : c199.post [a, b] [p, q] = (U64 p ∧ U64 q ∧ W p q = a * b) := rfl
def T199 : Tr (List AE) :=
 (.loop 2 [.num (.lit 0), .num (.lit 0), .num (.lit 63)] 3
  (.br (.le (.lit 0) (.var 4))
   (.call 221 [.num (.var 2), .num (.var 3), .num (.var 2), .num (.var 3)] 3
   (.call 222 [.num (.var 1), .num (.var 4)] 1
   (.br (.eq (.var 8) (.lit 1))
    (.call 221 [.num (.var 5), .num (.var 6), .num (.lit 0), .num (.var 0)] 3
    (.again 2 [.num (.var 9), .num (.var 10), .num (.op .sub .i64 (.var 4) (.lit 1))]))
    (.again 2 [.num (.var 5), .num (.var 6), .num (.op .sub .i64 (.var 4) (.lit 1))]))))
   (.ret [.num (.var 2), .num (.var 3)])))
def hint199 : FuncId → Nat → Option Hint := fun f b => if Nat.beq f 199 && Nat.beq b 0 then some { slots := [6, 7, 8], cells := [], lists := [], join := false } else none
theorem run199 : runRow (ctx [c221, c222] hint199 (roIn c199.row.args 0)) 1000 199 c199.row = T199 := by kernel_rfl
theorem sp199_221 (xs : List Int) : (specOf [c221, c222]).pre 221 xs = c221.pre xs := rfl
theorem sq199_221 (xs ys : List Int) : (specOf [c221, c222]).post 221 xs ys = c221.post xs ys := rfl
theorem sp199_222 (xs : List Int) : (specOf [c221, c222]).pre 222 xs = c222.pre xs := rfl
theorem sq199_222 (xs ys : List Int) : (specOf [c221, c222]).post 222 xs ys = c222.post xs ys := rfl
def c206 : Con := ⟨206, ⟨[.cell (.int .u64)], [.cell (.int .i64)]⟩, fun | [n] => U64 n | _ => False, fun | [n], [r] => -1 ≤ r ∧ r ≤ 63 ∧ (n = 0 → r = -1) ∧ (0 < n → 0 ≤ r ∧ 2 ^ r.toNat ≤ n ∧ n < 2 ^ (r.toNat + 1)) | _, _ => False⟩
theorem pre206 (n : Int) : c206.pre [n] = (U64 n) := rfl
theorem post206 (n r : Int) : c206.post [n] [r] = (-1 ≤ r ∧ r ≤ 63 ∧ (n = 0 → r = -1) ∧ (0 < n → 0 ≤ r ∧ 2 ^ r.toNat ≤ n ∧ n < 2 ^ (r.toNat + 1))) := rfl
def T206 : Tr (List AE) :=
 (.loop 1 [.num (.lit (-1)), .num (.lit 0)] 2
  (.br (.lt (.var 2) (.lit 64))
   (.br (.lt (.var 2) (.lit 0))
    (.fail 5)
    (.br (.eq (.op .shr .u64 (.var 0) (.var 2)) (.lit 0))
     (.ret [.num (.var 1)])
     (.again 1 [.num (.var 2), .num (.op .add .i64 (.var 2) (.lit 1))])))
   (.ret [.num (.var 1)])))
def hint206 : FuncId → Nat → Option Hint := fun f b => if Nat.beq f 206 && Nat.beq b 0 then some { slots := [3, 5], cells := [], lists := [], join := false } else none
theorem run206 : runRow (ctx [] hint206 (roIn c206.row.args 0)) 1000 206 c206.row = T206 := by kernel_rfl
def c196 : Con := ⟨196, ⟨[.cell (.int .u64), .cell (.int .u64), .cell (.int .u64)], [.cell (.int .u64), .cell (.int .u64), .cell .bool]⟩, fun | [hi, lo, d] => U64 hi ∧ U64 lo ∧ U64 d | _ => False, fun | [hi, lo, d], [q, r, s] => (d ≤ hi → q = 0 ∧ r = 0 ∧ s = 0) ∧ (hi < d → s = 1 ∧ U64 q ∧ U64 r ∧ r < d ∧ W hi lo = q * d + r) | _, _ => False⟩
theorem pre196 (hi lo d : Int) : c196.pre [hi, lo, d] = (U64 hi ∧ U64 lo ∧ U64 d) := rfl
theorem post196 (hi lo d q r s : Int) : c196.post [hi, lo, d] [q, r, s] = ((d ≤ hi → q = 0 ∧ r = 0 ∧ s = 0) ∧ (hi < d → s = 1 ∧ U64 q ∧ U64 r ∧ r < d ∧ W hi lo = q * d + r)) := rfl
def T196 : Tr (List AE) :=
 (.br (.le (.var 2) (.var 0))
  (.ret [.num (.lit 0), .num (.lit 0), .tru (.lit false)])
  (.call 206 [.num (.var 2)] 1
  (.br (.lt (.op .sub .i64 (.lit 63) (.var 3)) (.lit 0))
   (.fail 5)
   (.br (.lt (.lit 0) (.op .sub .i64 (.lit 63) (.var 3)))
    (.br (.lt (.op .sub .i64 (.lit 64) (.op .sub .i64 (.lit 63) (.var 3))) (.lit 0))
     (.fail 5)
     (.join 4 3
      (.br (.eq (.op .shr .u64 (.op .shl .u64 (.var 2) (.op .sub .i64 (.lit 63) (.var 3))) (.lit 32)) (.lit 0))
       (.fail 3)
       (.loop 5 [.num (.op .quo .u64 (.op .or .u64 (.op .shl .u64 (.var 0) (.op .sub .i64 (.lit 63) (.var 3))) (.op .shr .u64 (.var 1) (.op .sub .i64 (.lit 64) (.op .sub .i64 (.lit 63) (.var 3))))) (.op .shr .u64 (.op .shl .u64 (.var 2) (.op .sub .i64 (.lit 63) (.var 3))) (.lit 32))), .num (.op .sub .u64 (.op .or .u64 (.op .shl .u64 (.var 0) (.op .sub .i64 (.lit 63) (.var 3))) (.op .shr .u64 (.var 1) (.op .sub .i64 (.lit 64) (.op .sub .i64 (.lit 63) (.var 3))))) (.op .mul .u64 (.op .quo .u64 (.op .or .u64 (.op .shl .u64 (.var 0) (.op .sub .i64 (.lit 63) (.var 3))) (.op .shr .u64 (.var 1) (.op .sub .i64 (.lit 64) (.op .sub .i64 (.lit 63) (.var 3))))) (.op .shr .u64 (.op .shl .u64 (.var 2) (.op .sub .i64 (.lit 63) (.var 3))) (.lit 32))) (.op .shr .u64 (.op .shl .u64 (.var 2) (.op .sub .i64 (.lit 63) (.var 3))) (.lit 32))))] 2
        (.br (.not (.lt (.lit 4294967295) (.var 5)))
         (.br (.lt (.op .or .u64 (.op .shl .u64 (.var 6) (.lit 32)) (.op .shr .u64 (.op .shl .u64 (.var 1) (.op .sub .i64 (.lit 63) (.var 3))) (.lit 32))) (.op .mul .u64 (.var 5) (.op .and .u64 (.op .shl .u64 (.var 2) (.op .sub .i64 (.lit 63) (.var 3))) (.lit 4294967295))))
          (.br (.lt (.lit 4294967295) (.op .add .u64 (.var 6) (.op .shr .u64 (.op .shl .u64 (.var 2) (.op .sub .i64 (.lit 63) (.var 3))) (.lit 32))))
           (.again 4 [.num (.op .sub .u64 (.var 5) (.lit 1)), .num (.lit 0), .num (.op .sub .u64 (.op .add .u64 (.op .shl .u64 (.op .or .u64 (.op .shl .u64 (.var 0) (.op .sub .i64 (.lit 63) (.var 3))) (.op .shr .u64 (.var 1) (.op .sub .i64 (.lit 64) (.op .sub .i64 (.lit 63) (.var 3))))) (.lit 32)) (.op .shr .u64 (.op .shl .u64 (.var 1) (.op .sub .i64 (.lit 63) (.var 3))) (.lit 32))) (.op .mul .u64 (.op .sub .u64 (.var 5) (.lit 1)) (.op .shl .u64 (.var 2) (.op .sub .i64 (.lit 63) (.var 3)))))])
           (.again 5 [.num (.op .sub .u64 (.var 5) (.lit 1)), .num (.op .add .u64 (.var 6) (.op .shr .u64 (.op .shl .u64 (.var 2) (.op .sub .i64 (.lit 63) (.var 3))) (.lit 32)))]))
          (.again 4 [.num (.var 5), .num (.lit 0), .num (.op .sub .u64 (.op .add .u64 (.op .shl .u64 (.op .or .u64 (.op .shl .u64 (.var 0) (.op .sub .i64 (.lit 63) (.var 3))) (.op .shr .u64 (.var 1) (.op .sub .i64 (.lit 64) (.op .sub .i64 (.lit 63) (.var 3))))) (.lit 32)) (.op .shr .u64 (.op .shl .u64 (.var 1) (.op .sub .i64 (.lit 63) (.var 3))) (.lit 32))) (.op .mul .u64 (.var 5) (.op .shl .u64 (.var 2) (.op .sub .i64 (.lit 63) (.var 3)))))]))
         (.br (.lt (.lit 4294967295) (.op .add .u64 (.var 6) (.op .shr .u64 (.op .shl .u64 (.var 2) (.op .sub .i64 (.lit 63) (.var 3))) (.lit 32))))
          (.again 4 [.num (.op .sub .u64 (.var 5) (.lit 1)), .num (.lit 0), .num (.op .sub .u64 (.op .add .u64 (.op .shl .u64 (.op .or .u64 (.op .shl .u64 (.var 0) (.op .sub .i64 (.lit 63) (.var 3))) (.op .shr .u64 (.var 1) (.op .sub .i64 (.lit 64) (.op .sub .i64 (.lit 63) (.var 3))))) (.lit 32)) (.op .shr .u64 (.op .shl .u64 (.var 1) (.op .sub .i64 (.lit 63) (.var 3))) (.lit 32))) (.op .mul .u64 (.op .sub .u64 (.var 5) (.lit 1)) (.op .shl .u64 (.var 2) (.op .sub .i64 (.lit 63) (.var 3)))))])
          (.again 5 [.num (.op .sub .u64 (.var 5) (.lit 1)), .num (.op .add .u64 (.var 6) (.op .shr .u64 (.op .shl .u64 (.var 2) (.op .sub .i64 (.lit 63) (.var 3))) (.lit 32)))])))))
     (.join 7 3
      (.br (.eq (.op .shr .u64 (.op .shl .u64 (.var 2) (.op .sub .i64 (.lit 63) (.var 3))) (.lit 32)) (.lit 0))
       (.fail 3)
       (.loop 8 [.num (.op .quo .u64 (.var 6) (.op .shr .u64 (.op .shl .u64 (.var 2) (.op .sub .i64 (.lit 63) (.var 3))) (.lit 32))), .num (.op .sub .u64 (.var 6) (.op .mul .u64 (.op .quo .u64 (.var 6) (.op .shr .u64 (.op .shl .u64 (.var 2) (.op .sub .i64 (.lit 63) (.var 3))) (.lit 32))) (.op .shr .u64 (.op .shl .u64 (.var 2) (.op .sub .i64 (.lit 63) (.var 3))) (.lit 32))))] 2
        (.br (.not (.lt (.lit 4294967295) (.var 8)))
         (.br (.lt (.op .or .u64 (.op .shl .u64 (.var 9) (.lit 32)) (.op .and .u64 (.op .shl .u64 (.var 1) (.op .sub .i64 (.lit 63) (.var 3))) (.lit 4294967295))) (.op .mul .u64 (.var 8) (.op .and .u64 (.op .shl .u64 (.var 2) (.op .sub .i64 (.lit 63) (.var 3))) (.lit 4294967295))))
          (.br (.lt (.lit 4294967295) (.op .add .u64 (.var 9) (.op .shr .u64 (.op .shl .u64 (.var 2) (.op .sub .i64 (.lit 63) (.var 3))) (.lit 32))))
           (.again 7 [.num (.var 4), .num (.op .sub .u64 (.var 8) (.lit 1)), .num (.op .sub .u64 (.op .add .u64 (.op .shl .u64 (.var 6) (.lit 32)) (.op .and .u64 (.op .shl .u64 (.var 1) (.op .sub .i64 (.lit 63) (.var 3))) (.lit 4294967295))) (.op .mul .u64 (.op .sub .u64 (.var 8) (.lit 1)) (.op .shl .u64 (.var 2) (.op .sub .i64 (.lit 63) (.var 3)))))])
           (.again 8 [.num (.op .sub .u64 (.var 8) (.lit 1)), .num (.op .add .u64 (.var 9) (.op .shr .u64 (.op .shl .u64 (.var 2) (.op .sub .i64 (.lit 63) (.var 3))) (.lit 32)))]))
          (.again 7 [.num (.var 4), .num (.var 8), .num (.op .sub .u64 (.op .add .u64 (.op .shl .u64 (.var 6) (.lit 32)) (.op .and .u64 (.op .shl .u64 (.var 1) (.op .sub .i64 (.lit 63) (.var 3))) (.lit 4294967295))) (.op .mul .u64 (.var 8) (.op .shl .u64 (.var 2) (.op .sub .i64 (.lit 63) (.var 3)))))]))
         (.br (.lt (.lit 4294967295) (.op .add .u64 (.var 9) (.op .shr .u64 (.op .shl .u64 (.var 2) (.op .sub .i64 (.lit 63) (.var 3))) (.lit 32))))
          (.again 7 [.num (.var 4), .num (.op .sub .u64 (.var 8) (.lit 1)), .num (.op .sub .u64 (.op .add .u64 (.op .shl .u64 (.var 6) (.lit 32)) (.op .and .u64 (.op .shl .u64 (.var 1) (.op .sub .i64 (.lit 63) (.var 3))) (.lit 4294967295))) (.op .mul .u64 (.op .sub .u64 (.var 8) (.lit 1)) (.op .shl .u64 (.var 2) (.op .sub .i64 (.lit 63) (.var 3)))))])
          (.again 8 [.num (.op .sub .u64 (.var 8) (.lit 1)), .num (.op .add .u64 (.var 9) (.op .shr .u64 (.op .shl .u64 (.var 2) (.op .sub .i64 (.lit 63) (.var 3))) (.lit 32)))])))))
     (.ret [.num (.op .or .u64 (.op .shl .u64 (.var 7) (.lit 32)) (.var 8)), .num (.op .shr .u64 (.var 9) (.op .sub .i64 (.lit 63) (.var 3))), .tru (.lit true)]))))
    (.join 4 3
     (.br (.eq (.op .shr .u64 (.op .shl .u64 (.var 2) (.op .sub .i64 (.lit 63) (.var 3))) (.lit 32)) (.lit 0))
      (.fail 3)
      (.loop 5 [.num (.op .quo .u64 (.var 0) (.op .shr .u64 (.op .shl .u64 (.var 2) (.op .sub .i64 (.lit 63) (.var 3))) (.lit 32))), .num (.op .sub .u64 (.var 0) (.op .mul .u64 (.op .quo .u64 (.var 0) (.op .shr .u64 (.op .shl .u64 (.var 2) (.op .sub .i64 (.lit 63) (.var 3))) (.lit 32))) (.op .shr .u64 (.op .shl .u64 (.var 2) (.op .sub .i64 (.lit 63) (.var 3))) (.lit 32))))] 2
       (.br (.not (.lt (.lit 4294967295) (.var 5)))
        (.br (.lt (.op .or .u64 (.op .shl .u64 (.var 6) (.lit 32)) (.op .shr .u64 (.var 1) (.lit 32))) (.op .mul .u64 (.var 5) (.op .and .u64 (.op .shl .u64 (.var 2) (.op .sub .i64 (.lit 63) (.var 3))) (.lit 4294967295))))
         (.br (.lt (.lit 4294967295) (.op .add .u64 (.var 6) (.op .shr .u64 (.op .shl .u64 (.var 2) (.op .sub .i64 (.lit 63) (.var 3))) (.lit 32))))
          (.again 4 [.num (.op .sub .u64 (.var 5) (.lit 1)), .num (.lit 0), .num (.op .sub .u64 (.op .add .u64 (.op .shl .u64 (.var 0) (.lit 32)) (.op .shr .u64 (.var 1) (.lit 32))) (.op .mul .u64 (.op .sub .u64 (.var 5) (.lit 1)) (.op .shl .u64 (.var 2) (.op .sub .i64 (.lit 63) (.var 3)))))])
          (.again 5 [.num (.op .sub .u64 (.var 5) (.lit 1)), .num (.op .add .u64 (.var 6) (.op .shr .u64 (.op .shl .u64 (.var 2) (.op .sub .i64 (.lit 63) (.var 3))) (.lit 32)))]))
         (.again 4 [.num (.var 5), .num (.lit 0), .num (.op .sub .u64 (.op .add .u64 (.op .shl .u64 (.var 0) (.lit 32)) (.op .shr .u64 (.var 1) (.lit 32))) (.op .mul .u64 (.var 5) (.op .shl .u64 (.var 2) (.op .sub .i64 (.lit 63) (.var 3)))))]))
        (.br (.lt (.lit 4294967295) (.op .add .u64 (.var 6) (.op .shr .u64 (.op .shl .u64 (.var 2) (.op .sub .i64 (.lit 63) (.var 3))) (.lit 32))))
         (.again 4 [.num (.op .sub .u64 (.var 5) (.lit 1)), .num (.lit 0), .num (.op .sub .u64 (.op .add .u64 (.op .shl .u64 (.var 0) (.lit 32)) (.op .shr .u64 (.var 1) (.lit 32))) (.op .mul .u64 (.op .sub .u64 (.var 5) (.lit 1)) (.op .shl .u64 (.var 2) (.op .sub .i64 (.lit 63) (.var 3)))))])
         (.again 5 [.num (.op .sub .u64 (.var 5) (.lit 1)), .num (.op .add .u64 (.var 6) (.op .shr .u64 (.op .shl .u64 (.var 2) (.op .sub .i64 (.lit 63) (.var 3))) (.lit 32)))])))))
    (.join 7 3
     (.br (.eq (.op .shr .u64 (.op .shl .u64 (.var 2) (.op .sub .i64 (.lit 63) (.var 3))) (.lit 32)) (.lit 0))
      (.fail 3)
      (.loop 8 [.num (.op .quo .u64 (.var 6) (.op .shr .u64 (.op .shl .u64 (.var 2) (.op .sub .i64 (.lit 63) (.var 3))) (.lit 32))), .num (.op .sub .u64 (.var 6) (.op .mul .u64 (.op .quo .u64 (.var 6) (.op .shr .u64 (.op .shl .u64 (.var 2) (.op .sub .i64 (.lit 63) (.var 3))) (.lit 32))) (.op .shr .u64 (.op .shl .u64 (.var 2) (.op .sub .i64 (.lit 63) (.var 3))) (.lit 32))))] 2
       (.br (.not (.lt (.lit 4294967295) (.var 8)))
        (.br (.lt (.op .or .u64 (.op .shl .u64 (.var 9) (.lit 32)) (.op .and .u64 (.var 1) (.lit 4294967295))) (.op .mul .u64 (.var 8) (.op .and .u64 (.op .shl .u64 (.var 2) (.op .sub .i64 (.lit 63) (.var 3))) (.lit 4294967295))))
         (.br (.lt (.lit 4294967295) (.op .add .u64 (.var 9) (.op .shr .u64 (.op .shl .u64 (.var 2) (.op .sub .i64 (.lit 63) (.var 3))) (.lit 32))))
          (.again 7 [.num (.var 4), .num (.op .sub .u64 (.var 8) (.lit 1)), .num (.op .sub .u64 (.op .add .u64 (.op .shl .u64 (.var 6) (.lit 32)) (.op .and .u64 (.var 1) (.lit 4294967295))) (.op .mul .u64 (.op .sub .u64 (.var 8) (.lit 1)) (.op .shl .u64 (.var 2) (.op .sub .i64 (.lit 63) (.var 3)))))])
          (.again 8 [.num (.op .sub .u64 (.var 8) (.lit 1)), .num (.op .add .u64 (.var 9) (.op .shr .u64 (.op .shl .u64 (.var 2) (.op .sub .i64 (.lit 63) (.var 3))) (.lit 32)))]))
         (.again 7 [.num (.var 4), .num (.var 8), .num (.op .sub .u64 (.op .add .u64 (.op .shl .u64 (.var 6) (.lit 32)) (.op .and .u64 (.var 1) (.lit 4294967295))) (.op .mul .u64 (.var 8) (.op .shl .u64 (.var 2) (.op .sub .i64 (.lit 63) (.var 3)))))]))
        (.br (.lt (.lit 4294967295) (.op .add .u64 (.var 9) (.op .shr .u64 (.op .shl .u64 (.var 2) (.op .sub .i64 (.lit 63) (.var 3))) (.lit 32))))
         (.again 7 [.num (.var 4), .num (.op .sub .u64 (.var 8) (.lit 1)), .num (.op .sub .u64 (.op .add .u64 (.op .shl .u64 (.var 6) (.lit 32)) (.op .and .u64 (.var 1) (.lit 4294967295))) (.op .mul .u64 (.op .sub .u64 (.var 8) (.lit 1)) (.op .shl .u64 (.var 2) (.op .sub .i64 (.lit 63) (.var 3)))))])
         (.again 8 [.num (.op .sub .u64 (.var 8) (.lit 1)), .num (.op .add .u64 (.var 9) (.op .shr .u64 (.op .shl .u64 (.var 2) (.op .sub .i64 (.lit 63) (.var 3))) (.lit 32)))])))))
    (.ret [.num (.op .or .u64 (.op .shl .u64 (.var 7) (.lit 32)) (.var 8)), .num (.op .shr .u64 (.var 9) (.op .sub .i64 (.lit 63) (.var 3))), .tru (.lit true)])))))))
def hint196 : FuncId → Nat → Option Hint := fun f b => if Nat.beq f 196 && Nat.beq b 1 then some { slots := [0], cells := [(11, 0), (11, 1)], lists := [], join := true } else if Nat.beq f 196 && Nat.beq b 2 then some { slots := [14, 15], cells := [], lists := [], join := false } else none
theorem run196 : runRow (ctx [c206] hint196 (roIn c196.row.args 0)) 1000 196 c196.row = T196 := by kernel_rfl
theorem sp196_206 (xs : List Int) : (specOf [c206]).pre 206 xs = c206.pre xs := rfl
theorem sq196_206 (xs ys : List Int) : (specOf [c206]).post 206 xs ys = c206.post xs ys := rfl
def c200 : Con := ⟨200, ⟨[.cell (.int .u64), .cell (.int .u64), .cell (.int .u64)], [.cell (.int .u64), .cell (.int .u64), .cell .bool]⟩, fun | [hi, lo, d] => U64 hi ∧ U64 lo ∧ U64 d | _ => False, fun | [hi, lo, d], [q, r, s] => (d ≤ hi → q = 0 ∧ r = 0 ∧ s = 0) ∧ (hi < d → s = 1 ∧ U64 q ∧ U64 r ∧ r < d ∧ W hi lo = q * d + r) | _, _ => False⟩
theorem pre200 (hi lo d : Int) : c200.pre [hi, lo, d] = (U64 hi ∧ U64 lo ∧ U64 d) := rfl
theorem post200 (hi lo d q r s : Int) : c200.post [hi, lo, d] [q, r, s] = ((d ≤ hi → q = 0 ∧ r = 0 ∧ s = 0) ∧ (hi < d → s = 1 ∧ U64 q ∧ U64 r ∧ r < d ∧ W hi lo = q * d + r)) := rfl
def T200 : Tr (List AE) :=
 (.br (.le (.var 2) (.var 0))
  (.ret [.num (.lit 0), .num (.lit 0), .tru (.lit false)])
  (.loop 3 [.num (.lit 0), .num (.var 0), .num (.lit 63)] 3
   (.br (.le (.lit 0) (.var 5))
    (.call 222 [.num (.var 4), .num (.lit 63)] 1
    (.call 222 [.num (.var 1), .num (.var 5)] 1
    (.br (.not (.eq (.var 6) (.lit 1)))
     (.br (.le (.var 2) (.op .or .u64 (.op .shl .u64 (.var 4) (.lit 1)) (.var 7)))
      (.again 3 [.num (.op .or .u64 (.op .shl .u64 (.var 3) (.lit 1)) (.lit 1)), .num (.op .sub .u64 (.op .or .u64 (.op .shl .u64 (.var 4) (.lit 1)) (.var 7)) (.var 2)), .num (.op .sub .i64 (.var 5) (.lit 1))])
      (.again 3 [.num (.op .shl .u64 (.var 3) (.lit 1)), .num (.op .or .u64 (.op .shl .u64 (.var 4) (.lit 1)) (.var 7)), .num (.op .sub .i64 (.var 5) (.lit 1))]))
     (.again 3 [.num (.op .or .u64 (.op .shl .u64 (.var 3) (.lit 1)) (.lit 1)), .num (.op .sub .u64 (.op .or .u64 (.op .shl .u64 (.var 4) (.lit 1)) (.var 7)) (.var 2)), .num (.op .sub .i64 (.var 5) (.lit 1))]))))
    (.ret [.num (.var 3), .num (.var 4), .tru (.lit true)]))))
def hint200 : FuncId → Nat → Option Hint := fun f b => if Nat.beq f 200 && Nat.beq b 0 then some { slots := [9, 10, 11], cells := [], lists := [], join := false } else none
theorem run200 : runRow (ctx [c222] hint200 (roIn c200.row.args 0)) 1000 200 c200.row = T200 := by kernel_rfl
theorem sp200_222 (xs : List Int) : (specOf [c222]).pre 222 xs = c222.pre xs := rfl
theorem sq200_222 (xs ys : List Int) : (specOf [c222]).post 222 xs ys = c222.post xs ys := rfl
/-- a number by a power of two, cut towards below, held -/
def shiftF (a n : Int) : Int := if n ≤ 0 then (if a / 2 ^ (min 63 (-n)).toNat < -M then -M else a / 2 ^ (min 63 (-n)).toNat) else clampM (a * 2 ^ (min n 64).toNat)
def c133 : Con := ⟨133, ⟨[.cell (.int .i64), .cell (.int .i64)], [.cell (.int .i64)]⟩, fun | [a, n] => I64 a ∧ I64 n | _ => False, fun | [a, n], [r] => r = shiftF a n | _, _ => False⟩
theorem pre133 (a n : Int) : c133.pre [a, n] = (I64 a ∧ I64 n) := rfl
theorem post133 (a n r : Int) : c133.post [a, n] [r] = (r = shiftF a n) := rfl
def T133 : Tr (List AE) :=
 (.br (.le (.var 1) (.lit 0))
  (.br (.lt (.op .min .i64 (.lit 63) (.op .sub .i64 (.lit 0) (.op .max .i64 (.var 1) (.lit (-63))))) (.lit 0))
   (.fail 5)
   (.ret [.num (.op .max .i64 (.op .shr .i64 (.var 0) (.op .min .i64 (.lit 63) (.op .sub .i64 (.lit 0) (.op .max .i64 (.var 1) (.lit (-63)))))) (.lit (-9223372036854775807)))]))
  (.call 193 [.num (.var 0)] 2
  (.br (.lt (.lit 0) (.var 2))
   (.call 206 [.num (.var 2)] 1
   (.br (.le (.lit 63) (.op .add .i64 (.var 4) (.op .min .i64 (.var 1) (.lit 64))))
    (.call 195 [.num (.lit 9223372036854775807), .num (.lit 0), .tru (.nz (.var 3))] 1
    (.ret [.num (.var 5)]))
    (.br (.lt (.op .min .i64 (.var 1) (.lit 63)) (.lit 0))
     (.fail 5)
     (.call 195 [.num (.op .shl .u64 (.var 2) (.op .min .i64 (.var 1) (.lit 63))), .num (.lit 0), .tru (.nz (.var 3))] 1
     (.ret [.num (.var 5)])))))
   (.br (.lt (.op .min .i64 (.var 1) (.lit 63)) (.lit 0))
    (.fail 5)
    (.call 195 [.num (.op .shl .u64 (.var 2) (.op .min .i64 (.var 1) (.lit 63))), .num (.lit 0), .tru (.nz (.var 3))] 1
    (.ret [.num (.var 4)]))))))
theorem run133 : runRow (ctx [c193, c195, c206] noHint (roIn c133.row.args 0)) 1000 133 c133.row = T133 := by kernel_rfl
theorem sp133_193 (xs : List Int) : (specOf [c193, c195, c206]).pre 193 xs = c193.pre xs := rfl
theorem sq133_193 (xs ys : List Int) : (specOf [c193, c195, c206]).post 193 xs ys = c193.post xs ys := rfl
theorem sp133_195 (xs : List Int) : (specOf [c193, c195, c206]).pre 195 xs = c195.pre xs := rfl
theorem sq133_195 (xs ys : List Int) : (specOf [c193, c195, c206]).post 195 xs ys = c195.post xs ys := rfl
theorem sp133_206 (xs : List Int) : (specOf [c193, c195, c206]).pre 206 xs = c206.pre xs := rfl
theorem sq133_206 (xs ys : List Int) : (specOf [c193, c195, c206]).post 206 xs ys = c206.post xs ys := rfl
def c143 : Con := ⟨143, ⟨[.cell (.int .i64), .cell (.int .i64)], [.cell (.int .i64)]⟩, fun | [a, n] => I64 a ∧ I64 n | _ => False, fun | [a, n], [r] => r = shiftF a n | _, _ => False⟩
theorem pre143 (a n : Int) : c143.pre [a, n] = (I64 a ∧ I64 n) := rfl
theorem post143 (a n r : Int) : c143.post [a, n] [r] = (r = shiftF a n) := rfl
def T143 : Tr (List AE) :=
 (.loop 2 [.num (.var 0), .num (.op .max .i64 (.lit (-1000)) (.op .min .i64 (.var 1) (.lit 1000)))] 2
  (.br (.lt (.var 3) (.lit 0))
   (.br (.not (.eq (.var 2) (.lit 0)))
    (.br (.not (.eq (.var 2) (.lit (-1))))
     (.again 2 [.num (.op .shr .i64 (.var 2) (.lit 1)), .num (.op .add .i64 (.var 3) (.lit 1))])
     (.ret [.num (.var 2)]))
    (.ret [.num (.var 2)]))
   (.loop 4 [.num (.var 2), .num (.var 3)] 2
    (.br (.lt (.lit 0) (.var 5))
     (.br (.not (.eq (.var 4) (.lit 0)))
      (.call 106 [.num (.var 4), .num (.var 4)] 1
      (.again 4 [.num (.var 6), .num (.op .sub .i64 (.var 5) (.lit 1))]))
      (.ret [.num (.op .max .i64 (.var 4) (.lit (-9223372036854775807)))]))
     (.ret [.num (.op .max .i64 (.var 4) (.lit (-9223372036854775807)))])))))
def hint143 : FuncId → Nat → Option Hint := fun f b => if Nat.beq f 143 && Nat.beq b 2 then some { slots := [0, 1], cells := [], lists := [], join := false } else if Nat.beq f 143 && Nat.beq b 0 then some { slots := [0, 1], cells := [], lists := [], join := false } else none
theorem run143 : runRow (ctx [c106] hint143 (roIn c143.row.args 0)) 1000 143 c143.row = T143 := by kernel_rfl
theorem sp143_106 (xs : List Int) : (specOf [c106]).pre 106 xs = c106.pre xs := rfl
theorem sq143_106 (xs ys : List Int) : (specOf [c106]).post 106 xs ys = c106.post xs ys := rfl
end Go.Proofs.Tx
