/- Means of numbers: their trees. -/
import Derived.Test.YtklfialdapljlaaTxJ
namespace Go.Proofs.Tx
open Go Go.Proofs.Sx
set_option maxRecDepth 100000
set_option linter.unusedSimpArgs false
set_option linter.unusedVariables false
/-- the sum of the first numbers of a list -/
def total (l : List Int) : Nat → Int
  | 0 => 0
  | k + 1 => total l k + l.getD k 0
/-- the mean of numbers, cut towards below, held -/
def meanF (l : List Int) : Int := if l.length = 0 then 0 else max (total l l.length / l.length) (-M)
def c210 : Con := ⟨210, ⟨[.lst [.int .i64] 37], [.cell (.int .i64)]⟩, fun | [x] => (∀ y ∈ dec x, I64 y) ∧ (dec x).length ≤ 2147483648 | _ => False, fun | [x], [r] => r = meanF (dec x) | _, _ => False⟩
theorem pre210 (x : Int) : c210.pre [x] = ((∀ y ∈ dec x, I64 y) ∧ (dec x).length ≤ 2147483648) := rfl
theorem post210 (x r : Int) : c210.post [x] [r] = (r = meanF (dec x)) := rfl
def T210 : Tr (List AE) :=
 (.br (.eq (.lcnt (.var 0) 1) (.lit 0))
  (.ret [.num (.lit 0)])
  (.loop 1 [.num (.lit 0), .num (.lit 0), .num (.lit 0), .num (.lit 0), .num (.lit 0)] 5
   (.br (.lt (.var 5) (.lcnt (.var 0) 1))
    (.br (.and (.le (.lit 0) (.var 5)) (.lt (.var 5) (.lcnt (.var 0) 1)))
     (.call 193 [.num (.sel 0 1 (.var 5) 0)] 2
     (.br (.nz (.var 7))
      (.call 235 [.num (.var 3), .num (.var 4), .num (.lit 0), .num (.var 6)] 3
      (.again 1 [.num (.var 1), .num (.var 2), .num (.var 8), .num (.var 9), .num (.op .add .i64 (.var 5) (.lit 1))]))
      (.call 235 [.num (.var 1), .num (.var 2), .num (.lit 0), .num (.var 6)] 3
      (.again 1 [.num (.var 8), .num (.var 9), .num (.var 3), .num (.var 4), .num (.op .add .i64 (.var 5) (.lit 1))]))))
     (.fail 15))
    (.call 223 [.num (.var 1), .num (.var 2), .num (.var 3), .num (.var 4)] 1
    (.br (.nz (.var 6))
     (.br (.lt (.var 4) (.var 2))
      (.call 196 [.num (.op .sub .u64 (.op .sub .u64 (.var 3) (.var 1)) (.lit 1)), .num (.op .sub .u64 (.var 4) (.var 2)), .num (.wrap .u64 (.lcnt (.var 0) 1))] 3
      (.call 195 [.num (.var 7), .num (.var 8), .tru (.nz (.var 6))] 1
      (.ret [.num (.var 10)])))
      (.call 196 [.num (.op .sub .u64 (.var 3) (.var 1)), .num (.op .sub .u64 (.var 4) (.var 2)), .num (.wrap .u64 (.lcnt (.var 0) 1))] 3
      (.call 195 [.num (.var 7), .num (.var 8), .tru (.nz (.var 6))] 1
      (.ret [.num (.var 10)]))))
     (.br (.lt (.var 2) (.var 4))
      (.call 196 [.num (.op .sub .u64 (.op .sub .u64 (.var 1) (.var 3)) (.lit 1)), .num (.op .sub .u64 (.var 2) (.var 4)), .num (.wrap .u64 (.lcnt (.var 0) 1))] 3
      (.call 195 [.num (.var 7), .num (.var 8), .tru (.nz (.var 6))] 1
      (.ret [.num (.var 10)])))
      (.call 196 [.num (.op .sub .u64 (.var 1) (.var 3)), .num (.op .sub .u64 (.var 2) (.var 4)), .num (.wrap .u64 (.lcnt (.var 0) 1))] 3
      (.call 195 [.num (.var 7), .num (.var 8), .tru (.nz (.var 6))] 1
      (.ret [.num (.var 10)])))))))))
def hint210 : FuncId → Nat → Option Hint := fun f b => if Nat.beq f 210 && Nat.beq b 0 then some { slots := [22], cells := [(3, 0), (3, 1), (3, 2), (3, 3)], lists := [], join := false } else none
theorem run210 : runRow (ctx [c193, c235, c223, c196, c195] hint210 (roIn c210.row.args 0)) 1000 210 c210.row = T210 := by kernel_rfl
theorem sp210_193 (xs : List Int) : (specOf [c193, c235, c223, c196, c195]).pre 193 xs = c193.pre xs := rfl
theorem sq210_193 (xs ys : List Int) : (specOf [c193, c235, c223, c196, c195]).post 193 xs ys = c193.post xs ys := rfl
theorem sp210_235 (xs : List Int) : (specOf [c193, c235, c223, c196, c195]).pre 235 xs = c235.pre xs := rfl
theorem sq210_235 (xs ys : List Int) : (specOf [c193, c235, c223, c196, c195]).post 235 xs ys = c235.post xs ys := rfl
theorem sp210_223 (xs : List Int) : (specOf [c193, c235, c223, c196, c195]).pre 223 xs = c223.pre xs := rfl
theorem sq210_223 (xs ys : List Int) : (specOf [c193, c235, c223, c196, c195]).post 223 xs ys = c223.post xs ys := rfl
theorem sp210_196 (xs : List Int) : (specOf [c193, c235, c223, c196, c195]).pre 196 xs = c196.pre xs := rfl
theorem sq210_196 (xs ys : List Int) : (specOf [c193, c235, c223, c196, c195]).post 196 xs ys = c196.post xs ys := rfl
theorem sp210_195 (xs : List Int) : (specOf [c193, c235, c223, c196, c195]).pre 195 xs = c195.pre xs := rfl
theorem sq210_195 (xs ys : List Int) : (specOf [c193, c235, c223, c196, c195]).post 195 xs ys = c195.post xs ys := rfl
def c151 : Con := ⟨151, ⟨[.lst [.int .i64] 37], [.cell (.int .i64)]⟩, fun | [x] => (∀ y ∈ dec x, I64 y) ∧ (dec x).length ≤ 2147483648 | _ => False, fun | [x], [r] => r = meanF (dec x) | _, _ => False⟩
theorem pre151 (x : Int) : c151.pre [x] = ((∀ y ∈ dec x, I64 y) ∧ (dec x).length ≤ 2147483648) := rfl
theorem post151 (x r : Int) : c151.post [x] [r] = (r = meanF (dec x)) := rfl
def T151 : Tr (List AE) :=
 (.br (.eq (.lcnt (.var 0) 1) (.lit 0))
  (.ret [.num (.lit 0)])
  (.loop 1 [.num (.lit 0), .num (.lit 0), .num (.lit 0)] 3
   (.br (.lt (.var 3) (.lcnt (.var 0) 1))
    (.br (.and (.le (.lit 0) (.var 3)) (.lt (.var 3) (.lcnt (.var 0) 1)))
     (.br (.lt (.op .sub .i64 (.sel 0 1 (.var 3) 0) (.op .mul .i64 (.op .quo .i64 (.sel 0 1 (.var 3) 0) (.lcnt (.var 0) 1)) (.lcnt (.var 0) 1))) (.lit 0))
      (.again 1 [.num (.op .add .i64 (.var 1) (.op .sub .i64 (.op .quo .i64 (.sel 0 1 (.var 3) 0) (.lcnt (.var 0) 1)) (.lit 1))), .num (.op .add .i64 (.var 2) (.op .add .i64 (.op .sub .i64 (.sel 0 1 (.var 3) 0) (.op .mul .i64 (.op .quo .i64 (.sel 0 1 (.var 3) 0) (.lcnt (.var 0) 1)) (.lcnt (.var 0) 1))) (.lcnt (.var 0) 1))), .num (.op .add .i64 (.var 3) (.lit 1))])
      (.again 1 [.num (.op .add .i64 (.var 1) (.op .quo .i64 (.sel 0 1 (.var 3) 0) (.lcnt (.var 0) 1))), .num (.op .add .i64 (.var 2) (.op .sub .i64 (.sel 0 1 (.var 3) 0) (.op .mul .i64 (.op .quo .i64 (.sel 0 1 (.var 3) 0) (.lcnt (.var 0) 1)) (.lcnt (.var 0) 1)))), .num (.op .add .i64 (.var 3) (.lit 1))]))
     (.fail 15))
    (.ret [.num (.op .max .i64 (.op .add .i64 (.var 1) (.op .quo .i64 (.var 2) (.lcnt (.var 0) 1))) (.lit (-9223372036854775807)))]))))
def hint151 : FuncId → Nat → Option Hint := fun f b => if Nat.beq f 151 && Nat.beq b 0 then some { slots := [4, 5, 6], cells := [], lists := [], join := false } else none
theorem run151 : runRow (ctx [] hint151 (roIn c151.row.args 0)) 1000 151 c151.row = T151 := by kernel_rfl
end Go.Proofs.Tx
