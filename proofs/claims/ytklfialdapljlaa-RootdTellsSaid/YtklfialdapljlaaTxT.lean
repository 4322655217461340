/- The law of servers: its tree. -/
import Derived.Test.YtklfialdapljlaaTxR
import Derived.Test.YtklfialdapljlaaTxS15
import Derived.Test.YtklfialdapljlaaTxZ
namespace Go.Proofs.Tx
open Go Go.Proofs.Sx
set_option maxRecDepth 100000
set_option linter.unusedSimpArgs false
set_option linter.unusedVariables false
def c17 : Con := ⟨17, ⟨[.agg [.int .i64, .int .i64, .int .i64, .int .i64, .int .i64, .int .i64, .int .i64, .int .i64, .int .i64, .int .i64, .int .i64, .int .i64], .agg [.int .i64, .int .i64, .int .u32, .int .i64, .int .i64, .int .i64, .int .i64, .int .i64, .int .i64, .int .i64, .int .u8], .cell (.int .u32), .cell (.int .i64), .cell (.int .i64)], [.cell .bool]⟩, fun xs => argsAre maxLen [.agg [.int .i64, .int .i64, .int .i64, .int .i64, .int .i64, .int .i64, .int .i64, .int .i64, .int .i64, .int .i64, .int .i64, .int .i64], .agg [.int .i64, .int .i64, .int .u32, .int .i64, .int .i64, .int .i64, .int .i64, .int .i64, .int .i64, .int .i64, .int .u8], .cell (.int .u32), .cell (.int .i64), .cell (.int .i64)] xs, fun _ rs => rs = [1]⟩
def T17 : Tr (List AE) :=
 (.call 69 [.num (.var 0), .num (.var 1), .num (.var 2), .num (.var 3), .num (.var 4), .num (.var 5), .num (.var 6), .num (.var 7), .num (.var 8), .num (.var 9), .num (.var 10), .num (.var 11), .num (.var 12), .num (.var 13), .num (.var 14), .num (.var 15), .num (.var 16), .num (.var 17), .num (.var 18), .num (.var 19), .num (.var 20), .num (.var 21), .num (.var 22), .num (.var 25)] 1
 (.call 70 [.num (.var 0), .num (.var 1), .num (.var 2), .num (.var 3), .num (.var 4), .num (.var 5), .num (.var 6), .num (.var 7), .num (.var 8), .num (.var 9), .num (.var 10), .num (.var 11), .num (.var 12), .num (.var 13), .num (.var 14), .num (.var 15), .num (.var 16), .num (.var 17), .num (.var 18), .num (.var 19), .num (.var 20), .num (.var 21), .num (.var 22), .num (.var 25)] 1
 (.br (.eq (.var 26) (.var 27))
  (.call 71 [.num (.var 0), .num (.var 1), .num (.var 2), .num (.var 3), .num (.var 4), .num (.var 5), .num (.var 6), .num (.var 7), .num (.var 8), .num (.var 9), .num (.var 10), .num (.var 11), .num (.var 12), .num (.var 13), .num (.var 14), .num (.var 15), .num (.var 16), .num (.var 17), .num (.var 18), .num (.var 19), .num (.var 20), .num (.var 21), .num (.var 22), .num (.var 25)] 2
  (.call 72 [.num (.var 0), .num (.var 1), .num (.var 2), .num (.var 3), .num (.var 4), .num (.var 5), .num (.var 6), .num (.var 7), .num (.var 8), .num (.var 9), .num (.var 10), .num (.var 11), .num (.var 12), .num (.var 13), .num (.var 14), .num (.var 15), .num (.var 16), .num (.var 17), .num (.var 18), .num (.var 19), .num (.var 20), .num (.var 21), .num (.var 22), .num (.var 25)] 2
  (.br (.and (.eq (.var 28) (.var 30)) (.eq (.var 29) (.var 31)))
   (.call 73 [.num (.var 0), .num (.var 1), .num (.var 2), .num (.var 3), .num (.var 4), .num (.var 5), .num (.var 6), .num (.var 7), .num (.var 8), .num (.var 9), .num (.var 10), .num (.var 11), .num (.var 12), .num (.var 13), .num (.var 14), .num (.var 15), .num (.var 16), .num (.var 17), .num (.var 18), .num (.var 19), .num (.var 20), .num (.var 21), .num (.var 22), .num (.var 23), .num (.var 24), .num (.var 25)] 1
   (.call 74 [.num (.var 0), .num (.var 1), .num (.var 2), .num (.var 3), .num (.var 4), .num (.var 5), .num (.var 6), .num (.var 7), .num (.var 8), .num (.var 9), .num (.var 10), .num (.var 11), .num (.var 12), .num (.var 13), .num (.var 14), .num (.var 15), .num (.var 16), .num (.var 17), .num (.var 18), .num (.var 19), .num (.var 20), .num (.var 21), .num (.var 22), .num (.var 23), .num (.var 24), .num (.var 25)] 1
   (.br (.eq (.var 32) (.var 33))
    (.call 75 [.num (.var 0), .num (.var 1), .num (.var 2), .num (.var 3), .num (.var 4), .num (.var 5), .num (.var 6), .num (.var 7), .num (.var 8), .num (.var 9), .num (.var 10), .num (.var 11), .num (.var 12), .num (.var 13), .num (.var 14), .num (.var 15), .num (.var 16), .num (.var 17), .num (.var 18), .num (.var 19), .num (.var 20), .num (.var 21), .num (.var 22), .num (.var 25)] 1
    (.call 76 [.num (.var 0), .num (.var 1), .num (.var 2), .num (.var 3), .num (.var 4), .num (.var 5), .num (.var 6), .num (.var 7), .num (.var 8), .num (.var 9), .num (.var 10), .num (.var 11), .num (.var 12), .num (.var 13), .num (.var 14), .num (.var 15), .num (.var 16), .num (.var 17), .num (.var 18), .num (.var 19), .num (.var 20), .num (.var 21), .num (.var 22), .num (.var 25)] 1
    (.br (.eq (.var 34) (.var 35))
     (.call 145 [] 12
     (.call 69 [.num (.lit 536870912), .num (.lit 1288490188800), .num (.lit 4294967296000), .num (.lit 2147483), .num (.lit 64424), .num (.lit 6442450944), .num (.lit 17179869184), .num (.lit 6), .num (.lit 10), .num (.lit 0), .num (.lit 1), .num (.lit 3), .num (.lit 0), .num (.lit 1), .num (.lit 0), .num (.lit 0), .num (.lit 0), .num (.lit 0), .num (.lit 0), .num (.lit 0), .num (.lit 0), .num (.lit 0), .num (.lit 1), .num (.lit 0)] 1
     (.br (.eq (.var 48) (.lit 10737418))
      (.call 145 [] 12
      (.call 73 [.num (.lit 536870912), .num (.lit 1288490188800), .num (.lit 4294967296000), .num (.lit 2147483), .num (.lit 64424), .num (.lit 6442450944), .num (.lit 17179869184), .num (.lit 6), .num (.lit 10), .num (.lit 0), .num (.lit 1), .num (.lit 3), .num (.lit 0), .num (.lit 1), .num (.lit 0), .num (.lit 0), .num (.lit 0), .num (.lit 0), .num (.lit 0), .num (.lit 0), .num (.lit 0), .num (.lit 0), .num (.lit 1), .num (.lit 0), .num (.lit 6), .num (.lit 0)] 1
      (.ret [.tru (.eq (.var 61) (.lit 0))])))
      (.ret [.tru (.lit false)]))))
     (.ret [.tru (.lit false)]))))
    (.ret [.tru (.lit false)]))))
   (.br (.and (.eq (.var 28) (.var 30)) (.eq (.var 29) (.var 31)))
    (.fail 70)
    (.br (.and (.eq (.var 28) (.var 30)) (.eq (.var 29) (.var 31)))
     (.fail 70)
     (.br (.and (.eq (.var 28) (.var 30)) (.eq (.var 29) (.var 31)))
      (.fail 70)
      (.br (.and (.eq (.var 28) (.var 30)) (.eq (.var 29) (.var 31)))
       (.fail 70)
       (.br (.and (.eq (.var 28) (.var 30)) (.eq (.var 29) (.var 31)))
        (.fail 70)
        (.br (.and (.eq (.var 28) (.var 30)) (.eq (.var 29) (.var 31)))
         (.fail 70)
         (.br (.and (.eq (.var 28) (.var 30)) (.eq (.var 29) (.var 31)))
          (.fail 70)
          (.br (.and (.eq (.var 28) (.var 30)) (.eq (.var 29) (.var 31)))
           (.fail 70)
           (.br (.and (.eq (.var 28) (.var 30)) (.eq (.var 29) (.var 31)))
            (.fail 70)
            (.br (.and (.eq (.var 28) (.var 30)) (.eq (.var 29) (.var 31)))
             (.fail 70)
             (.br (.and (.eq (.var 28) (.var 30)) (.eq (.var 29) (.var 31)))
              (.fail 70)
              (.br (.and (.eq (.var 28) (.var 30)) (.eq (.var 29) (.var 31)))
               (.fail 8)
               (.br (.and (.eq (.var 28) (.var 30)) (.eq (.var 29) (.var 31)))
                (.fail 23)
                (.ret [.tru (.lit false)])))))))))))))))))
  (.ret [.tru (.lit false)]))))
theorem run17 : runRow (ctx [c69, c70, c71, c72, c73, c74, c75, c76, c145] noHint (roIn c17.row.args 0)) 1000 17 c17.row = T17 := by kernel_rfl
theorem sp17_69 (xs : List Int) : (specOf [c69, c70, c71, c72, c73, c74, c75, c76, c145]).pre 69 xs = c69.pre xs := rfl
theorem sq17_69 (xs ys : List Int) : (specOf [c69, c70, c71, c72, c73, c74, c75, c76, c145]).post 69 xs ys = c69.post xs ys := rfl
theorem sp17_70 (xs : List Int) : (specOf [c69, c70, c71, c72, c73, c74, c75, c76, c145]).pre 70 xs = c70.pre xs := rfl
theorem sq17_70 (xs ys : List Int) : (specOf [c69, c70, c71, c72, c73, c74, c75, c76, c145]).post 70 xs ys = c70.post xs ys := rfl
theorem sp17_71 (xs : List Int) : (specOf [c69, c70, c71, c72, c73, c74, c75, c76, c145]).pre 71 xs = c71.pre xs := rfl
theorem sq17_71 (xs ys : List Int) : (specOf [c69, c70, c71, c72, c73, c74, c75, c76, c145]).post 71 xs ys = c71.post xs ys := rfl
theorem sp17_72 (xs : List Int) : (specOf [c69, c70, c71, c72, c73, c74, c75, c76, c145]).pre 72 xs = c72.pre xs := rfl
theorem sq17_72 (xs ys : List Int) : (specOf [c69, c70, c71, c72, c73, c74, c75, c76, c145]).post 72 xs ys = c72.post xs ys := rfl
theorem sp17_73 (xs : List Int) : (specOf [c69, c70, c71, c72, c73, c74, c75, c76, c145]).pre 73 xs = c73.pre xs := rfl
theorem sq17_73 (xs ys : List Int) : (specOf [c69, c70, c71, c72, c73, c74, c75, c76, c145]).post 73 xs ys = c73.post xs ys := rfl
theorem sp17_74 (xs : List Int) : (specOf [c69, c70, c71, c72, c73, c74, c75, c76, c145]).pre 74 xs = c74.pre xs := rfl
theorem sq17_74 (xs ys : List Int) : (specOf [c69, c70, c71, c72, c73, c74, c75, c76, c145]).post 74 xs ys = c74.post xs ys := rfl
theorem sp17_75 (xs : List Int) : (specOf [c69, c70, c71, c72, c73, c74, c75, c76, c145]).pre 75 xs = c75.pre xs := rfl
theorem sq17_75 (xs ys : List Int) : (specOf [c69, c70, c71, c72, c73, c74, c75, c76, c145]).post 75 xs ys = c75.post xs ys := rfl
theorem sp17_76 (xs : List Int) : (specOf [c69, c70, c71, c72, c73, c74, c75, c76, c145]).pre 76 xs = c76.pre xs := rfl
theorem sq17_76 (xs ys : List Int) : (specOf [c69, c70, c71, c72, c73, c74, c75, c76, c145]).post 76 xs ys = c76.post xs ys := rfl
theorem sp17_145 (xs : List Int) : (specOf [c69, c70, c71, c72, c73, c74, c75, c76, c145]).pre 145 xs = c145.pre xs := rfl
theorem sq17_145 (xs ys : List Int) : (specOf [c69, c70, c71, c72, c73, c74, c75, c76, c145]).post 145 xs ys = c145.post xs ys := rfl
end Go.Proofs.Tx
