/- The law of samples: its tree. -/
import Derived.Test.YtklfialdapljlaaTxN
import Derived.Test.YtklfialdapljlaaTxS13
import Derived.Test.YtklfialdapljlaaTxZ
namespace Go.Proofs.Tx
open Go Go.Proofs.Sx
set_option maxRecDepth 100000
set_option linter.unusedSimpArgs false
set_option linter.unusedVariables false
def c18 : Con := ⟨18, ⟨[.agg [.int .i64, .int .i64, .int .i64, .int .i64, .int .i64, .int .i64, .int .i64, .int .i64, .int .i64, .int .i64, .int .i64, .int .i64], .cell (.int .i64), .agg [.int .i64, .int .i64, .int .i64, .int .i64, .int .i64, .int .i64, .int .u32, .int .u32, .int .u32, .int .u64, .int .u64, .int .u64, .int .u64], .cell (.int .u64), .cell (.int .i64), .cell (.int .i64)], [.cell .bool]⟩, fun xs => argsAre maxLen [.agg [.int .i64, .int .i64, .int .i64, .int .i64, .int .i64, .int .i64, .int .i64, .int .i64, .int .i64, .int .i64, .int .i64, .int .i64], .cell (.int .i64), .agg [.int .i64, .int .i64, .int .i64, .int .i64, .int .i64, .int .i64, .int .u32, .int .u32, .int .u32, .int .u64, .int .u64, .int .u64, .int .u64], .cell (.int .u64), .cell (.int .i64), .cell (.int .i64)] xs, fun _ rs => rs = [1]⟩
def T18 : Tr (List AE) :=
 (.call 78 [.num (.var 0), .num (.var 1), .num (.var 2), .num (.var 3), .num (.var 4), .num (.var 5), .num (.var 6), .num (.var 7), .num (.var 8), .num (.var 9), .num (.var 10), .num (.var 11), .num (.var 12), .num (.var 13), .num (.var 14), .num (.var 15), .num (.var 16), .num (.var 17), .num (.var 18), .num (.var 19), .num (.var 20), .num (.var 21), .num (.var 22), .num (.var 23), .num (.var 24), .num (.var 25), .num (.var 26), .num (.var 27), .num (.var 28)] 6
 (.call 79 [.num (.var 0), .num (.var 1), .num (.var 2), .num (.var 3), .num (.var 4), .num (.var 5), .num (.var 6), .num (.var 7), .num (.var 8), .num (.var 9), .num (.var 10), .num (.var 11), .num (.var 12), .num (.var 13), .num (.var 14), .num (.var 15), .num (.var 16), .num (.var 17), .num (.var 18), .num (.var 19), .num (.var 20), .num (.var 21), .num (.var 22), .num (.var 23), .num (.var 24), .num (.var 25), .num (.var 26), .num (.var 27), .num (.var 28)] 6
 (.br (.and (.eq (.var 29) (.var 35)) (.and (.eq (.var 30) (.var 36)) (.and (.eq (.var 31) (.var 37)) (.and (.eq (.var 32) (.var 38)) (.eq (.var 33) (.var 39))))))
  (.br (.eq (.var 34) (.var 40))
   (.call 81 [] 12
   (.call 78 [.num (.lit 536870912), .num (.lit 1288490188800), .num (.lit 4294967296000), .num (.lit 2147483), .num (.lit 64424), .num (.lit 6442450944), .num (.lit 17179869184), .num (.lit 6), .num (.lit 10), .num (.lit 0), .num (.lit 1), .num (.lit 3), .num (.lit (-20)), .num (.lit 0), .num (.lit 0), .num (.lit 0), .num (.lit 0), .num (.lit 0), .num (.lit 0), .num (.lit 0), .num (.lit 0), .num (.lit 0), .num (.lit 0), .num (.lit 0), .num (.lit 42949672960), .num (.lit 42949672960), .num (.lit 17179869184), .num (.lit 0), .num (.lit 0)] 6
   (.br (.eq (.var 58) (.lit 0))
    (.br (.eq (.var 53) (.lit 34359738368))
     (.ret [.tru (.eq (.var 54) (.lit 17179869184))])
     (.ret [.tru (.lit false)]))
    (.ret [.tru (.lit false)]))))
   (.ret [.tru (.lit false)]))
  (.br (.and (.eq (.var 29) (.var 35)) (.and (.eq (.var 30) (.var 36)) (.and (.eq (.var 31) (.var 37)) (.and (.eq (.var 32) (.var 38)) (.eq (.var 33) (.var 39))))))
   (.fail 8)
   (.br (.and (.eq (.var 29) (.var 35)) (.and (.eq (.var 30) (.var 36)) (.and (.eq (.var 31) (.var 37)) (.and (.eq (.var 32) (.var 38)) (.eq (.var 33) (.var 39))))))
    (.fail 8)
    (.br (.and (.eq (.var 29) (.var 35)) (.and (.eq (.var 30) (.var 36)) (.and (.eq (.var 31) (.var 37)) (.and (.eq (.var 32) (.var 38)) (.eq (.var 33) (.var 39))))))
     (.fail 23)
     (.ret [.tru (.lit false)])))))))
theorem run18 : runRow (ctx [c78, c79, c81] noHint (roIn c18.row.args 0)) 1000 18 c18.row = T18 := by kernel_rfl
theorem sp18_78 (xs : List Int) : (specOf [c78, c79, c81]).pre 78 xs = c78.pre xs := rfl
theorem sq18_78 (xs ys : List Int) : (specOf [c78, c79, c81]).post 78 xs ys = c78.post xs ys := rfl
theorem sp18_79 (xs : List Int) : (specOf [c78, c79, c81]).pre 79 xs = c79.pre xs := rfl
theorem sq18_79 (xs ys : List Int) : (specOf [c78, c79, c81]).post 79 xs ys = c79.post xs ys := rfl
theorem sp18_81 (xs : List Int) : (specOf [c78, c79, c81]).pre 81 xs = c81.pre xs := rfl
theorem sq18_81 (xs ys : List Int) : (specOf [c78, c79, c81]).post 81 xs ys = c81.post xs ys := rfl
end Go.Proofs.Tx
