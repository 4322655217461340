/- What is set as a rule. -/
import Derived.Test.YtklfialdapljlaaTxB
namespace Go.Proofs.Tx
open Go Go.Proofs.Sx
set_option maxRecDepth 100000
set_option linter.unusedSimpArgs false
set_option linter.unusedVariables false
def c81 : Con := ⟨81, ⟨[], [.agg [.con .i64 536870912, .con .i64 1288490188800, .con .i64 4294967296000, .con .i64 2147483, .con .i64 64424, .con .i64 6442450944, .con .i64 17179869184, .con .i64 6, .con .i64 10, .con .i64 0, .con .i64 1, .con .i64 3]]⟩, fun _ => True, fun _ _ => True⟩
def T81 : Tr (List AE) :=
 (.ret [.num (.lit 536870912), .num (.lit 1288490188800), .num (.lit 4294967296000), .num (.lit 2147483), .num (.lit 64424), .num (.lit 6442450944), .num (.lit 17179869184), .num (.lit 6), .num (.lit 10), .num (.lit 0), .num (.lit 1), .num (.lit 3)])
theorem run81 : runRow (ctx [] noHint (roIn c81.row.args 0)) 1000 81 c81.row = T81 := by kernel_rfl
theorem hold81 (h : True) : T81.holds (specOf []) (fun σ _ es => c81.post [] (es.map (·.ev σ))) (valOf c81.row []) (fun _ _ => False) := by
  trivial
theorem met81 : c81.met := met_of (l := []) trivial c81 (hint := noHint) (n := 1000) (by kernel_rfl) (by kernel_rfl) run81 fun xs hl hp => by
  have hl : xs.length = 0 := hl
  cases nilOf hl
  exact hold81  hp
end Go.Proofs.Tx
