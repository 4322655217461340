/- Samples: their trees. -/
import Derived.Test.YtklfialdapljlaaTxL
namespace Go.Proofs.Tx
open Go Go.Proofs.Sx
set_option maxRecDepth 100000
set_option linter.unusedSimpArgs false
set_option linter.unusedVariables false
/-- a sample of four times, or an error -/
def makeF (phi own prec org rx tx back a tot : Int) : Int × Int × Int × Int × Int × Int :=
  if 0 ≤ a ∧ a ≤ 4611686018427387904 ∧ 0 ≤ diffF back org ∧ 0 ≤ diffF tx rx then
    (meanF [diffF rx org, diffF tx back], max (subF (diffF back org) (diffF tx rx)) (shiftF 4294967296 own), addF (addF (shiftF 4294967296 prec) (shiftF 4294967296 own)) (mulF phi (diffF back org)), a, tot, 0)
  else (0, 0, 0, 0, 0, 1)
def c78 : Con := ⟨78, ⟨[.agg [.int .i64, .int .i64, .int .i64, .int .i64, .int .i64, .int .i64, .int .i64, .int .i64, .int .i64, .int .i64, .int .i64, .int .i64], .cell (.int .i64), .agg [.int .i64, .int .i64, .int .i64, .int .i64, .int .i64, .int .i64, .int .u32, .int .u32, .int .u32, .int .u64, .int .u64, .int .u64, .int .u64], .cell (.int .u64), .cell (.int .i64), .cell (.int .i64)], [.agg [.int .i64, .int .i64, .int .i64, .int .i64, .int .i64], .cell (.int .i64)]⟩, fun | [p0, p1, p2, p3, p4, p5, p6, p7, p8, p9, p10, p11, own, h0, h1, h2, h3, h4, h5, h6, h7, h8, h9, h10, h11, h12, back, at_, tot] => I64 p4 ∧ I64 own ∧ I64 h5 ∧ U64 h10 ∧ U64 h11 ∧ U64 h12 ∧ U64 back | _ => False, fun | [p0, p1, p2, p3, p4, p5, p6, p7, p8, p9, p10, p11, own, h0, h1, h2, h3, h4, h5, h6, h7, h8, h9, h10, h11, h12, back, at_, tot], [o, d, s, a, t, e] => (o, d, s, a, t, e) = makeF p4 own h5 h10 h11 h12 back at_ tot | _, _ => False⟩
theorem pre78 (p0 p1 p2 p3 p4 p5 p6 p7 p8 p9 p10 p11 own h0 h1 h2 h3 h4 h5 h6 h7 h8 h9 h10 h11 h12 back at_ tot : Int) : c78.pre [p0, p1, p2, p3, p4, p5, p6, p7, p8, p9, p10, p11, own, h0, h1, h2, h3, h4, h5, h6, h7, h8, h9, h10, h11, h12, back, at_, tot] = (I64 p4 ∧ I64 own ∧ I64 h5 ∧ U64 h10 ∧ U64 h11 ∧ U64 h12 ∧ U64 back) := rfl
theorem post78 (p0 p1 p2 p3 p4 p5 p6 p7 p8 p9 p10 p11 own h0 h1 h2 h3 h4 h5 h6 h7 h8 h9 h10 h11 h12 back at_ tot o d s a t e : Int) : c78.post [p0, p1, p2, p3, p4, p5, p6, p7, p8, p9, p10, p11, own, h0, h1, h2, h3, h4, h5, h6, h7, h8, h9, h10, h11, h12, back, at_, tot] [o, d, s, a, t, e] = ((o, d, s, a, t, e) = makeF p4 own h5 h10 h11 h12 back at_ tot) := rfl
def T78 : Tr (List AE) :=
 (.br (.not (.lt (.var 27) (.lit 0)))
  (.br (.not (.lt (.lit 4611686018427387904) (.var 27)))
   (.call 209 [.num (.var 26), .num (.var 23)] 1
   (.call 209 [.num (.var 25), .num (.var 24)] 1
   (.br (.lt (.op .min .i64 (.var 29) (.var 30)) (.lit 0))
    (.ret [.num (.lit 0), .num (.lit 0), .num (.lit 0), .num (.lit 0), .num (.lit 0), .num (.lit 1)])
    (.call 209 [.num (.var 24), .num (.var 23)] 1
    (.call 209 [.num (.var 25), .num (.var 26)] 1
    (.call 210 [.num (.lcat (.lone (.var 31)) (.lone (.var 32)))] 1
    (.call 209 [.num (.var 26), .num (.var 23)] 1
    (.call 209 [.num (.var 25), .num (.var 24)] 1
    (.call 112 [.num (.var 34), .num (.var 35)] 1
    (.call 132 [.num (.var 12)] 1
    (.call 132 [.num (.var 18)] 1
    (.call 132 [.num (.var 12)] 1
    (.call 209 [.num (.var 26), .num (.var 23)] 1
    (.call 104 [.num (.var 4), .num (.var 40)] 1
    (.call 136 [.num (.var 38), .num (.var 39)] 1
    (.call 136 [.num (.var 42), .num (.var 41)] 1
    (.ret [.num (.var 33), .num (.op .max .i64 (.var 36) (.var 37)), .num (.var 43), .num (.var 27), .num (.var 28), .num (.lit 0)])))))))))))))))))
   (.ret [.num (.lit 0), .num (.lit 0), .num (.lit 0), .num (.lit 0), .num (.lit 0), .num (.lit 1)]))
  (.ret [.num (.lit 0), .num (.lit 0), .num (.lit 0), .num (.lit 0), .num (.lit 0), .num (.lit 1)]))
theorem run78 : runRow (ctx [c209, c210, c112, c132, c104, c136] noHint (roIn c78.row.args 0)) 1000 78 c78.row = T78 := by kernel_rfl
theorem sp78_209 (xs : List Int) : (specOf [c209, c210, c112, c132, c104, c136]).pre 209 xs = c209.pre xs := rfl
theorem sq78_209 (xs ys : List Int) : (specOf [c209, c210, c112, c132, c104, c136]).post 209 xs ys = c209.post xs ys := rfl
theorem sp78_210 (xs : List Int) : (specOf [c209, c210, c112, c132, c104, c136]).pre 210 xs = c210.pre xs := rfl
theorem sq78_210 (xs ys : List Int) : (specOf [c209, c210, c112, c132, c104, c136]).post 210 xs ys = c210.post xs ys := rfl
theorem sp78_112 (xs : List Int) : (specOf [c209, c210, c112, c132, c104, c136]).pre 112 xs = c112.pre xs := rfl
theorem sq78_112 (xs ys : List Int) : (specOf [c209, c210, c112, c132, c104, c136]).post 112 xs ys = c112.post xs ys := rfl
theorem sp78_132 (xs : List Int) : (specOf [c209, c210, c112, c132, c104, c136]).pre 132 xs = c132.pre xs := rfl
theorem sq78_132 (xs ys : List Int) : (specOf [c209, c210, c112, c132, c104, c136]).post 132 xs ys = c132.post xs ys := rfl
theorem sp78_104 (xs : List Int) : (specOf [c209, c210, c112, c132, c104, c136]).pre 104 xs = c104.pre xs := rfl
theorem sq78_104 (xs ys : List Int) : (specOf [c209, c210, c112, c132, c104, c136]).post 104 xs ys = c104.post xs ys := rfl
theorem sp78_136 (xs : List Int) : (specOf [c209, c210, c112, c132, c104, c136]).pre 136 xs = c136.pre xs := rfl
theorem sq78_136 (xs ys : List Int) : (specOf [c209, c210, c112, c132, c104, c136]).post 136 xs ys = c136.post xs ys := rfl
def c79 : Con := ⟨79, ⟨[.agg [.int .i64, .int .i64, .int .i64, .int .i64, .int .i64, .int .i64, .int .i64, .int .i64, .int .i64, .int .i64, .int .i64, .int .i64], .cell (.int .i64), .agg [.int .i64, .int .i64, .int .i64, .int .i64, .int .i64, .int .i64, .int .u32, .int .u32, .int .u32, .int .u64, .int .u64, .int .u64, .int .u64], .cell (.int .u64), .cell (.int .i64), .cell (.int .i64)], [.agg [.int .i64, .int .i64, .int .i64, .int .i64, .int .i64], .cell (.int .i64)]⟩, fun | [p0, p1, p2, p3, p4, p5, p6, p7, p8, p9, p10, p11, own, h0, h1, h2, h3, h4, h5, h6, h7, h8, h9, h10, h11, h12, back, at_, tot] => I64 p4 ∧ I64 own ∧ I64 h5 ∧ U64 h10 ∧ U64 h11 ∧ U64 h12 ∧ U64 back | _ => False, fun | [p0, p1, p2, p3, p4, p5, p6, p7, p8, p9, p10, p11, own, h0, h1, h2, h3, h4, h5, h6, h7, h8, h9, h10, h11, h12, back, at_, tot], [o, d, s, a, t, e] => (o, d, s, a, t, e) = makeF p4 own h5 h10 h11 h12 back at_ tot | _, _ => False⟩
theorem pre79 (p0 p1 p2 p3 p4 p5 p6 p7 p8 p9 p10 p11 own h0 h1 h2 h3 h4 h5 h6 h7 h8 h9 h10 h11 h12 back at_ tot : Int) : c79.pre [p0, p1, p2, p3, p4, p5, p6, p7, p8, p9, p10, p11, own, h0, h1, h2, h3, h4, h5, h6, h7, h8, h9, h10, h11, h12, back, at_, tot] = (I64 p4 ∧ I64 own ∧ I64 h5 ∧ U64 h10 ∧ U64 h11 ∧ U64 h12 ∧ U64 back) := rfl
theorem post79 (p0 p1 p2 p3 p4 p5 p6 p7 p8 p9 p10 p11 own h0 h1 h2 h3 h4 h5 h6 h7 h8 h9 h10 h11 h12 back at_ tot o d s a t e : Int) : c79.post [p0, p1, p2, p3, p4, p5, p6, p7, p8, p9, p10, p11, own, h0, h1, h2, h3, h4, h5, h6, h7, h8, h9, h10, h11, h12, back, at_, tot] [o, d, s, a, t, e] = ((o, d, s, a, t, e) = makeF p4 own h5 h10 h11 h12 back at_ tot) := rfl
def T79 : Tr (List AE) :=
 (.call 150 [.num (.var 26), .num (.var 23)] 1
 (.call 150 [.num (.var 25), .num (.var 24)] 1
 (.br (.not (.lt (.var 27) (.lit 0)))
  (.br (.not (.lt (.lit 4611686018427387904) (.var 27)))
   (.br (.not (.lt (.var 29) (.lit 0)))
    (.br (.lt (.var 30) (.lit 0))
     (.ret [.num (.lit 0), .num (.lit 0), .num (.lit 0), .num (.lit 0), .num (.lit 0), .num (.lit 1)])
     (.call 150 [.num (.var 24), .num (.var 23)] 1
     (.call 150 [.num (.var 25), .num (.var 26)] 1
     (.call 151 [.num (.lcat (.lone (.var 31)) (.lone (.var 32)))] 1
     (.call 113 [.num (.var 29), .num (.var 30)] 1
     (.call 144 [.num (.var 12)] 1
     (.call 144 [.num (.var 18)] 1
     (.call 144 [.num (.var 12)] 1
     (.call 106 [.num (.var 36), .num (.var 37)] 1
     (.call 107 [.num (.var 4), .num (.var 29)] 1
     (.call 106 [.num (.var 38), .num (.var 39)] 1
     (.ret [.num (.var 33), .num (.op .max .i64 (.var 34) (.var 35)), .num (.var 40), .num (.var 27), .num (.var 28), .num (.lit 0)]))))))))))))
    (.ret [.num (.lit 0), .num (.lit 0), .num (.lit 0), .num (.lit 0), .num (.lit 0), .num (.lit 1)]))
   (.ret [.num (.lit 0), .num (.lit 0), .num (.lit 0), .num (.lit 0), .num (.lit 0), .num (.lit 1)]))
  (.ret [.num (.lit 0), .num (.lit 0), .num (.lit 0), .num (.lit 0), .num (.lit 0), .num (.lit 1)]))))
theorem run79 : runRow (ctx [c150, c151, c113, c144, c107, c106] noHint (roIn c79.row.args 0)) 1000 79 c79.row = T79 := by kernel_rfl
theorem sp79_150 (xs : List Int) : (specOf [c150, c151, c113, c144, c107, c106]).pre 150 xs = c150.pre xs := rfl
theorem sq79_150 (xs ys : List Int) : (specOf [c150, c151, c113, c144, c107, c106]).post 150 xs ys = c150.post xs ys := rfl
theorem sp79_151 (xs : List Int) : (specOf [c150, c151, c113, c144, c107, c106]).pre 151 xs = c151.pre xs := rfl
theorem sq79_151 (xs ys : List Int) : (specOf [c150, c151, c113, c144, c107, c106]).post 151 xs ys = c151.post xs ys := rfl
theorem sp79_113 (xs : List Int) : (specOf [c150, c151, c113, c144, c107, c106]).pre 113 xs = c113.pre xs := rfl
theorem sq79_113 (xs ys : List Int) : (specOf [c150, c151, c113, c144, c107, c106]).post 113 xs ys = c113.post xs ys := rfl
theorem sp79_144 (xs : List Int) : (specOf [c150, c151, c113, c144, c107, c106]).pre 144 xs = c144.pre xs := rfl
theorem sq79_144 (xs ys : List Int) : (specOf [c150, c151, c113, c144, c107, c106]).post 144 xs ys = c144.post xs ys := rfl
theorem sp79_107 (xs : List Int) : (specOf [c150, c151, c113, c144, c107, c106]).pre 107 xs = c107.pre xs := rfl
theorem sq79_107 (xs ys : List Int) : (specOf [c150, c151, c113, c144, c107, c106]).post 107 xs ys = c107.post xs ys := rfl
theorem sp79_106 (xs : List Int) : (specOf [c150, c151, c113, c144, c107, c106]).pre 106 xs = c106.pre xs := rfl
theorem sq79_106 (xs ys : List Int) : (specOf [c150, c151, c113, c144, c107, c106]).post 106 xs ys = c106.post xs ys := rfl
end Go.Proofs.Tx
