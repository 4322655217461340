/- Products, quotients and powers of numbers: their trees. -/
import Derived.Test.YtklfialdapljlaaTxH
namespace Go.Proofs.Tx
open Go Go.Proofs.Sx
set_option maxRecDepth 100000
set_option linter.unusedSimpArgs false
set_option linter.unusedVariables false
/-- the product of fixed-point numbers, cut towards below -/
def mulF (a b : Int) : Int := cutF (¬ (a < 0 ↔ b < 0)) (sizeF a * sizeF b / 4294967296) (sizeF a * sizeF b % 4294967296 ≠ 0)
/-- the quotient of fixed-point numbers, cut towards below -/
def divF (a b : Int) : Int := if a = 0 then 0 else if b = 0 then (if a < 0 then -M else M) else cutF (¬ (a < 0 ↔ b < 0)) (sizeF a * 4294967296 / sizeF b) (sizeF a * 4294967296 % sizeF b ≠ 0)
def c104 : Con := ⟨104, ⟨[.cell (.int .i64), .cell (.int .i64)], [.cell (.int .i64)]⟩, fun | [a, b] => I64 a ∧ I64 b | _ => False, fun | [a, b], [r] => r = mulF a b | _, _ => False⟩
theorem pre104 (a b : Int) : c104.pre [a, b] = (I64 a ∧ I64 b) := rfl
theorem post104 (a b r : Int) : c104.post [a, b] [r] = (r = mulF a b) := rfl
def T104 : Tr (List AE) :=
 (.call 193 [.num (.var 0)] 2
 (.call 193 [.num (.var 1)] 2
 (.call 194 [.num (.var 2), .num (.var 4)] 2
 (.br (.lt (.lit 0) (.op .shr .u64 (.var 6) (.lit 31)))
  (.call 195 [.num (.lit 9223372036854775807), .num (.lit 0), .tru (.not (.or (.and (.nz (.var 3)) (.nz (.var 5))) (.and (.not (.nz (.var 3))) (.not (.nz (.var 5))))))] 1
  (.ret [.num (.var 8)]))
  (.call 195 [.num (.op .or .u64 (.op .shl .u64 (.var 6) (.lit 32)) (.op .shr .u64 (.var 7) (.lit 32))), .num (.op .shl .u64 (.var 7) (.lit 32)), .tru (.not (.or (.and (.nz (.var 3)) (.nz (.var 5))) (.and (.not (.nz (.var 3))) (.not (.nz (.var 5))))))] 1
  (.ret [.num (.var 8)]))))))
theorem run104 : runRow (ctx [c193, c194, c195] noHint (roIn c104.row.args 0)) 1000 104 c104.row = T104 := by kernel_rfl
theorem sp104_193 (xs : List Int) : (specOf [c193, c194, c195]).pre 193 xs = c193.pre xs := rfl
theorem sq104_193 (xs ys : List Int) : (specOf [c193, c194, c195]).post 193 xs ys = c193.post xs ys := rfl
theorem sp104_194 (xs : List Int) : (specOf [c193, c194, c195]).pre 194 xs = c194.pre xs := rfl
theorem sq104_194 (xs ys : List Int) : (specOf [c193, c194, c195]).post 194 xs ys = c194.post xs ys := rfl
theorem sp104_195 (xs : List Int) : (specOf [c193, c194, c195]).pre 195 xs = c195.pre xs := rfl
theorem sq104_195 (xs ys : List Int) : (specOf [c193, c194, c195]).post 195 xs ys = c195.post xs ys := rfl
def c107 : Con := ⟨107, ⟨[.cell (.int .i64), .cell (.int .i64)], [.cell (.int .i64)]⟩, fun | [a, b] => I64 a ∧ I64 b | _ => False, fun | [a, b], [r] => r = mulF a b | _, _ => False⟩
theorem pre107 (a b : Int) : c107.pre [a, b] = (I64 a ∧ I64 b) := rfl
theorem post107 (a b r : Int) : c107.post [a, b] [r] = (r = mulF a b) := rfl
def T107 : Tr (List AE) :=
 (.call 197 [.num (.var 0)] 1
 (.call 197 [.num (.var 1)] 1
 (.call 199 [.num (.var 2), .num (.var 3)] 2
 (.br (.le (.lit 2147483648) (.var 4))
  (.call 198 [.tru (.not (.or (.and (.lt (.var 0) (.lit 0)) (.lt (.var 1) (.lit 0))) (.and (.not (.lt (.var 0) (.lit 0))) (.not (.lt (.var 1) (.lit 0)))))), .num (.lit 9223372036854775808), .tru (.lit false)] 1
  (.ret [.num (.var 6)]))
  (.call 198 [.tru (.not (.or (.and (.lt (.var 0) (.lit 0)) (.lt (.var 1) (.lit 0))) (.and (.not (.lt (.var 0) (.lit 0))) (.not (.lt (.var 1) (.lit 0)))))), .num (.op .or .u64 (.op .shl .u64 (.var 4) (.lit 32)) (.op .shr .u64 (.var 5) (.lit 32))), .tru (.not (.eq (.op .shl .u64 (.var 5) (.lit 32)) (.lit 0)))] 1
  (.ret [.num (.var 6)]))))))
theorem run107 : runRow (ctx [c197, c198, c199] noHint (roIn c107.row.args 0)) 1000 107 c107.row = T107 := by kernel_rfl
theorem sp107_197 (xs : List Int) : (specOf [c197, c198, c199]).pre 197 xs = c197.pre xs := rfl
theorem sq107_197 (xs ys : List Int) : (specOf [c197, c198, c199]).post 197 xs ys = c197.post xs ys := rfl
theorem sp107_198 (xs : List Int) : (specOf [c197, c198, c199]).pre 198 xs = c198.pre xs := rfl
theorem sq107_198 (xs ys : List Int) : (specOf [c197, c198, c199]).post 198 xs ys = c198.post xs ys := rfl
theorem sp107_199 (xs : List Int) : (specOf [c197, c198, c199]).pre 199 xs = c199.pre xs := rfl
theorem sq107_199 (xs ys : List Int) : (specOf [c197, c198, c199]).post 199 xs ys = c199.post xs ys := rfl
def c105 : Con := ⟨105, ⟨[.cell (.int .i64), .cell (.int .i64)], [.cell (.int .i64)]⟩, fun | [a, b] => I64 a ∧ I64 b | _ => False, fun | [a, b], [r] => r = divF a b | _, _ => False⟩
theorem pre105 (a b : Int) : c105.pre [a, b] = (I64 a ∧ I64 b) := rfl
theorem post105 (a b r : Int) : c105.post [a, b] [r] = (r = divF a b) := rfl
def T105 : Tr (List AE) :=
 (.call 193 [.num (.var 0)] 2
 (.call 193 [.num (.var 1)] 2
 (.call 196 [.num (.op .shr .u64 (.var 2) (.lit 32)), .num (.op .shl .u64 (.var 2) (.lit 32)), .num (.var 4)] 3
 (.br (.eq (.var 0) (.lit 0))
  (.ret [.num (.lit 0)])
  (.br (.not (.nz (.var 8)))
   (.call 195 [.num (.lit 9223372036854775807), .num (.lit 0), .tru (.not (.or (.and (.nz (.var 3)) (.nz (.var 5))) (.and (.not (.nz (.var 3))) (.not (.nz (.var 5))))))] 1
   (.ret [.num (.var 9)]))
   (.call 195 [.num (.var 6), .num (.var 7), .tru (.not (.or (.and (.nz (.var 3)) (.nz (.var 5))) (.and (.not (.nz (.var 3))) (.not (.nz (.var 5))))))] 1
   (.ret [.num (.var 9)])))))))
theorem run105 : runRow (ctx [c193, c196, c195] noHint (roIn c105.row.args 0)) 1000 105 c105.row = T105 := by kernel_rfl
theorem sp105_193 (xs : List Int) : (specOf [c193, c196, c195]).pre 193 xs = c193.pre xs := rfl
theorem sq105_193 (xs ys : List Int) : (specOf [c193, c196, c195]).post 193 xs ys = c193.post xs ys := rfl
theorem sp105_196 (xs : List Int) : (specOf [c193, c196, c195]).pre 196 xs = c196.pre xs := rfl
theorem sq105_196 (xs ys : List Int) : (specOf [c193, c196, c195]).post 196 xs ys = c196.post xs ys := rfl
theorem sp105_195 (xs : List Int) : (specOf [c193, c196, c195]).pre 195 xs = c195.pre xs := rfl
theorem sq105_195 (xs ys : List Int) : (specOf [c193, c196, c195]).post 195 xs ys = c195.post xs ys := rfl
def c109 : Con := ⟨109, ⟨[.cell (.int .i64), .cell (.int .i64)], [.cell (.int .i64)]⟩, fun | [a, b] => I64 a ∧ I64 b | _ => False, fun | [a, b], [r] => r = divF a b | _, _ => False⟩
theorem pre109 (a b : Int) : c109.pre [a, b] = (I64 a ∧ I64 b) := rfl
theorem post109 (a b r : Int) : c109.post [a, b] [r] = (r = divF a b) := rfl
def T109 : Tr (List AE) :=
 (.br (.eq (.var 1) (.lit 0))
  (.br (.eq (.var 0) (.lit 0))
   (.ret [.num (.lit 0)])
   (.call 198 [.tru (.lt (.var 0) (.lit 0)), .num (.lit 9223372036854775808), .tru (.lit false)] 1
   (.ret [.num (.var 2)])))
  (.call 197 [.num (.var 0)] 1
  (.call 197 [.num (.var 1)] 1
  (.call 200 [.num (.op .shr .u64 (.var 2) (.lit 32)), .num (.op .shl .u64 (.var 2) (.lit 32)), .num (.var 3)] 3
  (.br (.not (.nz (.var 6)))
   (.call 198 [.tru (.not (.or (.and (.lt (.var 0) (.lit 0)) (.lt (.var 1) (.lit 0))) (.and (.not (.lt (.var 0) (.lit 0))) (.not (.lt (.var 1) (.lit 0)))))), .num (.lit 9223372036854775808), .tru (.lit false)] 1
   (.ret [.num (.var 7)]))
   (.call 198 [.tru (.not (.or (.and (.lt (.var 0) (.lit 0)) (.lt (.var 1) (.lit 0))) (.and (.not (.lt (.var 0) (.lit 0))) (.not (.lt (.var 1) (.lit 0)))))), .num (.var 4), .tru (.lt (.lit 0) (.var 5))] 1
   (.ret [.num (.var 7)])))))))
theorem run109 : runRow (ctx [c197, c198, c200] noHint (roIn c109.row.args 0)) 1000 109 c109.row = T109 := by kernel_rfl
theorem sp109_197 (xs : List Int) : (specOf [c197, c198, c200]).pre 197 xs = c197.pre xs := rfl
theorem sq109_197 (xs ys : List Int) : (specOf [c197, c198, c200]).post 197 xs ys = c197.post xs ys := rfl
theorem sp109_198 (xs : List Int) : (specOf [c197, c198, c200]).pre 198 xs = c198.pre xs := rfl
theorem sq109_198 (xs ys : List Int) : (specOf [c197, c198, c200]).post 198 xs ys = c198.post xs ys := rfl
theorem sp109_200 (xs : List Int) : (specOf [c197, c198, c200]).pre 200 xs = c200.pre xs := rfl
theorem sq109_200 (xs ys : List Int) : (specOf [c197, c198, c200]).post 200 xs ys = c200.post xs ys := rfl
def c132 : Con := ⟨132, ⟨[.cell (.int .i64)], [.cell (.int .i64)]⟩, fun | [n] => I64 n | _ => False, fun | [n], [r] => r = shiftF 4294967296 n | _, _ => False⟩
theorem pre132 (n : Int) : c132.pre [n] = (I64 n) := rfl
theorem post132 (n r : Int) : c132.post [n] [r] = (r = shiftF 4294967296 n) := rfl
def T132 : Tr (List AE) :=
 (.call 133 [.num (.lit 4294967296), .num (.var 0)] 1
 (.ret [.num (.var 1)]))
theorem run132 : runRow (ctx [c133] noHint (roIn c132.row.args 0)) 1000 132 c132.row = T132 := by kernel_rfl
theorem sp132_133 (xs : List Int) : (specOf [c133]).pre 133 xs = c133.pre xs := rfl
theorem sq132_133 (xs ys : List Int) : (specOf [c133]).post 133 xs ys = c133.post xs ys := rfl
theorem hold132 (n : Int) (h : I64 n) : T132.holds (specOf [c133]) (fun σ _ es => c132.post [n] (es.map (·.ev σ))) (valOf c132.row [n]) (fun _ _ => False) := by
  simp only [T132, Tr.holds, IE.ev, valOf_ofL, push_ofL, ofL_v, List.cons_append, List.nil_append, List.getD_cons_zero, List.getD_cons_succ, List.map_cons, List.map_nil, AE.ev, post132, sp132_133, sq132_133, pre133, post133, len1]
  exact ⟨⟨⟨by decide, by decide⟩, h⟩, fun r hr => hr⟩
theorem met132 : c132.met := met_of (l := [c133]) ⟨met133, trivial⟩ c132 (hint := noHint) (n := 1000) (by kernel_rfl) (by kernel_rfl) run132 fun xs hl hp => by
  have hl : xs.length = 1 := hl
  obtain ⟨n, l0, rfl, h0⟩ := consOf hl
  cases nilOf h0
  exact hold132 n hp
def c144 : Con := ⟨144, ⟨[.cell (.int .i64)], [.cell (.int .i64)]⟩, fun | [n] => I64 n | _ => False, fun | [n], [r] => r = shiftF 4294967296 n | _, _ => False⟩
theorem pre144 (n : Int) : c144.pre [n] = (I64 n) := rfl
theorem post144 (n r : Int) : c144.post [n] [r] = (r = shiftF 4294967296 n) := rfl
def T144 : Tr (List AE) :=
 (.call 143 [.num (.lit 4294967296), .num (.var 0)] 1
 (.ret [.num (.var 1)]))
theorem run144 : runRow (ctx [c143] noHint (roIn c144.row.args 0)) 1000 144 c144.row = T144 := by kernel_rfl
theorem sp144_143 (xs : List Int) : (specOf [c143]).pre 143 xs = c143.pre xs := rfl
theorem sq144_143 (xs ys : List Int) : (specOf [c143]).post 143 xs ys = c143.post xs ys := rfl
theorem hold144 (n : Int) (h : I64 n) : T144.holds (specOf [c143]) (fun σ _ es => c144.post [n] (es.map (·.ev σ))) (valOf c144.row [n]) (fun _ _ => False) := by
  simp only [T144, Tr.holds, IE.ev, valOf_ofL, push_ofL, ofL_v, List.cons_append, List.nil_append, List.getD_cons_zero, List.getD_cons_succ, List.map_cons, List.map_nil, AE.ev, post144, sp144_143, sq144_143, pre143, post143, len1]
  exact ⟨⟨⟨by decide, by decide⟩, h⟩, fun r hr => hr⟩
theorem met144 : c144.met := met_of (l := [c143]) ⟨met143, trivial⟩ c144 (hint := noHint) (n := 1000) (by kernel_rfl) (by kernel_rfl) run144 fun xs hl hp => by
  have hl : xs.length = 1 := hl
  obtain ⟨n, l0, rfl, h0⟩ := consOf hl
  cases nilOf h0
  exact hold144 n hp
end Go.Proofs.Tx
