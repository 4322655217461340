/- Functions of numbers. -/
import Derived.Test.YtklfialdapljlaaTxB
namespace Go.Proofs.Tx
open Go Go.Proofs.Sx
set_option maxRecDepth 100000
set_option linter.unusedSimpArgs false
set_option linter.unusedVariables false
def c136 : Con := ⟨136, ⟨[.cell (.int .i64), .cell (.int .i64)], [.cell (.int .i64)]⟩, fun | [a, b] => I64 a ∧ I64 b | _ => False, fun | [a, b], [r] => r = addF a b | _, _ => False⟩
theorem pre136 (a b : Int) : c136.pre [a, b] = (I64 a ∧ I64 b) := rfl
theorem post136 (a b r : Int) : c136.post [a, b] [r] = (r = addF a b) := rfl
def T136 : Tr (List AE) :=
 (.br (.lt (.lit 0) (.var 0))
  (.br (.lt (.lit 0) (.var 1))
   (.br (.lt (.op .add .i64 (.var 0) (.var 1)) (.lit 0))
    (.ret [.num (.lit 9223372036854775807)])
    (.br (.lt (.var 0) (.lit 0))
     (.br (.lt (.var 1) (.lit 0))
      (.ret [.num (.lit (-9223372036854775807))])
      (.ret [.num (.op .max .i64 (.op .add .i64 (.var 0) (.var 1)) (.lit (-9223372036854775807)))]))
     (.ret [.num (.op .max .i64 (.op .add .i64 (.var 0) (.var 1)) (.lit (-9223372036854775807)))])))
   (.br (.lt (.var 0) (.lit 0))
    (.br (.lt (.var 1) (.lit 0))
     (.br (.le (.lit 0) (.op .add .i64 (.var 0) (.var 1)))
      (.ret [.num (.lit (-9223372036854775807))])
      (.ret [.num (.op .max .i64 (.op .add .i64 (.var 0) (.var 1)) (.lit (-9223372036854775807)))]))
     (.ret [.num (.op .max .i64 (.op .add .i64 (.var 0) (.var 1)) (.lit (-9223372036854775807)))]))
    (.ret [.num (.op .max .i64 (.op .add .i64 (.var 0) (.var 1)) (.lit (-9223372036854775807)))])))
  (.br (.lt (.var 0) (.lit 0))
   (.br (.lt (.var 1) (.lit 0))
    (.br (.le (.lit 0) (.op .add .i64 (.var 0) (.var 1)))
     (.ret [.num (.lit (-9223372036854775807))])
     (.ret [.num (.op .max .i64 (.op .add .i64 (.var 0) (.var 1)) (.lit (-9223372036854775807)))]))
    (.ret [.num (.op .max .i64 (.op .add .i64 (.var 0) (.var 1)) (.lit (-9223372036854775807)))]))
   (.ret [.num (.op .max .i64 (.op .add .i64 (.var 0) (.var 1)) (.lit (-9223372036854775807)))])))
theorem run136 : runRow (ctx [] noHint (roIn c136.row.args 0)) 1000 136 c136.row = T136 := by kernel_rfl
theorem hold136 (a b : Int) (h : I64 a ∧ I64 b) : T136.holds (specOf []) (fun σ _ es => c136.post [a, b] (es.map (·.ev σ))) (valOf c136.row [a, b]) (fun _ _ => False) := by
  simp only [T136, post136, beq_iff_eq, beq_eq_false_iff_ne, Tr.holds, BE.ev, IE.ev, F2.ev, valOf_ofL, push_ofL, ofL_v, wrap_i64, wrap_u64, wrap_u32, wrap_u8, decide_eq_true_eq, decide_eq_false_iff_not, Bool.and_eq_true, Bool.or_eq_true, Bool.not_eq_true', Bool.and_eq_false_iff, Bool.or_eq_false_iff, Bool.not_eq_false', Bool.not_eq_false, bne_iff_ne, bne_eq_false_iff_eq, List.getD_cons_zero, List.getD_cons_succ, List.append_nil, List.cons_append, List.nil_append, List.map_cons, List.map_nil, AE.ev, addF, subF, absF, sizeF, cutF, holdF, diffF, clampM, W, WW, I64, U64, U32, U8, if_true, if_false, M, ne_eq, Bool.true_eq_false, Bool.false_eq_true, reduceCtorEq, not_false_eq_true, len1, len2, len3, len4, len5, len6] at *
  omega
theorem met136 : c136.met := met_of (l := []) trivial c136 (hint := noHint) (n := 1000) (by kernel_rfl) (by kernel_rfl) run136 fun xs hl hp => by
  have hl : xs.length = 2 := hl
  obtain ⟨a, l0, rfl, h0⟩ := consOf hl
  obtain ⟨b, l1, rfl, h1⟩ := consOf h0
  cases nilOf h1
  exact hold136 a b hp
def c106 : Con := ⟨106, ⟨[.cell (.int .i64), .cell (.int .i64)], [.cell (.int .i64)]⟩, fun | [a, b] => I64 a ∧ I64 b | _ => False, fun | [a, b], [r] => r = addF a b | _, _ => False⟩
theorem pre106 (a b : Int) : c106.pre [a, b] = (I64 a ∧ I64 b) := rfl
theorem post106 (a b r : Int) : c106.post [a, b] [r] = (r = addF a b) := rfl
def T106 : Tr (List AE) :=
 (.br (.not (.or (.and (.lt (.var 0) (.lit 0)) (.lt (.var 1) (.lit 0))) (.and (.not (.lt (.var 0) (.lit 0))) (.not (.lt (.var 1) (.lit 0))))))
  (.ret [.num (.op .max .i64 (.op .add .i64 (.var 0) (.var 1)) (.lit (-9223372036854775807)))])
  (.br (.lt (.var 0) (.lit 0))
   (.br (.lt (.var 1) (.lit 0))
    (.br (.lt (.op .add .u64 (.op .sub .u64 (.lit 0) (.wrap .u64 (.var 0))) (.op .sub .u64 (.lit 0) (.wrap .u64 (.var 1)))) (.op .sub .u64 (.lit 0) (.wrap .u64 (.var 0))))
     (.ret [.num (.lit (-9223372036854775807))])
     (.br (.lt (.lit 9223372036854775807) (.op .add .u64 (.op .sub .u64 (.lit 0) (.wrap .u64 (.var 0))) (.op .sub .u64 (.lit 0) (.wrap .u64 (.var 1)))))
      (.ret [.num (.lit (-9223372036854775807))])
      (.ret [.num (.op .sub .i64 (.lit 0) (.wrap .i64 (.op .add .u64 (.op .sub .u64 (.lit 0) (.wrap .u64 (.var 0))) (.op .sub .u64 (.lit 0) (.wrap .u64 (.var 1))))))])))
    (.br (.lt (.op .add .u64 (.op .sub .u64 (.lit 0) (.wrap .u64 (.var 0))) (.wrap .u64 (.var 1))) (.op .sub .u64 (.lit 0) (.wrap .u64 (.var 0))))
     (.ret [.num (.lit (-9223372036854775807))])
     (.br (.lt (.lit 9223372036854775807) (.op .add .u64 (.op .sub .u64 (.lit 0) (.wrap .u64 (.var 0))) (.wrap .u64 (.var 1))))
      (.ret [.num (.lit (-9223372036854775807))])
      (.ret [.num (.op .sub .i64 (.lit 0) (.wrap .i64 (.op .add .u64 (.op .sub .u64 (.lit 0) (.wrap .u64 (.var 0))) (.wrap .u64 (.var 1)))))]))))
   (.br (.lt (.var 1) (.lit 0))
    (.br (.lt (.op .add .u64 (.wrap .u64 (.var 0)) (.op .sub .u64 (.lit 0) (.wrap .u64 (.var 1)))) (.wrap .u64 (.var 0)))
     (.ret [.num (.lit 9223372036854775807)])
     (.br (.lt (.lit 9223372036854775807) (.op .add .u64 (.wrap .u64 (.var 0)) (.op .sub .u64 (.lit 0) (.wrap .u64 (.var 1)))))
      (.ret [.num (.lit 9223372036854775807)])
      (.ret [.num (.wrap .i64 (.op .add .u64 (.wrap .u64 (.var 0)) (.op .sub .u64 (.lit 0) (.wrap .u64 (.var 1)))))])))
    (.br (.lt (.op .add .u64 (.wrap .u64 (.var 0)) (.wrap .u64 (.var 1))) (.wrap .u64 (.var 0)))
     (.ret [.num (.lit 9223372036854775807)])
     (.br (.lt (.lit 9223372036854775807) (.op .add .u64 (.wrap .u64 (.var 0)) (.wrap .u64 (.var 1))))
      (.ret [.num (.lit 9223372036854775807)])
      (.ret [.num (.wrap .i64 (.op .add .u64 (.wrap .u64 (.var 0)) (.wrap .u64 (.var 1))))]))))))
theorem run106 : runRow (ctx [] noHint (roIn c106.row.args 0)) 1000 106 c106.row = T106 := by kernel_rfl
theorem hold106 (a b : Int) (h : I64 a ∧ I64 b) : T106.holds (specOf []) (fun σ _ es => c106.post [a, b] (es.map (·.ev σ))) (valOf c106.row [a, b]) (fun _ _ => False) := by
  simp only [T106, post106, beq_iff_eq, beq_eq_false_iff_ne, Tr.holds, BE.ev, IE.ev, F2.ev, valOf_ofL, push_ofL, ofL_v, wrap_i64, wrap_u64, wrap_u32, wrap_u8, decide_eq_true_eq, decide_eq_false_iff_not, Bool.and_eq_true, Bool.or_eq_true, Bool.not_eq_true', Bool.and_eq_false_iff, Bool.or_eq_false_iff, Bool.not_eq_false', Bool.not_eq_false, bne_iff_ne, bne_eq_false_iff_eq, List.getD_cons_zero, List.getD_cons_succ, List.append_nil, List.cons_append, List.nil_append, List.map_cons, List.map_nil, AE.ev, addF, subF, absF, sizeF, cutF, holdF, diffF, clampM, W, WW, I64, U64, U32, U8, if_true, if_false, M, ne_eq, Bool.true_eq_false, Bool.false_eq_true, reduceCtorEq, not_false_eq_true, len1, len2, len3, len4, len5, len6] at *
  omega
theorem met106 : c106.met := met_of (l := []) trivial c106 (hint := noHint) (n := 1000) (by kernel_rfl) (by kernel_rfl) run106 fun xs hl hp => by
  have hl : xs.length = 2 := hl
  obtain ⟨a, l0, rfl, h0⟩ := consOf hl
  obtain ⟨b, l1, rfl, h1⟩ := consOf h0
  cases nilOf h1
  exact hold106 a b hp
def c112 : Con := ⟨112, ⟨[.cell (.int .i64), .cell (.int .i64)], [.cell (.int .i64)]⟩, fun | [a, b] => I64 a ∧ I64 b | _ => False, fun | [a, b], [r] => r = subF a b | _, _ => False⟩
theorem pre112 (a b : Int) : c112.pre [a, b] = (I64 a ∧ I64 b) := rfl
theorem post112 (a b r : Int) : c112.post [a, b] [r] = (r = subF a b) := rfl
def T112 : Tr (List AE) :=
 (.br (.le (.lit 0) (.var 0))
  (.br (.lt (.var 1) (.lit 0))
   (.br (.lt (.op .sub .i64 (.var 0) (.var 1)) (.lit 0))
    (.ret [.num (.lit 9223372036854775807)])
    (.ret [.num (.op .max .i64 (.op .sub .i64 (.var 0) (.var 1)) (.lit (-9223372036854775807)))]))
   (.ret [.num (.op .max .i64 (.op .sub .i64 (.var 0) (.var 1)) (.lit (-9223372036854775807)))]))
  (.br (.lt (.lit 0) (.var 1))
   (.br (.le (.lit 0) (.op .sub .i64 (.var 0) (.var 1)))
    (.ret [.num (.lit (-9223372036854775807))])
    (.ret [.num (.op .max .i64 (.op .sub .i64 (.var 0) (.var 1)) (.lit (-9223372036854775807)))]))
   (.ret [.num (.op .max .i64 (.op .sub .i64 (.var 0) (.var 1)) (.lit (-9223372036854775807)))])))
theorem run112 : runRow (ctx [] noHint (roIn c112.row.args 0)) 1000 112 c112.row = T112 := by kernel_rfl
theorem hold112 (a b : Int) (h : I64 a ∧ I64 b) : T112.holds (specOf []) (fun σ _ es => c112.post [a, b] (es.map (·.ev σ))) (valOf c112.row [a, b]) (fun _ _ => False) := by
  simp only [T112, post112, beq_iff_eq, beq_eq_false_iff_ne, Tr.holds, BE.ev, IE.ev, F2.ev, valOf_ofL, push_ofL, ofL_v, wrap_i64, wrap_u64, wrap_u32, wrap_u8, decide_eq_true_eq, decide_eq_false_iff_not, Bool.and_eq_true, Bool.or_eq_true, Bool.not_eq_true', Bool.and_eq_false_iff, Bool.or_eq_false_iff, Bool.not_eq_false', Bool.not_eq_false, bne_iff_ne, bne_eq_false_iff_eq, List.getD_cons_zero, List.getD_cons_succ, List.append_nil, List.cons_append, List.nil_append, List.map_cons, List.map_nil, AE.ev, addF, subF, absF, sizeF, cutF, holdF, diffF, clampM, W, WW, I64, U64, U32, U8, if_true, if_false, M, ne_eq, Bool.true_eq_false, Bool.false_eq_true, reduceCtorEq, not_false_eq_true, len1, len2, len3, len4, len5, len6] at *
  omega
theorem met112 : c112.met := met_of (l := []) trivial c112 (hint := noHint) (n := 1000) (by kernel_rfl) (by kernel_rfl) run112 fun xs hl hp => by
  have hl : xs.length = 2 := hl
  obtain ⟨a, l0, rfl, h0⟩ := consOf hl
  obtain ⟨b, l1, rfl, h1⟩ := consOf h0
  cases nilOf h1
  exact hold112 a b hp
def c113 : Con := ⟨113, ⟨[.cell (.int .i64), .cell (.int .i64)], [.cell (.int .i64)]⟩, fun | [a, b] => I64 a ∧ I64 b | _ => False, fun | [a, b], [r] => r = subF a b | _, _ => False⟩
theorem pre113 (a b : Int) : c113.pre [a, b] = (I64 a ∧ I64 b) := rfl
theorem post113 (a b r : Int) : c113.post [a, b] [r] = (r = subF a b) := rfl
def T113 : Tr (List AE) :=
 (.br (.or (.and (.lt (.var 0) (.lit 0)) (.lt (.var 1) (.lit 0))) (.and (.not (.lt (.var 0) (.lit 0))) (.not (.lt (.var 1) (.lit 0)))))
  (.ret [.num (.op .max .i64 (.op .sub .i64 (.var 0) (.var 1)) (.lit (-9223372036854775807)))])
  (.br (.lt (.var 0) (.lit 0))
   (.br (.lt (.var 1) (.lit 0))
    (.br (.lt (.op .add .u64 (.op .sub .u64 (.lit 0) (.wrap .u64 (.var 0))) (.op .sub .u64 (.lit 0) (.wrap .u64 (.var 1)))) (.op .sub .u64 (.lit 0) (.wrap .u64 (.var 0))))
     (.ret [.num (.lit (-9223372036854775807))])
     (.br (.lt (.lit 9223372036854775807) (.op .add .u64 (.op .sub .u64 (.lit 0) (.wrap .u64 (.var 0))) (.op .sub .u64 (.lit 0) (.wrap .u64 (.var 1)))))
      (.ret [.num (.lit (-9223372036854775807))])
      (.ret [.num (.op .sub .i64 (.lit 0) (.wrap .i64 (.op .add .u64 (.op .sub .u64 (.lit 0) (.wrap .u64 (.var 0))) (.op .sub .u64 (.lit 0) (.wrap .u64 (.var 1))))))])))
    (.br (.lt (.op .add .u64 (.op .sub .u64 (.lit 0) (.wrap .u64 (.var 0))) (.wrap .u64 (.var 1))) (.op .sub .u64 (.lit 0) (.wrap .u64 (.var 0))))
     (.ret [.num (.lit (-9223372036854775807))])
     (.br (.lt (.lit 9223372036854775807) (.op .add .u64 (.op .sub .u64 (.lit 0) (.wrap .u64 (.var 0))) (.wrap .u64 (.var 1))))
      (.ret [.num (.lit (-9223372036854775807))])
      (.ret [.num (.op .sub .i64 (.lit 0) (.wrap .i64 (.op .add .u64 (.op .sub .u64 (.lit 0) (.wrap .u64 (.var 0))) (.wrap .u64 (.var 1)))))]))))
   (.br (.lt (.var 1) (.lit 0))
    (.br (.lt (.op .add .u64 (.wrap .u64 (.var 0)) (.op .sub .u64 (.lit 0) (.wrap .u64 (.var 1)))) (.wrap .u64 (.var 0)))
     (.ret [.num (.lit 9223372036854775807)])
     (.br (.lt (.lit 9223372036854775807) (.op .add .u64 (.wrap .u64 (.var 0)) (.op .sub .u64 (.lit 0) (.wrap .u64 (.var 1)))))
      (.ret [.num (.lit 9223372036854775807)])
      (.ret [.num (.wrap .i64 (.op .add .u64 (.wrap .u64 (.var 0)) (.op .sub .u64 (.lit 0) (.wrap .u64 (.var 1)))))])))
    (.br (.lt (.op .add .u64 (.wrap .u64 (.var 0)) (.wrap .u64 (.var 1))) (.wrap .u64 (.var 0)))
     (.ret [.num (.lit 9223372036854775807)])
     (.br (.lt (.lit 9223372036854775807) (.op .add .u64 (.wrap .u64 (.var 0)) (.wrap .u64 (.var 1))))
      (.ret [.num (.lit 9223372036854775807)])
      (.ret [.num (.wrap .i64 (.op .add .u64 (.wrap .u64 (.var 0)) (.wrap .u64 (.var 1))))]))))))
theorem run113 : runRow (ctx [] noHint (roIn c113.row.args 0)) 1000 113 c113.row = T113 := by kernel_rfl
theorem hold113 (a b : Int) (h : I64 a ∧ I64 b) : T113.holds (specOf []) (fun σ _ es => c113.post [a, b] (es.map (·.ev σ))) (valOf c113.row [a, b]) (fun _ _ => False) := by
  simp only [T113, post113, beq_iff_eq, beq_eq_false_iff_ne, Tr.holds, BE.ev, IE.ev, F2.ev, valOf_ofL, push_ofL, ofL_v, wrap_i64, wrap_u64, wrap_u32, wrap_u8, decide_eq_true_eq, decide_eq_false_iff_not, Bool.and_eq_true, Bool.or_eq_true, Bool.not_eq_true', Bool.and_eq_false_iff, Bool.or_eq_false_iff, Bool.not_eq_false', Bool.not_eq_false, bne_iff_ne, bne_eq_false_iff_eq, List.getD_cons_zero, List.getD_cons_succ, List.append_nil, List.cons_append, List.nil_append, List.map_cons, List.map_nil, AE.ev, addF, subF, absF, sizeF, cutF, holdF, diffF, clampM, W, WW, I64, U64, U32, U8, if_true, if_false, M, ne_eq, Bool.true_eq_false, Bool.false_eq_true, reduceCtorEq, not_false_eq_true, len1, len2, len3, len4, len5, len6] at *
  omega
theorem met113 : c113.met := met_of (l := []) trivial c113 (hint := noHint) (n := 1000) (by kernel_rfl) (by kernel_rfl) run113 fun xs hl hp => by
  have hl : xs.length = 2 := hl
  obtain ⟨a, l0, rfl, h0⟩ := consOf hl
  obtain ⟨b, l1, rfl, h1⟩ := consOf h0
  cases nilOf h1
  exact hold113 a b hp
def c137 : Con := ⟨137, ⟨[.cell (.int .i64)], [.cell (.int .i64)]⟩, fun | [a] => I64 a | _ => False, fun | [a], [r] => r = absF a | _, _ => False⟩
theorem pre137 (a : Int) : c137.pre [a] = (I64 a) := rfl
theorem post137 (a r : Int) : c137.post [a] [r] = (r = absF a) := rfl
def T137 : Tr (List AE) :=
 (.br (.lt (.var 0) (.lit 0))
  (.ret [.num (.op .mul .i64 (.lit 1) (.wrap .i64 (.op .min .u64 (.op .sub .u64 (.lit 0) (.wrap .u64 (.var 0))) (.lit 9223372036854775807))))])
  (.ret [.num (.op .mul .i64 (.lit 1) (.wrap .i64 (.op .min .u64 (.wrap .u64 (.var 0)) (.lit 9223372036854775807))))]))
theorem run137 : runRow (ctx [] noHint (roIn c137.row.args 0)) 1000 137 c137.row = T137 := by kernel_rfl
theorem hold137 (a : Int) (h : I64 a) : T137.holds (specOf []) (fun σ _ es => c137.post [a] (es.map (·.ev σ))) (valOf c137.row [a]) (fun _ _ => False) := by
  simp only [T137, post137, beq_iff_eq, beq_eq_false_iff_ne, Tr.holds, BE.ev, IE.ev, F2.ev, valOf_ofL, push_ofL, ofL_v, wrap_i64, wrap_u64, wrap_u32, wrap_u8, decide_eq_true_eq, decide_eq_false_iff_not, Bool.and_eq_true, Bool.or_eq_true, Bool.not_eq_true', Bool.and_eq_false_iff, Bool.or_eq_false_iff, Bool.not_eq_false', Bool.not_eq_false, bne_iff_ne, bne_eq_false_iff_eq, List.getD_cons_zero, List.getD_cons_succ, List.append_nil, List.cons_append, List.nil_append, List.map_cons, List.map_nil, AE.ev, addF, subF, absF, sizeF, cutF, holdF, diffF, clampM, W, WW, I64, U64, U32, U8, if_true, if_false, M, ne_eq, Bool.true_eq_false, Bool.false_eq_true, reduceCtorEq, not_false_eq_true, len1, len2, len3, len4, len5, len6] at *
  omega
theorem met137 : c137.met := met_of (l := []) trivial c137 (hint := noHint) (n := 1000) (by kernel_rfl) (by kernel_rfl) run137 fun xs hl hp => by
  have hl : xs.length = 1 := hl
  obtain ⟨a, l0, rfl, h0⟩ := consOf hl
  cases nilOf h0
  exact hold137 a hp
def c138 : Con := ⟨138, ⟨[.cell (.int .i64)], [.cell (.int .i64)]⟩, fun | [a] => I64 a | _ => False, fun | [a], [r] => r = absF a | _, _ => False⟩
theorem pre138 (a : Int) : c138.pre [a] = (I64 a) := rfl
theorem post138 (a r : Int) : c138.post [a] [r] = (r = absF a) := rfl
def T138 : Tr (List AE) :=
 (.br (.lt (.var 0) (.lit 0))
  (.br (.lt (.lit 9223372036854775807) (.op .sub .u64 (.lit 0) (.wrap .u64 (.var 0))))
   (.ret [.num (.lit 9223372036854775807)])
   (.ret [.num (.wrap .i64 (.op .sub .u64 (.lit 0) (.wrap .u64 (.var 0))))]))
  (.br (.lt (.lit 9223372036854775807) (.wrap .u64 (.var 0)))
   (.ret [.num (.lit 9223372036854775807)])
   (.ret [.num (.wrap .i64 (.wrap .u64 (.var 0)))])))
theorem run138 : runRow (ctx [] noHint (roIn c138.row.args 0)) 1000 138 c138.row = T138 := by kernel_rfl
theorem hold138 (a : Int) (h : I64 a) : T138.holds (specOf []) (fun σ _ es => c138.post [a] (es.map (·.ev σ))) (valOf c138.row [a]) (fun _ _ => False) := by
  simp only [T138, post138, beq_iff_eq, beq_eq_false_iff_ne, Tr.holds, BE.ev, IE.ev, F2.ev, valOf_ofL, push_ofL, ofL_v, wrap_i64, wrap_u64, wrap_u32, wrap_u8, decide_eq_true_eq, decide_eq_false_iff_not, Bool.and_eq_true, Bool.or_eq_true, Bool.not_eq_true', Bool.and_eq_false_iff, Bool.or_eq_false_iff, Bool.not_eq_false', Bool.not_eq_false, bne_iff_ne, bne_eq_false_iff_eq, List.getD_cons_zero, List.getD_cons_succ, List.append_nil, List.cons_append, List.nil_append, List.map_cons, List.map_nil, AE.ev, addF, subF, absF, sizeF, cutF, holdF, diffF, clampM, W, WW, I64, U64, U32, U8, if_true, if_false, M, ne_eq, Bool.true_eq_false, Bool.false_eq_true, reduceCtorEq, not_false_eq_true, len1, len2, len3, len4, len5, len6] at *
  omega
theorem met138 : c138.met := met_of (l := []) trivial c138 (hint := noHint) (n := 1000) (by kernel_rfl) (by kernel_rfl) run138 fun xs hl hp => by
  have hl : xs.length = 1 := hl
  obtain ⟨a, l0, rfl, h0⟩ := consOf hl
  cases nilOf h0
  exact hold138 a hp
def c101 : Con := ⟨101, ⟨[.cell (.int .i64), .cell (.int .i64), .cell (.int .i64)], [.cell (.int .i64)]⟩, fun | [a, b, c] => I64 a ∧ I64 b ∧ I64 c | _ => False, fun | [a, b, c], [r] => r = holdF a b c | _, _ => False⟩
theorem pre101 (a b c : Int) : c101.pre [a, b, c] = (I64 a ∧ I64 b ∧ I64 c) := rfl
theorem post101 (a b c r : Int) : c101.post [a, b, c] [r] = (r = holdF a b c) := rfl
def T101 : Tr (List AE) :=
 (.br (.lt (.var 0) (.var 1))
  (.ret [.num (.op .max .i64 (.var 1) (.lit (-9223372036854775807)))])
  (.br (.lt (.var 2) (.var 0))
   (.ret [.num (.op .max .i64 (.var 2) (.lit (-9223372036854775807)))])
   (.ret [.num (.op .max .i64 (.var 0) (.lit (-9223372036854775807)))])))
theorem run101 : runRow (ctx [] noHint (roIn c101.row.args 0)) 1000 101 c101.row = T101 := by kernel_rfl
theorem hold101 (a b c : Int) (h : I64 a ∧ I64 b ∧ I64 c) : T101.holds (specOf []) (fun σ _ es => c101.post [a, b, c] (es.map (·.ev σ))) (valOf c101.row [a, b, c]) (fun _ _ => False) := by
  simp only [T101, post101, beq_iff_eq, beq_eq_false_iff_ne, Tr.holds, BE.ev, IE.ev, F2.ev, valOf_ofL, push_ofL, ofL_v, wrap_i64, wrap_u64, wrap_u32, wrap_u8, decide_eq_true_eq, decide_eq_false_iff_not, Bool.and_eq_true, Bool.or_eq_true, Bool.not_eq_true', Bool.and_eq_false_iff, Bool.or_eq_false_iff, Bool.not_eq_false', Bool.not_eq_false, bne_iff_ne, bne_eq_false_iff_eq, List.getD_cons_zero, List.getD_cons_succ, List.append_nil, List.cons_append, List.nil_append, List.map_cons, List.map_nil, AE.ev, addF, subF, absF, sizeF, cutF, holdF, diffF, clampM, W, WW, I64, U64, U32, U8, if_true, if_false, M, ne_eq, Bool.true_eq_false, Bool.false_eq_true, reduceCtorEq, not_false_eq_true, len1, len2, len3, len4, len5, len6] at *
  omega
theorem met101 : c101.met := met_of (l := []) trivial c101 (hint := noHint) (n := 1000) (by kernel_rfl) (by kernel_rfl) run101 fun xs hl hp => by
  have hl : xs.length = 3 := hl
  obtain ⟨a, l0, rfl, h0⟩ := consOf hl
  obtain ⟨b, l1, rfl, h1⟩ := consOf h0
  obtain ⟨c, l2, rfl, h2⟩ := consOf h1
  cases nilOf h2
  exact hold101 a b c hp
def c108 : Con := ⟨108, ⟨[.cell (.int .i64), .cell (.int .i64), .cell (.int .i64)], [.cell (.int .i64)]⟩, fun | [a, b, c] => I64 a ∧ I64 b ∧ I64 c | _ => False, fun | [a, b, c], [r] => r = holdF a b c | _, _ => False⟩
theorem pre108 (a b c : Int) : c108.pre [a, b, c] = (I64 a ∧ I64 b ∧ I64 c) := rfl
theorem post108 (a b c r : Int) : c108.post [a, b, c] [r] = (r = holdF a b c) := rfl
def T108 : Tr (List AE) :=
 (.br (.lt (.var 0) (.var 1))
  (.ret [.num (.op .max .i64 (.var 1) (.lit (-9223372036854775807)))])
  (.br (.lt (.var 2) (.var 0))
   (.ret [.num (.op .max .i64 (.var 2) (.lit (-9223372036854775807)))])
   (.ret [.num (.op .max .i64 (.var 0) (.lit (-9223372036854775807)))])))
theorem run108 : runRow (ctx [] noHint (roIn c108.row.args 0)) 1000 108 c108.row = T108 := by kernel_rfl
theorem hold108 (a b c : Int) (h : I64 a ∧ I64 b ∧ I64 c) : T108.holds (specOf []) (fun σ _ es => c108.post [a, b, c] (es.map (·.ev σ))) (valOf c108.row [a, b, c]) (fun _ _ => False) := by
  simp only [T108, post108, beq_iff_eq, beq_eq_false_iff_ne, Tr.holds, BE.ev, IE.ev, F2.ev, valOf_ofL, push_ofL, ofL_v, wrap_i64, wrap_u64, wrap_u32, wrap_u8, decide_eq_true_eq, decide_eq_false_iff_not, Bool.and_eq_true, Bool.or_eq_true, Bool.not_eq_true', Bool.and_eq_false_iff, Bool.or_eq_false_iff, Bool.not_eq_false', Bool.not_eq_false, bne_iff_ne, bne_eq_false_iff_eq, List.getD_cons_zero, List.getD_cons_succ, List.append_nil, List.cons_append, List.nil_append, List.map_cons, List.map_nil, AE.ev, addF, subF, absF, sizeF, cutF, holdF, diffF, clampM, W, WW, I64, U64, U32, U8, if_true, if_false, M, ne_eq, Bool.true_eq_false, Bool.false_eq_true, reduceCtorEq, not_false_eq_true, len1, len2, len3, len4, len5, len6] at *
  omega
theorem met108 : c108.met := met_of (l := []) trivial c108 (hint := noHint) (n := 1000) (by kernel_rfl) (by kernel_rfl) run108 fun xs hl hp => by
  have hl : xs.length = 3 := hl
  obtain ⟨a, l0, rfl, h0⟩ := consOf hl
  obtain ⟨b, l1, rfl, h1⟩ := consOf h0
  obtain ⟨c, l2, rfl, h2⟩ := consOf h1
  cases nilOf h2
  exact hold108 a b c hp
def c193 : Con := ⟨193, ⟨[.cell (.int .i64)], [.cell (.int .u64), .cell .bool]⟩, fun | [a] => I64 a | _ => False, fun | [a], [r, s] => r = sizeF a ∧ s = if a < 0 then 1 else 0 | _, _ => False⟩
theorem pre193 (a : Int) : c193.pre [a] = (I64 a) := rfl
theorem post193 (a r s : Int) : c193.post [a] [r, s] = (r = sizeF a ∧ s = if a < 0 then 1 else 0) := rfl
def T193 : Tr (List AE) :=
 (.br (.lt (.var 0) (.lit 0))
  (.ret [.num (.op .sub .u64 (.lit 0) (.wrap .u64 (.var 0))), .tru (.lit true)])
  (.ret [.num (.wrap .u64 (.var 0)), .tru (.lit false)]))
theorem run193 : runRow (ctx [] noHint (roIn c193.row.args 0)) 1000 193 c193.row = T193 := by kernel_rfl
theorem hold193 (a : Int) (h : I64 a) : T193.holds (specOf []) (fun σ _ es => c193.post [a] (es.map (·.ev σ))) (valOf c193.row [a]) (fun _ _ => False) := by
  simp only [T193, post193, beq_iff_eq, beq_eq_false_iff_ne, Tr.holds, BE.ev, IE.ev, F2.ev, valOf_ofL, push_ofL, ofL_v, wrap_i64, wrap_u64, wrap_u32, wrap_u8, decide_eq_true_eq, decide_eq_false_iff_not, Bool.and_eq_true, Bool.or_eq_true, Bool.not_eq_true', Bool.and_eq_false_iff, Bool.or_eq_false_iff, Bool.not_eq_false', Bool.not_eq_false, bne_iff_ne, bne_eq_false_iff_eq, List.getD_cons_zero, List.getD_cons_succ, List.append_nil, List.cons_append, List.nil_append, List.map_cons, List.map_nil, AE.ev, addF, subF, absF, sizeF, cutF, holdF, diffF, clampM, W, WW, I64, U64, U32, U8, if_true, if_false, M, ne_eq, Bool.true_eq_false, Bool.false_eq_true, reduceCtorEq, not_false_eq_true, len1, len2, len3, len4, len5, len6] at *
  omega
theorem met193 : c193.met := met_of (l := []) trivial c193 (hint := noHint) (n := 1000) (by kernel_rfl) (by kernel_rfl) run193 fun xs hl hp => by
  have hl : xs.length = 1 := hl
  obtain ⟨a, l0, rfl, h0⟩ := consOf hl
  cases nilOf h0
  exact hold193 a hp
def c197 : Con := ⟨197, ⟨[.cell (.int .i64)], [.cell (.int .u64)]⟩, fun | [a] => I64 a | _ => False, fun | [a], [r] => r = sizeF a | _, _ => False⟩
theorem pre197 (a : Int) : c197.pre [a] = (I64 a) := rfl
theorem post197 (a r : Int) : c197.post [a] [r] = (r = sizeF a) := rfl
def T197 : Tr (List AE) :=
 (.br (.lt (.var 0) (.lit 0))
  (.ret [.num (.op .sub .u64 (.lit 0) (.wrap .u64 (.var 0)))])
  (.ret [.num (.wrap .u64 (.var 0))]))
theorem run197 : runRow (ctx [] noHint (roIn c197.row.args 0)) 1000 197 c197.row = T197 := by kernel_rfl
theorem hold197 (a : Int) (h : I64 a) : T197.holds (specOf []) (fun σ _ es => c197.post [a] (es.map (·.ev σ))) (valOf c197.row [a]) (fun _ _ => False) := by
  simp only [T197, post197, beq_iff_eq, beq_eq_false_iff_ne, Tr.holds, BE.ev, IE.ev, F2.ev, valOf_ofL, push_ofL, ofL_v, wrap_i64, wrap_u64, wrap_u32, wrap_u8, decide_eq_true_eq, decide_eq_false_iff_not, Bool.and_eq_true, Bool.or_eq_true, Bool.not_eq_true', Bool.and_eq_false_iff, Bool.or_eq_false_iff, Bool.not_eq_false', Bool.not_eq_false, bne_iff_ne, bne_eq_false_iff_eq, List.getD_cons_zero, List.getD_cons_succ, List.append_nil, List.cons_append, List.nil_append, List.map_cons, List.map_nil, AE.ev, addF, subF, absF, sizeF, cutF, holdF, diffF, clampM, W, WW, I64, U64, U32, U8, if_true, if_false, M, ne_eq, Bool.true_eq_false, Bool.false_eq_true, reduceCtorEq, not_false_eq_true, len1, len2, len3, len4, len5, len6] at *
  omega
theorem met197 : c197.met := met_of (l := []) trivial c197 (hint := noHint) (n := 1000) (by kernel_rfl) (by kernel_rfl) run197 fun xs hl hp => by
  have hl : xs.length = 1 := hl
  obtain ⟨a, l0, rfl, h0⟩ := consOf hl
  cases nilOf h0
  exact hold197 a hp
def c195 : Con := ⟨195, ⟨[.cell (.int .u64), .cell (.int .u64), .cell .bool], [.cell (.int .i64)]⟩, fun | [n, q, s] => U64 n ∧ U64 q | _ => False, fun | [n, q, s], [r] => r = cutF (s ≠ 0) n (0 < q) | _, _ => False⟩
theorem pre195 (n q s : Int) : c195.pre [n, q, s] = (U64 n ∧ U64 q) := rfl
theorem post195 (n q s r : Int) : c195.post [n, q, s] [r] = (r = cutF (s ≠ 0) n (0 < q)) := rfl
def T195 : Tr (List AE) :=
 (.br (.nz (.var 2))
  (.br (.lt (.lit 0) (.var 1))
   (.br (.lt (.var 0) (.lit 9223372036854775807))
    (.ret [.num (.op .mul .i64 (.lit (-1)) (.wrap .i64 (.op .min .u64 (.op .add .u64 (.var 0) (.lit 1)) (.lit 9223372036854775807))))])
    (.ret [.num (.op .mul .i64 (.lit (-1)) (.wrap .i64 (.op .min .u64 (.var 0) (.lit 9223372036854775807))))]))
   (.ret [.num (.op .mul .i64 (.lit (-1)) (.wrap .i64 (.op .min .u64 (.var 0) (.lit 9223372036854775807))))]))
  (.ret [.num (.op .mul .i64 (.lit 1) (.wrap .i64 (.op .min .u64 (.var 0) (.lit 9223372036854775807))))]))
theorem run195 : runRow (ctx [] noHint (roIn c195.row.args 0)) 1000 195 c195.row = T195 := by kernel_rfl
theorem hold195 (n q s : Int) (h : U64 n ∧ U64 q) : T195.holds (specOf []) (fun σ _ es => c195.post [n, q, s] (es.map (·.ev σ))) (valOf c195.row [n, q, s]) (fun _ _ => False) := by
  simp only [T195, post195, beq_iff_eq, beq_eq_false_iff_ne, Tr.holds, BE.ev, IE.ev, F2.ev, valOf_ofL, push_ofL, ofL_v, wrap_i64, wrap_u64, wrap_u32, wrap_u8, decide_eq_true_eq, decide_eq_false_iff_not, Bool.and_eq_true, Bool.or_eq_true, Bool.not_eq_true', Bool.and_eq_false_iff, Bool.or_eq_false_iff, Bool.not_eq_false', Bool.not_eq_false, bne_iff_ne, bne_eq_false_iff_eq, List.getD_cons_zero, List.getD_cons_succ, List.append_nil, List.cons_append, List.nil_append, List.map_cons, List.map_nil, AE.ev, addF, subF, absF, sizeF, cutF, holdF, diffF, clampM, W, WW, I64, U64, U32, U8, if_true, if_false, M, ne_eq, Bool.true_eq_false, Bool.false_eq_true, reduceCtorEq, not_false_eq_true, len1, len2, len3, len4, len5, len6] at *
  omega
theorem met195 : c195.met := met_of (l := []) trivial c195 (hint := noHint) (n := 1000) (by kernel_rfl) (by kernel_rfl) run195 fun xs hl hp => by
  have hl : xs.length = 3 := hl
  obtain ⟨n, l0, rfl, h0⟩ := consOf hl
  obtain ⟨q, l1, rfl, h1⟩ := consOf h0
  obtain ⟨s, l2, rfl, h2⟩ := consOf h1
  cases nilOf h2
  exact hold195 n q s hp
def c198 : Con := ⟨198, ⟨[.cell .bool, .cell (.int .u64), .cell .bool], [.cell (.int .i64)]⟩, fun | [s, n, q] => U64 n | _ => False, fun | [s, n, q], [r] => r = cutF (s ≠ 0) n (q ≠ 0) | _, _ => False⟩
theorem pre198 (s n q : Int) : c198.pre [s, n, q] = (U64 n) := rfl
theorem post198 (s n q r : Int) : c198.post [s, n, q] [r] = (r = cutF (s ≠ 0) n (q ≠ 0)) := rfl
def T198 : Tr (List AE) :=
 (.br (.nz (.var 0))
  (.br (.nz (.var 2))
   (.br (.lt (.var 1) (.lit 9223372036854775808))
    (.br (.lt (.lit 9223372036854775807) (.op .add .u64 (.var 1) (.lit 1)))
     (.ret [.num (.lit (-9223372036854775807))])
     (.ret [.num (.op .sub .i64 (.lit 0) (.wrap .i64 (.op .add .u64 (.var 1) (.lit 1))))]))
    (.br (.lt (.lit 9223372036854775807) (.var 1))
     (.ret [.num (.lit (-9223372036854775807))])
     (.ret [.num (.op .sub .i64 (.lit 0) (.wrap .i64 (.var 1)))])))
   (.br (.lt (.lit 9223372036854775807) (.var 1))
    (.ret [.num (.lit (-9223372036854775807))])
    (.ret [.num (.op .sub .i64 (.lit 0) (.wrap .i64 (.var 1)))])))
  (.br (.lt (.lit 9223372036854775807) (.var 1))
   (.ret [.num (.lit 9223372036854775807)])
   (.ret [.num (.wrap .i64 (.var 1))])))
theorem run198 : runRow (ctx [] noHint (roIn c198.row.args 0)) 1000 198 c198.row = T198 := by kernel_rfl
theorem hold198 (s n q : Int) (h : U64 n) : T198.holds (specOf []) (fun σ _ es => c198.post [s, n, q] (es.map (·.ev σ))) (valOf c198.row [s, n, q]) (fun _ _ => False) := by
  simp only [T198, post198, beq_iff_eq, beq_eq_false_iff_ne, Tr.holds, BE.ev, IE.ev, F2.ev, valOf_ofL, push_ofL, ofL_v, wrap_i64, wrap_u64, wrap_u32, wrap_u8, decide_eq_true_eq, decide_eq_false_iff_not, Bool.and_eq_true, Bool.or_eq_true, Bool.not_eq_true', Bool.and_eq_false_iff, Bool.or_eq_false_iff, Bool.not_eq_false', Bool.not_eq_false, bne_iff_ne, bne_eq_false_iff_eq, List.getD_cons_zero, List.getD_cons_succ, List.append_nil, List.cons_append, List.nil_append, List.map_cons, List.map_nil, AE.ev, addF, subF, absF, sizeF, cutF, holdF, diffF, clampM, W, WW, I64, U64, U32, U8, if_true, if_false, M, ne_eq, Bool.true_eq_false, Bool.false_eq_true, reduceCtorEq, not_false_eq_true, len1, len2, len3, len4, len5, len6] at *
  omega
theorem met198 : c198.met := met_of (l := []) trivial c198 (hint := noHint) (n := 1000) (by kernel_rfl) (by kernel_rfl) run198 fun xs hl hp => by
  have hl : xs.length = 3 := hl
  obtain ⟨s, l0, rfl, h0⟩ := consOf hl
  obtain ⟨n, l1, rfl, h1⟩ := consOf h0
  obtain ⟨q, l2, rfl, h2⟩ := consOf h1
  cases nilOf h2
  exact hold198 s n q hp
def c209 : Con := ⟨209, ⟨[.cell (.int .u64), .cell (.int .u64)], [.cell (.int .i64)]⟩, fun | [a, b] => U64 a ∧ U64 b | _ => False, fun | [a, b], [r] => r = diffF a b | _, _ => False⟩
theorem pre209 (a b : Int) : c209.pre [a, b] = (U64 a ∧ U64 b) := rfl
theorem post209 (a b r : Int) : c209.post [a, b] [r] = (r = diffF a b) := rfl
def T209 : Tr (List AE) :=
 (.ret [.num (.op .max .i64 (.wrap .i64 (.op .sub .u64 (.var 0) (.var 1))) (.lit (-9223372036854775807)))])
theorem run209 : runRow (ctx [] noHint (roIn c209.row.args 0)) 1000 209 c209.row = T209 := by kernel_rfl
theorem hold209 (a b : Int) (h : U64 a ∧ U64 b) : T209.holds (specOf []) (fun σ _ es => c209.post [a, b] (es.map (·.ev σ))) (valOf c209.row [a, b]) (fun _ _ => False) := by
  simp only [T209, post209, beq_iff_eq, beq_eq_false_iff_ne, Tr.holds, BE.ev, IE.ev, F2.ev, valOf_ofL, push_ofL, ofL_v, wrap_i64, wrap_u64, wrap_u32, wrap_u8, decide_eq_true_eq, decide_eq_false_iff_not, Bool.and_eq_true, Bool.or_eq_true, Bool.not_eq_true', Bool.and_eq_false_iff, Bool.or_eq_false_iff, Bool.not_eq_false', Bool.not_eq_false, bne_iff_ne, bne_eq_false_iff_eq, List.getD_cons_zero, List.getD_cons_succ, List.append_nil, List.cons_append, List.nil_append, List.map_cons, List.map_nil, AE.ev, addF, subF, absF, sizeF, cutF, holdF, diffF, clampM, W, WW, I64, U64, U32, U8, if_true, if_false, M, ne_eq, Bool.true_eq_false, Bool.false_eq_true, reduceCtorEq, not_false_eq_true, len1, len2, len3, len4, len5, len6] at *
  omega
theorem met209 : c209.met := met_of (l := []) trivial c209 (hint := noHint) (n := 1000) (by kernel_rfl) (by kernel_rfl) run209 fun xs hl hp => by
  have hl : xs.length = 2 := hl
  obtain ⟨a, l0, rfl, h0⟩ := consOf hl
  obtain ⟨b, l1, rfl, h1⟩ := consOf h0
  cases nilOf h1
  exact hold209 a b hp
def c150 : Con := ⟨150, ⟨[.cell (.int .u64), .cell (.int .u64)], [.cell (.int .i64)]⟩, fun | [a, b] => U64 a ∧ U64 b | _ => False, fun | [a, b], [r] => r = diffF a b | _, _ => False⟩
theorem pre150 (a b : Int) : c150.pre [a, b] = (U64 a ∧ U64 b) := rfl
theorem post150 (a b r : Int) : c150.post [a, b] [r] = (r = diffF a b) := rfl
def T150 : Tr (List AE) :=
 (.br (.lt (.op .sub .u64 (.var 0) (.var 1)) (.lit 9223372036854775808))
  (.ret [.num (.wrap .i64 (.op .sub .u64 (.var 0) (.var 1)))])
  (.br (.lt (.lit 9223372036854775807) (.op .sub .u64 (.var 1) (.var 0)))
   (.ret [.num (.lit (-9223372036854775807))])
   (.ret [.num (.op .sub .i64 (.lit 0) (.wrap .i64 (.op .sub .u64 (.var 1) (.var 0))))])))
theorem run150 : runRow (ctx [] noHint (roIn c150.row.args 0)) 1000 150 c150.row = T150 := by kernel_rfl
theorem hold150 (a b : Int) (h : U64 a ∧ U64 b) : T150.holds (specOf []) (fun σ _ es => c150.post [a, b] (es.map (·.ev σ))) (valOf c150.row [a, b]) (fun _ _ => False) := by
  simp only [T150, post150, beq_iff_eq, beq_eq_false_iff_ne, Tr.holds, BE.ev, IE.ev, F2.ev, valOf_ofL, push_ofL, ofL_v, wrap_i64, wrap_u64, wrap_u32, wrap_u8, decide_eq_true_eq, decide_eq_false_iff_not, Bool.and_eq_true, Bool.or_eq_true, Bool.not_eq_true', Bool.and_eq_false_iff, Bool.or_eq_false_iff, Bool.not_eq_false', Bool.not_eq_false, bne_iff_ne, bne_eq_false_iff_eq, List.getD_cons_zero, List.getD_cons_succ, List.append_nil, List.cons_append, List.nil_append, List.map_cons, List.map_nil, AE.ev, addF, subF, absF, sizeF, cutF, holdF, diffF, clampM, W, WW, I64, U64, U32, U8, if_true, if_false, M, ne_eq, Bool.true_eq_false, Bool.false_eq_true, reduceCtorEq, not_false_eq_true, len1, len2, len3, len4, len5, len6] at *
  omega
theorem met150 : c150.met := met_of (l := []) trivial c150 (hint := noHint) (n := 1000) (by kernel_rfl) (by kernel_rfl) run150 fun xs hl hp => by
  have hl : xs.length = 2 := hl
  obtain ⟨a, l0, rfl, h0⟩ := consOf hl
  obtain ⟨b, l1, rfl, h1⟩ := consOf h0
  cases nilOf h1
  exact hold150 a b hp
def c223 : Con := ⟨223, ⟨[.cell (.int .u64), .cell (.int .u64), .cell (.int .u64), .cell (.int .u64)], [.cell .bool]⟩, fun | [a, b, c, d] => U64 a ∧ U64 b ∧ U64 c ∧ U64 d | _ => False, fun | [a, b, c, d], [r] => r = if W a b < W c d then 1 else 0 | _, _ => False⟩
theorem pre223 (a b c d : Int) : c223.pre [a, b, c, d] = (U64 a ∧ U64 b ∧ U64 c ∧ U64 d) := rfl
theorem post223 (a b c d r : Int) : c223.post [a, b, c, d] [r] = (r = if W a b < W c d then 1 else 0) := rfl
def T223 : Tr (List AE) :=
 (.br (.eq (.var 0) (.var 2))
  (.ret [.tru (.lt (.var 1) (.var 3))])
  (.ret [.tru (.lt (.var 0) (.var 2))]))
theorem run223 : runRow (ctx [] noHint (roIn c223.row.args 0)) 1000 223 c223.row = T223 := by kernel_rfl
theorem hold223 (a b c d : Int) (h : U64 a ∧ U64 b ∧ U64 c ∧ U64 d) : T223.holds (specOf []) (fun σ _ es => c223.post [a, b, c, d] (es.map (·.ev σ))) (valOf c223.row [a, b, c, d]) (fun _ _ => False) := by
  simp only [T223, post223, beq_iff_eq, beq_eq_false_iff_ne, Tr.holds, BE.ev, IE.ev, F2.ev, valOf_ofL, push_ofL, ofL_v, wrap_i64, wrap_u64, wrap_u32, wrap_u8, decide_eq_true_eq, decide_eq_false_iff_not, Bool.and_eq_true, Bool.or_eq_true, Bool.not_eq_true', Bool.and_eq_false_iff, Bool.or_eq_false_iff, Bool.not_eq_false', Bool.not_eq_false, bne_iff_ne, bne_eq_false_iff_eq, List.getD_cons_zero, List.getD_cons_succ, List.append_nil, List.cons_append, List.nil_append, List.map_cons, List.map_nil, AE.ev, addF, subF, absF, sizeF, cutF, holdF, diffF, clampM, W, WW, I64, U64, U32, U8, if_true, if_false, M, ne_eq, Bool.true_eq_false, Bool.false_eq_true, reduceCtorEq, not_false_eq_true, len1, len2, len3, len4, len5, len6] at *
  omega
theorem met223 : c223.met := met_of (l := []) trivial c223 (hint := noHint) (n := 1000) (by kernel_rfl) (by kernel_rfl) run223 fun xs hl hp => by
  have hl : xs.length = 4 := hl
  obtain ⟨a, l0, rfl, h0⟩ := consOf hl
  obtain ⟨b, l1, rfl, h1⟩ := consOf h0
  obtain ⟨c, l2, rfl, h2⟩ := consOf h1
  obtain ⟨d, l3, rfl, h3⟩ := consOf h2
  cases nilOf h3
  exact hold223 a b c d hp
def c225 : Con := ⟨225, ⟨[.cell (.int .u64), .cell (.int .u64), .cell (.int .u64), .cell (.int .u64)], [.cell .bool]⟩, fun | [a, b, c, d] => U64 a ∧ U64 b ∧ U64 c ∧ U64 d | _ => False, fun | [a, b, c, d], [r] => r = if W a b < W c d then 1 else 0 | _, _ => False⟩
theorem pre225 (a b c d : Int) : c225.pre [a, b, c, d] = (U64 a ∧ U64 b ∧ U64 c ∧ U64 d) := rfl
theorem post225 (a b c d r : Int) : c225.post [a, b, c, d] [r] = (r = if W a b < W c d then 1 else 0) := rfl
def T225 : Tr (List AE) :=
 (.br (.not (.lt (.var 0) (.var 2)))
  (.br (.eq (.var 0) (.var 2))
   (.ret [.tru (.lt (.var 1) (.var 3))])
   (.ret [.tru (.lit false)]))
  (.ret [.tru (.lit true)]))
theorem run225 : runRow (ctx [] noHint (roIn c225.row.args 0)) 1000 225 c225.row = T225 := by kernel_rfl
theorem hold225 (a b c d : Int) (h : U64 a ∧ U64 b ∧ U64 c ∧ U64 d) : T225.holds (specOf []) (fun σ _ es => c225.post [a, b, c, d] (es.map (·.ev σ))) (valOf c225.row [a, b, c, d]) (fun _ _ => False) := by
  simp only [T225, post225, beq_iff_eq, beq_eq_false_iff_ne, Tr.holds, BE.ev, IE.ev, F2.ev, valOf_ofL, push_ofL, ofL_v, wrap_i64, wrap_u64, wrap_u32, wrap_u8, decide_eq_true_eq, decide_eq_false_iff_not, Bool.and_eq_true, Bool.or_eq_true, Bool.not_eq_true', Bool.and_eq_false_iff, Bool.or_eq_false_iff, Bool.not_eq_false', Bool.not_eq_false, bne_iff_ne, bne_eq_false_iff_eq, List.getD_cons_zero, List.getD_cons_succ, List.append_nil, List.cons_append, List.nil_append, List.map_cons, List.map_nil, AE.ev, addF, subF, absF, sizeF, cutF, holdF, diffF, clampM, W, WW, I64, U64, U32, U8, if_true, if_false, M, ne_eq, Bool.true_eq_false, Bool.false_eq_true, reduceCtorEq, not_false_eq_true, len1, len2, len3, len4, len5, len6] at *
  omega
theorem met225 : c225.met := met_of (l := []) trivial c225 (hint := noHint) (n := 1000) (by kernel_rfl) (by kernel_rfl) run225 fun xs hl hp => by
  have hl : xs.length = 4 := hl
  obtain ⟨a, l0, rfl, h0⟩ := consOf hl
  obtain ⟨b, l1, rfl, h1⟩ := consOf h0
  obtain ⟨c, l2, rfl, h2⟩ := consOf h1
  obtain ⟨d, l3, rfl, h3⟩ := consOf h2
  cases nilOf h3
  exact hold225 a b c d hp
def c235 : Con := ⟨235, ⟨[.cell (.int .u64), .cell (.int .u64), .cell (.int .u64), .cell (.int .u64)], [.cell (.int .u64), .cell (.int .u64), .cell .bool]⟩, fun | [a, b, c, d] => U64 a ∧ U64 b ∧ U64 c ∧ U64 d | _ => False, fun | [a, b, c, d], [p, q, r] => U64 p ∧ U64 q ∧ W p q = (W a b + W c d) % WW ∧ r = if WW ≤ W a b + W c d then 1 else 0 | _, _ => False⟩
theorem pre235 (a b c d : Int) : c235.pre [a, b, c, d] = (U64 a ∧ U64 b ∧ U64 c ∧ U64 d) := rfl
theorem post235 (a b c d p q r : Int) : c235.post [a, b, c, d] [p, q, r] = (U64 p ∧ U64 q ∧ W p q = (W a b + W c d) % WW ∧ r = if WW ≤ W a b + W c d then 1 else 0) := rfl
def T235 : Tr (List AE) :=
 (.br (.lt (.op .add .u64 (.var 1) (.var 3)) (.var 1))
  (.br (.not (.lt (.op .add .u64 (.var 0) (.var 2)) (.var 0)))
   (.ret [.num (.op .add .u64 (.op .add .u64 (.var 0) (.var 2)) (.lit 1)), .num (.op .add .u64 (.var 1) (.var 3)), .tru (.eq (.op .add .u64 (.op .add .u64 (.var 0) (.var 2)) (.lit 1)) (.lit 0))])
   (.ret [.num (.op .add .u64 (.op .add .u64 (.var 0) (.var 2)) (.lit 1)), .num (.op .add .u64 (.var 1) (.var 3)), .tru (.lit true)]))
  (.ret [.num (.op .add .u64 (.var 0) (.var 2)), .num (.op .add .u64 (.var 1) (.var 3)), .tru (.lt (.op .add .u64 (.var 0) (.var 2)) (.var 0))]))
theorem run235 : runRow (ctx [] noHint (roIn c235.row.args 0)) 1000 235 c235.row = T235 := by kernel_rfl
theorem hold235 (a b c d : Int) (h : U64 a ∧ U64 b ∧ U64 c ∧ U64 d) : T235.holds (specOf []) (fun σ _ es => c235.post [a, b, c, d] (es.map (·.ev σ))) (valOf c235.row [a, b, c, d]) (fun _ _ => False) := by
  simp only [T235, post235, beq_iff_eq, beq_eq_false_iff_ne, Tr.holds, BE.ev, IE.ev, F2.ev, valOf_ofL, push_ofL, ofL_v, wrap_i64, wrap_u64, wrap_u32, wrap_u8, decide_eq_true_eq, decide_eq_false_iff_not, Bool.and_eq_true, Bool.or_eq_true, Bool.not_eq_true', Bool.and_eq_false_iff, Bool.or_eq_false_iff, Bool.not_eq_false', Bool.not_eq_false, bne_iff_ne, bne_eq_false_iff_eq, List.getD_cons_zero, List.getD_cons_succ, List.append_nil, List.cons_append, List.nil_append, List.map_cons, List.map_nil, AE.ev, addF, subF, absF, sizeF, cutF, holdF, diffF, clampM, W, WW, I64, U64, U32, U8, if_true, if_false, M, ne_eq, Bool.true_eq_false, Bool.false_eq_true, reduceCtorEq, not_false_eq_true, len1, len2, len3, len4, len5, len6] at *
  omega
theorem met235 : c235.met := met_of (l := []) trivial c235 (hint := noHint) (n := 1000) (by kernel_rfl) (by kernel_rfl) run235 fun xs hl hp => by
  have hl : xs.length = 4 := hl
  obtain ⟨a, l0, rfl, h0⟩ := consOf hl
  obtain ⟨b, l1, rfl, h1⟩ := consOf h0
  obtain ⟨c, l2, rfl, h2⟩ := consOf h1
  obtain ⟨d, l3, rfl, h3⟩ := consOf h2
  cases nilOf h3
  exact hold235 a b c d hp
def c221 : Con := ⟨221, ⟨[.cell (.int .u64), .cell (.int .u64), .cell (.int .u64), .cell (.int .u64)], [.cell (.int .u64), .cell (.int .u64), .cell .bool]⟩, fun | [a, b, c, d] => U64 a ∧ U64 b ∧ U64 c ∧ U64 d | _ => False, fun | [a, b, c, d], [p, q, r] => U64 p ∧ U64 q ∧ W p q = (W a b + W c d) % WW ∧ r = if WW ≤ W a b + W c d then 1 else 0 | _, _ => False⟩
theorem pre221 (a b c d : Int) : c221.pre [a, b, c, d] = (U64 a ∧ U64 b ∧ U64 c ∧ U64 d) := rfl
theorem post221 (a b c d p q r : Int) : c221.post [a, b, c, d] [p, q, r] = (U64 p ∧ U64 q ∧ W p q = (W a b + W c d) % WW ∧ r = if WW ≤ W a b + W c d then 1 else 0) := rfl
def T221 : Tr (List AE) :=
 (.br (.lt (.op .add .u64 (.var 1) (.var 3)) (.var 1))
  (.br (.not (.lt (.op .add .u64 (.var 0) (.var 2)) (.var 0)))
   (.ret [.num (.op .add .u64 (.op .add .u64 (.var 0) (.var 2)) (.lit 1)), .num (.op .add .u64 (.var 1) (.var 3)), .tru (.lt (.op .add .u64 (.op .add .u64 (.var 0) (.var 2)) (.lit 1)) (.op .add .u64 (.var 0) (.var 2)))])
   (.ret [.num (.op .add .u64 (.op .add .u64 (.var 0) (.var 2)) (.lit 1)), .num (.op .add .u64 (.var 1) (.var 3)), .tru (.lit true)]))
  (.br (.not (.lt (.op .add .u64 (.var 0) (.var 2)) (.var 0)))
   (.ret [.num (.op .add .u64 (.op .add .u64 (.var 0) (.var 2)) (.lit 0)), .num (.op .add .u64 (.var 1) (.var 3)), .tru (.lt (.op .add .u64 (.op .add .u64 (.var 0) (.var 2)) (.lit 0)) (.op .add .u64 (.var 0) (.var 2)))])
   (.ret [.num (.op .add .u64 (.op .add .u64 (.var 0) (.var 2)) (.lit 0)), .num (.op .add .u64 (.var 1) (.var 3)), .tru (.lit true)])))
theorem run221 : runRow (ctx [] noHint (roIn c221.row.args 0)) 1000 221 c221.row = T221 := by kernel_rfl
theorem hold221 (a b c d : Int) (h : U64 a ∧ U64 b ∧ U64 c ∧ U64 d) : T221.holds (specOf []) (fun σ _ es => c221.post [a, b, c, d] (es.map (·.ev σ))) (valOf c221.row [a, b, c, d]) (fun _ _ => False) := by
  simp only [T221, post221, beq_iff_eq, beq_eq_false_iff_ne, Tr.holds, BE.ev, IE.ev, F2.ev, valOf_ofL, push_ofL, ofL_v, wrap_i64, wrap_u64, wrap_u32, wrap_u8, decide_eq_true_eq, decide_eq_false_iff_not, Bool.and_eq_true, Bool.or_eq_true, Bool.not_eq_true', Bool.and_eq_false_iff, Bool.or_eq_false_iff, Bool.not_eq_false', Bool.not_eq_false, bne_iff_ne, bne_eq_false_iff_eq, List.getD_cons_zero, List.getD_cons_succ, List.append_nil, List.cons_append, List.nil_append, List.map_cons, List.map_nil, AE.ev, addF, subF, absF, sizeF, cutF, holdF, diffF, clampM, W, WW, I64, U64, U32, U8, if_true, if_false, M, ne_eq, Bool.true_eq_false, Bool.false_eq_true, reduceCtorEq, not_false_eq_true, len1, len2, len3, len4, len5, len6] at *
  omega
theorem met221 : c221.met := met_of (l := []) trivial c221 (hint := noHint) (n := 1000) (by kernel_rfl) (by kernel_rfl) run221 fun xs hl hp => by
  have hl : xs.length = 4 := hl
  obtain ⟨a, l0, rfl, h0⟩ := consOf hl
  obtain ⟨b, l1, rfl, h1⟩ := consOf h0
  obtain ⟨c, l2, rfl, h2⟩ := consOf h1
  obtain ⟨d, l3, rfl, h3⟩ := consOf h2
  cases nilOf h3
  exact hold221 a b c d hp
def c224 : Con := ⟨224, ⟨[.cell (.int .u64), .cell (.int .u64), .cell (.int .u64), .cell (.int .u64)], [.cell (.int .u64), .cell (.int .u64)]⟩, fun | [a, b, c, d] => U64 a ∧ U64 b ∧ U64 c ∧ U64 d ∧ W c d ≤ W a b | _ => False, fun | [a, b, c, d], [p, q] => U64 p ∧ U64 q ∧ W p q = W a b - W c d | _, _ => False⟩
theorem pre224 (a b c d : Int) : c224.pre [a, b, c, d] = (U64 a ∧ U64 b ∧ U64 c ∧ U64 d ∧ W c d ≤ W a b) := rfl
theorem post224 (a b c d p q : Int) : c224.post [a, b, c, d] [p, q] = (U64 p ∧ U64 q ∧ W p q = W a b - W c d) := rfl
def T224 : Tr (List AE) :=
 (.br (.lt (.var 1) (.var 3))
  (.ret [.num (.op .sub .u64 (.op .sub .u64 (.var 0) (.var 2)) (.lit 1)), .num (.op .sub .u64 (.var 1) (.var 3))])
  (.ret [.num (.op .sub .u64 (.var 0) (.var 2)), .num (.op .sub .u64 (.var 1) (.var 3))]))
theorem run224 : runRow (ctx [] noHint (roIn c224.row.args 0)) 1000 224 c224.row = T224 := by kernel_rfl
theorem hold224 (a b c d : Int) (h : U64 a ∧ U64 b ∧ U64 c ∧ U64 d ∧ W c d ≤ W a b) : T224.holds (specOf []) (fun σ _ es => c224.post [a, b, c, d] (es.map (·.ev σ))) (valOf c224.row [a, b, c, d]) (fun _ _ => False) := by
  simp only [T224, post224, beq_iff_eq, beq_eq_false_iff_ne, Tr.holds, BE.ev, IE.ev, F2.ev, valOf_ofL, push_ofL, ofL_v, wrap_i64, wrap_u64, wrap_u32, wrap_u8, decide_eq_true_eq, decide_eq_false_iff_not, Bool.and_eq_true, Bool.or_eq_true, Bool.not_eq_true', Bool.and_eq_false_iff, Bool.or_eq_false_iff, Bool.not_eq_false', Bool.not_eq_false, bne_iff_ne, bne_eq_false_iff_eq, List.getD_cons_zero, List.getD_cons_succ, List.append_nil, List.cons_append, List.nil_append, List.map_cons, List.map_nil, AE.ev, addF, subF, absF, sizeF, cutF, holdF, diffF, clampM, W, WW, I64, U64, U32, U8, if_true, if_false, M, ne_eq, Bool.true_eq_false, Bool.false_eq_true, reduceCtorEq, not_false_eq_true, len1, len2, len3, len4, len5, len6] at *
  omega
theorem met224 : c224.met := met_of (l := []) trivial c224 (hint := noHint) (n := 1000) (by kernel_rfl) (by kernel_rfl) run224 fun xs hl hp => by
  have hl : xs.length = 4 := hl
  obtain ⟨a, l0, rfl, h0⟩ := consOf hl
  obtain ⟨b, l1, rfl, h1⟩ := consOf h0
  obtain ⟨c, l2, rfl, h2⟩ := consOf h1
  obtain ⟨d, l3, rfl, h3⟩ := consOf h2
  cases nilOf h3
  exact hold224 a b c d hp
end Go.Proofs.Tx
