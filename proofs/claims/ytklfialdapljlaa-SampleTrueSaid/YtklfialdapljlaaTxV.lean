/- Spans of samples, and the law of their truth: their trees. -/
import Derived.Test.YtklfialdapljlaaTxN
import Derived.Test.YtklfialdapljlaaTxS13
import Derived.Test.YtklfialdapljlaaTxZ
namespace Go.Proofs.Tx
open Go Go.Proofs.Sx
set_option maxRecDepth 100000
set_option linter.unusedSimpArgs false
set_option linter.unusedVariables false
theorem i_0 : I64 0 := ⟨by decide, by decide⟩
theorem i_m1 : I64 (-1) := ⟨by decide, by decide⟩
theorem i_16 : I64 68719476736 := ⟨by decide, by decide⟩
theorem i_min2 {a b : Int} (h : I64 a) (k : I64 b) : I64 (min a b) := by simp only [I64] at *; omega
/-- a sample's span -/
def hereF (so st tot : Int) : Int := subF so (subF tot st)
def halfF (sd : Int) : Int := subF 0 (shiftF (subF 0 sd) (-1))
def ageF (phi sp sa a : Int) : Int := min 68719476736 (addF sp (mulF phi (max (subF a sa) 0)))
def c82 : Con := ⟨82, ⟨[.agg [.int .i64, .int .i64, .int .i64, .int .i64, .int .i64, .int .i64, .int .i64, .int .i64, .int .i64, .int .i64, .int .i64, .int .i64], .agg [.int .i64, .int .i64, .int .i64, .int .i64, .int .i64], .cell (.int .i64), .cell (.int .i64)], [.agg [.int .i64, .int .i64]]⟩, fun | [p0, p1, p2, p3, p4, p5, p6, p7, p8, p9, p10, p11, so, sd, sp, sa, st_, at_, tot] => I64 p4 ∧ I64 so ∧ I64 sd ∧ I64 sp ∧ I64 sa ∧ I64 st_ ∧ I64 at_ ∧ I64 tot | _ => False, fun | [p0, p1, p2, p3, p4, p5, p6, p7, p8, p9, p10, p11, so, sd, sp, sa, st_, at_, tot], [u, v] => u = subF (subF (hereF so st_ tot) (halfF sd)) (ageF p4 sp sa at_) ∧ v = addF (addF (hereF so st_ tot) (halfF sd)) (ageF p4 sp sa at_) | _, _ => False⟩
theorem pre82 (p0 p1 p2 p3 p4 p5 p6 p7 p8 p9 p10 p11 so sd sp sa st_ at_ tot : Int) : c82.pre [p0, p1, p2, p3, p4, p5, p6, p7, p8, p9, p10, p11, so, sd, sp, sa, st_, at_, tot] = (I64 p4 ∧ I64 so ∧ I64 sd ∧ I64 sp ∧ I64 sa ∧ I64 st_ ∧ I64 at_ ∧ I64 tot) := rfl
theorem post82 (p0 p1 p2 p3 p4 p5 p6 p7 p8 p9 p10 p11 so sd sp sa st_ at_ tot u v : Int) : c82.post [p0, p1, p2, p3, p4, p5, p6, p7, p8, p9, p10, p11, so, sd, sp, sa, st_, at_, tot] [u, v] = (u = subF (subF (hereF so st_ tot) (halfF sd)) (ageF p4 sp sa at_) ∧ v = addF (addF (hereF so st_ tot) (halfF sd)) (ageF p4 sp sa at_)) := rfl
def T82 : Tr (List AE) :=
 (.call 112 [.num (.lit 0), .num (.var 13)] 1
 (.call 133 [.num (.var 19), .num (.lit (-1))] 1
 (.call 112 [.num (.lit 0), .num (.var 20)] 1
 (.call 112 [.num (.var 18), .num (.var 16)] 1
 (.call 112 [.num (.var 12), .num (.var 22)] 1
 (.call 112 [.num (.var 17), .num (.var 15)] 1
 (.call 104 [.num (.var 4), .num (.op .max .i64 (.var 24) (.lit 0))] 1
 (.call 136 [.num (.var 14), .num (.var 25)] 1
 (.call 112 [.num (.var 23), .num (.var 21)] 1
 (.call 112 [.num (.var 27), .num (.op .min .i64 (.lit 68719476736) (.var 26))] 1
 (.call 136 [.num (.var 23), .num (.var 21)] 1
 (.call 136 [.num (.var 29), .num (.op .min .i64 (.lit 68719476736) (.var 26))] 1
 (.ret [.num (.var 28), .num (.var 30)])))))))))))))
theorem run82 : runRow (ctx [c112, c133, c104, c136] noHint (roIn c82.row.args 0)) 1000 82 c82.row = T82 := by kernel_rfl
theorem sp82_112 (xs : List Int) : (specOf [c112, c133, c104, c136]).pre 112 xs = c112.pre xs := rfl
theorem sq82_112 (xs ys : List Int) : (specOf [c112, c133, c104, c136]).post 112 xs ys = c112.post xs ys := rfl
theorem sp82_133 (xs : List Int) : (specOf [c112, c133, c104, c136]).pre 133 xs = c133.pre xs := rfl
theorem sq82_133 (xs ys : List Int) : (specOf [c112, c133, c104, c136]).post 133 xs ys = c133.post xs ys := rfl
theorem sp82_104 (xs : List Int) : (specOf [c112, c133, c104, c136]).pre 104 xs = c104.pre xs := rfl
theorem sq82_104 (xs ys : List Int) : (specOf [c112, c133, c104, c136]).post 104 xs ys = c104.post xs ys := rfl
theorem sp82_136 (xs : List Int) : (specOf [c112, c133, c104, c136]).pre 136 xs = c136.pre xs := rfl
theorem sq82_136 (xs ys : List Int) : (specOf [c112, c133, c104, c136]).post 136 xs ys = c136.post xs ys := rfl
theorem hold82 (p0 p1 p2 p3 p4 p5 p6 p7 p8 p9 p10 p11 so sd sp sa st_ at_ tot : Int) (h : I64 p4 ∧ I64 so ∧ I64 sd ∧ I64 sp ∧ I64 sa ∧ I64 st_ ∧ I64 at_ ∧ I64 tot) : T82.holds (specOf [c112, c133, c104, c136]) (fun σ _ es => c82.post [p0, p1, p2, p3, p4, p5, p6, p7, p8, p9, p10, p11, so, sd, sp, sa, st_, at_, tot] (es.map (·.ev σ))) (valOf c82.row [p0, p1, p2, p3, p4, p5, p6, p7, p8, p9, p10, p11, so, sd, sp, sa, st_, at_, tot]) (fun _ _ => False) := by
  obtain ⟨q0, q1, q2, q3, q4, q5, q6, q7⟩ := h
  simp only [T82, post82, sp82_112, sq82_112, sp82_133, sq82_133, sp82_104, sq82_104, sp82_136, sq82_136, pre112, post112, pre133, post133, pre104, post104, pre136, post136, Tr.holds, valOf_ofL, push_ofL, len1, len2, len6, List.cons_append, List.nil_append, List.append_nil, List.map_cons, List.map_nil, AE.ev, IE.ev, BE.ev, ofL_v, List.getD_cons_succ, List.getD_cons_zero, dec_lst, ev_max, ev_min, max_eq, min_eq, forall_eq, forall_eq_apply_imp_iff, and_imp, decide_eq_true_eq, decide_eq_false_iff_not, Bool.not_eq_true', Bool.not_eq_false', Bool.and_eq_true, Bool.or_eq_true, i_diff, i_sub, i_pow, i_mul, i_add, i_div, i_max, hereF, halfF, ageF, i_min2, i_16, i_0, i_m1, i_shift, and_true, true_and, and_self, List.singleton_append, beq_iff_eq, beq_eq_false_iff_ne, bne_iff_ne, bne_eq_false_iff_eq, ne_eq, Bool.and_eq_false_iff, Bool.or_eq_false_iff, Bool.not_eq_false, q0, q1, q2, q3, q4, q5, q6, q7]
theorem met82 : c82.met := met_of (l := [c112, c133, c104, c136]) ⟨met112, met133, met104, met136, trivial⟩ c82 (hint := noHint) (n := 1000) (by kernel_rfl) (by kernel_rfl) run82 fun xs hl hp => by
  have hl : xs.length = 19 := hl
  obtain ⟨p0, l_0, rfl, k_0⟩ := consOf hl
  obtain ⟨p1, l_1, rfl, k_1⟩ := consOf k_0
  obtain ⟨p2, l_2, rfl, k_2⟩ := consOf k_1
  obtain ⟨p3, l_3, rfl, k_3⟩ := consOf k_2
  obtain ⟨p4, l_4, rfl, k_4⟩ := consOf k_3
  obtain ⟨p5, l_5, rfl, k_5⟩ := consOf k_4
  obtain ⟨p6, l_6, rfl, k_6⟩ := consOf k_5
  obtain ⟨p7, l_7, rfl, k_7⟩ := consOf k_6
  obtain ⟨p8, l_8, rfl, k_8⟩ := consOf k_7
  obtain ⟨p9, l_9, rfl, k_9⟩ := consOf k_8
  obtain ⟨p10, l_10, rfl, k_10⟩ := consOf k_9
  obtain ⟨p11, l_11, rfl, k_11⟩ := consOf k_10
  obtain ⟨so, l_12, rfl, k_12⟩ := consOf k_11
  obtain ⟨sd, l_13, rfl, k_13⟩ := consOf k_12
  obtain ⟨sp, l_14, rfl, k_14⟩ := consOf k_13
  obtain ⟨sa, l_15, rfl, k_15⟩ := consOf k_14
  obtain ⟨st_, l_16, rfl, k_16⟩ := consOf k_15
  obtain ⟨at_, l_17, rfl, k_17⟩ := consOf k_16
  obtain ⟨tot, l_18, rfl, k_18⟩ := consOf k_17
  cases nilOf k_18
  exact hold82 p0 p1 p2 p3 p4 p5 p6 p7 p8 p9 p10 p11 so sd sp sa st_ at_ tot hp
def c19 : Con := ⟨19, ⟨[.cell (.int .u64), .cell (.int .i32), .cell (.int .u32), .cell (.int .u32), .cell (.int .u32), .cell (.int .i8)], [.cell .bool]⟩, fun xs => argsAre maxLen [.cell (.int .u64), .cell (.int .i32), .cell (.int .u32), .cell (.int .u32), .cell (.int .u32), .cell (.int .i8)] xs, fun _ rs => rs = [1]⟩
def T19 : Tr (List AE) :=
 (.call 81 [] 12
 (.call 78 [.num (.lit 536870912), .num (.lit 1288490188800), .num (.lit 4294967296000), .num (.lit 2147483), .num (.lit 64424), .num (.lit 6442450944), .num (.lit 17179869184), .num (.lit 6), .num (.lit 10), .num (.lit 0), .num (.lit 1), .num (.lit 3), .num (.op .sub .i64 (.op .rem .i64 (.wrap .i64 (.var 5)) (.lit 20)) (.lit 10)), .num (.lit 0), .num (.lit 0), .num (.lit 0), .num (.lit 0), .num (.lit 0), .num (.lit 0), .num (.lit 0), .num (.lit 0), .num (.lit 0), .num (.lit 0), .num (.var 0), .num (.op .add .u64 (.op .add .u64 (.var 0) (.wrap .u64 (.wrap .i64 (.var 1)))) (.wrap .u64 (.var 2))), .num (.op .add .u64 (.op .add .u64 (.op .add .u64 (.var 0) (.wrap .u64 (.wrap .i64 (.var 1)))) (.wrap .u64 (.var 2))) (.wrap .u64 (.var 4))), .num (.op .add .u64 (.op .sub .u64 (.op .add .u64 (.op .add .u64 (.op .add .u64 (.var 0) (.wrap .u64 (.wrap .i64 (.var 1)))) (.wrap .u64 (.var 2))) (.wrap .u64 (.var 4))) (.wrap .u64 (.wrap .i64 (.var 1)))) (.wrap .u64 (.var 3))), .num (.lit 5), .num (.lit 0)] 6
 (.br (.eq (.var 23) (.lit 0))
  (.call 81 [] 12
  (.call 78 [.num (.lit 536870912), .num (.lit 1288490188800), .num (.lit 4294967296000), .num (.lit 2147483), .num (.lit 64424), .num (.lit 6442450944), .num (.lit 17179869184), .num (.lit 6), .num (.lit 10), .num (.lit 0), .num (.lit 1), .num (.lit 3), .num (.lit (-20)), .num (.lit 0), .num (.lit 0), .num (.lit 0), .num (.lit 0), .num (.lit 0), .num (.lit 0), .num (.lit 0), .num (.lit 0), .num (.lit 0), .num (.lit 0), .num (.lit 0), .num (.lit 42949672960), .num (.lit 42949672960), .num (.lit 17179869184), .num (.lit 0), .num (.lit 0)] 6
  (.br (.eq (.var 41) (.lit 0))
   (.br (.eq (.var 36) (.lit 34359738368))
    (.br (.not (.eq (.var 37) (.lit 17179869184)))
     (.ret [.tru (.lit false)])
     (.br (.lt (.op .sub .i64 (.var 18) (.wrap .i64 (.var 1))) (.lit 0))
      (.call 81 [] 12
      (.call 82 [.num (.lit 536870912), .num (.lit 1288490188800), .num (.lit 4294967296000), .num (.lit 2147483), .num (.lit 64424), .num (.lit 6442450944), .num (.lit 17179869184), .num (.lit 6), .num (.lit 10), .num (.lit 0), .num (.lit 1), .num (.lit 3), .num (.var 18), .num (.var 19), .num (.var 20), .num (.var 21), .num (.var 22), .num (.lit 5), .num (.lit 0)] 2
      (.br (.le (.op .sub .i64 (.lit 0) (.op .sub .i64 (.var 18) (.wrap .i64 (.var 1)))) (.op .add .i64 (.op .quo .i64 (.var 19) (.lit 2)) (.lit 1)))
       (.br (.le (.op .add .i64 (.wrap .i64 (.var 2)) (.wrap .i64 (.var 3))) (.var 19))
        (.br (.le (.var 54) (.wrap .i64 (.var 1)))
         (.ret [.tru (.le (.wrap .i64 (.var 1)) (.var 55))])
         (.ret [.tru (.lit false)]))
        (.ret [.tru (.lit false)]))
       (.ret [.tru (.lit false)]))))
      (.call 81 [] 12
      (.call 82 [.num (.lit 536870912), .num (.lit 1288490188800), .num (.lit 4294967296000), .num (.lit 2147483), .num (.lit 64424), .num (.lit 6442450944), .num (.lit 17179869184), .num (.lit 6), .num (.lit 10), .num (.lit 0), .num (.lit 1), .num (.lit 3), .num (.var 18), .num (.var 19), .num (.var 20), .num (.var 21), .num (.var 22), .num (.lit 5), .num (.lit 0)] 2
      (.br (.le (.op .sub .i64 (.var 18) (.wrap .i64 (.var 1))) (.op .add .i64 (.op .quo .i64 (.var 19) (.lit 2)) (.lit 1)))
       (.br (.le (.op .add .i64 (.wrap .i64 (.var 2)) (.wrap .i64 (.var 3))) (.var 19))
        (.br (.le (.var 54) (.wrap .i64 (.var 1)))
         (.ret [.tru (.le (.wrap .i64 (.var 1)) (.var 55))])
         (.ret [.tru (.lit false)]))
        (.ret [.tru (.lit false)]))
       (.ret [.tru (.lit false)]))))))
    (.ret [.tru (.lit false)]))
   (.ret [.tru (.lit false)]))))
  (.ret [.tru (.lit false)]))))
theorem run19 : runRow (ctx [c81, c78, c82] noHint (roIn c19.row.args 0)) 1000 19 c19.row = T19 := by kernel_rfl
theorem sp19_81 (xs : List Int) : (specOf [c81, c78, c82]).pre 81 xs = c81.pre xs := rfl
theorem sq19_81 (xs ys : List Int) : (specOf [c81, c78, c82]).post 81 xs ys = c81.post xs ys := rfl
theorem sp19_78 (xs : List Int) : (specOf [c81, c78, c82]).pre 78 xs = c78.pre xs := rfl
theorem sq19_78 (xs ys : List Int) : (specOf [c81, c78, c82]).post 78 xs ys = c78.post xs ys := rfl
theorem sp19_82 (xs : List Int) : (specOf [c81, c78, c82]).pre 82 xs = c82.pre xs := rfl
theorem sq19_82 (xs ys : List Int) : (specOf [c81, c78, c82]).post 82 xs ys = c82.post xs ys := rfl
end Go.Proofs.Tx
