/- Servers: their trees. -/
import Derived.Test.YtklfialdapljlaaTxN
namespace Go.Proofs.Tx
open Go Go.Proofs.Sx
set_option maxRecDepth 100000
set_option linter.unusedSimpArgs false
set_option linter.unusedVariables false
theorem mul_comm' (a b : Int) : mulF a b = mulF b a := by
  simp only [mulF, Int.mul_comm (sizeF a)]
  exact cut_congr ⟨fun h h' => h h'.symm, fun h h' => h h'.symm⟩ (.inl rfl) (.inl Iff.rfl)
theorem i_0 : I64 0 := ⟨by decide, by decide⟩
theorem i_m1 : I64 (-1) := ⟨by decide, by decide⟩
theorem i_min : I64 21474836 := ⟨by decide, by decide⟩
/-- how far a server is -/
def distF (phi dl ds td tp tj ta a : Int) : Int := addF (addF (addF (addF (shiftF (max (addF dl td) 21474836) (-1)) ds) tp) (mulF (max (subF a ta) 0) phi)) tj
/-- whether a server is fit -/
def fitF (phi md lp st rf dl ds td tp tj ta rg own poll a : Int) : Int :=
  if lp = 3 ∨ st < 1 ∨ 15 < st then 123 else if addF md (mulF (shiftF 4294967296 poll) phi) ≤ distF phi dl ds td tp tj ta a then 124 else if rf = own ∧ 1 < st then 4 else if rg = 0 then 3 else 0
theorem i_dist (phi dl ds td tp tj ta a : Int) : I64 (distF phi dl ds td tp tj ta a) := i_add _ _
def timesF (m : Int) : Nat → Int
  | 0 => 0
  | k + 1 => addF (timesF m k) m
theorem i_times (m : Int) : ∀ k, I64 (timesF m k)
  | 0 => i_0
  | k + 1 => i_add _ _
/-- a server's metric -/
def metricF (phi md st dl ds td tp tj ta a : Int) : Int := addF (timesF md (min (max st 0) 16).toNat) (distF phi dl ds td tp tj ta a)
def c69 : Con := ⟨69, ⟨[.agg [.int .i64, .int .i64, .int .i64, .int .i64, .int .i64, .int .i64, .int .i64, .int .i64, .int .i64, .int .i64, .int .i64, .int .i64], .agg [.int .i64, .int .i64, .int .u32, .int .i64, .int .i64, .int .i64, .int .i64, .int .i64, .int .i64, .int .i64, .int .u8], .cell (.int .i64)], [.cell (.int .i64)]⟩, fun | [p0, p1, p2, p3, p4, p5, p6, p7, p8, p9, p10, p11, lp, st, rf, dl, ds, to_, td, tp, tj, ta, rg, at_] => I64 p4 ∧ I64 p5 ∧ I64 lp ∧ I64 st ∧ U32 rf ∧ I64 dl ∧ I64 ds ∧ I64 to_ ∧ I64 td ∧ I64 tp ∧ I64 tj ∧ I64 ta ∧ U8 rg ∧ I64 at_ | _ => False, fun | [p0, p1, p2, p3, p4, p5, p6, p7, p8, p9, p10, p11, lp, st, rf, dl, ds, to_, td, tp, tj, ta, rg, at_], [r] => r = distF p4 dl ds td tp tj ta at_ | _, _ => False⟩
theorem pre69 (p0 p1 p2 p3 p4 p5 p6 p7 p8 p9 p10 p11 lp st rf dl ds to_ td tp tj ta rg at_ : Int) : c69.pre [p0, p1, p2, p3, p4, p5, p6, p7, p8, p9, p10, p11, lp, st, rf, dl, ds, to_, td, tp, tj, ta, rg, at_] = (I64 p4 ∧ I64 p5 ∧ I64 lp ∧ I64 st ∧ U32 rf ∧ I64 dl ∧ I64 ds ∧ I64 to_ ∧ I64 td ∧ I64 tp ∧ I64 tj ∧ I64 ta ∧ U8 rg ∧ I64 at_) := rfl
theorem post69 (p0 p1 p2 p3 p4 p5 p6 p7 p8 p9 p10 p11 lp st rf dl ds to_ td tp tj ta rg at_ r : Int) : c69.post [p0, p1, p2, p3, p4, p5, p6, p7, p8, p9, p10, p11, lp, st, rf, dl, ds, to_, td, tp, tj, ta, rg, at_] [r] = (r = distF p4 dl ds td tp tj ta at_) := rfl
def T69 : Tr (List AE) :=
 (.call 136 [.num (.var 15), .num (.var 18)] 1
 (.call 112 [.num (.var 23), .num (.var 21)] 1
 (.call 133 [.num (.op .max .i64 (.var 24) (.lit 21474836)), .num (.lit (-1))] 1
 (.call 104 [.num (.op .max .i64 (.var 25) (.lit 0)), .num (.var 4)] 1
 (.call 136 [.num (.var 26), .num (.var 16)] 1
 (.call 136 [.num (.var 28), .num (.var 19)] 1
 (.call 136 [.num (.var 29), .num (.var 27)] 1
 (.call 136 [.num (.var 30), .num (.var 20)] 1
 (.ret [.num (.var 31)])))))))))
theorem run69 : runRow (ctx [c136, c112, c104, c133] noHint (roIn c69.row.args 0)) 1000 69 c69.row = T69 := by kernel_rfl
theorem sp69_136 (xs : List Int) : (specOf [c136, c112, c104, c133]).pre 136 xs = c136.pre xs := rfl
theorem sq69_136 (xs ys : List Int) : (specOf [c136, c112, c104, c133]).post 136 xs ys = c136.post xs ys := rfl
theorem sp69_112 (xs : List Int) : (specOf [c136, c112, c104, c133]).pre 112 xs = c112.pre xs := rfl
theorem sq69_112 (xs ys : List Int) : (specOf [c136, c112, c104, c133]).post 112 xs ys = c112.post xs ys := rfl
theorem sp69_104 (xs : List Int) : (specOf [c136, c112, c104, c133]).pre 104 xs = c104.pre xs := rfl
theorem sq69_104 (xs ys : List Int) : (specOf [c136, c112, c104, c133]).post 104 xs ys = c104.post xs ys := rfl
theorem sp69_133 (xs : List Int) : (specOf [c136, c112, c104, c133]).pre 133 xs = c133.pre xs := rfl
theorem sq69_133 (xs ys : List Int) : (specOf [c136, c112, c104, c133]).post 133 xs ys = c133.post xs ys := rfl
theorem hold69 (p0 p1 p2 p3 p4 p5 p6 p7 p8 p9 p10 p11 lp st rf dl ds to_ td tp tj ta rg at_ : Int) (h : I64 p4 ∧ I64 p5 ∧ I64 lp ∧ I64 st ∧ U32 rf ∧ I64 dl ∧ I64 ds ∧ I64 to_ ∧ I64 td ∧ I64 tp ∧ I64 tj ∧ I64 ta ∧ U8 rg ∧ I64 at_) : T69.holds (specOf [c136, c112, c104, c133]) (fun σ _ es => c69.post [p0, p1, p2, p3, p4, p5, p6, p7, p8, p9, p10, p11, lp, st, rf, dl, ds, to_, td, tp, tj, ta, rg, at_] (es.map (·.ev σ))) (valOf c69.row [p0, p1, p2, p3, p4, p5, p6, p7, p8, p9, p10, p11, lp, st, rf, dl, ds, to_, td, tp, tj, ta, rg, at_]) (fun _ _ => False) := by
  obtain ⟨q0, q1, q2, q3, q4, q5, q6, q7, q8, q9, q10, q11, q12, q13⟩ := h
  simp only [T69, post69, sp69_136, sq69_136, sp69_112, sq69_112, sp69_104, sq69_104, sp69_133, sq69_133, pre136, post136, pre112, post112, pre104, post104, pre133, post133, Tr.holds, valOf_ofL, push_ofL, len1, len2, len6, List.cons_append, List.nil_append, List.append_nil, List.map_cons, List.map_nil, AE.ev, IE.ev, BE.ev, ofL_v, List.getD_cons_succ, List.getD_cons_zero, dec_lst, ev_max, ev_min, max_eq, min_eq, forall_eq, forall_eq_apply_imp_iff, and_imp, decide_eq_true_eq, decide_eq_false_iff_not, Bool.not_eq_true', Bool.not_eq_false', Bool.and_eq_true, Bool.or_eq_true, i_diff, i_sub, i_pow, i_mul, i_add, i_div, i_max, i_dist, i_0, i_m1, i_min, i_shift, and_true, true_and, and_self, List.singleton_append, beq_iff_eq, beq_eq_false_iff_ne, bne_iff_ne, bne_eq_false_iff_eq, ne_eq, Bool.and_eq_false_iff, Bool.or_eq_false_iff, Bool.not_eq_false, q0, q1, q2, q3, q4, q5, q6, q7, q8, q9, q10, q11, q12, q13]
  rfl
theorem met69 : c69.met := met_of (l := [c136, c112, c104, c133]) ⟨met136, met112, met104, met133, trivial⟩ c69 (hint := noHint) (n := 1000) (by kernel_rfl) (by kernel_rfl) run69 fun xs hl hp => by
  have hl : xs.length = 24 := hl
  obtain ⟨p0, l_0, rfl, k_0⟩ := consOf hl
  obtain ⟨p1, l_1, rfl, k_1⟩ := consOf k_0
  obtain ⟨p2, l_2, rfl, k_2⟩ := consOf k_1
  obtain ⟨p3, l_3, rfl, k_3⟩ := consOf k_2
  obtain ⟨p4, l_4, rfl, k_4⟩ := consOf k_3
  obtain ⟨p5, l_5, rfl, k_5⟩ := consOf k_4
  obtain ⟨p6, l_6, rfl, k_6⟩ := consOf k_5
  obtain ⟨p7, l_7, rfl, k_7⟩ := consOf k_6
  obtain ⟨p8, l_8, rfl, k_8⟩ := consOf k_7
  obtain ⟨p9, l_9, rfl, k_9⟩ := consOf k_8
  obtain ⟨p10, l_10, rfl, k_10⟩ := consOf k_9
  obtain ⟨p11, l_11, rfl, k_11⟩ := consOf k_10
  obtain ⟨lp, l_12, rfl, k_12⟩ := consOf k_11
  obtain ⟨st, l_13, rfl, k_13⟩ := consOf k_12
  obtain ⟨rf, l_14, rfl, k_14⟩ := consOf k_13
  obtain ⟨dl, l_15, rfl, k_15⟩ := consOf k_14
  obtain ⟨ds, l_16, rfl, k_16⟩ := consOf k_15
  obtain ⟨to_, l_17, rfl, k_17⟩ := consOf k_16
  obtain ⟨td, l_18, rfl, k_18⟩ := consOf k_17
  obtain ⟨tp, l_19, rfl, k_19⟩ := consOf k_18
  obtain ⟨tj, l_20, rfl, k_20⟩ := consOf k_19
  obtain ⟨ta, l_21, rfl, k_21⟩ := consOf k_20
  obtain ⟨rg, l_22, rfl, k_22⟩ := consOf k_21
  obtain ⟨at_, l_23, rfl, k_23⟩ := consOf k_22
  cases nilOf k_23
  exact hold69 p0 p1 p2 p3 p4 p5 p6 p7 p8 p9 p10 p11 lp st rf dl ds to_ td tp tj ta rg at_ hp
def c70 : Con := ⟨70, ⟨[.agg [.int .i64, .int .i64, .int .i64, .int .i64, .int .i64, .int .i64, .int .i64, .int .i64, .int .i64, .int .i64, .int .i64, .int .i64], .agg [.int .i64, .int .i64, .int .u32, .int .i64, .int .i64, .int .i64, .int .i64, .int .i64, .int .i64, .int .i64, .int .u8], .cell (.int .i64)], [.cell (.int .i64)]⟩, fun | [p0, p1, p2, p3, p4, p5, p6, p7, p8, p9, p10, p11, lp, st, rf, dl, ds, to_, td, tp, tj, ta, rg, at_] => I64 p4 ∧ I64 p5 ∧ I64 lp ∧ I64 st ∧ U32 rf ∧ I64 dl ∧ I64 ds ∧ I64 to_ ∧ I64 td ∧ I64 tp ∧ I64 tj ∧ I64 ta ∧ U8 rg ∧ I64 at_ | _ => False, fun | [p0, p1, p2, p3, p4, p5, p6, p7, p8, p9, p10, p11, lp, st, rf, dl, ds, to_, td, tp, tj, ta, rg, at_], [r] => r = distF p4 dl ds td tp tj ta at_ | _, _ => False⟩
theorem pre70 (p0 p1 p2 p3 p4 p5 p6 p7 p8 p9 p10 p11 lp st rf dl ds to_ td tp tj ta rg at_ : Int) : c70.pre [p0, p1, p2, p3, p4, p5, p6, p7, p8, p9, p10, p11, lp, st, rf, dl, ds, to_, td, tp, tj, ta, rg, at_] = (I64 p4 ∧ I64 p5 ∧ I64 lp ∧ I64 st ∧ U32 rf ∧ I64 dl ∧ I64 ds ∧ I64 to_ ∧ I64 td ∧ I64 tp ∧ I64 tj ∧ I64 ta ∧ U8 rg ∧ I64 at_) := rfl
theorem post70 (p0 p1 p2 p3 p4 p5 p6 p7 p8 p9 p10 p11 lp st rf dl ds to_ td tp tj ta rg at_ r : Int) : c70.post [p0, p1, p2, p3, p4, p5, p6, p7, p8, p9, p10, p11, lp, st, rf, dl, ds, to_, td, tp, tj, ta, rg, at_] [r] = (r = distF p4 dl ds td tp tj ta at_) := rfl
def T70 : Tr (List AE) :=
 (.call 106 [.num (.var 15), .num (.var 18)] 1
 (.call 143 [.num (.op .max .i64 (.lit 21474836) (.var 24)), .num (.lit (-1))] 1
 (.call 106 [.num (.var 25), .num (.var 16)] 1
 (.call 106 [.num (.var 26), .num (.var 19)] 1
 (.call 113 [.num (.var 23), .num (.var 21)] 1
 (.call 107 [.num (.var 4), .num (.op .max .i64 (.lit 0) (.var 28))] 1
 (.call 106 [.num (.var 27), .num (.var 29)] 1
 (.call 106 [.num (.var 30), .num (.var 20)] 1
 (.ret [.num (.var 31)])))))))))
theorem run70 : runRow (ctx [c106, c113, c107, c143] noHint (roIn c70.row.args 0)) 1000 70 c70.row = T70 := by kernel_rfl
theorem sp70_106 (xs : List Int) : (specOf [c106, c113, c107, c143]).pre 106 xs = c106.pre xs := rfl
theorem sq70_106 (xs ys : List Int) : (specOf [c106, c113, c107, c143]).post 106 xs ys = c106.post xs ys := rfl
theorem sp70_113 (xs : List Int) : (specOf [c106, c113, c107, c143]).pre 113 xs = c113.pre xs := rfl
theorem sq70_113 (xs ys : List Int) : (specOf [c106, c113, c107, c143]).post 113 xs ys = c113.post xs ys := rfl
theorem sp70_107 (xs : List Int) : (specOf [c106, c113, c107, c143]).pre 107 xs = c107.pre xs := rfl
theorem sq70_107 (xs ys : List Int) : (specOf [c106, c113, c107, c143]).post 107 xs ys = c107.post xs ys := rfl
theorem sp70_143 (xs : List Int) : (specOf [c106, c113, c107, c143]).pre 143 xs = c143.pre xs := rfl
theorem sq70_143 (xs ys : List Int) : (specOf [c106, c113, c107, c143]).post 143 xs ys = c143.post xs ys := rfl
theorem hold70 (p0 p1 p2 p3 p4 p5 p6 p7 p8 p9 p10 p11 lp st rf dl ds to_ td tp tj ta rg at_ : Int) (h : I64 p4 ∧ I64 p5 ∧ I64 lp ∧ I64 st ∧ U32 rf ∧ I64 dl ∧ I64 ds ∧ I64 to_ ∧ I64 td ∧ I64 tp ∧ I64 tj ∧ I64 ta ∧ U8 rg ∧ I64 at_) : T70.holds (specOf [c106, c113, c107, c143]) (fun σ _ es => c70.post [p0, p1, p2, p3, p4, p5, p6, p7, p8, p9, p10, p11, lp, st, rf, dl, ds, to_, td, tp, tj, ta, rg, at_] (es.map (·.ev σ))) (valOf c70.row [p0, p1, p2, p3, p4, p5, p6, p7, p8, p9, p10, p11, lp, st, rf, dl, ds, to_, td, tp, tj, ta, rg, at_]) (fun _ _ => False) := by
  obtain ⟨q0, q1, q2, q3, q4, q5, q6, q7, q8, q9, q10, q11, q12, q13⟩ := h
  simp only [T70, post70, sp70_106, sq70_106, sp70_113, sq70_113, sp70_107, sq70_107, sp70_143, sq70_143, pre106, post106, pre113, post113, pre107, post107, pre143, post143, Tr.holds, valOf_ofL, push_ofL, len1, len2, len6, List.cons_append, List.nil_append, List.append_nil, List.map_cons, List.map_nil, AE.ev, IE.ev, BE.ev, ofL_v, List.getD_cons_succ, List.getD_cons_zero, dec_lst, ev_max, ev_min, max_eq, min_eq, forall_eq, forall_eq_apply_imp_iff, and_imp, decide_eq_true_eq, decide_eq_false_iff_not, Bool.not_eq_true', Bool.not_eq_false', Bool.and_eq_true, Bool.or_eq_true, i_diff, i_sub, i_pow, i_mul, i_add, i_div, i_max, i_dist, i_0, i_m1, i_min, i_shift, and_true, true_and, and_self, List.singleton_append, beq_iff_eq, beq_eq_false_iff_ne, bne_iff_ne, bne_eq_false_iff_eq, ne_eq, Bool.and_eq_false_iff, Bool.or_eq_false_iff, Bool.not_eq_false, q0, q1, q2, q3, q4, q5, q6, q7, q8, q9, q10, q11, q12, q13]
  rw [Int.max_comm 21474836, Int.max_comm 0, mul_comm' p4]
  rfl
theorem met70 : c70.met := met_of (l := [c106, c113, c107, c143]) ⟨met106, met113, met107, met143, trivial⟩ c70 (hint := noHint) (n := 1000) (by kernel_rfl) (by kernel_rfl) run70 fun xs hl hp => by
  have hl : xs.length = 24 := hl
  obtain ⟨p0, l_0, rfl, k_0⟩ := consOf hl
  obtain ⟨p1, l_1, rfl, k_1⟩ := consOf k_0
  obtain ⟨p2, l_2, rfl, k_2⟩ := consOf k_1
  obtain ⟨p3, l_3, rfl, k_3⟩ := consOf k_2
  obtain ⟨p4, l_4, rfl, k_4⟩ := consOf k_3
  obtain ⟨p5, l_5, rfl, k_5⟩ := consOf k_4
  obtain ⟨p6, l_6, rfl, k_6⟩ := consOf k_5
  obtain ⟨p7, l_7, rfl, k_7⟩ := consOf k_6
  obtain ⟨p8, l_8, rfl, k_8⟩ := consOf k_7
  obtain ⟨p9, l_9, rfl, k_9⟩ := consOf k_8
  obtain ⟨p10, l_10, rfl, k_10⟩ := consOf k_9
  obtain ⟨p11, l_11, rfl, k_11⟩ := consOf k_10
  obtain ⟨lp, l_12, rfl, k_12⟩ := consOf k_11
  obtain ⟨st, l_13, rfl, k_13⟩ := consOf k_12
  obtain ⟨rf, l_14, rfl, k_14⟩ := consOf k_13
  obtain ⟨dl, l_15, rfl, k_15⟩ := consOf k_14
  obtain ⟨ds, l_16, rfl, k_16⟩ := consOf k_15
  obtain ⟨to_, l_17, rfl, k_17⟩ := consOf k_16
  obtain ⟨td, l_18, rfl, k_18⟩ := consOf k_17
  obtain ⟨tp, l_19, rfl, k_19⟩ := consOf k_18
  obtain ⟨tj, l_20, rfl, k_20⟩ := consOf k_19
  obtain ⟨ta, l_21, rfl, k_21⟩ := consOf k_20
  obtain ⟨rg, l_22, rfl, k_22⟩ := consOf k_21
  obtain ⟨at_, l_23, rfl, k_23⟩ := consOf k_22
  cases nilOf k_23
  exact hold70 p0 p1 p2 p3 p4 p5 p6 p7 p8 p9 p10 p11 lp st rf dl ds to_ td tp tj ta rg at_ hp
def c71 : Con := ⟨71, ⟨[.agg [.int .i64, .int .i64, .int .i64, .int .i64, .int .i64, .int .i64, .int .i64, .int .i64, .int .i64, .int .i64, .int .i64, .int .i64], .agg [.int .i64, .int .i64, .int .u32, .int .i64, .int .i64, .int .i64, .int .i64, .int .i64, .int .i64, .int .i64, .int .u8], .cell (.int .i64)], [.agg [.int .i64, .int .i64]]⟩, fun | [p0, p1, p2, p3, p4, p5, p6, p7, p8, p9, p10, p11, lp, st, rf, dl, ds, to_, td, tp, tj, ta, rg, at_] => I64 p4 ∧ I64 p5 ∧ I64 lp ∧ I64 st ∧ U32 rf ∧ I64 dl ∧ I64 ds ∧ I64 to_ ∧ I64 td ∧ I64 tp ∧ I64 tj ∧ I64 ta ∧ U8 rg ∧ I64 at_ | _ => False, fun | [p0, p1, p2, p3, p4, p5, p6, p7, p8, p9, p10, p11, lp, st, rf, dl, ds, to_, td, tp, tj, ta, rg, at_], [u, v] => u = subF to_ (distF p4 dl ds td tp tj ta at_) ∧ v = addF to_ (distF p4 dl ds td tp tj ta at_) | _, _ => False⟩
theorem pre71 (p0 p1 p2 p3 p4 p5 p6 p7 p8 p9 p10 p11 lp st rf dl ds to_ td tp tj ta rg at_ : Int) : c71.pre [p0, p1, p2, p3, p4, p5, p6, p7, p8, p9, p10, p11, lp, st, rf, dl, ds, to_, td, tp, tj, ta, rg, at_] = (I64 p4 ∧ I64 p5 ∧ I64 lp ∧ I64 st ∧ U32 rf ∧ I64 dl ∧ I64 ds ∧ I64 to_ ∧ I64 td ∧ I64 tp ∧ I64 tj ∧ I64 ta ∧ U8 rg ∧ I64 at_) := rfl
theorem post71 (p0 p1 p2 p3 p4 p5 p6 p7 p8 p9 p10 p11 lp st rf dl ds to_ td tp tj ta rg at_ u v : Int) : c71.post [p0, p1, p2, p3, p4, p5, p6, p7, p8, p9, p10, p11, lp, st, rf, dl, ds, to_, td, tp, tj, ta, rg, at_] [u, v] = (u = subF to_ (distF p4 dl ds td tp tj ta at_) ∧ v = addF to_ (distF p4 dl ds td tp tj ta at_)) := rfl
def T71 : Tr (List AE) :=
 (.call 69 [.num (.var 0), .num (.var 1), .num (.var 2), .num (.var 3), .num (.var 4), .num (.var 5), .num (.var 6), .num (.var 7), .num (.var 8), .num (.var 9), .num (.var 10), .num (.var 11), .num (.var 12), .num (.var 13), .num (.var 14), .num (.var 15), .num (.var 16), .num (.var 17), .num (.var 18), .num (.var 19), .num (.var 20), .num (.var 21), .num (.var 22), .num (.var 23)] 1
 (.call 112 [.num (.var 17), .num (.var 24)] 1
 (.call 136 [.num (.var 17), .num (.var 24)] 1
 (.ret [.num (.var 25), .num (.var 26)]))))
theorem run71 : runRow (ctx [c69, c112, c136] noHint (roIn c71.row.args 0)) 1000 71 c71.row = T71 := by kernel_rfl
theorem sp71_69 (xs : List Int) : (specOf [c69, c112, c136]).pre 69 xs = c69.pre xs := rfl
theorem sq71_69 (xs ys : List Int) : (specOf [c69, c112, c136]).post 69 xs ys = c69.post xs ys := rfl
theorem sp71_112 (xs : List Int) : (specOf [c69, c112, c136]).pre 112 xs = c112.pre xs := rfl
theorem sq71_112 (xs ys : List Int) : (specOf [c69, c112, c136]).post 112 xs ys = c112.post xs ys := rfl
theorem sp71_136 (xs : List Int) : (specOf [c69, c112, c136]).pre 136 xs = c136.pre xs := rfl
theorem sq71_136 (xs ys : List Int) : (specOf [c69, c112, c136]).post 136 xs ys = c136.post xs ys := rfl
theorem hold71 (p0 p1 p2 p3 p4 p5 p6 p7 p8 p9 p10 p11 lp st rf dl ds to_ td tp tj ta rg at_ : Int) (h : I64 p4 ∧ I64 p5 ∧ I64 lp ∧ I64 st ∧ U32 rf ∧ I64 dl ∧ I64 ds ∧ I64 to_ ∧ I64 td ∧ I64 tp ∧ I64 tj ∧ I64 ta ∧ U8 rg ∧ I64 at_) : T71.holds (specOf [c69, c112, c136]) (fun σ _ es => c71.post [p0, p1, p2, p3, p4, p5, p6, p7, p8, p9, p10, p11, lp, st, rf, dl, ds, to_, td, tp, tj, ta, rg, at_] (es.map (·.ev σ))) (valOf c71.row [p0, p1, p2, p3, p4, p5, p6, p7, p8, p9, p10, p11, lp, st, rf, dl, ds, to_, td, tp, tj, ta, rg, at_]) (fun _ _ => False) := by
  obtain ⟨q0, q1, q2, q3, q4, q5, q6, q7, q8, q9, q10, q11, q12, q13⟩ := h
  simp only [T71, post71, sp71_69, sq71_69, sp71_112, sq71_112, sp71_136, sq71_136, pre69, post69, pre112, post112, pre136, post136, Tr.holds, valOf_ofL, push_ofL, len1, len2, len6, List.cons_append, List.nil_append, List.append_nil, List.map_cons, List.map_nil, AE.ev, IE.ev, BE.ev, ofL_v, List.getD_cons_succ, List.getD_cons_zero, dec_lst, ev_max, ev_min, max_eq, min_eq, forall_eq, forall_eq_apply_imp_iff, and_imp, decide_eq_true_eq, decide_eq_false_iff_not, Bool.not_eq_true', Bool.not_eq_false', Bool.and_eq_true, Bool.or_eq_true, i_diff, i_sub, i_pow, i_mul, i_add, i_div, i_max, i_dist, i_0, i_m1, i_min, i_shift, and_true, true_and, and_self, List.singleton_append, beq_iff_eq, beq_eq_false_iff_ne, bne_iff_ne, bne_eq_false_iff_eq, ne_eq, Bool.and_eq_false_iff, Bool.or_eq_false_iff, Bool.not_eq_false, q0, q1, q2, q3, q4, q5, q6, q7, q8, q9, q10, q11, q12, q13]
theorem met71 : c71.met := met_of (l := [c69, c112, c136]) ⟨met69, met112, met136, trivial⟩ c71 (hint := noHint) (n := 1000) (by kernel_rfl) (by kernel_rfl) run71 fun xs hl hp => by
  have hl : xs.length = 24 := hl
  obtain ⟨p0, l_0, rfl, k_0⟩ := consOf hl
  obtain ⟨p1, l_1, rfl, k_1⟩ := consOf k_0
  obtain ⟨p2, l_2, rfl, k_2⟩ := consOf k_1
  obtain ⟨p3, l_3, rfl, k_3⟩ := consOf k_2
  obtain ⟨p4, l_4, rfl, k_4⟩ := consOf k_3
  obtain ⟨p5, l_5, rfl, k_5⟩ := consOf k_4
  obtain ⟨p6, l_6, rfl, k_6⟩ := consOf k_5
  obtain ⟨p7, l_7, rfl, k_7⟩ := consOf k_6
  obtain ⟨p8, l_8, rfl, k_8⟩ := consOf k_7
  obtain ⟨p9, l_9, rfl, k_9⟩ := consOf k_8
  obtain ⟨p10, l_10, rfl, k_10⟩ := consOf k_9
  obtain ⟨p11, l_11, rfl, k_11⟩ := consOf k_10
  obtain ⟨lp, l_12, rfl, k_12⟩ := consOf k_11
  obtain ⟨st, l_13, rfl, k_13⟩ := consOf k_12
  obtain ⟨rf, l_14, rfl, k_14⟩ := consOf k_13
  obtain ⟨dl, l_15, rfl, k_15⟩ := consOf k_14
  obtain ⟨ds, l_16, rfl, k_16⟩ := consOf k_15
  obtain ⟨to_, l_17, rfl, k_17⟩ := consOf k_16
  obtain ⟨td, l_18, rfl, k_18⟩ := consOf k_17
  obtain ⟨tp, l_19, rfl, k_19⟩ := consOf k_18
  obtain ⟨tj, l_20, rfl, k_20⟩ := consOf k_19
  obtain ⟨ta, l_21, rfl, k_21⟩ := consOf k_20
  obtain ⟨rg, l_22, rfl, k_22⟩ := consOf k_21
  obtain ⟨at_, l_23, rfl, k_23⟩ := consOf k_22
  cases nilOf k_23
  exact hold71 p0 p1 p2 p3 p4 p5 p6 p7 p8 p9 p10 p11 lp st rf dl ds to_ td tp tj ta rg at_ hp
def c72 : Con := ⟨72, ⟨[.agg [.int .i64, .int .i64, .int .i64, .int .i64, .int .i64, .int .i64, .int .i64, .int .i64, .int .i64, .int .i64, .int .i64, .int .i64], .agg [.int .i64, .int .i64, .int .u32, .int .i64, .int .i64, .int .i64, .int .i64, .int .i64, .int .i64, .int .i64, .int .u8], .cell (.int .i64)], [.agg [.int .i64, .int .i64]]⟩, fun | [p0, p1, p2, p3, p4, p5, p6, p7, p8, p9, p10, p11, lp, st, rf, dl, ds, to_, td, tp, tj, ta, rg, at_] => I64 p4 ∧ I64 p5 ∧ I64 lp ∧ I64 st ∧ U32 rf ∧ I64 dl ∧ I64 ds ∧ I64 to_ ∧ I64 td ∧ I64 tp ∧ I64 tj ∧ I64 ta ∧ U8 rg ∧ I64 at_ | _ => False, fun | [p0, p1, p2, p3, p4, p5, p6, p7, p8, p9, p10, p11, lp, st, rf, dl, ds, to_, td, tp, tj, ta, rg, at_], [u, v] => u = subF to_ (distF p4 dl ds td tp tj ta at_) ∧ v = addF to_ (distF p4 dl ds td tp tj ta at_) | _, _ => False⟩
theorem pre72 (p0 p1 p2 p3 p4 p5 p6 p7 p8 p9 p10 p11 lp st rf dl ds to_ td tp tj ta rg at_ : Int) : c72.pre [p0, p1, p2, p3, p4, p5, p6, p7, p8, p9, p10, p11, lp, st, rf, dl, ds, to_, td, tp, tj, ta, rg, at_] = (I64 p4 ∧ I64 p5 ∧ I64 lp ∧ I64 st ∧ U32 rf ∧ I64 dl ∧ I64 ds ∧ I64 to_ ∧ I64 td ∧ I64 tp ∧ I64 tj ∧ I64 ta ∧ U8 rg ∧ I64 at_) := rfl
theorem post72 (p0 p1 p2 p3 p4 p5 p6 p7 p8 p9 p10 p11 lp st rf dl ds to_ td tp tj ta rg at_ u v : Int) : c72.post [p0, p1, p2, p3, p4, p5, p6, p7, p8, p9, p10, p11, lp, st, rf, dl, ds, to_, td, tp, tj, ta, rg, at_] [u, v] = (u = subF to_ (distF p4 dl ds td tp tj ta at_) ∧ v = addF to_ (distF p4 dl ds td tp tj ta at_)) := rfl
def T72 : Tr (List AE) :=
 (.call 70 [.num (.var 0), .num (.var 1), .num (.var 2), .num (.var 3), .num (.var 4), .num (.var 5), .num (.var 6), .num (.var 7), .num (.var 8), .num (.var 9), .num (.var 10), .num (.var 11), .num (.var 12), .num (.var 13), .num (.var 14), .num (.var 15), .num (.var 16), .num (.var 17), .num (.var 18), .num (.var 19), .num (.var 20), .num (.var 21), .num (.var 22), .num (.var 23)] 1
 (.call 113 [.num (.var 17), .num (.var 24)] 1
 (.call 106 [.num (.var 17), .num (.var 24)] 1
 (.ret [.num (.var 25), .num (.var 26)]))))
theorem run72 : runRow (ctx [c70, c113, c106] noHint (roIn c72.row.args 0)) 1000 72 c72.row = T72 := by kernel_rfl
theorem sp72_70 (xs : List Int) : (specOf [c70, c113, c106]).pre 70 xs = c70.pre xs := rfl
theorem sq72_70 (xs ys : List Int) : (specOf [c70, c113, c106]).post 70 xs ys = c70.post xs ys := rfl
theorem sp72_113 (xs : List Int) : (specOf [c70, c113, c106]).pre 113 xs = c113.pre xs := rfl
theorem sq72_113 (xs ys : List Int) : (specOf [c70, c113, c106]).post 113 xs ys = c113.post xs ys := rfl
theorem sp72_106 (xs : List Int) : (specOf [c70, c113, c106]).pre 106 xs = c106.pre xs := rfl
theorem sq72_106 (xs ys : List Int) : (specOf [c70, c113, c106]).post 106 xs ys = c106.post xs ys := rfl
theorem hold72 (p0 p1 p2 p3 p4 p5 p6 p7 p8 p9 p10 p11 lp st rf dl ds to_ td tp tj ta rg at_ : Int) (h : I64 p4 ∧ I64 p5 ∧ I64 lp ∧ I64 st ∧ U32 rf ∧ I64 dl ∧ I64 ds ∧ I64 to_ ∧ I64 td ∧ I64 tp ∧ I64 tj ∧ I64 ta ∧ U8 rg ∧ I64 at_) : T72.holds (specOf [c70, c113, c106]) (fun σ _ es => c72.post [p0, p1, p2, p3, p4, p5, p6, p7, p8, p9, p10, p11, lp, st, rf, dl, ds, to_, td, tp, tj, ta, rg, at_] (es.map (·.ev σ))) (valOf c72.row [p0, p1, p2, p3, p4, p5, p6, p7, p8, p9, p10, p11, lp, st, rf, dl, ds, to_, td, tp, tj, ta, rg, at_]) (fun _ _ => False) := by
  obtain ⟨q0, q1, q2, q3, q4, q5, q6, q7, q8, q9, q10, q11, q12, q13⟩ := h
  simp only [T72, post72, sp72_70, sq72_70, sp72_113, sq72_113, sp72_106, sq72_106, pre70, post70, pre113, post113, pre106, post106, Tr.holds, valOf_ofL, push_ofL, len1, len2, len6, List.cons_append, List.nil_append, List.append_nil, List.map_cons, List.map_nil, AE.ev, IE.ev, BE.ev, ofL_v, List.getD_cons_succ, List.getD_cons_zero, dec_lst, ev_max, ev_min, max_eq, min_eq, forall_eq, forall_eq_apply_imp_iff, and_imp, decide_eq_true_eq, decide_eq_false_iff_not, Bool.not_eq_true', Bool.not_eq_false', Bool.and_eq_true, Bool.or_eq_true, i_diff, i_sub, i_pow, i_mul, i_add, i_div, i_max, i_dist, i_0, i_m1, i_min, i_shift, and_true, true_and, and_self, List.singleton_append, beq_iff_eq, beq_eq_false_iff_ne, bne_iff_ne, bne_eq_false_iff_eq, ne_eq, Bool.and_eq_false_iff, Bool.or_eq_false_iff, Bool.not_eq_false, q0, q1, q2, q3, q4, q5, q6, q7, q8, q9, q10, q11, q12, q13]
theorem met72 : c72.met := met_of (l := [c70, c113, c106]) ⟨met70, met113, met106, trivial⟩ c72 (hint := noHint) (n := 1000) (by kernel_rfl) (by kernel_rfl) run72 fun xs hl hp => by
  have hl : xs.length = 24 := hl
  obtain ⟨p0, l_0, rfl, k_0⟩ := consOf hl
  obtain ⟨p1, l_1, rfl, k_1⟩ := consOf k_0
  obtain ⟨p2, l_2, rfl, k_2⟩ := consOf k_1
  obtain ⟨p3, l_3, rfl, k_3⟩ := consOf k_2
  obtain ⟨p4, l_4, rfl, k_4⟩ := consOf k_3
  obtain ⟨p5, l_5, rfl, k_5⟩ := consOf k_4
  obtain ⟨p6, l_6, rfl, k_6⟩ := consOf k_5
  obtain ⟨p7, l_7, rfl, k_7⟩ := consOf k_6
  obtain ⟨p8, l_8, rfl, k_8⟩ := consOf k_7
  obtain ⟨p9, l_9, rfl, k_9⟩ := consOf k_8
  obtain ⟨p10, l_10, rfl, k_10⟩ := consOf k_9
  obtain ⟨p11, l_11, rfl, k_11⟩ := consOf k_10
  obtain ⟨lp, l_12, rfl, k_12⟩ := consOf k_11
  obtain ⟨st, l_13, rfl, k_13⟩ := consOf k_12
  obtain ⟨rf, l_14, rfl, k_14⟩ := consOf k_13
  obtain ⟨dl, l_15, rfl, k_15⟩ := consOf k_14
  obtain ⟨ds, l_16, rfl, k_16⟩ := consOf k_15
  obtain ⟨to_, l_17, rfl, k_17⟩ := consOf k_16
  obtain ⟨td, l_18, rfl, k_18⟩ := consOf k_17
  obtain ⟨tp, l_19, rfl, k_19⟩ := consOf k_18
  obtain ⟨tj, l_20, rfl, k_20⟩ := consOf k_19
  obtain ⟨ta, l_21, rfl, k_21⟩ := consOf k_20
  obtain ⟨rg, l_22, rfl, k_22⟩ := consOf k_21
  obtain ⟨at_, l_23, rfl, k_23⟩ := consOf k_22
  cases nilOf k_23
  exact hold72 p0 p1 p2 p3 p4 p5 p6 p7 p8 p9 p10 p11 lp st rf dl ds to_ td tp tj ta rg at_ hp
def c73 : Con := ⟨73, ⟨[.agg [.int .i64, .int .i64, .int .i64, .int .i64, .int .i64, .int .i64, .int .i64, .int .i64, .int .i64, .int .i64, .int .i64, .int .i64], .agg [.int .i64, .int .i64, .int .u32, .int .i64, .int .i64, .int .i64, .int .i64, .int .i64, .int .i64, .int .i64, .int .u8], .cell (.int .u32), .cell (.int .i64), .cell (.int .i64)], [.cell (.int .i64)]⟩, fun | [p0, p1, p2, p3, p4, p5, p6, p7, p8, p9, p10, p11, lp, st, rf, dl, ds, to_, td, tp, tj, ta, rg, own, poll, at_] => I64 p4 ∧ I64 p5 ∧ I64 lp ∧ I64 st ∧ U32 rf ∧ I64 dl ∧ I64 ds ∧ I64 to_ ∧ I64 td ∧ I64 tp ∧ I64 tj ∧ I64 ta ∧ U8 rg ∧ I64 at_ ∧ U32 own ∧ I64 poll | _ => False, fun | [p0, p1, p2, p3, p4, p5, p6, p7, p8, p9, p10, p11, lp, st, rf, dl, ds, to_, td, tp, tj, ta, rg, own, poll, at_], [r] => r = fitF p4 p5 lp st rf dl ds td tp tj ta rg own poll at_ | _, _ => False⟩
theorem pre73 (p0 p1 p2 p3 p4 p5 p6 p7 p8 p9 p10 p11 lp st rf dl ds to_ td tp tj ta rg own poll at_ : Int) : c73.pre [p0, p1, p2, p3, p4, p5, p6, p7, p8, p9, p10, p11, lp, st, rf, dl, ds, to_, td, tp, tj, ta, rg, own, poll, at_] = (I64 p4 ∧ I64 p5 ∧ I64 lp ∧ I64 st ∧ U32 rf ∧ I64 dl ∧ I64 ds ∧ I64 to_ ∧ I64 td ∧ I64 tp ∧ I64 tj ∧ I64 ta ∧ U8 rg ∧ I64 at_ ∧ U32 own ∧ I64 poll) := rfl
theorem post73 (p0 p1 p2 p3 p4 p5 p6 p7 p8 p9 p10 p11 lp st rf dl ds to_ td tp tj ta rg own poll at_ r : Int) : c73.post [p0, p1, p2, p3, p4, p5, p6, p7, p8, p9, p10, p11, lp, st, rf, dl, ds, to_, td, tp, tj, ta, rg, own, poll, at_] [r] = (r = fitF p4 p5 lp st rf dl ds td tp tj ta rg own poll at_) := rfl
def T73 : Tr (List AE) :=
 (.call 132 [.num (.var 24)] 1
 (.call 104 [.num (.var 26), .num (.var 4)] 1
 (.call 136 [.num (.var 5), .num (.var 27)] 1
 (.br (.eq (.var 12) (.lit 3))
  (.ret [.num (.lit 123)])
  (.br (.lt (.var 13) (.lit 1))
   (.ret [.num (.lit 123)])
   (.br (.lt (.lit 15) (.var 13))
    (.ret [.num (.lit 123)])
    (.call 69 [.num (.var 0), .num (.var 1), .num (.var 2), .num (.var 3), .num (.var 4), .num (.var 5), .num (.var 6), .num (.var 7), .num (.var 8), .num (.var 9), .num (.var 10), .num (.var 11), .num (.var 12), .num (.var 13), .num (.var 14), .num (.var 15), .num (.var 16), .num (.var 17), .num (.var 18), .num (.var 19), .num (.var 20), .num (.var 21), .num (.var 22), .num (.var 25)] 1
    (.br (.le (.var 28) (.var 29))
     (.ret [.num (.lit 124)])
     (.br (.eq (.var 14) (.var 23))
      (.br (.lt (.lit 1) (.var 13))
       (.ret [.num (.lit 4)])
       (.br (.eq (.var 22) (.lit 0))
        (.ret [.num (.lit 3)])
        (.ret [.num (.lit 0)])))
      (.br (.eq (.var 22) (.lit 0))
       (.ret [.num (.lit 3)])
       (.ret [.num (.lit 0)])))))))))))
theorem run73 : runRow (ctx [c69, c136, c104, c132] noHint (roIn c73.row.args 0)) 1000 73 c73.row = T73 := by kernel_rfl
theorem sp73_69 (xs : List Int) : (specOf [c69, c136, c104, c132]).pre 69 xs = c69.pre xs := rfl
theorem sq73_69 (xs ys : List Int) : (specOf [c69, c136, c104, c132]).post 69 xs ys = c69.post xs ys := rfl
theorem sp73_136 (xs : List Int) : (specOf [c69, c136, c104, c132]).pre 136 xs = c136.pre xs := rfl
theorem sq73_136 (xs ys : List Int) : (specOf [c69, c136, c104, c132]).post 136 xs ys = c136.post xs ys := rfl
theorem sp73_104 (xs : List Int) : (specOf [c69, c136, c104, c132]).pre 104 xs = c104.pre xs := rfl
theorem sq73_104 (xs ys : List Int) : (specOf [c69, c136, c104, c132]).post 104 xs ys = c104.post xs ys := rfl
theorem sp73_132 (xs : List Int) : (specOf [c69, c136, c104, c132]).pre 132 xs = c132.pre xs := rfl
theorem sq73_132 (xs ys : List Int) : (specOf [c69, c136, c104, c132]).post 132 xs ys = c132.post xs ys := rfl
theorem hold73 (p0 p1 p2 p3 p4 p5 p6 p7 p8 p9 p10 p11 lp st rf dl ds to_ td tp tj ta rg own poll at_ : Int) (h : I64 p4 ∧ I64 p5 ∧ I64 lp ∧ I64 st ∧ U32 rf ∧ I64 dl ∧ I64 ds ∧ I64 to_ ∧ I64 td ∧ I64 tp ∧ I64 tj ∧ I64 ta ∧ U8 rg ∧ I64 at_ ∧ U32 own ∧ I64 poll) : T73.holds (specOf [c69, c136, c104, c132]) (fun σ _ es => c73.post [p0, p1, p2, p3, p4, p5, p6, p7, p8, p9, p10, p11, lp, st, rf, dl, ds, to_, td, tp, tj, ta, rg, own, poll, at_] (es.map (·.ev σ))) (valOf c73.row [p0, p1, p2, p3, p4, p5, p6, p7, p8, p9, p10, p11, lp, st, rf, dl, ds, to_, td, tp, tj, ta, rg, own, poll, at_]) (fun _ _ => False) := by
  obtain ⟨q0, q1, q2, q3, q4, q5, q6, q7, q8, q9, q10, q11, q12, q13, q14, q15⟩ := h
  simp only [T73, post73, sp73_69, sq73_69, sp73_136, sq73_136, sp73_104, sq73_104, sp73_132, sq73_132, pre69, post69, pre136, post136, pre104, post104, pre132, post132, Tr.holds, valOf_ofL, push_ofL, len1, len2, len6, List.cons_append, List.nil_append, List.append_nil, List.map_cons, List.map_nil, AE.ev, IE.ev, BE.ev, ofL_v, List.getD_cons_succ, List.getD_cons_zero, dec_lst, ev_max, ev_min, max_eq, min_eq, forall_eq, forall_eq_apply_imp_iff, and_imp, decide_eq_true_eq, decide_eq_false_iff_not, Bool.not_eq_true', Bool.not_eq_false', Bool.and_eq_true, Bool.or_eq_true, i_diff, i_sub, i_pow, i_mul, i_add, i_div, i_max, i_dist, i_0, i_m1, i_min, i_shift, and_true, true_and, and_self, List.singleton_append, beq_iff_eq, beq_eq_false_iff_ne, bne_iff_ne, bne_eq_false_iff_eq, ne_eq, Bool.and_eq_false_iff, Bool.or_eq_false_iff, Bool.not_eq_false, q0, q1, q2, q3, q4, q5, q6, q7, q8, q9, q10, q11, q12, q13, q14, q15]
  repeat' (refine And.intro (fun _ => ?_) (fun _ => ?_))
  all_goals (simp only [fitF]; repeat' split)
  all_goals omega
theorem met73 : c73.met := met_of (l := [c69, c136, c104, c132]) ⟨met69, met136, met104, met132, trivial⟩ c73 (hint := noHint) (n := 1000) (by kernel_rfl) (by kernel_rfl) run73 fun xs hl hp => by
  have hl : xs.length = 26 := hl
  obtain ⟨p0, l_0, rfl, k_0⟩ := consOf hl
  obtain ⟨p1, l_1, rfl, k_1⟩ := consOf k_0
  obtain ⟨p2, l_2, rfl, k_2⟩ := consOf k_1
  obtain ⟨p3, l_3, rfl, k_3⟩ := consOf k_2
  obtain ⟨p4, l_4, rfl, k_4⟩ := consOf k_3
  obtain ⟨p5, l_5, rfl, k_5⟩ := consOf k_4
  obtain ⟨p6, l_6, rfl, k_6⟩ := consOf k_5
  obtain ⟨p7, l_7, rfl, k_7⟩ := consOf k_6
  obtain ⟨p8, l_8, rfl, k_8⟩ := consOf k_7
  obtain ⟨p9, l_9, rfl, k_9⟩ := consOf k_8
  obtain ⟨p10, l_10, rfl, k_10⟩ := consOf k_9
  obtain ⟨p11, l_11, rfl, k_11⟩ := consOf k_10
  obtain ⟨lp, l_12, rfl, k_12⟩ := consOf k_11
  obtain ⟨st, l_13, rfl, k_13⟩ := consOf k_12
  obtain ⟨rf, l_14, rfl, k_14⟩ := consOf k_13
  obtain ⟨dl, l_15, rfl, k_15⟩ := consOf k_14
  obtain ⟨ds, l_16, rfl, k_16⟩ := consOf k_15
  obtain ⟨to_, l_17, rfl, k_17⟩ := consOf k_16
  obtain ⟨td, l_18, rfl, k_18⟩ := consOf k_17
  obtain ⟨tp, l_19, rfl, k_19⟩ := consOf k_18
  obtain ⟨tj, l_20, rfl, k_20⟩ := consOf k_19
  obtain ⟨ta, l_21, rfl, k_21⟩ := consOf k_20
  obtain ⟨rg, l_22, rfl, k_22⟩ := consOf k_21
  obtain ⟨own, l_23, rfl, k_23⟩ := consOf k_22
  obtain ⟨poll, l_24, rfl, k_24⟩ := consOf k_23
  obtain ⟨at_, l_25, rfl, k_25⟩ := consOf k_24
  cases nilOf k_25
  exact hold73 p0 p1 p2 p3 p4 p5 p6 p7 p8 p9 p10 p11 lp st rf dl ds to_ td tp tj ta rg own poll at_ hp
def c74 : Con := ⟨74, ⟨[.agg [.int .i64, .int .i64, .int .i64, .int .i64, .int .i64, .int .i64, .int .i64, .int .i64, .int .i64, .int .i64, .int .i64, .int .i64], .agg [.int .i64, .int .i64, .int .u32, .int .i64, .int .i64, .int .i64, .int .i64, .int .i64, .int .i64, .int .i64, .int .u8], .cell (.int .u32), .cell (.int .i64), .cell (.int .i64)], [.cell (.int .i64)]⟩, fun | [p0, p1, p2, p3, p4, p5, p6, p7, p8, p9, p10, p11, lp, st, rf, dl, ds, to_, td, tp, tj, ta, rg, own, poll, at_] => I64 p4 ∧ I64 p5 ∧ I64 lp ∧ I64 st ∧ U32 rf ∧ I64 dl ∧ I64 ds ∧ I64 to_ ∧ I64 td ∧ I64 tp ∧ I64 tj ∧ I64 ta ∧ U8 rg ∧ I64 at_ ∧ U32 own ∧ I64 poll | _ => False, fun | [p0, p1, p2, p3, p4, p5, p6, p7, p8, p9, p10, p11, lp, st, rf, dl, ds, to_, td, tp, tj, ta, rg, own, poll, at_], [r] => r = fitF p4 p5 lp st rf dl ds td tp tj ta rg own poll at_ | _, _ => False⟩
theorem pre74 (p0 p1 p2 p3 p4 p5 p6 p7 p8 p9 p10 p11 lp st rf dl ds to_ td tp tj ta rg own poll at_ : Int) : c74.pre [p0, p1, p2, p3, p4, p5, p6, p7, p8, p9, p10, p11, lp, st, rf, dl, ds, to_, td, tp, tj, ta, rg, own, poll, at_] = (I64 p4 ∧ I64 p5 ∧ I64 lp ∧ I64 st ∧ U32 rf ∧ I64 dl ∧ I64 ds ∧ I64 to_ ∧ I64 td ∧ I64 tp ∧ I64 tj ∧ I64 ta ∧ U8 rg ∧ I64 at_ ∧ U32 own ∧ I64 poll) := rfl
theorem post74 (p0 p1 p2 p3 p4 p5 p6 p7 p8 p9 p10 p11 lp st rf dl ds to_ td tp tj ta rg own poll at_ r : Int) : c74.post [p0, p1, p2, p3, p4, p5, p6, p7, p8, p9, p10, p11, lp, st, rf, dl, ds, to_, td, tp, tj, ta, rg, own, poll, at_] [r] = (r = fitF p4 p5 lp st rf dl ds td tp tj ta rg own poll at_) := rfl
def T74 : Tr (List AE) :=
 (.br (.not (.eq (.var 12) (.lit 3)))
  (.br (.not (.lt (.var 13) (.lit 1)))
   (.br (.lt (.lit 15) (.var 13))
    (.ret [.num (.lit 123)])
    (.call 70 [.num (.var 0), .num (.var 1), .num (.var 2), .num (.var 3), .num (.var 4), .num (.var 5), .num (.var 6), .num (.var 7), .num (.var 8), .num (.var 9), .num (.var 10), .num (.var 11), .num (.var 12), .num (.var 13), .num (.var 14), .num (.var 15), .num (.var 16), .num (.var 17), .num (.var 18), .num (.var 19), .num (.var 20), .num (.var 21), .num (.var 22), .num (.var 25)] 1
    (.call 144 [.num (.var 24)] 1
    (.call 107 [.num (.var 4), .num (.var 27)] 1
    (.call 106 [.num (.var 5), .num (.var 28)] 1
    (.br (.le (.var 29) (.var 26))
     (.ret [.num (.lit 124)])
     (.br (.lt (.lit 1) (.var 13))
      (.br (.eq (.var 14) (.var 23))
       (.ret [.num (.lit 4)])
       (.br (.eq (.var 22) (.lit 0))
        (.ret [.num (.lit 3)])
        (.ret [.num (.lit 0)])))
      (.br (.eq (.var 22) (.lit 0))
       (.ret [.num (.lit 3)])
       (.ret [.num (.lit 0)])))))))))
   (.ret [.num (.lit 123)]))
  (.ret [.num (.lit 123)]))
theorem run74 : runRow (ctx [c70, c106, c107, c144] noHint (roIn c74.row.args 0)) 1000 74 c74.row = T74 := by kernel_rfl
theorem sp74_70 (xs : List Int) : (specOf [c70, c106, c107, c144]).pre 70 xs = c70.pre xs := rfl
theorem sq74_70 (xs ys : List Int) : (specOf [c70, c106, c107, c144]).post 70 xs ys = c70.post xs ys := rfl
theorem sp74_106 (xs : List Int) : (specOf [c70, c106, c107, c144]).pre 106 xs = c106.pre xs := rfl
theorem sq74_106 (xs ys : List Int) : (specOf [c70, c106, c107, c144]).post 106 xs ys = c106.post xs ys := rfl
theorem sp74_107 (xs : List Int) : (specOf [c70, c106, c107, c144]).pre 107 xs = c107.pre xs := rfl
theorem sq74_107 (xs ys : List Int) : (specOf [c70, c106, c107, c144]).post 107 xs ys = c107.post xs ys := rfl
theorem sp74_144 (xs : List Int) : (specOf [c70, c106, c107, c144]).pre 144 xs = c144.pre xs := rfl
theorem sq74_144 (xs ys : List Int) : (specOf [c70, c106, c107, c144]).post 144 xs ys = c144.post xs ys := rfl
theorem hold74 (p0 p1 p2 p3 p4 p5 p6 p7 p8 p9 p10 p11 lp st rf dl ds to_ td tp tj ta rg own poll at_ : Int) (h : I64 p4 ∧ I64 p5 ∧ I64 lp ∧ I64 st ∧ U32 rf ∧ I64 dl ∧ I64 ds ∧ I64 to_ ∧ I64 td ∧ I64 tp ∧ I64 tj ∧ I64 ta ∧ U8 rg ∧ I64 at_ ∧ U32 own ∧ I64 poll) : T74.holds (specOf [c70, c106, c107, c144]) (fun σ _ es => c74.post [p0, p1, p2, p3, p4, p5, p6, p7, p8, p9, p10, p11, lp, st, rf, dl, ds, to_, td, tp, tj, ta, rg, own, poll, at_] (es.map (·.ev σ))) (valOf c74.row [p0, p1, p2, p3, p4, p5, p6, p7, p8, p9, p10, p11, lp, st, rf, dl, ds, to_, td, tp, tj, ta, rg, own, poll, at_]) (fun _ _ => False) := by
  obtain ⟨q0, q1, q2, q3, q4, q5, q6, q7, q8, q9, q10, q11, q12, q13, q14, q15⟩ := h
  simp only [T74, post74, sp74_70, sq74_70, sp74_106, sq74_106, sp74_107, sq74_107, sp74_144, sq74_144, pre70, post70, pre106, post106, pre107, post107, pre144, post144, Tr.holds, valOf_ofL, push_ofL, len1, len2, len6, List.cons_append, List.nil_append, List.append_nil, List.map_cons, List.map_nil, AE.ev, IE.ev, BE.ev, ofL_v, List.getD_cons_succ, List.getD_cons_zero, dec_lst, ev_max, ev_min, max_eq, min_eq, forall_eq, forall_eq_apply_imp_iff, and_imp, decide_eq_true_eq, decide_eq_false_iff_not, Bool.not_eq_true', Bool.not_eq_false', Bool.and_eq_true, Bool.or_eq_true, i_diff, i_sub, i_pow, i_mul, i_add, i_div, i_max, i_dist, i_0, i_m1, i_min, i_shift, and_true, true_and, and_self, List.singleton_append, beq_iff_eq, beq_eq_false_iff_ne, bne_iff_ne, bne_eq_false_iff_eq, ne_eq, Bool.and_eq_false_iff, Bool.or_eq_false_iff, Bool.not_eq_false, q0, q1, q2, q3, q4, q5, q6, q7, q8, q9, q10, q11, q12, q13, q14, q15]
  simp only [mul_comm' p4 (shiftF 4294967296 poll)]
  repeat' (refine And.intro (fun _ => ?_) (fun _ => ?_))
  all_goals (simp only [fitF]; repeat' split)
  all_goals omega
theorem met74 : c74.met := met_of (l := [c70, c106, c107, c144]) ⟨met70, met106, met107, met144, trivial⟩ c74 (hint := noHint) (n := 1000) (by kernel_rfl) (by kernel_rfl) run74 fun xs hl hp => by
  have hl : xs.length = 26 := hl
  obtain ⟨p0, l_0, rfl, k_0⟩ := consOf hl
  obtain ⟨p1, l_1, rfl, k_1⟩ := consOf k_0
  obtain ⟨p2, l_2, rfl, k_2⟩ := consOf k_1
  obtain ⟨p3, l_3, rfl, k_3⟩ := consOf k_2
  obtain ⟨p4, l_4, rfl, k_4⟩ := consOf k_3
  obtain ⟨p5, l_5, rfl, k_5⟩ := consOf k_4
  obtain ⟨p6, l_6, rfl, k_6⟩ := consOf k_5
  obtain ⟨p7, l_7, rfl, k_7⟩ := consOf k_6
  obtain ⟨p8, l_8, rfl, k_8⟩ := consOf k_7
  obtain ⟨p9, l_9, rfl, k_9⟩ := consOf k_8
  obtain ⟨p10, l_10, rfl, k_10⟩ := consOf k_9
  obtain ⟨p11, l_11, rfl, k_11⟩ := consOf k_10
  obtain ⟨lp, l_12, rfl, k_12⟩ := consOf k_11
  obtain ⟨st, l_13, rfl, k_13⟩ := consOf k_12
  obtain ⟨rf, l_14, rfl, k_14⟩ := consOf k_13
  obtain ⟨dl, l_15, rfl, k_15⟩ := consOf k_14
  obtain ⟨ds, l_16, rfl, k_16⟩ := consOf k_15
  obtain ⟨to_, l_17, rfl, k_17⟩ := consOf k_16
  obtain ⟨td, l_18, rfl, k_18⟩ := consOf k_17
  obtain ⟨tp, l_19, rfl, k_19⟩ := consOf k_18
  obtain ⟨tj, l_20, rfl, k_20⟩ := consOf k_19
  obtain ⟨ta, l_21, rfl, k_21⟩ := consOf k_20
  obtain ⟨rg, l_22, rfl, k_22⟩ := consOf k_21
  obtain ⟨own, l_23, rfl, k_23⟩ := consOf k_22
  obtain ⟨poll, l_24, rfl, k_24⟩ := consOf k_23
  obtain ⟨at_, l_25, rfl, k_25⟩ := consOf k_24
  cases nilOf k_25
  exact hold74 p0 p1 p2 p3 p4 p5 p6 p7 p8 p9 p10 p11 lp st rf dl ds to_ td tp tj ta rg own poll at_ hp
def c75 : Con := ⟨75, ⟨[.agg [.int .i64, .int .i64, .int .i64, .int .i64, .int .i64, .int .i64, .int .i64, .int .i64, .int .i64, .int .i64, .int .i64, .int .i64], .agg [.int .i64, .int .i64, .int .u32, .int .i64, .int .i64, .int .i64, .int .i64, .int .i64, .int .i64, .int .i64, .int .u8], .cell (.int .i64)], [.cell (.int .i64)]⟩, fun | [p0, p1, p2, p3, p4, p5, p6, p7, p8, p9, p10, p11, lp, st, rf, dl, ds, to_, td, tp, tj, ta, rg, at_] => I64 p4 ∧ I64 p5 ∧ I64 lp ∧ I64 st ∧ U32 rf ∧ I64 dl ∧ I64 ds ∧ I64 to_ ∧ I64 td ∧ I64 tp ∧ I64 tj ∧ I64 ta ∧ U8 rg ∧ I64 at_ | _ => False, fun | [p0, p1, p2, p3, p4, p5, p6, p7, p8, p9, p10, p11, lp, st, rf, dl, ds, to_, td, tp, tj, ta, rg, at_], [r] => r = metricF p4 p5 st dl ds td tp tj ta at_ | _, _ => False⟩
theorem pre75 (p0 p1 p2 p3 p4 p5 p6 p7 p8 p9 p10 p11 lp st rf dl ds to_ td tp tj ta rg at_ : Int) : c75.pre [p0, p1, p2, p3, p4, p5, p6, p7, p8, p9, p10, p11, lp, st, rf, dl, ds, to_, td, tp, tj, ta, rg, at_] = (I64 p4 ∧ I64 p5 ∧ I64 lp ∧ I64 st ∧ U32 rf ∧ I64 dl ∧ I64 ds ∧ I64 to_ ∧ I64 td ∧ I64 tp ∧ I64 tj ∧ I64 ta ∧ U8 rg ∧ I64 at_) := rfl
theorem post75 (p0 p1 p2 p3 p4 p5 p6 p7 p8 p9 p10 p11 lp st rf dl ds to_ td tp tj ta rg at_ r : Int) : c75.post [p0, p1, p2, p3, p4, p5, p6, p7, p8, p9, p10, p11, lp, st, rf, dl, ds, to_, td, tp, tj, ta, rg, at_] [r] = (r = metricF p4 p5 st dl ds td tp tj ta at_) := rfl
def T75 : Tr (List AE) :=
 (.loop 24 [.num (.lit 0), .num (.lit 0)] 2
  (.br (.lt (.var 25) (.op .min .i64 (.op .max .i64 (.var 13) (.lit 0)) (.lit 16)))
   (.call 136 [.num (.var 24), .num (.var 5)] 1
   (.again 24 [.num (.var 26), .num (.op .add .i64 (.var 25) (.lit 1))]))
   (.call 69 [.num (.var 0), .num (.var 1), .num (.var 2), .num (.var 3), .num (.var 4), .num (.var 5), .num (.var 6), .num (.var 7), .num (.var 8), .num (.var 9), .num (.var 10), .num (.var 11), .num (.var 12), .num (.var 13), .num (.var 14), .num (.var 15), .num (.var 16), .num (.var 17), .num (.var 18), .num (.var 19), .num (.var 20), .num (.var 21), .num (.var 22), .num (.var 23)] 1
   (.call 136 [.num (.var 24), .num (.var 26)] 1
   (.ret [.num (.var 27)])))))
def hint75 : FuncId → Nat → Option Hint := fun f b => if Nat.beq f 75 && Nat.beq b 0 then some { slots := [7, 12], cells := [], lists := [], join := false } else none
theorem run75 : runRow (ctx [c69, c136] hint75 (roIn c75.row.args 0)) 1000 75 c75.row = T75 := by kernel_rfl
theorem sp75_69 (xs : List Int) : (specOf [c69, c136]).pre 69 xs = c69.pre xs := rfl
theorem sq75_69 (xs ys : List Int) : (specOf [c69, c136]).post 69 xs ys = c69.post xs ys := rfl
theorem sp75_136 (xs : List Int) : (specOf [c69, c136]).pre 136 xs = c136.pre xs := rfl
theorem sq75_136 (xs ys : List Int) : (specOf [c69, c136]).post 136 xs ys = c136.post xs ys := rfl
def c76 : Con := ⟨76, ⟨[.agg [.int .i64, .int .i64, .int .i64, .int .i64, .int .i64, .int .i64, .int .i64, .int .i64, .int .i64, .int .i64, .int .i64, .int .i64], .agg [.int .i64, .int .i64, .int .u32, .int .i64, .int .i64, .int .i64, .int .i64, .int .i64, .int .i64, .int .i64, .int .u8], .cell (.int .i64)], [.cell (.int .i64)]⟩, fun | [p0, p1, p2, p3, p4, p5, p6, p7, p8, p9, p10, p11, lp, st, rf, dl, ds, to_, td, tp, tj, ta, rg, at_] => I64 p4 ∧ I64 p5 ∧ I64 lp ∧ I64 st ∧ U32 rf ∧ I64 dl ∧ I64 ds ∧ I64 to_ ∧ I64 td ∧ I64 tp ∧ I64 tj ∧ I64 ta ∧ U8 rg ∧ I64 at_ | _ => False, fun | [p0, p1, p2, p3, p4, p5, p6, p7, p8, p9, p10, p11, lp, st, rf, dl, ds, to_, td, tp, tj, ta, rg, at_], [r] => r = metricF p4 p5 st dl ds td tp tj ta at_ | _, _ => False⟩
theorem pre76 (p0 p1 p2 p3 p4 p5 p6 p7 p8 p9 p10 p11 lp st rf dl ds to_ td tp tj ta rg at_ : Int) : c76.pre [p0, p1, p2, p3, p4, p5, p6, p7, p8, p9, p10, p11, lp, st, rf, dl, ds, to_, td, tp, tj, ta, rg, at_] = (I64 p4 ∧ I64 p5 ∧ I64 lp ∧ I64 st ∧ U32 rf ∧ I64 dl ∧ I64 ds ∧ I64 to_ ∧ I64 td ∧ I64 tp ∧ I64 tj ∧ I64 ta ∧ U8 rg ∧ I64 at_) := rfl
theorem post76 (p0 p1 p2 p3 p4 p5 p6 p7 p8 p9 p10 p11 lp st rf dl ds to_ td tp tj ta rg at_ r : Int) : c76.post [p0, p1, p2, p3, p4, p5, p6, p7, p8, p9, p10, p11, lp, st, rf, dl, ds, to_, td, tp, tj, ta, rg, at_] [r] = (r = metricF p4 p5 st dl ds td tp tj ta at_) := rfl
def T76 : Tr (List AE) :=
 (.loop 24 [.num (.lit 0), .num (.lit 0)] 2
  (.br (.lt (.var 25) (.op .max .i64 (.lit 0) (.op .min .i64 (.var 13) (.lit 16))))
   (.call 106 [.num (.var 24), .num (.var 5)] 1
   (.again 24 [.num (.var 26), .num (.op .add .i64 (.var 25) (.lit 1))]))
   (.call 70 [.num (.var 0), .num (.var 1), .num (.var 2), .num (.var 3), .num (.var 4), .num (.var 5), .num (.var 6), .num (.var 7), .num (.var 8), .num (.var 9), .num (.var 10), .num (.var 11), .num (.var 12), .num (.var 13), .num (.var 14), .num (.var 15), .num (.var 16), .num (.var 17), .num (.var 18), .num (.var 19), .num (.var 20), .num (.var 21), .num (.var 22), .num (.var 23)] 1
   (.call 106 [.num (.var 24), .num (.var 26)] 1
   (.ret [.num (.var 27)])))))
def hint76 : FuncId → Nat → Option Hint := fun f b => if Nat.beq f 76 && Nat.beq b 0 then some { slots := [7, 8], cells := [], lists := [], join := false } else none
theorem run76 : runRow (ctx [c70, c106] hint76 (roIn c76.row.args 0)) 1000 76 c76.row = T76 := by kernel_rfl
theorem sp76_70 (xs : List Int) : (specOf [c70, c106]).pre 70 xs = c70.pre xs := rfl
theorem sq76_70 (xs ys : List Int) : (specOf [c70, c106]).post 70 xs ys = c70.post xs ys := rfl
theorem sp76_106 (xs : List Int) : (specOf [c70, c106]).pre 106 xs = c106.pre xs := rfl
theorem sq76_106 (xs ys : List Int) : (specOf [c70, c106]).post 106 xs ys = c106.post xs ys := rfl
end Go.Proofs.Tx
