/- A server's metric. -/
import Derived.Test.YtklfialdapljlaaTxQ
namespace Go.Proofs.Tx
open Go Go.Proofs.Sx
set_option maxRecDepth 100000
set_option linter.unusedSimpArgs false
set_option linter.unusedVariables false

theorem hold75 (p0 p1 p2 p3 p4 p5 p6 p7 p8 p9 p10 p11 lp st rf dl ds to_ td tp tj ta rg at_ : Int) (h : I64 p4 ∧ I64 p5 ∧ I64 lp ∧ I64 st ∧ U32 rf ∧ I64 dl ∧ I64 ds ∧ I64 to_ ∧ I64 td ∧ I64 tp ∧ I64 tj ∧ I64 ta ∧ U8 rg ∧ I64 at_) : T75.holds (specOf [c69, c136]) (fun σ _ es => c75.post [p0, p1, p2, p3, p4, p5, p6, p7, p8, p9, p10, p11, lp, st, rf, dl, ds, to_, td, tp, tj, ta, rg, at_] (es.map (·.ev σ))) (valOf c75.row [p0, p1, p2, p3, p4, p5, p6, p7, p8, p9, p10, p11, lp, st, rf, dl, ds, to_, td, tp, tj, ta, rg, at_]) (fun _ _ => False) := by
  obtain ⟨q0, q1, q2, q3, q4, q5, q6, q7, q8, q9, q10, q11, q12, q13⟩ := h
  simp only [T75, Tr.holds]
  refine ⟨fun vs => ∃ k : Nat, vs = [timesF p5 k, (k : Int)] ∧ (k : Int) ≤ min (max st 0) 16, fun vs => 16 - (vs.getD 1 0).toNat, ⟨0, rfl, by omega⟩, ?_⟩
  rintro vs - ⟨k, rfl, hk⟩
  simp only [Tr.holds, valOf_ofL, push_ofL, len1, len2, len6, List.cons_append, List.nil_append, List.append_nil, List.map_cons, List.map_nil, AE.ev, IE.ev, BE.ev, ofL_v, List.getD_cons_succ, List.getD_cons_zero, dec_lst, ev_max, ev_min, max_eq, min_eq, forall_eq, forall_eq_apply_imp_iff, and_imp, decide_eq_true_eq, decide_eq_false_iff_not, Bool.not_eq_true', Bool.not_eq_false', Bool.and_eq_true, Bool.or_eq_true, i_diff, i_sub, i_pow, i_mul, i_add, i_div, i_max, i_dist, i_0, i_m1, i_min, i_shift, and_true, true_and, and_self, List.singleton_append, beq_iff_eq, beq_eq_false_iff_ne, bne_iff_ne, bne_eq_false_iff_eq, ne_eq, Bool.and_eq_false_iff, Bool.or_eq_false_iff, Bool.not_eq_false, post75, sp75_69, sq75_69, sp75_136, sq75_136, pre69, post69, pre136, post136, q0, q1, q2, q3, q4, q5, q6, q7, q8, q9, q10, q11, q12, q13, i_times]
  refine ⟨fun hlt => ⟨⟨k + 1, ?_, by omega⟩, ?_⟩, fun hge => ?_⟩
  · rw [show F2.ev .add .i64 (k : Int) 1 = ((k + 1 : Nat) : Int) by rw [ev_add, wrap_i64]; split <;> omega]; rfl
  · rw [show F2.ev .add .i64 (k : Int) 1 = ((k + 1 : Nat) : Int) by rw [ev_add, wrap_i64]; split <;> omega]; omega
  · rw [metricF, show (min (max st 0) 16).toNat = k by omega]
theorem met75 : c75.met := met_of (l := [c69, c136]) ⟨met69, met136, trivial⟩ c75 (hint := hint75) (n := 1000) (by kernel_rfl) (by kernel_rfl) run75 fun xs hl hp => by
  have hl : xs.length = 24 := hl
  obtain ⟨p0, l_0, rfl, k_0⟩ := consOf hl
  obtain ⟨p1, l_1, rfl, k_1⟩ := consOf k_0
  obtain ⟨p2, l_2, rfl, k_2⟩ := consOf k_1
  obtain ⟨p3, l_3, rfl, k_3⟩ := consOf k_2
  obtain ⟨p4, l_4, rfl, k_4⟩ := consOf k_3
  obtain ⟨p5, l_5, rfl, k_5⟩ := consOf k_4
  obtain ⟨p6, l_6, rfl, k_6⟩ := consOf k_5
  obtain ⟨p7, l_7, rfl, k_7⟩ := consOf k_6
  obtain ⟨p8, l_8, rfl, k_8⟩ := consOf k_7
  obtain ⟨p9, l_9, rfl, k_9⟩ := consOf k_8
  obtain ⟨p10, l_10, rfl, k_10⟩ := consOf k_9
  obtain ⟨p11, l_11, rfl, k_11⟩ := consOf k_10
  obtain ⟨lp, l_12, rfl, k_12⟩ := consOf k_11
  obtain ⟨st, l_13, rfl, k_13⟩ := consOf k_12
  obtain ⟨rf, l_14, rfl, k_14⟩ := consOf k_13
  obtain ⟨dl, l_15, rfl, k_15⟩ := consOf k_14
  obtain ⟨ds, l_16, rfl, k_16⟩ := consOf k_15
  obtain ⟨to_, l_17, rfl, k_17⟩ := consOf k_16
  obtain ⟨td, l_18, rfl, k_18⟩ := consOf k_17
  obtain ⟨tp, l_19, rfl, k_19⟩ := consOf k_18
  obtain ⟨tj, l_20, rfl, k_20⟩ := consOf k_19
  obtain ⟨ta, l_21, rfl, k_21⟩ := consOf k_20
  obtain ⟨rg, l_22, rfl, k_22⟩ := consOf k_21
  obtain ⟨at_, l_23, rfl, k_23⟩ := consOf k_22
  cases nilOf k_23
  exact hold75 p0 p1 p2 p3 p4 p5 p6 p7 p8 p9 p10 p11 lp st rf dl ds to_ td tp tj ta rg at_ hp

theorem hold76 (p0 p1 p2 p3 p4 p5 p6 p7 p8 p9 p10 p11 lp st rf dl ds to_ td tp tj ta rg at_ : Int) (h : I64 p4 ∧ I64 p5 ∧ I64 lp ∧ I64 st ∧ U32 rf ∧ I64 dl ∧ I64 ds ∧ I64 to_ ∧ I64 td ∧ I64 tp ∧ I64 tj ∧ I64 ta ∧ U8 rg ∧ I64 at_) : T76.holds (specOf [c70, c106]) (fun σ _ es => c76.post [p0, p1, p2, p3, p4, p5, p6, p7, p8, p9, p10, p11, lp, st, rf, dl, ds, to_, td, tp, tj, ta, rg, at_] (es.map (·.ev σ))) (valOf c76.row [p0, p1, p2, p3, p4, p5, p6, p7, p8, p9, p10, p11, lp, st, rf, dl, ds, to_, td, tp, tj, ta, rg, at_]) (fun _ _ => False) := by
  obtain ⟨q0, q1, q2, q3, q4, q5, q6, q7, q8, q9, q10, q11, q12, q13⟩ := h
  simp only [T76, Tr.holds]
  refine ⟨fun vs => ∃ k : Nat, vs = [timesF p5 k, (k : Int)] ∧ (k : Int) ≤ min (max st 0) 16, fun vs => 16 - (vs.getD 1 0).toNat, ⟨0, rfl, by omega⟩, ?_⟩
  rintro vs - ⟨k, rfl, hk⟩
  simp only [Tr.holds, valOf_ofL, push_ofL, len1, len2, len6, List.cons_append, List.nil_append, List.append_nil, List.map_cons, List.map_nil, AE.ev, IE.ev, BE.ev, ofL_v, List.getD_cons_succ, List.getD_cons_zero, dec_lst, ev_max, ev_min, max_eq, min_eq, forall_eq, forall_eq_apply_imp_iff, and_imp, decide_eq_true_eq, decide_eq_false_iff_not, Bool.not_eq_true', Bool.not_eq_false', Bool.and_eq_true, Bool.or_eq_true, i_diff, i_sub, i_pow, i_mul, i_add, i_div, i_max, i_dist, i_0, i_m1, i_min, i_shift, and_true, true_and, and_self, List.singleton_append, beq_iff_eq, beq_eq_false_iff_ne, bne_iff_ne, bne_eq_false_iff_eq, ne_eq, Bool.and_eq_false_iff, Bool.or_eq_false_iff, Bool.not_eq_false, post76, sp76_70, sq76_70, sp76_106, sq76_106, pre70, post70, pre106, post106, q0, q1, q2, q3, q4, q5, q6, q7, q8, q9, q10, q11, q12, q13, i_times]
  refine ⟨fun hlt => ⟨⟨k + 1, ?_, by omega⟩, ?_⟩, fun hge => ?_⟩
  · rw [show F2.ev .add .i64 (k : Int) 1 = ((k + 1 : Nat) : Int) by rw [ev_add, wrap_i64]; split <;> omega]; rfl
  · rw [show F2.ev .add .i64 (k : Int) 1 = ((k + 1 : Nat) : Int) by rw [ev_add, wrap_i64]; split <;> omega]; omega
  · rw [metricF, show (min (max st 0) 16).toNat = k by omega]
theorem met76 : c76.met := met_of (l := [c70, c106]) ⟨met70, met106, trivial⟩ c76 (hint := hint76) (n := 1000) (by kernel_rfl) (by kernel_rfl) run76 fun xs hl hp => by
  have hl : xs.length = 24 := hl
  obtain ⟨p0, l_0, rfl, k_0⟩ := consOf hl
  obtain ⟨p1, l_1, rfl, k_1⟩ := consOf k_0
  obtain ⟨p2, l_2, rfl, k_2⟩ := consOf k_1
  obtain ⟨p3, l_3, rfl, k_3⟩ := consOf k_2
  obtain ⟨p4, l_4, rfl, k_4⟩ := consOf k_3
  obtain ⟨p5, l_5, rfl, k_5⟩ := consOf k_4
  obtain ⟨p6, l_6, rfl, k_6⟩ := consOf k_5
  obtain ⟨p7, l_7, rfl, k_7⟩ := consOf k_6
  obtain ⟨p8, l_8, rfl, k_8⟩ := consOf k_7
  obtain ⟨p9, l_9, rfl, k_9⟩ := consOf k_8
  obtain ⟨p10, l_10, rfl, k_10⟩ := consOf k_9
  obtain ⟨p11, l_11, rfl, k_11⟩ := consOf k_10
  obtain ⟨lp, l_12, rfl, k_12⟩ := consOf k_11
  obtain ⟨st, l_13, rfl, k_13⟩ := consOf k_12
  obtain ⟨rf, l_14, rfl, k_14⟩ := consOf k_13
  obtain ⟨dl, l_15, rfl, k_15⟩ := consOf k_14
  obtain ⟨ds, l_16, rfl, k_16⟩ := consOf k_15
  obtain ⟨to_, l_17, rfl, k_17⟩ := consOf k_16
  obtain ⟨td, l_18, rfl, k_18⟩ := consOf k_17
  obtain ⟨tp, l_19, rfl, k_19⟩ := consOf k_18
  obtain ⟨tj, l_20, rfl, k_20⟩ := consOf k_19
  obtain ⟨ta, l_21, rfl, k_21⟩ := consOf k_20
  obtain ⟨rg, l_22, rfl, k_22⟩ := consOf k_21
  obtain ⟨at_, l_23, rfl, k_23⟩ := consOf k_22
  cases nilOf k_23
  exact hold76 p0 p1 p2 p3 p4 p5 p6 p7 p8 p9 p10 p11 lp st rf dl ds to_ td tp tj ta rg at_ hp
end Go.Proofs.Tx
