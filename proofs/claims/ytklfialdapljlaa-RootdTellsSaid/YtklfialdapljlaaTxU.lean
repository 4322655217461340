/- How far any server is, its span, its metric and whether it is fit: what the law computes. -/
import Derived.Test.YtklfialdapljlaaTxT
namespace Go.Proofs.Tx
open Go Go.Proofs.Sx
set_option maxRecDepth 100000
set_option linter.unusedSimpArgs false
set_option linter.unusedVariables false

theorem len12 {P : List Int → Prop} : (∀ rs : List Int, rs.length = 12 → P rs) ↔ ∀ a b c d e f g h i j k l : Int, P [a, b, c, d, e, f, g, h, i, j, k, l] :=
  ⟨fun h a b c d e f g h' i j k l => h _ rfl, fun h rs hl => match rs, hl with | [a, b, c, d, e, f, g, h', i, j, k, l], _ => h a b c d e f g h' i j k l⟩
theorem pre145 : c145.pre [] = True := rfl

theorem shown_dist : distF 64424 0 0 0 0 0 0 0 = 10737418 := by decide +kernel
theorem shown_fit : fitF 64424 6442450944 0 1 0 0 0 0 0 0 0 1 0 6 0 = 0 := by decide +kernel

theorem hold17 (p0 p1 p2 p3 p4 p5 p6 p7 p8 p9 p10 p11 lp st rf dl ds to_ td tp tj ta rg own poll at_ : Int) (h : c17.pre [p0, p1, p2, p3, p4, p5, p6, p7, p8, p9, p10, p11, lp, st, rf, dl, ds, to_, td, tp, tj, ta, rg, own, poll, at_]) :
    T17.holds (specOf [c69, c70, c71, c72, c73, c74, c75, c76, c145]) (fun σ _ es => c17.post [p0, p1, p2, p3, p4, p5, p6, p7, p8, p9, p10, p11, lp, st, rf, dl, ds, to_, td, tp, tj, ta, rg, own, poll, at_] (es.map (·.ev σ))) (valOf c17.row [p0, p1, p2, p3, p4, p5, p6, p7, p8, p9, p10, p11, lp, st, rf, dl, ds, to_, td, tp, tj, ta, rg, own, poll, at_]) (fun _ _ => False) := by
  obtain ⟨⟨_, _, _, _, q0, q1, _, _, _, _, _, _, _⟩, ⟨q2, q3, q4, q5, q6, q7, q8, q9, q10, q11, q12, _⟩, q14, q15, q13, _⟩ := h
  have q0 := in_i64 q0; have q1 := in_i64 q1; have q2 := in_i64 q2; have q3 := in_i64 q3; have q4 := in_u32 q4; have q5 := in_i64 q5; have q6 := in_i64 q6; have q7 := in_i64 q7
  have q8 := in_i64 q8; have q9 := in_i64 q9; have q10 := in_i64 q10; have q11 := in_i64 q11; have q12 := in_u8 q12; have q13 := in_i64 q13; have q14 := in_u32 q14; have q15 := in_i64 q15
  have z1 : I64 1 := ⟨by decide, by decide⟩
  have z2 : I64 6 := ⟨by decide, by decide⟩
  have z3 : U32 0 := ⟨by decide, by decide⟩
  have z4 : U8 1 := ⟨by decide, by decide⟩
  have z5 : I64 64424 := ⟨by decide, by decide⟩
  have z6 : I64 6442450944 := ⟨by decide, by decide⟩
  simp only [T17, sp17_69, sq17_69, pre69, post69, sp17_70, sq17_70, pre70, post70, sp17_71, sq17_71, pre71, post71, sp17_72, sq17_72, pre72, post72, sp17_73, sq17_73, pre73, post73, sp17_74, sq17_74, pre74, post74, sp17_75, sq17_75, pre75, post75, sp17_76, sq17_76, pre76, post76, sp17_145, sq17_145, pre145, Tr.holds, valOf_ofL, push_ofL, len1, len2, len6, List.cons_append, List.nil_append, List.append_nil, List.map_cons, List.map_nil, AE.ev, IE.ev, BE.ev, ofL_v, List.getD_cons_succ, List.getD_cons_zero, dec_lst, ev_max, ev_min, max_eq, min_eq, forall_eq, forall_eq_apply_imp_iff, and_imp, decide_eq_true_eq, decide_eq_false_iff_not, Bool.not_eq_true', Bool.not_eq_false', Bool.and_eq_true, Bool.or_eq_true, i_diff, i_sub, i_pow, i_mul, i_add, i_div, i_max, i_dist, i_0, i_m1, i_min, i_shift, and_true, true_and, and_self, List.singleton_append, beq_iff_eq, beq_eq_false_iff_ne, bne_iff_ne, bne_eq_false_iff_eq, ne_eq, Bool.and_eq_false_iff, Bool.or_eq_false_iff, Bool.not_eq_false, len12, q0, q1, q2, q3, q4, q5, q6, q7, q8, q9, q10, q11, q12, q13, q14, q15, z1, z2, z3, z4, z5, z6, shown_dist, shown_fit]
  simp [c17]
theorem met17 : c17.met := met_of (l := [c69, c70, c71, c72, c73, c74, c75, c76, c145]) ⟨met69, met70, met71, met72, met73, met74, met75, met76, met145, trivial⟩ c17 (hint := noHint) (n := 1000) (by kernel_rfl) (by kernel_rfl) run17 fun xs hl hp => by
  have hl : xs.length = 26 := hl
  obtain ⟨p0, l_0, rfl, k_0⟩ := consOf hl
  obtain ⟨p1, l_1, rfl, k_1⟩ := consOf k_0
  obtain ⟨p2, l_2, rfl, k_2⟩ := consOf k_1
  obtain ⟨p3, l_3, rfl, k_3⟩ := consOf k_2
  obtain ⟨p4, l_4, rfl, k_4⟩ := consOf k_3
  obtain ⟨p5, l_5, rfl, k_5⟩ := consOf k_4
  obtain ⟨p6, l_6, rfl, k_6⟩ := consOf k_5
  obtain ⟨p7, l_7, rfl, k_7⟩ := consOf k_6
  obtain ⟨p8, l_8, rfl, k_8⟩ := consOf k_7
  obtain ⟨p9, l_9, rfl, k_9⟩ := consOf k_8
  obtain ⟨p10, l_10, rfl, k_10⟩ := consOf k_9
  obtain ⟨p11, l_11, rfl, k_11⟩ := consOf k_10
  obtain ⟨lp, l_12, rfl, k_12⟩ := consOf k_11
  obtain ⟨st, l_13, rfl, k_13⟩ := consOf k_12
  obtain ⟨rf, l_14, rfl, k_14⟩ := consOf k_13
  obtain ⟨dl, l_15, rfl, k_15⟩ := consOf k_14
  obtain ⟨ds, l_16, rfl, k_16⟩ := consOf k_15
  obtain ⟨to_, l_17, rfl, k_17⟩ := consOf k_16
  obtain ⟨td, l_18, rfl, k_18⟩ := consOf k_17
  obtain ⟨tp, l_19, rfl, k_19⟩ := consOf k_18
  obtain ⟨tj, l_20, rfl, k_20⟩ := consOf k_19
  obtain ⟨ta, l_21, rfl, k_21⟩ := consOf k_20
  obtain ⟨rg, l_22, rfl, k_22⟩ := consOf k_21
  obtain ⟨own, l_23, rfl, k_23⟩ := consOf k_22
  obtain ⟨poll, l_24, rfl, k_24⟩ := consOf k_23
  obtain ⟨at_, l_25, rfl, k_25⟩ := consOf k_24
  cases nilOf k_25
  exact hold17 p0 p1 p2 p3 p4 p5 p6 p7 p8 p9 p10 p11 lp st rf dl ds to_ td tp tj ta rg own poll at_ hp
end Go.Proofs.Tx
