/- Samples: what they are. -/
import Derived.Test.YtklfialdapljlaaTxM
namespace Go.Proofs.Tx
open Go Go.Proofs.Sx
set_option maxRecDepth 100000
set_option linter.unusedSimpArgs false
set_option linter.unusedVariables false

theorem i_clamp (x : Int) : I64 (clampM x) := by simp only [I64, clampM, M]; split <;> (try split) <;> omega
theorem i_add (a b : Int) : I64 (addF a b) := i_clamp _
theorem i_sub (a b : Int) : I64 (subF a b) := i_clamp _
theorem i_diff (a b : Int) : I64 (diffF a b) := i_clamp _
theorem i_cut (p r : Prop) [Decidable p] [Decidable r] {n : Int} (h : 0 ≤ n) : I64 (cutF p n r) := by
  simp only [I64, cutF, M]; repeat' split
  all_goals omega
theorem size_nonneg (a : Int) : 0 ≤ sizeF a := by simp only [sizeF]; split <;> omega
theorem i_mul (a b : Int) : I64 (mulF a b) := i_cut _ _ (Int.ediv_nonneg (Int.mul_nonneg (size_nonneg a) (size_nonneg b)) (by decide))
theorem i_div (a b : Int) : I64 (divF a b) := by
  simp only [divF]
  repeat' split
  all_goals first | exact i_cut _ _ (Int.ediv_nonneg (Int.mul_nonneg (size_nonneg a) (by decide)) (size_nonneg b)) | simp only [I64, M] <;> omega
theorem i_shift {a : Int} (n : Int) (h : I64 a) : I64 (shiftF a n) := by
  obtain ⟨h1, h2⟩ := h
  simp only [shiftF]
  split
  · have hp := pow_pos' (min 63 (-n)).toNat
    generalize (2 : Int) ^ (min 63 (-n)).toNat = p at *
    have : I64 (a / p) := div_i64 ⟨by omega, by omega⟩ hp
    obtain ⟨i1, i2⟩ := this
    split
    · simp only [I64, M]; omega
    · exact ⟨i1, i2⟩
  · exact i_clamp _
theorem i_pow (n : Int) : I64 (shiftF 4294967296 n) := i_shift n ⟨by decide, by decide⟩
theorem i_mean (l : List Int) (h : ∀ y ∈ l, I64 y) : I64 (meanF l) := by
  simp only [meanF]
  split
  · simp only [I64]; omega
  · obtain ⟨a, b⟩ := div_i64 (total_bound l h l.length (Nat.le_refl _)) (show (0:Int) < l.length by omega)
    simp only [I64, M]; omega
theorem i_max {a b : Int} (h : I64 a) (k : I64 b) : I64 (max a b) := by simp only [I64] at *; omega
theorem two_pre {a b : Int} (h : I64 a) (k : I64 b) : (∀ y ∈ [a, b], I64 y) ∧ [a, b].length ≤ 2147483648 := by
  refine ⟨fun y hy => ?_, by simp⟩
  simp only [List.mem_cons, List.not_mem_nil, or_false] at hy
  rcases hy with rfl | rfl <;> assumption
theorem max_eq (a b : Int) : (if b > a then b else a) = max a b := by omega
theorem min_eq (a b : Int) : (if b < a then b else a) = min a b := by omega

theorem hold78 (p0 p1 p2 p3 p4 p5 p6 p7 p8 p9 p10 p11 own h0 h1 h2 h3 h4 h5 h6 h7 h8 h9 h10 h11 h12 back at_ tot : Int) (h : I64 p4 ∧ I64 own ∧ I64 h5 ∧ U64 h10 ∧ U64 h11 ∧ U64 h12 ∧ U64 back) : T78.holds (specOf [c209, c210, c112, c132, c104, c136]) (fun σ _ es => c78.post [p0, p1, p2, p3, p4, p5, p6, p7, p8, p9, p10, p11, own, h0, h1, h2, h3, h4, h5, h6, h7, h8, h9, h10, h11, h12, back, at_, tot] (es.map (·.ev σ))) (valOf c78.row [p0, p1, p2, p3, p4, p5, p6, p7, p8, p9, p10, p11, own, h0, h1, h2, h3, h4, h5, h6, h7, h8, h9, h10, h11, h12, back, at_, tot]) (fun _ _ => False) := by
  obtain ⟨i1, i2, i3, u1, u2, u3, u4⟩ := h
  simp only [T78, Tr.holds, valOf_ofL, push_ofL, len1, List.cons_append, List.nil_append, List.map_cons, List.map_nil, AE.ev, IE.ev, BE.ev, ofL_v, List.getD_cons_succ, List.getD_cons_zero, post78, sp78_209, sq78_209, sp78_210, sq78_210, sp78_112, sq78_112, sp78_132, sq78_132, sp78_104, sq78_104, sp78_136, sq78_136, pre209, post209, pre210, post210, pre112, post112, pre132, post132, pre104, post104, pre136, post136, dec_lst, ev_max, ev_min, max_eq, min_eq, forall_eq, decide_eq_true_eq, decide_eq_false_iff_not, Bool.not_eq_true', Bool.not_eq_false', i_diff, i_sub, i_pow, i_mul, i_add, two_pre, and_true, true_and, i1, i2, i3, u1, u2, u3, u4, makeF, List.singleton_append]
  refine ⟨fun a1 => ⟨fun a2 => ⟨fun a3 => ?_, fun a3 => ?_⟩, fun a2 => ?_⟩, fun a1 => ?_⟩
  · rw [if_neg (by omega)]
  · rw [if_pos (by omega)]; exact ⟨(two_pre (i_diff _ _) (i_diff _ _)).1, rfl⟩
  · rw [if_neg (by omega)]
  · rw [if_neg (by omega)]
theorem met78 : c78.met := met_of (l := [c209, c210, c112, c132, c104, c136]) ⟨met209, met210, met112, met132, met104, met136, trivial⟩ c78 (hint := noHint) (n := 1000) (by kernel_rfl) (by kernel_rfl) run78 fun xs hl hp => by
  have hl : xs.length = 29 := hl
  obtain ⟨p0, l_0, rfl, k_0⟩ := consOf hl
  obtain ⟨p1, l_1, rfl, k_1⟩ := consOf k_0
  obtain ⟨p2, l_2, rfl, k_2⟩ := consOf k_1
  obtain ⟨p3, l_3, rfl, k_3⟩ := consOf k_2
  obtain ⟨p4, l_4, rfl, k_4⟩ := consOf k_3
  obtain ⟨p5, l_5, rfl, k_5⟩ := consOf k_4
  obtain ⟨p6, l_6, rfl, k_6⟩ := consOf k_5
  obtain ⟨p7, l_7, rfl, k_7⟩ := consOf k_6
  obtain ⟨p8, l_8, rfl, k_8⟩ := consOf k_7
  obtain ⟨p9, l_9, rfl, k_9⟩ := consOf k_8
  obtain ⟨p10, l_10, rfl, k_10⟩ := consOf k_9
  obtain ⟨p11, l_11, rfl, k_11⟩ := consOf k_10
  obtain ⟨own, l_12, rfl, k_12⟩ := consOf k_11
  obtain ⟨h0, l_13, rfl, k_13⟩ := consOf k_12
  obtain ⟨h1, l_14, rfl, k_14⟩ := consOf k_13
  obtain ⟨h2, l_15, rfl, k_15⟩ := consOf k_14
  obtain ⟨h3, l_16, rfl, k_16⟩ := consOf k_15
  obtain ⟨h4, l_17, rfl, k_17⟩ := consOf k_16
  obtain ⟨h5, l_18, rfl, k_18⟩ := consOf k_17
  obtain ⟨h6, l_19, rfl, k_19⟩ := consOf k_18
  obtain ⟨h7, l_20, rfl, k_20⟩ := consOf k_19
  obtain ⟨h8, l_21, rfl, k_21⟩ := consOf k_20
  obtain ⟨h9, l_22, rfl, k_22⟩ := consOf k_21
  obtain ⟨h10, l_23, rfl, k_23⟩ := consOf k_22
  obtain ⟨h11, l_24, rfl, k_24⟩ := consOf k_23
  obtain ⟨h12, l_25, rfl, k_25⟩ := consOf k_24
  obtain ⟨back, l_26, rfl, k_26⟩ := consOf k_25
  obtain ⟨at_, l_27, rfl, k_27⟩ := consOf k_26
  obtain ⟨tot, l_28, rfl, k_28⟩ := consOf k_27
  cases nilOf k_28
  exact hold78 p0 p1 p2 p3 p4 p5 p6 p7 p8 p9 p10 p11 own h0 h1 h2 h3 h4 h5 h6 h7 h8 h9 h10 h11 h12 back at_ tot hp

theorem hold79 (p0 p1 p2 p3 p4 p5 p6 p7 p8 p9 p10 p11 own h0 h1 h2 h3 h4 h5 h6 h7 h8 h9 h10 h11 h12 back at_ tot : Int) (h : I64 p4 ∧ I64 own ∧ I64 h5 ∧ U64 h10 ∧ U64 h11 ∧ U64 h12 ∧ U64 back) : T79.holds (specOf [c150, c151, c113, c144, c107, c106]) (fun σ _ es => c79.post [p0, p1, p2, p3, p4, p5, p6, p7, p8, p9, p10, p11, own, h0, h1, h2, h3, h4, h5, h6, h7, h8, h9, h10, h11, h12, back, at_, tot] (es.map (·.ev σ))) (valOf c79.row [p0, p1, p2, p3, p4, p5, p6, p7, p8, p9, p10, p11, own, h0, h1, h2, h3, h4, h5, h6, h7, h8, h9, h10, h11, h12, back, at_, tot]) (fun _ _ => False) := by
  obtain ⟨i1, i2, i3, u1, u2, u3, u4⟩ := h
  simp only [T79, Tr.holds, valOf_ofL, push_ofL, len1, List.cons_append, List.nil_append, List.map_cons, List.map_nil, AE.ev, IE.ev, BE.ev, ofL_v, List.getD_cons_succ, List.getD_cons_zero, post79, sp79_150, sq79_150, sp79_151, sq79_151, sp79_113, sq79_113, sp79_144, sq79_144, sp79_107, sq79_107, sp79_106, sq79_106, pre150, post150, pre151, post151, pre113, post113, pre144, post144, pre107, post107, pre106, post106, dec_lst, ev_max, ev_min, max_eq, min_eq, forall_eq, decide_eq_true_eq, decide_eq_false_iff_not, Bool.not_eq_true', Bool.not_eq_false', i_diff, i_sub, i_pow, i_mul, i_add, two_pre, and_true, true_and, i1, i2, i3, u1, u2, u3, u4, makeF, List.singleton_append]
  refine ⟨fun a1 => ⟨fun a2 => ⟨fun a3 => ⟨fun a4 => ?_, fun a4 => ?_⟩, fun a3 => ?_⟩, fun a2 => ?_⟩, fun a1 => ?_⟩
  · rw [if_neg (by omega)]
  · rw [if_pos (by omega)]; exact ⟨(two_pre (i_diff _ _) (i_diff _ _)).1, rfl⟩
  · rw [if_neg (by omega)]
  · rw [if_neg (by omega)]
  · rw [if_neg (by omega)]
theorem met79 : c79.met := met_of (l := [c150, c151, c113, c144, c107, c106]) ⟨met150, met151, met113, met144, met107, met106, trivial⟩ c79 (hint := noHint) (n := 1000) (by kernel_rfl) (by kernel_rfl) run79 fun xs hl hp => by
  have hl : xs.length = 29 := hl
  obtain ⟨p0, l_0, rfl, k_0⟩ := consOf hl
  obtain ⟨p1, l_1, rfl, k_1⟩ := consOf k_0
  obtain ⟨p2, l_2, rfl, k_2⟩ := consOf k_1
  obtain ⟨p3, l_3, rfl, k_3⟩ := consOf k_2
  obtain ⟨p4, l_4, rfl, k_4⟩ := consOf k_3
  obtain ⟨p5, l_5, rfl, k_5⟩ := consOf k_4
  obtain ⟨p6, l_6, rfl, k_6⟩ := consOf k_5
  obtain ⟨p7, l_7, rfl, k_7⟩ := consOf k_6
  obtain ⟨p8, l_8, rfl, k_8⟩ := consOf k_7
  obtain ⟨p9, l_9, rfl, k_9⟩ := consOf k_8
  obtain ⟨p10, l_10, rfl, k_10⟩ := consOf k_9
  obtain ⟨p11, l_11, rfl, k_11⟩ := consOf k_10
  obtain ⟨own, l_12, rfl, k_12⟩ := consOf k_11
  obtain ⟨h0, l_13, rfl, k_13⟩ := consOf k_12
  obtain ⟨h1, l_14, rfl, k_14⟩ := consOf k_13
  obtain ⟨h2, l_15, rfl, k_15⟩ := consOf k_14
  obtain ⟨h3, l_16, rfl, k_16⟩ := consOf k_15
  obtain ⟨h4, l_17, rfl, k_17⟩ := consOf k_16
  obtain ⟨h5, l_18, rfl, k_18⟩ := consOf k_17
  obtain ⟨h6, l_19, rfl, k_19⟩ := consOf k_18
  obtain ⟨h7, l_20, rfl, k_20⟩ := consOf k_19
  obtain ⟨h8, l_21, rfl, k_21⟩ := consOf k_20
  obtain ⟨h9, l_22, rfl, k_22⟩ := consOf k_21
  obtain ⟨h10, l_23, rfl, k_23⟩ := consOf k_22
  obtain ⟨h11, l_24, rfl, k_24⟩ := consOf k_23
  obtain ⟨h12, l_25, rfl, k_25⟩ := consOf k_24
  obtain ⟨back, l_26, rfl, k_26⟩ := consOf k_25
  obtain ⟨at_, l_27, rfl, k_27⟩ := consOf k_26
  obtain ⟨tot, l_28, rfl, k_28⟩ := consOf k_27
  cases nilOf k_28
  exact hold79 p0 p1 p2 p3 p4 p5 p6 p7 p8 p9 p10 p11 own h0 h1 h2 h3 h4 h5 h6 h7 h8 h9 h10 h11 h12 back at_ tot hp
end Go.Proofs.Tx
