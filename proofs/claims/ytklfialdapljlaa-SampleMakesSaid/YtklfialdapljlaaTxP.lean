/- Whatever is set, four times tell the document's sample, or its error. -/
import Derived.Test.YtklfialdapljlaaTxO
namespace Go.Proofs.Tx
open Go Go.Proofs.Sx
set_option maxRecDepth 100000
set_option linter.unusedSimpArgs false
set_option linter.unusedVariables false

theorem len12 {P : List Int → Prop} : (∀ rs : List Int, rs.length = 12 → P rs) ↔ ∀ a b c d e f g h i j k l : Int, P [a, b, c, d, e, f, g, h, i, j, k, l] :=
  ⟨fun h a b c d e f g h' i j k l => h _ rfl, fun h rs hl => match rs, hl with | [a, b, c, d, e, f, g, h', i, j, k, l], _ => h a b c d e f g h' i j k l⟩
theorem pre81 : c81.pre [] = True := rfl

theorem shown_make : (makeF 64424 (-20) 0 0 42949672960 42949672960 17179869184 0 0).1 = 34359738368 ∧ (makeF 64424 (-20) 0 0 42949672960 42949672960 17179869184 0 0).2.1 = 17179869184 ∧ (makeF 64424 (-20) 0 0 42949672960 42949672960 17179869184 0 0).2.2.2.2.2 = 0 := by
  decide +kernel

theorem hold18 (p0 p1 p2 p3 p4 p5 p6 p7 p8 p9 p10 p11 own h0 h1 h2 h3 h4 h5 h6 h7 h8 h9 h10 h11 h12 back at_ tot : Int) (h : c18.pre [p0, p1, p2, p3, p4, p5, p6, p7, p8, p9, p10, p11, own, h0, h1, h2, h3, h4, h5, h6, h7, h8, h9, h10, h11, h12, back, at_, tot]) :
    T18.holds (specOf [c78, c79, c81]) (fun σ _ es => c18.post [p0, p1, p2, p3, p4, p5, p6, p7, p8, p9, p10, p11, own, h0, h1, h2, h3, h4, h5, h6, h7, h8, h9, h10, h11, h12, back, at_, tot] (es.map (·.ev σ))) (valOf c18.row [p0, p1, p2, p3, p4, p5, p6, p7, p8, p9, p10, p11, own, h0, h1, h2, h3, h4, h5, h6, h7, h8, h9, h10, h11, h12, back, at_, tot]) (fun _ _ => False) := by
  obtain ⟨⟨_, _, _, _, i4, _, _, _, _, _, _, _, _⟩, io, ⟨_, _, _, _, _, i5, _, _, _, _, j10, j11, j12, _⟩, ib, _, _, _⟩ := h
  have i4 := in_i64 i4
  have io := in_i64 io
  have i5 := in_i64 i5
  have j10 := in_u64 j10
  have j11 := in_u64 j11
  have j12 := in_u64 j12
  have ib := in_u64 ib
  simp only [T18, Tr.holds, valOf_ofL, push_ofL, len12, len6, List.cons_append, List.nil_append, List.map_cons, List.map_nil, AE.ev, IE.ev, BE.ev, ofL_v, List.getD_cons_succ, List.getD_cons_zero, sp18_78, sq18_78, sp18_79, sq18_79, sp18_81, sq18_81, pre78, post78, pre79, post79, pre81]
  refine ⟨⟨i4, io, i5, j10, j11, j12, ib⟩, fun o1 d1 s1 a1 t1 e1 q1 => ⟨⟨i4, io, i5, j10, j11, j12, ib⟩, fun o2 d2 s2 a2 t2 e2 q2 => ?_⟩⟩
  rw [← q1] at q2
  simp only [Prod.mk.injEq] at q2
  obtain ⟨rfl, rfl, rfl, rfl, rfl, rfl⟩ := q2
  refine ⟨fun _ => ⟨fun _ => ⟨trivial, fun _ _ _ _ _ _ _ _ _ _ _ _ _ => ⟨⟨⟨by decide, by decide⟩, ⟨by decide, by decide⟩, ⟨by decide, by decide⟩, ⟨by decide, by decide⟩, ⟨by decide, by decide⟩, ⟨by decide, by decide⟩, ⟨by decide, by decide⟩⟩, fun o d s a t e q => ?_⟩⟩, fun hc => ?_⟩, fun hc => ?_⟩
  · obtain ⟨k1, k2, k3⟩ := shown_make
    rw [← q] at k1 k2 k3
    simp only at k1 k2 k3
    subst k1; subst k2; subst k3
    simp [c18]
  · simp at hc
  · simp at hc
theorem met18 : c18.met := met_of (l := [c78, c79, c81]) ⟨met78, met79, met81, trivial⟩ c18 (hint := noHint) (n := 1000) (by kernel_rfl) (by kernel_rfl) run18 fun xs hl hp => by
  have hl : xs.length = 29 := hl
  obtain ⟨p0, l_0, rfl, k_0⟩ := consOf hl
  obtain ⟨p1, l_1, rfl, k_1⟩ := consOf k_0
  obtain ⟨p2, l_2, rfl, k_2⟩ := consOf k_1
  obtain ⟨p3, l_3, rfl, k_3⟩ := consOf k_2
  obtain ⟨p4, l_4, rfl, k_4⟩ := consOf k_3
  obtain ⟨p5, l_5, rfl, k_5⟩ := consOf k_4
  obtain ⟨p6, l_6, rfl, k_6⟩ := consOf k_5
  obtain ⟨p7, l_7, rfl, k_7⟩ := consOf k_6
  obtain ⟨p8, l_8, rfl, k_8⟩ := consOf k_7
  obtain ⟨p9, l_9, rfl, k_9⟩ := consOf k_8
  obtain ⟨p10, l_10, rfl, k_10⟩ := consOf k_9
  obtain ⟨p11, l_11, rfl, k_11⟩ := consOf k_10
  obtain ⟨own, l_12, rfl, k_12⟩ := consOf k_11
  obtain ⟨h0, l_13, rfl, k_13⟩ := consOf k_12
  obtain ⟨h1, l_14, rfl, k_14⟩ := consOf k_13
  obtain ⟨h2, l_15, rfl, k_15⟩ := consOf k_14
  obtain ⟨h3, l_16, rfl, k_16⟩ := consOf k_15
  obtain ⟨h4, l_17, rfl, k_17⟩ := consOf k_16
  obtain ⟨h5, l_18, rfl, k_18⟩ := consOf k_17
  obtain ⟨h6, l_19, rfl, k_19⟩ := consOf k_18
  obtain ⟨h7, l_20, rfl, k_20⟩ := consOf k_19
  obtain ⟨h8, l_21, rfl, k_21⟩ := consOf k_20
  obtain ⟨h9, l_22, rfl, k_22⟩ := consOf k_21
  obtain ⟨h10, l_23, rfl, k_23⟩ := consOf k_22
  obtain ⟨h11, l_24, rfl, k_24⟩ := consOf k_23
  obtain ⟨h12, l_25, rfl, k_25⟩ := consOf k_24
  obtain ⟨back, l_26, rfl, k_26⟩ := consOf k_25
  obtain ⟨at_, l_27, rfl, k_27⟩ := consOf k_26
  obtain ⟨tot, l_28, rfl, k_28⟩ := consOf k_27
  cases nilOf k_28
  exact hold18 p0 p1 p2 p3 p4 p5 p6 p7 p8 p9 p10 p11 own h0 h1 h2 h3 h4 h5 h6 h7 h8 h9 h10 h11 h12 back at_ tot hp

theorem law18 : c18.met := met18
end Go.Proofs.Tx
