/- A sample's truth: what the law computes. -/
import Derived.Test.YtklfialdapljlaaTxV
namespace Go.Proofs.Tx
open Go Go.Proofs.Sx
set_option maxRecDepth 100000
set_option linter.unusedSimpArgs false
set_option linter.unusedVariables false

theorem len12 {P : List Int → Prop} : (∀ rs : List Int, rs.length = 12 → P rs) ↔ ∀ a b c d e f g h i j k l : Int, P [a, b, c, d, e, f, g, h, i, j, k, l] :=
  ⟨fun h a b c d e f g h' i j k l => h _ rfl, fun h rs hl => match rs, hl with | [a, b, c, d, e, f, g, h', i, j, k, l], _ => h a b c d e f g h' i j k l⟩
theorem pre81 : c81.pre [] = True := rfl

theorem shown_make : (makeF 64424 (-20) 0 0 42949672960 42949672960 17179869184 0 0).1 = 34359738368 ∧ (makeF 64424 (-20) 0 0 42949672960 42949672960 17179869184 0 0).2.1 = 17179869184 ∧ (makeF 64424 (-20) 0 0 42949672960 42949672960 17179869184 0 0).2.2.2.2.2 = 0 := by
  decide +kernel

theorem mean2 (x y : Int) : meanF [x, y] = max ((x + y) / 2) (-M) := by
  simp [meanF, total]

/-- a power of two near one -/
theorem pow_near (w : Int) (h1 : -29 ≤ w) (h2 : w ≤ 9) : 0 ≤ shiftF 4294967296 w ∧ shiftF 4294967296 w ≤ 2199023255552 := by
  have key : ∀ k : Fin 39, 0 ≤ shiftF 4294967296 ((k.1 : Int) - 29) ∧ shiftF 4294967296 ((k.1 : Int) - 29) ≤ 2199023255552 := by decide +kernel
  have := key ⟨(w + 29).toNat, by omega⟩
  simp only at this
  rw [show (((w + 29).toNat : Nat) : Int) - 29 = w by omega] at this
  exact this

theorem mul_pos' (a b : Int) (ha : 0 ≤ a) (hb : 0 ≤ b) : 0 ≤ mulF a b := by
  have h0 : 0 ≤ sizeF a * sizeF b / 4294967296 := Int.ediv_nonneg (Int.mul_nonneg (size_nonneg a) (size_nonneg b)) (by decide)
  simp only [mulF, cutF, M]
  rw [if_neg (by omega)]
  split <;> omega

theorem mul_zero' (a : Int) : mulF a 0 = 0 := by
  simp [mulF, cutF, sizeF, M]

theorem add_pos' (a b : Int) (ha : 0 ≤ a) (hb : 0 ≤ b) : 0 ≤ addF a b := by
  simp only [addF, clampM, M]; repeat' split
  all_goals omega

theorem sub_small (a b : Int) (h1 : -9223372036854775807 ≤ a - b) (h2 : a - b ≤ 9223372036854775807) : subF a b = a - b := by
  simp only [subF, clampM, M]; repeat' split
  all_goals omega
theorem add_small (a b : Int) (h1 : -9223372036854775807 ≤ a + b) (h2 : a + b ≤ 9223372036854775807) : addF a b = a + b := by
  simp only [addF, clampM, M]; repeat' split
  all_goals omega
theorem half_small (a : Int) (h1 : -4611686018427387904 ≤ a) (h2 : a ≤ 4611686018427387904) : shiftF a (-1) = a / 2 := by
  simp only [shiftF, M]
  rw [if_pos (by decide), show (min 63 (-(-1)) : Int).toNat = 1 by decide]
  simp only [Int.pow_succ, Int.pow_zero, Int.one_mul]
  rw [if_neg (by omega)]

theorem diff_small (x y d : Int) (h : (x - y - d) % 18446744073709551616 = 0) (h1 : -4611686018427387904 ≤ d) (h2 : d ≤ 4611686018427387904) : diffF x y = d := by
  simp only [diffF, wrap_i64, clampM, M]
  repeat' split
  all_goals omega

/-- the span of a true sample holds its offset -/
theorem span_true (o a b dl sp : Int) (ho : -2147483648 ≤ o ∧ o ≤ 2147483647) (ha : 0 ≤ a ∧ a < 4294967296) (hb : 0 ≤ b ∧ b < 4294967296) (hd : a + b ≤ dl) (hd2 : dl ≤ 2199023255552) (hsp : 0 ≤ sp) :
    subF (subF (hereF (max ((o + a + (o - b)) / 2) (-M)) 0 0) (halfF dl)) (ageF 64424 sp 5 5) ≤ o ∧ o ≤ addF (addF (hereF (max ((o + a + (o - b)) / 2) (-M)) 0 0) (halfF dl)) (ageF 64424 sp 5 5) := by
  have e0 : subF 0 0 = 0 := by decide
  have e5 : subF 5 5 = 0 := by decide
  have hh : halfF dl = -((-dl) / 2) := by
    rw [halfF, sub_small 0 dl (by omega) (by omega), half_small _ (by omega) (by omega), sub_small _ _ (by omega) (by omega)]; omega
  have hp : 0 ≤ ageF 64424 sp 5 5 ∧ ageF 64424 sp 5 5 ≤ 68719476736 := by
    rw [ageF, e5, show max (0 : Int) 0 = 0 by decide, mul_zero']
    have := add_pos' sp 0 hsp (by decide)
    omega
  have hr : hereF (max ((o + a + (o - b)) / 2) (-M)) 0 0 = (o + a + (o - b)) / 2 := by
    rw [hereF, e0, sub_small _ _ (by simp only [M]; omega) (by simp only [M]; omega)]
    simp only [M]; omega
  generalize ageF 64424 sp 5 5 = g at *
  rw [hr, hh]
  constructor
  · rw [sub_small _ (-(-dl / 2)) (by omega) (by omega), sub_small _ _ (by omega) (by omega)]; omega
  · rw [add_small _ (-(-dl / 2)) (by omega) (by omega), add_small _ _ (by omega) (by omega)]; omega

theorem hold19 (asked o a b c w : Int) (h : c19.pre [asked, o, a, b, c, w]) : T19.holds (specOf [c81, c78, c82]) (fun σ _ es => c19.post [asked, o, a, b, c, w] (es.map (·.ev σ))) (valOf c19.row [asked, o, a, b, c, w]) (fun _ _ => False) := by
  obtain ⟨k0, k1, k2, k3, k4, k5, _⟩ := h
  have k0 := in_u64 k0; have k1 := in_i32 k1; have k2 := in_u32 k2; have k3 := in_u32 k3; have k4 := in_u32 k4; have k5 := in_i8 k5
  obtain ⟨a0, a1⟩ := k2; obtain ⟨b0, b1⟩ := k3; obtain ⟨c0, c1⟩ := k4; obtain ⟨s0, s1⟩ := k0
  have e1 : IntKind.wrap .i64 o = o := wrap_in ⟨by omega, by omega⟩
  have e2 : IntKind.wrap .i64 a = a := wrap_in ⟨by omega, by omega⟩
  have e3 : IntKind.wrap .i64 b = b := wrap_in ⟨by omega, by omega⟩
  have e5 : IntKind.wrap .i64 w = w := wrap_in ⟨by omega, by omega⟩
  have hw : ∃ v, F2.ev .sub .i64 (F2.ev .rem .i64 w 20) 10 = v ∧ -29 ≤ v ∧ v ≤ 9 := by
    refine ⟨_, rfl, ?_⟩
    rw [ev_rem, ev_sub]
    have h1 := Int.tmod_lt_of_pos w (show (0:Int) < 20 by decide)
    have h2 := Int.lt_tmod_of_pos w (show (0:Int) < 20 by decide)
    rw [wrap_in ⟨by omega, by omega⟩]; omega
  obtain ⟨v, hv, v1, v2⟩ := hw
  have z1 : I64 64424 := ⟨by decide, by decide⟩
  have z2 : I64 5 := ⟨by decide, by decide⟩
  have z3 : I64 v := ⟨by omega, by omega⟩
  simp only [T19, Tr.holds, valOf_ofL, push_ofL, len1, len2, len6, List.cons_append, List.nil_append, List.append_nil, List.map_cons, List.map_nil, AE.ev, IE.ev, BE.ev, ofL_v, List.getD_cons_succ, List.getD_cons_zero, dec_lst, ev_max, ev_min, max_eq, min_eq, forall_eq, forall_eq_apply_imp_iff, and_imp, decide_eq_true_eq, decide_eq_false_iff_not, Bool.not_eq_true', Bool.not_eq_false', Bool.and_eq_true, Bool.or_eq_true, i_diff, i_sub, i_pow, i_mul, i_add, i_div, i_max, i_0, i_m1, i_shift, and_true, true_and, and_self, List.singleton_append, beq_iff_eq, beq_eq_false_iff_ne, bne_iff_ne, bne_eq_false_iff_eq, ne_eq, Bool.and_eq_false_iff, Bool.or_eq_false_iff, Bool.not_eq_false, len12, sp19_81, sq19_81, sp19_78, sq19_78, sp19_82, sq19_82, pre81, pre78, post78, pre82, post82, e1, e2, e3, e5, hv]
  generalize hrx : F2.ev .add .u64 (F2.ev .add .u64 asked (IntKind.wrap .u64 o)) (IntKind.wrap .u64 a) = rx
  generalize htx : F2.ev .add .u64 rx (IntKind.wrap .u64 c) = tx
  generalize hcm : F2.ev .add .u64 (F2.ev .sub .u64 tx (IntKind.wrap .u64 o)) (IntKind.wrap .u64 b) = cm
  simp only [ev_add, ev_sub, wrap_u64] at hrx htx hcm
  have u1 : U64 rx := ⟨by omega, by omega⟩
  have u2 : U64 tx := ⟨by omega, by omega⟩
  have u3 : U64 cm := ⟨by omega, by omega⟩
  have hm : makeF 64424 v 0 asked rx tx cm 5 0 = (max ((o + a + (o - b)) / 2) (-M), max (a + b) (shiftF 4294967296 v), addF (addF (shiftF 4294967296 0) (shiftF 4294967296 v)) (mulF 64424 (a + b + c)), 5, 0, 0) := by
    rw [makeF, diff_small cm asked (a + b + c) (by omega) (by omega) (by omega), diff_small tx rx c (by omega) (by omega) (by omega), diff_small rx asked (o + a) (by omega) (by omega) (by omega), diff_small tx cm (o - b) (by omega) (by omega) (by omega),
      if_pos ⟨by decide, by decide, by omega, by omega⟩, mean2, sub_small _ _ (by omega) (by omega), show a + b + c - c = a + b by omega]
  obtain ⟨p1, p2⟩ := pow_near v v1 v2
  have hsp : 0 ≤ addF (addF (shiftF 4294967296 0) (shiftF 4294967296 v)) (mulF 64424 (a + b + c)) := add_pos' _ _ (add_pos' _ _ (by decide) p1) (mul_pos' _ _ (by decide) (by omega))
  have isp : I64 (addF (addF (shiftF 4294967296 0) (shiftF 4294967296 v)) (mulF 64424 (a + b + c))) := i_add _ _
  have hdl : a + b ≤ max (a + b) (shiftF 4294967296 v) ∧ max (a + b) (shiftF 4294967296 v) ≤ 2199023255552 := by omega
  generalize max (a + b) (shiftF 4294967296 v) = dl at *
  generalize addF (addF (shiftF 4294967296 0) (shiftF 4294967296 v)) (mulF 64424 (a + b + c)) = sp at *
  obtain ⟨t1, t2⟩ := span_true o a b dl sp k1 ⟨a0, a1⟩ ⟨b0, b1⟩ hdl.1 hdl.2 hsp
  rw [hm]
  clear hm hrx htx hcm
  obtain ⟨g1, g2, g3⟩ := shown_make
  have hR : max ((o + a + (o - b)) / 2) (-M) = (o + a + (o - b)) / 2 := by simp only [M]; omega
  have hR2 : (o + a + (o - b)) / 2 - o ≤ a ∧ -b ≤ (o + a + (o - b)) / 2 - o ∧ (o + a + (o - b)) / 2 - o ≤ (a + b) / 2 ∧ -((a + b) / 2 + 1) ≤ (o + a + (o - b)) / 2 - o := by omega
  rw [hR] at t1 t2 ⊢
  generalize (o + a + (o - b)) / 2 = R at *
  have f1 : F2.ev .sub .i64 R o = R - o := by rw [ev_sub, wrap_in ⟨by omega, by omega⟩]
  have f2 : F2.ev .sub .i64 0 (R - o) = -(R - o) := by rw [ev_sub, wrap_in ⟨by omega, by omega⟩]; omega
  have f3 : F2.ev .add .i64 (F2.ev .quo .i64 dl 2) 1 = dl / 2 + 1 := by
    rw [ev_quo, Int.tdiv_eq_ediv, if_pos (.inl (by omega)), Int.add_zero, wrap_in ⟨by omega, by omega⟩, ev_add, wrap_in ⟨by omega, by omega⟩]
  have f4 : F2.ev .add .i64 a b = a + b := by rw [ev_add, wrap_in ⟨by omega, by omega⟩]
  have iR : I64 R := ⟨by omega, by omega⟩
  have idl : I64 dl := ⟨by omega, by omega⟩
  refine fun _ _ _ _ _ _ _ _ _ _ _ _ _ => ⟨⟨z1, z3, ⟨s0, s1⟩, u1, u2, u3⟩, fun r s t u v' e q => ?_⟩
  simp only [Prod.mk.injEq] at q
  obtain ⟨rfl, rfl, rfl, rfl, rfl, rfl⟩ := q
  refine ⟨fun _ _ _ _ _ _ _ _ _ _ _ _ _ _ => ⟨⟨z1, ⟨by decide, by decide⟩, ⟨by decide, by decide⟩, ⟨by decide, by decide⟩, ⟨by decide, by decide⟩, ⟨by decide, by decide⟩⟩, fun r1 s1 t1' u1' v1' w1 q => ?_⟩, fun h => absurd rfl h⟩
  rw [← q] at g1 g2 g3
  simp only at g1 g2 g3
  subst g1; subst g2; subst g3
  rw [f1, f2, f3, f4]
  have hone : c19.post [asked, o, a, b, c, w] [if o ≤ addF (addF (hereF r 0 0) (halfF s)) (ageF 64424 t 5 5) then 1 else 0] := by rw [if_pos t2]; rfl
  refine ⟨fun _ => ⟨fun _ => ⟨fun h => absurd rfl h, fun _ => ⟨fun hneg _ _ _ _ _ _ _ _ _ _ _ _ _ => ⟨⟨z1, iR, idl, isp, z2, i_0, z2⟩, fun _ => ⟨fun _ => ⟨fun _ => hone, fun h => absurd t1 h⟩, fun h => absurd hdl.1 h⟩, fun h => absurd ?_ h⟩,
    fun hneg _ _ _ _ _ _ _ _ _ _ _ _ _ => ⟨⟨z1, iR, idl, isp, z2, i_0, z2⟩, fun _ => ⟨fun _ => ⟨fun _ => hone, fun h => absurd t1 h⟩, fun h => absurd hdl.1 h⟩, fun h => absurd ?_ h⟩⟩⟩, fun h => absurd rfl h⟩, fun h => absurd rfl h⟩
  · omega
  · omega
theorem met19 : c19.met := met_of (l := [c81, c78, c82]) ⟨met81, met78, met82, trivial⟩ c19 (hint := noHint) (n := 1000) (by kernel_rfl) (by kernel_rfl) run19 fun xs hl hp => by
  have hl : xs.length = 6 := hl
  obtain ⟨asked, l_0, rfl, k_0⟩ := consOf hl
  obtain ⟨o, l_1, rfl, k_1⟩ := consOf k_0
  obtain ⟨a, l_2, rfl, k_2⟩ := consOf k_1
  obtain ⟨b, l_3, rfl, k_3⟩ := consOf k_2
  obtain ⟨c, l_4, rfl, k_4⟩ := consOf k_3
  obtain ⟨w, l_5, rfl, k_5⟩ := consOf k_4
  cases nilOf k_5
  exact hold19 asked o a b c w hp
end Go.Proofs.Tx
