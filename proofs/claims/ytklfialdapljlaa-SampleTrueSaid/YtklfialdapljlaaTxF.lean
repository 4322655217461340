/- Products and quotients of words: what they are. -/
import Derived.Test.YtklfialdapljlaaTxE
namespace Go.Proofs.Tx
open Go Go.Proofs.Sx
set_option maxRecDepth 100000
set_option linter.unusedSimpArgs false
set_option linter.unusedVariables false

theorem prod_parts (a1 a0 b1 b0 : Int) : (a1 * 4294967296 + a0) * (b1 * 4294967296 + b0) = a1*b1*18446744073709551616 + (a1*b0 + a0*b1)*4294967296 + a0*b0 := by grind
theorem bound (x y : Int) (h1 : 0 ≤ x) (h2 : x ≤ 4294967295) (h3 : 0 ≤ y) (h4 : y ≤ 4294967295) : 0 ≤ x * y ∧ x * y ≤ 18446744065119617025 :=
  ⟨Int.mul_nonneg h1 h3, by have := Int.mul_le_mul h2 h4 h3 (by decide); omega⟩

theorem hold222 (n k : Int) (h : U64 n ∧ 0 ≤ k ∧ k ≤ 63) : T222.holds (specOf []) (fun σ _ es => c222.post [n, k] (es.map (·.ev σ))) (valOf c222.row [n, k]) (fun _ _ => False) := by
  obtain ⟨⟨h1, h2⟩, h3, h4⟩ := h
  simp only [T222, Tr.holds, BE.ev, IE.ev, valOf_ofL, push_ofL, ofL_v, List.cons_append, List.nil_append, List.append_nil, List.getD_cons_zero, List.getD_cons_succ, decide_eq_true_eq, decide_eq_false_iff_not, List.map_cons, List.map_nil, AE.ev, beq_iff_eq, beq_eq_false_iff_ne, bne_iff_ne, bne_eq_false_iff_eq, ne_eq, if_true, if_false, ev_add, ev_sub, ev_mul, ev_max, ev_min, wrap_i64, wrap_u64, wrap_u32, wrap_u8, Bool.and_eq_true, Bool.or_eq_true, Bool.not_eq_true', Bool.and_eq_false_iff, Bool.or_eq_false_iff, Bool.not_eq_false', Bool.not_eq_false, Bool.true_eq_false, Bool.false_eq_true, reduceCtorEq, not_false_eq_true, not_true_eq_false, len1, len2, len3, len4, len5, len6, Nat.reduceAdd, Nat.reduceEqDiff, post222]
  refine ⟨fun h => by omega, fun _ => ?_⟩
  rw [and1, ev_shr .u64 n k (by show k ≤ 64; omega)]
theorem met222 : c222.met := met_of (l := []) trivial c222 (hint := noHint) (n := 1000) (by kernel_rfl) (by kernel_rfl) run222 fun xs hl hp => by
  have hl : xs.length = 2 := hl
  obtain ⟨n, l0, rfl, h0⟩ := consOf hl
  obtain ⟨k, l1, rfl, h1⟩ := consOf h0
  cases nilOf h1
  exact hold222 n k hp

theorem hold206 (n : Int) (h : U64 n) : T206.holds (specOf []) (fun σ _ es => c206.post [n] (es.map (·.ev σ))) (valOf c206.row [n]) (fun _ _ => False) := by
  obtain ⟨h1, h2⟩ := h
  simp only [T206, Tr.holds]
  refine ⟨fun vs => ∃ k : Int, vs = [k - 1, k] ∧ 0 ≤ k ∧ k ≤ 64 ∧ (0 < k → 2 ^ (k - 1).toNat ≤ n), fun vs => (64 - vs.getD 1 0).toNat, ⟨0, by simp [AE.ev, IE.ev], by omega, by omega, fun h => by omega⟩, ?_⟩
  rintro vs - ⟨k, rfl, k1, k2, k3⟩
  simp only [Tr.holds, BE.ev, IE.ev, valOf_ofL, push_ofL, ofL_v, List.cons_append, List.nil_append, List.append_nil, List.getD_cons_zero, List.getD_cons_succ, decide_eq_true_eq, decide_eq_false_iff_not, List.map_cons, List.map_nil, AE.ev, beq_iff_eq, beq_eq_false_iff_ne, bne_iff_ne, bne_eq_false_iff_eq, ne_eq, if_true, if_false, ev_add, ev_sub, ev_mul, ev_max, ev_min, wrap_i64, wrap_u64, wrap_u32, wrap_u8, Bool.and_eq_true, Bool.or_eq_true, Bool.not_eq_true', Bool.and_eq_false_iff, Bool.or_eq_false_iff, Bool.not_eq_false', Bool.not_eq_false, Bool.true_eq_false, Bool.false_eq_true, reduceCtorEq, not_false_eq_true, not_true_eq_false, len1, len2, len3, len4, len5, len6, Nat.reduceAdd, Nat.reduceEqDiff, post206]
  refine ⟨fun hk => ⟨fun h => by omega, fun _ => ?_⟩, fun hk => ?_⟩
  · rw [ev_shr .u64 n k (by show k ≤ 64; omega)]
    have hp := pow_pos' k.toNat
    refine ⟨fun hz => ?_, fun hz => ?_⟩
    · have hlt : n < 2 ^ k.toNat := by
        rcases lt_or_ge' n (2 ^ k.toNat) with h | h
        · exact h
        · have := Int.le_ediv_of_mul_le hp (show 1 * 2 ^ k.toNat ≤ n by omega)
          omega
      refine ⟨by omega, by omega, fun hn => ?_, fun hn => ?_⟩
      · by_cases hk0 : k = 0
        · omega
        · have := k3 (by omega)
          have := pow_pos' (k - 1).toNat
          omega
      · by_cases hk0 : k = 0
        · subst hk0; simp at hlt; omega
        · refine ⟨by omega, k3 (by omega), ?_⟩
          rw [show (k - 1).toNat + 1 = k.toNat by omega]; exact hlt
    · have hle : 2 ^ k.toNat ≤ n := by
        rcases lt_or_ge' n (2 ^ k.toNat) with h | h
        · exact absurd (Int.ediv_eq_zero_of_lt h1 h) hz
        · exact h
      refine ⟨⟨k + 1, ?_, by omega, by omega, fun _ => ?_⟩, ?_⟩
      · congr 1
        · omega
        · congr 1
          split <;> omega
      · rw [show k + 1 - 1 = k by omega]; exact hle
      · split <;> omega
  · have : k = 64 := by omega
    subst this
    have h63 := k3 (by omega)
    refine ⟨by omega, by omega, fun hn => ?_, fun hn => ⟨by omega, h63, ?_⟩⟩
    · have := pow_pos' (64 - 1 : Int).toNat
      omega
    · rw [show ((64 : Int) - 1).toNat + 1 = 64 by decide]
      rw [show (2 : Int) ^ 64 = 18446744073709551616 by decide]; exact h2
theorem met206 : c206.met := met_of (l := []) trivial c206 (hint := hint206) (n := 1000) (by kernel_rfl) (by kernel_rfl) run206 fun xs hl hp => by
  have hl : xs.length = 1 := hl
  obtain ⟨n, l0, rfl, h0⟩ := consOf hl
  cases nilOf h0
  exact hold206 n hp

theorem mul_word {a y : Int} (h1 : 0 ≤ a) (h2 : a < 18446744073709551616) (h3 : 0 ≤ y) (h4 : y < 18446744073709551616) : 0 ≤ a * y ∧ a * y < WW := by
  refine ⟨Int.mul_nonneg h1 h3, ?_⟩
  have := Int.mul_le_mul (show a ≤ 18446744073709551615 by omega) (show y ≤ 18446744073709551615 by omega) h3 (by decide)
  simp only [WW]
  omega

theorem div_word {b : Int} (k : Nat) (h1 : 0 ≤ b) (h2 : b < 18446744073709551616) : 0 ≤ b / 2 ^ k ∧ b / 2 ^ k < 18446744073709551616 := by
  refine ⟨Int.ediv_nonneg h1 (Int.le_of_lt (pow_pos' k)), ?_⟩
  have := Int.ediv_le_self (2 ^ k) h1
  omega

theorem hold199 (a b : Int) (h : U64 a ∧ U64 b) : T199.holds (specOf [c221, c222]) (fun σ _ es => c199.post [a, b] (es.map (·.ev σ))) (valOf c199.row [a, b]) (fun _ _ => False) := by
  obtain ⟨⟨a1, a2⟩, b1, b2⟩ := h
  simp only [T199, Tr.holds]
  refine ⟨fun vs => ∃ hi lo k : Int, vs = [hi, lo, k] ∧ U64 hi ∧ U64 lo ∧ -1 ≤ k ∧ k ≤ 63 ∧ W hi lo = a * (b / 2 ^ (k + 1).toNat), fun vs => (1 + vs.getD 2 0).toNat, ⟨0, 0, 63, rfl, ⟨by omega, by omega⟩, ⟨by omega, by omega⟩, by omega, by omega, ?_⟩, ?_⟩
  · rw [show ((63 : Int) + 1).toNat = 64 by decide, show (2 : Int) ^ 64 = 18446744073709551616 by decide, Int.ediv_eq_zero_of_lt b1 b2]
    simp [W]
  rintro vs - ⟨hi, lo, k, rfl, ⟨g1, g2⟩, ⟨g3, g4⟩, g5, g6, g7⟩
  simp only [Tr.holds, BE.ev, IE.ev, valOf_ofL, push_ofL, ofL_v, List.cons_append, List.nil_append, List.append_nil, List.getD_cons_zero, List.getD_cons_succ, decide_eq_true_eq, decide_eq_false_iff_not, List.map_cons, List.map_nil, AE.ev, beq_iff_eq, beq_eq_false_iff_ne, bne_iff_ne, bne_eq_false_iff_eq, ne_eq, if_true, if_false, ev_add, ev_sub, ev_mul, ev_max, ev_min, wrap_i64, wrap_u64, wrap_u32, wrap_u8, Bool.and_eq_true, Bool.or_eq_true, Bool.not_eq_true', Bool.and_eq_false_iff, Bool.or_eq_false_iff, Bool.not_eq_false', Bool.not_eq_false, Bool.true_eq_false, Bool.false_eq_true, reduceCtorEq, not_false_eq_true, not_true_eq_false, len1, len2, len3, len4, len5, len6, Nat.reduceAdd, Nat.reduceEqDiff, post199, sp199_221, sq199_221, sp199_222, sq199_222, pre221, post221, pre222, post222]
  refine ⟨fun hk => ⟨⟨⟨g1, g2⟩, ⟨g3, g4⟩, ⟨g1, g2⟩, ⟨g3, g4⟩⟩, fun p q r hp => ⟨⟨⟨b1, b2⟩, hk, g6⟩, fun bit hbit => ?_⟩⟩, fun hk => ?_⟩
  · obtain ⟨p1, p2, p3, _⟩ := hp
    have hd := div_bit (n := b) hk
    obtain ⟨y1, y2⟩ := div_word k.toNat b1 b2
    obtain ⟨m1, m2⟩ := mul_word a1 a2 y1 y2
    have hb01 : bit = 0 ∨ bit = 1 := by omega
    have hay : a * (b / 2 ^ k.toNat) = 2 * (a * (b / 2 ^ (k + 1).toNat)) + a * bit := by
      rw [hbit, show 2 * (a * (b / 2 ^ (k + 1).toNat)) + a * (b / 2 ^ k.toNat % 2) = a * (2 * (b / 2 ^ (k + 1).toNat) + b / 2 ^ k.toNat % 2) by rw [Int.mul_add, Int.mul_left_comm], ← hd]
    have hk1 : (k - 1 + 1).toNat = k.toNat := by omega
    have hkm : (if (k - 1) % 18446744073709551616 ≥ 9223372036854775808 then (k - 1) % 18446744073709551616 - 18446744073709551616 else (k - 1) % 18446744073709551616) = k - 1 := by split <;> omega
    simp only [hkm]
    rw [g7] at p3
    generalize a * (b / 2 ^ (k + 1).toNat) = A at *
    refine ⟨fun h1 => ⟨⟨p1, p2, ⟨by omega, by omega⟩, a1, a2⟩, fun u v s hs => ?_⟩, fun h1 => ?_⟩
    · obtain ⟨u1, u2, u3, _⟩ := hs
      subst h1
      rw [Int.mul_one] at hay
      refine ⟨⟨u, v, k - 1, rfl, u1, u2, by omega, by omega, ?_⟩, by omega⟩
      rw [hk1, hay, u3, p3]
      simp only [W, WW] at *
      omega
    · have h0 : bit = 0 := by omega
      subst h0
      rw [Int.mul_zero, Int.add_zero] at hay
      refine ⟨⟨p, q, k - 1, rfl, p1, p2, by omega, by omega, ?_⟩, by omega⟩
      rw [hk1, hay, p3]
      simp only [W, WW] at *
      omega
  · have : k = -1 := by omega
    subst this
    refine ⟨⟨g1, g2⟩, ⟨g3, g4⟩, ?_⟩
    rw [g7, show ((-1 : Int) + 1).toNat = 0 by decide]
    simp
theorem met199 : c199.met := met_of (l := [c221, c222]) ⟨met221, met222, trivial⟩ c199 (hint := hint199) (n := 1000) (by kernel_rfl) (by kernel_rfl) run199 fun xs hl hp => by
  have hl : xs.length = 2 := hl
  obtain ⟨a, l0, rfl, h0⟩ := consOf hl
  obtain ⟨b, l1, rfl, h1⟩ := consOf h0
  cases nilOf h1
  exact hold199 a b hp

theorem hold194 (a b : Int) (h : U64 a ∧ U64 b) : T194.holds (specOf []) (fun σ _ es => c194.post [a, b] (es.map (·.ev σ))) (valOf c194.row [a, b]) (fun _ _ => False) := by
  obtain ⟨⟨a1, a2⟩, b1, b2⟩ := h
  have or' : ∀ x y, F2.ev .or .u64 (x % 18446744073709551616 / 4294967296 * 4294967296 % 18446744073709551616) (y % 4294967296) = x % 18446744073709551616 / 4294967296 * 4294967296 % 18446744073709551616 + y % 4294967296 :=
    fun x y => or32 _ _ ⟨by omega, by omega⟩ (by omega) (by omega) (by omega)
  have or2 : ∀ x y, F2.ev .or .u64 (x * 4294967296 % 18446744073709551616) (y % 4294967296) = x * 4294967296 % 18446744073709551616 + y % 4294967296 :=
    fun x y => or32 _ _ ⟨by omega, by omega⟩ (by omega) (by omega) (by omega)
  have key := prod_parts (a / 4294967296) (a % 4294967296) (b / 4294967296) (b % 4294967296)
  rw [show a / 4294967296 * 4294967296 + a % 4294967296 = a by omega, show b / 4294967296 * 4294967296 + b % 4294967296 = b by omega] at key
  simp only [T194, Tr.holds, BE.ev, IE.ev, valOf_ofL, push_ofL, ofL_v, List.cons_append, List.nil_append, List.append_nil, List.getD_cons_zero, List.getD_cons_succ, decide_eq_true_eq, decide_eq_false_iff_not, List.map_cons, List.map_nil, AE.ev, beq_iff_eq, beq_eq_false_iff_ne, bne_iff_ne, bne_eq_false_iff_eq, ne_eq, if_true, if_false, ev_add, ev_sub, ev_mul, ev_max, ev_min, wrap_i64, wrap_u64, wrap_u32, wrap_u8, Bool.and_eq_true, Bool.or_eq_true, Bool.not_eq_true', Bool.and_eq_false_iff, Bool.or_eq_false_iff, Bool.not_eq_false', Bool.not_eq_false, Bool.true_eq_false, Bool.false_eq_true, reduceCtorEq, not_false_eq_true, not_true_eq_false, len1, len2, len3, len4, len5, len6, Nat.reduceAdd, Nat.reduceEqDiff, post194, and32, shr32, shl32, or2, W, U64]
  have k00 := bound (a % 4294967296) (b % 4294967296) (by omega) (by omega) (by omega) (by omega)
  have k01 := bound (a % 4294967296) (b / 4294967296) (by omega) (by omega) (by omega) (by omega)
  have k10 := bound (a / 4294967296) (b % 4294967296) (by omega) (by omega) (by omega) (by omega)
  have k11 := bound (a / 4294967296) (b / 4294967296) (by omega) (by omega) (by omega) (by omega)
  rw [key]
  clear key
  generalize a % 4294967296 * (b % 4294967296) = p00 at *
  generalize a % 4294967296 * (b / 4294967296) = p01 at *
  generalize a / 4294967296 * (b % 4294967296) = p10 at *
  generalize a / 4294967296 * (b / 4294967296) = p11 at *
  clear or' or2
  omega
theorem met194 : c194.met := met_of (l := []) trivial c194 (hint := noHint) (n := 1000) (by kernel_rfl) (by kernel_rfl) run194 fun xs hl hp => by
  have hl : xs.length = 2 := hl
  obtain ⟨a, l0, rfl, h0⟩ := consOf hl
  obtain ⟨b, l1, rfl, h1⟩ := consOf h0
  cases nilOf h1
  exact hold194 a b hp

theorem pow_le64 {k : Int} (h0 : 0 ≤ k) (h : k ≤ 64) : (2 : Int) ^ k.toNat ≤ 18446744073709551616 := by
  have h1 : (2 : Nat) ^ k.toNat ≤ 2 ^ 64 := Nat.pow_le_pow_right (by decide) (by omega)
  have e : (2 : Nat) ^ 64 = 18446744073709551616 := by decide
  rw [e] at h1
  have e2 : (2 : Int) ^ k.toNat = ((2 ^ k.toNat : Nat) : Int) := by rw [Int.natCast_pow]; rfl
  rw [e2]
  generalize 2 ^ k.toNat = p at *
  omega

theorem hold200 (hi lo d : Int) (h : U64 hi ∧ U64 lo ∧ U64 d) : T200.holds (specOf [c222]) (fun σ _ es => c200.post [hi, lo, d] (es.map (·.ev σ))) (valOf c200.row [hi, lo, d]) (fun _ _ => False) := by
  obtain ⟨⟨a1, a2⟩, ⟨b1, b2⟩, d1, d2⟩ := h
  simp only [T200, Tr.holds]
  refine ⟨fun hdh => ?_, fun hdh => ?_⟩
  · simp only [Tr.holds, BE.ev, IE.ev, valOf_ofL, push_ofL, ofL_v, List.cons_append, List.nil_append, List.append_nil, List.getD_cons_zero, List.getD_cons_succ, decide_eq_true_eq, decide_eq_false_iff_not, List.map_cons, List.map_nil, AE.ev, beq_iff_eq, beq_eq_false_iff_ne, bne_iff_ne, bne_eq_false_iff_eq, ne_eq, if_true, if_false, ev_add, ev_sub, ev_mul, ev_max, ev_min, wrap_i64, wrap_u64, wrap_u32, wrap_u8, Bool.and_eq_true, Bool.or_eq_true, Bool.not_eq_true', Bool.and_eq_false_iff, Bool.or_eq_false_iff, Bool.not_eq_false', Bool.not_eq_false, Bool.true_eq_false, Bool.false_eq_true, reduceCtorEq, not_false_eq_true, not_true_eq_false, Nat.reduceAdd, Nat.reduceEqDiff, post200] at hdh ⊢
    exact ⟨fun _ => ⟨trivial, trivial, trivial⟩, fun h => by omega⟩
  have hdh : ¬ d ≤ hi := by simpa only [Tr.holds, BE.ev, IE.ev, valOf_ofL, push_ofL, ofL_v, List.cons_append, List.nil_append, List.append_nil, List.getD_cons_zero, List.getD_cons_succ, decide_eq_true_eq, decide_eq_false_iff_not, List.map_cons, List.map_nil, AE.ev, beq_iff_eq, beq_eq_false_iff_ne, bne_iff_ne, bne_eq_false_iff_eq, ne_eq, if_true, if_false, ev_add, ev_sub, ev_mul, ev_max, ev_min, wrap_i64, wrap_u64, wrap_u32, wrap_u8, Bool.and_eq_true, Bool.or_eq_true, Bool.not_eq_true', Bool.and_eq_false_iff, Bool.or_eq_false_iff, Bool.not_eq_false', Bool.not_eq_false, Bool.true_eq_false, Bool.false_eq_true, reduceCtorEq, not_false_eq_true, not_true_eq_false, Nat.reduceAdd, Nat.reduceEqDiff] using hdh
  refine ⟨fun vs => ∃ q r k : Int, vs = [q, r, k] ∧ 0 ≤ q ∧ 0 ≤ r ∧ r < d ∧ -1 ≤ k ∧ k ≤ 63 ∧ q < 2 ^ (63 - k).toNat ∧ hi * 2 ^ (63 - k).toNat + lo / 2 ^ (k + 1).toNat = q * d + r, fun vs => (1 + vs.getD 2 0).toNat, ⟨0, hi, 63, rfl, by omega, a1, by omega, by omega, by omega, ?_, ?_⟩, ?_⟩
  · decide
  · rw [show ((63 : Int) + 1).toNat = 64 by decide, show (2 : Int) ^ 64 = 18446744073709551616 by decide, Int.ediv_eq_zero_of_lt b1 b2]
    simp
  rintro vs - ⟨q, r, k, rfl, q0, r0, rd, k0, k1, qb, inv⟩
  simp only [Tr.holds, BE.ev, IE.ev, valOf_ofL, push_ofL, ofL_v, List.cons_append, List.nil_append, List.append_nil, List.getD_cons_zero, List.getD_cons_succ, decide_eq_true_eq, decide_eq_false_iff_not, List.map_cons, List.map_nil, AE.ev, beq_iff_eq, beq_eq_false_iff_ne, bne_iff_ne, bne_eq_false_iff_eq, ne_eq, if_true, if_false, ev_add, ev_sub, ev_mul, ev_max, ev_min, wrap_i64, wrap_u64, wrap_u32, wrap_u8, Bool.and_eq_true, Bool.or_eq_true, Bool.not_eq_true', Bool.and_eq_false_iff, Bool.or_eq_false_iff, Bool.not_eq_false', Bool.not_eq_false, Bool.true_eq_false, Bool.false_eq_true, reduceCtorEq, not_false_eq_true, not_true_eq_false, len1, len2, len3, len4, len5, len6, Nat.reduceAdd, Nat.reduceEqDiff, post200, sp200_222, sq200_222, pre222, post222]
  refine ⟨fun hk => ⟨⟨⟨r0, by omega⟩, by omega, by omega⟩, fun ov hov => ⟨⟨⟨b1, b2⟩, hk, k1⟩, fun bit hbit => ?_⟩⟩, fun hk => ?_⟩
  · have hd := div_bit (n := lo) hk
    have hb01 : bit = 0 ∨ bit = 1 := by omega
    have hkm : (if (k - 1) % 18446744073709551616 ≥ 9223372036854775808 then (k - 1) % 18446744073709551616 - 18446744073709551616 else (k - 1) % 18446744073709551616) = k - 1 := by split <;> omega
    have hk1 : (k - 1 + 1).toNat = k.toNat := by omega
    have hp : (2 : Int) ^ (63 - (k - 1)).toNat = 2 * 2 ^ (63 - k).toNat := by
      rw [show 63 - (k - 1) = (63 - k) + 1 by omega]; exact pow_split (by omega)
    have hp64 : (2 : Int) ^ (63 - (k - 1)).toNat ≤ 18446744073709551616 := pow_le64 (by omega) (by omega)
    have hinv2 : hi * 2 ^ (63 - (k - 1)).toNat + lo / 2 ^ k.toNat = 2 * (q * d) + (2 * r + bit) := by
      rw [hp, hd, ← hbit, Int.mul_left_comm]
      omega
    have e63 : (2 : Int) ^ (63 : Int).toNat = 9223372036854775808 := by decide
    rw [e63] at hov
    have e1 : (2 : Int) ^ (1 : Int).toNat = 2 := by decide
    have hor : F2.ev .or .u64 (r * 2 % 18446744073709551616) bit = r * 2 % 18446744073709551616 + bit := or_low _ _ 1 (by decide) ⟨by omega, by omega⟩ (by show _ % 2 = 0; omega) (by omega) (by show bit < 2; omega)
    have horq : F2.ev .or .u64 (q * 2 % 18446744073709551616) 1 = q * 2 % 18446744073709551616 + 1 := or_low _ _ 1 (by decide) ⟨by omega, by omega⟩ (by show _ % 2 = 0; omega) (by omega) (by decide)
    rw [ev_shl64 r 1 (by decide), ev_shl64 q 1 (by decide), e1, hor, horq, hkm]
    have hqq : q * 2 % 18446744073709551616 = 2 * q := by omega
    rw [hqq]
    have hmul : (2 * q + 1) * d = 2 * (q * d) + d := by rw [Int.add_mul, Int.mul_assoc, Int.one_mul]
    have hmul2 : (2 * q) * d = 2 * (q * d) := by rw [Int.mul_assoc]
    have big : d ≤ 2 * r + bit → (r * 2 % 18446744073709551616 + bit - d) % 18446744073709551616 = 2 * r + bit - d := fun _ => by omega
    refine ⟨fun hno => ⟨fun hge => ?_, fun hlt => ?_⟩, fun hyes => ?_⟩
    · rw [big (by omega)]
      refine ⟨⟨2 * q + 1, 2 * r + bit - d, k - 1, rfl, by omega, by omega, by omega, by omega, by omega, by omega, ?_⟩, by omega⟩
      rw [hk1, hinv2, hmul]; omega
    · have : r * 2 % 18446744073709551616 + bit = 2 * r + bit := by omega
      rw [this] at hlt ⊢
      refine ⟨⟨2 * q, 2 * r + bit, k - 1, rfl, by omega, by omega, by omega, by omega, by omega, by omega, ?_⟩, by omega⟩
      rw [hk1, hinv2, hmul2]
    · rw [big (by omega)]
      refine ⟨⟨2 * q + 1, 2 * r + bit - d, k - 1, rfl, by omega, by omega, by omega, by omega, by omega, by omega, ?_⟩, by omega⟩
      rw [hk1, hinv2, hmul]; omega
  · have : k = -1 := by omega
    subst this
    rw [show ((63 : Int) - -1).toNat = 64 by decide, show ((-1 : Int) + 1).toNat = 0 by decide, show (2 : Int) ^ 64 = 18446744073709551616 by decide] at *
    refine ⟨fun h => by omega, fun _ => ⟨trivial, ⟨q0, qb⟩, ⟨r0, by omega⟩, rd, ?_⟩⟩
    simp only [W]
    rw [← inv]; simp
theorem met200 : c200.met := met_of (l := [c222]) ⟨met222, trivial⟩ c200 (hint := hint200) (n := 1000) (by kernel_rfl) (by kernel_rfl) run200 fun xs hl hp => by
  have hl : xs.length = 3 := hl
  obtain ⟨hi, l0, rfl, h0⟩ := consOf hl
  obtain ⟨lo, l1, rfl, h1⟩ := consOf h0
  obtain ⟨d, l2, rfl, h2⟩ := consOf h1
  cases nilOf h2
  exact hold200 hi lo d hp
end Go.Proofs.Tx
