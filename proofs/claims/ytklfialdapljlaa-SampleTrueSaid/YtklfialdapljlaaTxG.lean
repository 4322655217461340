/- Shifts of numbers: what they are. -/
import Derived.Test.YtklfialdapljlaaTxF
namespace Go.Proofs.Tx
open Go Go.Proofs.Sx
set_option maxRecDepth 100000
set_option linter.unusedSimpArgs false
set_option linter.unusedVariables false

theorem pow_mono {i j : Nat} (h : i ≤ j) : (2 : Int) ^ i ≤ 2 ^ j := by
  have h1 : (2 : Nat) ^ i ≤ 2 ^ j := Nat.pow_le_pow_right (by decide) h
  have e : ∀ k : Nat, (2 : Int) ^ k = ((2 ^ k : Nat) : Int) := fun k => by rw [Int.natCast_pow]; rfl
  rw [e, e]; omega

theorem div_small {a : Int} {i : Nat} : a / 2 ^ i = 0 ↔ 0 ≤ a ∧ a < 2 ^ i := by
  have hp := pow_pos' i
  constructor
  · intro h
    have h1 := Int.emod_nonneg a (show (2 : Int) ^ i ≠ 0 by omega)
    have h2 := Int.emod_lt_of_pos a hp
    have h3 := Int.mul_ediv_add_emod a (2 ^ i)
    rw [h, Int.mul_zero] at h3
    omega
  · rintro ⟨h1, h2⟩; exact Int.ediv_eq_zero_of_lt h1 h2

theorem div_minus {a : Int} {i : Nat} : a / 2 ^ i = -1 ↔ a < 0 ∧ -2 ^ i ≤ a := by
  have hp := pow_pos' i
  have h1 := Int.emod_nonneg a (show (2 : Int) ^ i ≠ 0 by omega)
  have h2 := Int.emod_lt_of_pos a hp
  have h3 := Int.mul_ediv_add_emod a (2 ^ i)
  constructor
  · intro h
    rw [h] at h3
    omega
  · rintro ⟨h4, h5⟩
    have h6 : a / 2 ^ i < 0 := Int.ediv_neg_of_neg_of_pos h4 hp
    have h7 : -1 ≤ a / 2 ^ i := by rw [Int.le_ediv_iff_mul_le hp]; omega
    omega

/-- beyond all bits -/
theorem div_far {a : Int} (h : I64 a) {i : Nat} (hi : 63 ≤ i) : a / 2 ^ i = if a < 0 then -1 else 0 := by
  have h1 := pow_mono hi
  have e : (2 : Int) ^ 63 = 9223372036854775808 := by decide
  rw [e] at h1
  obtain ⟨h2, h3⟩ := h
  split
  · exact div_minus.2 ⟨by omega, by omega⟩
  · exact div_small.2 ⟨by omega, by omega⟩

theorem hold133 (a n : Int) (h : I64 a ∧ I64 n) : T133.holds (specOf [c193, c195, c206]) (fun σ _ es => c133.post [a, n] (es.map (·.ev σ))) (valOf c133.row [a, n]) (fun _ _ => False) := by
  obtain ⟨⟨a1, a2⟩, n1, n2⟩ := h
  have key : n ≤ 0 → F2.ev .min .i64 63 (F2.ev .sub .i64 0 (F2.ev .max .i64 n (-63))) = min 63 (-n) := fun hn => by
    simp only [ev_min, ev_sub, ev_max, wrap_i64]; omega
  have em : ∀ m : Int, 0 < n → F2.ev .min .i64 n m = min n m := fun m hn => by simp only [ev_min]; omega
  simp only [T133, Tr.holds, BE.ev, IE.ev, valOf_ofL, push_ofL, ofL_v, List.cons_append, List.nil_append, List.getD_cons_zero, List.getD_cons_succ, decide_eq_true_eq, decide_eq_false_iff_not, List.map_cons, List.map_nil, AE.ev, post133, sp133_193, sq133_193, sp133_195, sq133_195, sp133_206, sq133_206, pre193, post193, pre195, post195, pre206, post206, len1, len2]
  refine ⟨fun hn => ?_, fun hn => ?_⟩
  · rw [key hn]
    refine ⟨fun h => by omega, fun _ => ?_⟩
    rw [ev_shr .i64 a _ (by show min 63 (-n) ≤ 64; omega), ev_max]
    simp only [shiftF, if_pos hn]
  · have hn : 0 < n := by omega
    have hsf : shiftF a n = clampM (a * 2 ^ (min n 64).toNat) := by simp only [shiftF, if_neg (show ¬ n ≤ 0 by omega)]
    refine ⟨⟨a1, a2⟩, fun s g hs => ?_⟩
    obtain ⟨hs, hg⟩ := hs
    have hsu : U64 s := by rw [hs]; simp only [sizeF, U64]; split <;> omega
    have hgb : BE.ev (ofL [a, n, s, g] fun r => if (roIn c133.row.args 0 r).length = 0 then [] else dec ([a, n].getD r 0)) (.nz (.var 3)) = decide (a < 0) := by
      simp only [BE.ev, IE.ev, ofL_v, List.getD_cons_zero, List.getD_cons_succ, hg]
      split <;> simp [*]
    have hcut : ∀ x : Int, cutF (g ≠ 0) x (0 < (0 : Int)) = if a < 0 then -(if x < M then x else M) else (if x < M then x else M) := fun x => by
      simp only [cutF, hg]
      by_cases ha : a < 0 <;> simp [ha]
    have hg01 : (if (g != 0) = true then (1 : Int) else 0) = g := by rw [hg]; split <;> simp
    rw [hsf]
    have last : ∀ x r : Int, 0 < n → (s = 0 ∨ n < 63) → s * 2 ^ n.toNat ≤ M → r = cutF ((if (g != 0) = true then (1 : Int) else 0) ≠ 0) (F2.ev .shl .u64 s (F2.ev .min .i64 n 63)) (0 < (0 : Int)) → r = clampM (a * 2 ^ (min n 64).toNat) := by
      intro x r _ h63 hle hr
      rw [hg01] at hr
      rw [hr, hcut, em 63 hn, ev_shl64 _ _ (by omega)]
      rcases h63 with h0 | h63
      · rw [h0] at hs
        have ha : a = 0 := by simp only [sizeF] at hs; split at hs <;> omega
        rw [ha, h0]; simp [clampM, M]
      · have e1 : (min n 63).toNat = n.toNat := by omega
        have e2 : (min n 64).toNat = n.toNat := by omega
        have hnn : 0 ≤ s * 2 ^ n.toNat := Int.mul_nonneg hsu.1 (Int.le_of_lt (pow_pos' _))
        rw [e1, e2, Int.emod_eq_of_lt hnn (by simp only [M] at hle; omega)]
        have hab : a * 2 ^ n.toNat = if a < 0 then -(s * 2 ^ n.toNat) else s * 2 ^ n.toNat := by
          rw [hs]; simp only [sizeF]; split
          · rw [Int.neg_mul, Int.neg_neg]
          · rfl
        rw [hab]
        simp only [clampM]
        split <;> (repeat' split) <;> omega
    refine ⟨fun hpos => ⟨hsu, fun L hL => ⟨fun hge => ⟨⟨⟨by omega, by omega⟩, by omega, by omega⟩, fun r hr => ?_⟩, fun hlt => ⟨fun h => ?_, fun _ => ⟨⟨?_, by omega, by omega⟩, fun r hr => ?_⟩⟩⟩⟩, fun hz => ⟨fun h => ?_, fun _ => ⟨⟨?_, by omega, by omega⟩, fun r hr => ?_⟩⟩⟩
    · rw [hg01, hcut] at hr
      rw [em 64 hn, ev_add, wrap_i64] at hge
      obtain ⟨L1, L2, _, hL⟩ := hL
      obtain ⟨L0, hL3, hL4⟩ := hL hpos
      have hge : 63 ≤ L + min n 64 := by split at hge <;> omega
      have hbig : 9223372036854775808 ≤ s * 2 ^ (min n 64).toNat := by
        have h1 : (2 : Int) ^ L.toNat * 2 ^ (min n 64).toNat ≤ s * 2 ^ (min n 64).toNat := Int.mul_le_mul_of_nonneg_right hL3 (Int.le_of_lt (pow_pos' _))
        rw [← Int.pow_add] at h1
        have h2 := pow_mono (show 63 ≤ L.toNat + (min n 64).toNat by omega)
        have e : (2 : Int) ^ 63 = 9223372036854775808 := by decide
        omega
      have hab : a * 2 ^ (min n 64).toNat = if a < 0 then -(s * 2 ^ (min n 64).toNat) else s * 2 ^ (min n 64).toNat := by
        rw [hs]; simp only [sizeF]; split
        · rw [Int.neg_mul, Int.neg_neg]
        · rfl
      rw [hr, hab]
      simp only [clampM, M]
      split <;> (repeat' split) <;> omega
    · rw [em 63 hn] at h; omega
    · rw [em 63 hn, ev_shl64 _ _ (by omega)]; exact ⟨by omega, by omega⟩
    · rw [em 64 hn, ev_add, wrap_i64] at hlt
      obtain ⟨L1, L2, _, hL⟩ := hL
      obtain ⟨L0, hL3, hL4⟩ := hL hpos
      have hlt : L + min n 64 < 63 := by split at hlt <;> omega
      refine last 0 r hn (.inr (by omega)) ?_ hr
      have h1 : s * 2 ^ n.toNat ≤ (2 ^ (L.toNat + 1) - 1) * 2 ^ n.toNat := Int.mul_le_mul_of_nonneg_right (by omega) (Int.le_of_lt (pow_pos' _))
      rw [Int.sub_mul, ← Int.pow_add] at h1
      have h2 := pow_mono (show L.toNat + 1 + n.toNat ≤ 63 by omega)
      have h3 := pow_pos' n.toNat
      have e : (2 : Int) ^ 63 = 9223372036854775808 := by decide
      simp only [M]
      omega
    · rw [em 63 hn] at h; omega
    · rw [em 63 hn, ev_shl64 _ _ (by omega)]; exact ⟨by omega, by omega⟩
    · have h0 : s = 0 := by have := hsu.1; omega
      refine last 0 r hn (.inl h0) ?_ hr
      rw [h0]; simp
theorem met133 : c133.met := met_of (l := [c193, c195, c206]) ⟨met193, met195, met206, trivial⟩ c133 (hint := noHint) (n := 1000) (by kernel_rfl) (by kernel_rfl) run133 fun xs hl hp => by
  have hl : xs.length = 2 := hl
  obtain ⟨a, l0, rfl, h0⟩ := consOf hl
  obtain ⟨n, l1, rfl, h1⟩ := consOf h0
  cases nilOf h1
  exact hold133 a n hp

theorem clamp_mul {y p : Int} (hp : 1 ≤ p) : clampM (clampM y * p) = clampM (y * p) := by
  by_cases h1 : y < -M
  · have e1 : clampM y = -M := by simp only [clampM, if_pos h1]
    have h2 : y * p ≤ -M * p := Int.mul_le_mul_of_nonneg_right (by omega) (by omega)
    have h3 : -M * p ≤ -M * 1 := by
      rw [Int.neg_mul, Int.neg_mul]
      have := Int.mul_le_mul_of_nonneg_left hp (show 0 ≤ M by decide)
      omega
    rw [e1]
    generalize y * p = u at *
    generalize -M * p = v at *
    simp only [clampM, M] at *
    split <;> split <;> omega
  · by_cases h2 : M < y
    · have e1 : clampM y = M := by simp only [clampM, if_neg h1, if_pos h2]
      have h3 : M * p ≤ y * p := Int.mul_le_mul_of_nonneg_right (by omega) (by omega)
      have h4 : M * 1 ≤ M * p := Int.mul_le_mul_of_nonneg_left hp (by decide)
      rw [e1]
      generalize y * p = u at *
      generalize M * p = v at *
      simp only [clampM, M] at *
      split <;> split <;> omega
    · rw [show clampM y = y by simp only [clampM, if_neg h1, if_neg h2]]

theorem clamp_far {a : Int} {i j : Nat} (hi : 64 ≤ i) (hj : 64 ≤ j) : clampM (a * 2 ^ i) = clampM (a * 2 ^ j) := by
  have e : (2 : Int) ^ 64 = 18446744073709551616 := by decide
  have h1 := pow_mono hi
  have h2 := pow_mono hj
  rw [e] at h1 h2
  have key : ∀ p : Int, 18446744073709551616 ≤ p → clampM (a * p) = if a = 0 then 0 else if a < 0 then -M else M := fun p hp => by
    by_cases h0 : a = 0
    · rw [h0, if_pos rfl, Int.zero_mul]; decide
    · rw [if_neg h0]
      by_cases hn : a < 0
      · rw [if_pos hn]
        have : a * p ≤ -1 * p := Int.mul_le_mul_of_nonneg_right (by omega) (by omega)
        generalize a * p = u at *
        simp only [clampM, M]
        split <;> (try split) <;> omega
      · rw [if_neg hn]
        have : 1 * p ≤ a * p := Int.mul_le_mul_of_nonneg_right (by omega) (by omega)
        generalize a * p = u at *
        simp only [clampM, M]
        split <;> (try split) <;> omega
  rw [key _ h1, key _ h2]

theorem hold143 (a n : Int) (h : I64 a ∧ I64 n) : T143.holds (specOf [c106]) (fun σ _ es => c143.post [a, n] (es.map (·.ev σ))) (valOf c143.row [a, n]) (fun _ _ => False) := by
  obtain ⟨ha, n1, n2⟩ := h
  have hn0 : F2.ev .max .i64 (-1000) (F2.ev .min .i64 n 1000) = max (-1000) (min n 1000) := by simp only [ev_min, ev_max]; omega
  have down : ∀ j : Nat, ∀ x : Int, n < 0 → ((j : Int) ≤ -n ∧ j ≤ 1000) → x = a / 2 ^ j → ((j : Int) = min 1000 (-n) ∨ x = 0 ∨ x = -1) → x = a / 2 ^ (min 63 (-n)).toNat := by
    intro j x hn hj hx hc
    by_cases hj2 : (j : Int) ≤ min 63 (-n)
    · rcases hc with hc | hc | hc
      · have : j = (min 63 (-n)).toNat := by omega
        rw [hx, this]
      · have h1 := div_small.1 (hx.symm.trans hc)
        have := pow_mono (show j ≤ (min 63 (-n)).toNat by omega)
        rw [hc]; exact (div_small.2 ⟨h1.1, by omega⟩).symm
      · have h1 := div_minus.1 (hx.symm.trans hc)
        have := pow_mono (show j ≤ (min 63 (-n)).toNat by omega)
        rw [hc]; exact (div_minus.2 ⟨h1.1, by omega⟩).symm
    · have h63 : (min 63 (-n)).toNat = 63 := by omega
      rw [hx, h63, div_far ha (show 63 ≤ j by omega), div_far ha (Nat.le_refl 63)]
  simp only [T143, Tr.holds]
  refine ⟨fun vs => ∃ x m : Int, vs = [x, m] ∧ I64 x ∧ -1000 ≤ m ∧ m ≤ 1000 ∧ (0 ≤ n → x = a ∧ m = min n 1000) ∧ (n < 0 → m ≤ 0 ∧ max (-1000) n ≤ m ∧ x = a / 2 ^ (m - max (-1000) n).toNat), fun vs => (1000 - vs.getD 1 0).toNat,
    ⟨a, max (-1000) (min n 1000), by simp only [List.map_cons, List.map_nil, AE.ev, IE.ev, valOf_ofL, ofL_v, List.getD_cons_zero, List.getD_cons_succ, hn0], ha, by omega, by omega, fun h => ⟨rfl, by omega⟩, fun h => ⟨by omega, by omega, ?_⟩⟩, ?_⟩
  · rw [show (max (-1000) (min n 1000) - max (-1000) n).toNat = 0 by omega]; simp
  rintro vs - ⟨x, m, rfl, hx, m1, m2, hpos, hneg⟩
  simp only [Tr.holds, BE.ev, IE.ev, valOf_ofL, push_ofL, ofL_v, List.cons_append, List.nil_append, List.getD_cons_zero, List.getD_cons_succ, decide_eq_true_eq, decide_eq_false_iff_not, List.map_cons, List.map_nil, AE.ev, post143, sp143_106, sq143_106, pre106, post106, beq_iff_eq, beq_eq_false_iff_ne, Bool.not_eq_true', Bool.not_eq_false', if_true, ne_eq]
  refine ⟨fun hm => ⟨fun hx0 => ⟨fun hx1 => ?_, fun hx1 => ?_⟩, fun hx0 => ?_⟩, fun hm => ?_⟩
  · -- one round down
    have hn : n < 0 := by
      rcases lt_or_ge' n 0 with h | h
      · exact h
      · have := (hpos h).2; omega
    obtain ⟨g1, g2, g3⟩ := hneg hn
    rw [ev_shr .i64 x 1 (by decide), ev_add, wrap_i64]
    have e1 : (2 : Int) ^ (1 : Int).toNat = 2 := by decide
    rw [e1]
    have hw : (if (m + 1) % 18446744073709551616 ≥ 9223372036854775808 then (m + 1) % 18446744073709551616 - 18446744073709551616 else (m + 1) % 18446744073709551616) = m + 1 := by split <;> omega
    rw [hw]
    refine ⟨⟨x / 2, m + 1, rfl, ⟨by have := hx.1; omega, by have := hx.2; omega⟩, by omega, by omega, fun h => by omega, fun _ => ⟨by omega, by omega, ?_⟩⟩, by omega⟩
    rw [g3, show (m + 1 - max (-1000) n).toNat = (m - max (-1000) n).toNat + 1 by omega, Int.pow_succ, ← Int.ediv_ediv_of_nonneg (Int.le_of_lt (pow_pos' _))]
  · have hn : n < 0 := by
      rcases lt_or_ge' n 0 with h | h
      · exact h
      · have := (hpos h).2; omega
    obtain ⟨g1, g2, g3⟩ := hneg hn
    have hd := down (m - max (-1000) n).toNat x hn (by omega) g3 (.inr (.inr hx1))
    simp only [shiftF, if_pos (show n ≤ 0 by omega), ← hd, hx1]
    decide
  · have hn : n < 0 := by
      rcases lt_or_ge' n 0 with h | h
      · exact h
      · have := (hpos h).2; omega
    obtain ⟨g1, g2, g3⟩ := hneg hn
    have hd := down (m - max (-1000) n).toNat x hn (by omega) g3 (.inr (.inl hx0))
    simp only [shiftF, if_pos (show n ≤ 0 by omega), ← hd, hx0]
    decide
  · have hstart : clampM (x * 2 ^ m.toNat) = shiftF a n := by
      rcases lt_or_ge' n 0 with hn | hn
      · obtain ⟨g1, g2, g3⟩ := hneg hn
        have hm0 : m = 0 := by omega
        subst hm0
        have hd := down (0 - max (-1000) n).toNat x hn (by omega) g3 (.inl (by omega))
        simp only [shiftF, if_pos (show n ≤ 0 by omega), ← hd]
        have e0 : x * 2 ^ (0 : Int).toNat = x := by simp
        rw [e0]
        obtain ⟨hx1, hx2⟩ := hx
        simp only [clampM, M]
        split <;> (try split) <;> omega
      · obtain ⟨rfl, rfl⟩ := hpos hn
        rcases lt_or_ge' 0 n with hn0 | hn0
        · simp only [shiftF, if_neg (show ¬ n ≤ 0 by omega)]
          rcases lt_or_ge' n 65 with h | h
          · rw [show (min n 1000).toNat = (min n 64).toNat by omega]
          · exact clamp_far (by omega) (by omega)
        · have : n = 0 := by omega
          subst this
          obtain ⟨hx1, hx2⟩ := hx
          have e0 : x * 2 ^ (min (0 : Int) 1000).toNat = x := by rw [show (min (0 : Int) 1000).toNat = 0 by decide]; simp
          have e1 : x / 2 ^ (min 63 (-(0 : Int))).toNat = x := by rw [show (min 63 (-(0 : Int))).toNat = 0 by decide]; simp
          rw [e0]
          simp only [shiftF, e1, clampM, M]
          split <;> (try split) <;> (try split) <;> omega
    refine ⟨fun vs => ∃ y k : Int, vs = [y, k] ∧ I64 y ∧ 0 ≤ k ∧ k ≤ 1000 ∧ clampM (y * 2 ^ k.toNat) = shiftF a n, fun vs => (vs.getD 1 0).toNat, ⟨x, m, rfl, hx, by omega, m2, hstart⟩, ?_⟩
    rintro vs - ⟨y, k, rfl, hy, k1, k2, hk⟩
    simp only [Tr.holds, BE.ev, IE.ev, valOf_ofL, push_ofL, ofL_v, List.cons_append, List.nil_append, List.getD_cons_zero, List.getD_cons_succ, decide_eq_true_eq, decide_eq_false_iff_not, List.map_cons, List.map_nil, AE.ev, post143, sp143_106, sq143_106, pre106, post106, beq_iff_eq, beq_eq_false_iff_ne, Bool.not_eq_true', Bool.not_eq_false', if_true, ne_eq, len1]
    have hlast : k = 0 → F2.ev .max .i64 y (-9223372036854775807) = shiftF a n := fun h0 => by
      subst h0
      rw [← hk]
      have e0 : y * 2 ^ (0 : Int).toNat = y := by simp
      rw [e0]
      obtain ⟨hy1, hy2⟩ := hy
      simp only [ev_max, clampM, M]
      split <;> (try split) <;> (try split) <;> omega
    refine ⟨fun hk0 => ⟨fun hy0 => ⟨⟨hy, hy⟩, fun r hr => ?_⟩, fun hy0 => ?_⟩, fun hk0 => hlast (by omega)⟩
    · have hr2 : r = clampM (y * 2) := by rw [hr, addF, Int.mul_comm, Int.two_mul]
      have hw : F2.ev .sub .i64 k 1 = k - 1 := by rw [ev_sub, wrap_i64]; split <;> omega
      rw [hw]
      refine ⟨⟨r, k - 1, rfl, ?_, by omega, by omega, ?_⟩, by omega⟩
      · rw [hr2]; simp only [I64, clampM, M]; split <;> (try split) <;> omega
      · rw [hr2, clamp_mul (by have := pow_pos' (k - 1).toNat; omega), ← hk, Int.mul_assoc]
        congr 2
        rw [show k.toNat = (k - 1).toNat + 1 by omega, Int.pow_succ, Int.mul_comm]
    · rw [← hk, hy0]
      simp only [Int.zero_mul, ev_max]
      decide
theorem met143 : c143.met := met_of (l := [c106]) ⟨met106, trivial⟩ c143 (hint := hint143) (n := 1000) (by kernel_rfl) (by kernel_rfl) run143 fun xs hl hp => by
  have hl : xs.length = 2 := hl
  obtain ⟨a, l0, rfl, h0⟩ := consOf hl
  obtain ⟨n, l1, rfl, h1⟩ := consOf h0
  cases nilOf h1
  exact hold143 a n hp
end Go.Proofs.Tx
