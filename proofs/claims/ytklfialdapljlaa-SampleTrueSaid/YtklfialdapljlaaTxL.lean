/- Means of numbers: what they are. -/
import Derived.Test.YtklfialdapljlaaTxK
namespace Go.Proofs.Tx
open Go Go.Proofs.Sx
set_option maxRecDepth 100000
set_option linter.unusedSimpArgs false
set_option linter.unusedVariables false

theorem ev_op (σ : Val) (f : F2) (k : IntKind) (a b : IE) : (IE.op f k a b).ev σ = f.ev k (a.ev σ) (b.ev σ) := rfl
theorem ev_lit (σ : Val) (n : Int) : (IE.lit n).ev σ = n := rfl
theorem ev_var (l : List Int) (rr : Nat → List Int) (i : Nat) : (IE.var i).ev (ofL l rr) = l.getD i 0 := rfl
theorem ev_lt (σ : Val) (a b : IE) : (BE.lt a b).ev σ = decide (a.ev σ < b.ev σ) := rfl

theorem getD_mem {L : List Int} {k : Nat} (h : k < L.length) : L.getD k 0 ∈ L := by
  rw [List.getD_eq_getElem?_getD, List.getElem?_eq_getElem h]; exact List.getElem_mem h

theorem total_bound (L : List Int) (h : ∀ y ∈ L, I64 y) : ∀ k : Nat, k ≤ L.length → -9223372036854775808 * (k : Int) ≤ total L k ∧ total L k ≤ 9223372036854775807 * (k : Int) := by
  intro k
  induction k with
  | zero => intro _; simp [total]
  | succ k ih =>
    intro hk
    obtain ⟨a, b⟩ := ih (by omega)
    obtain ⟨c, d⟩ := h _ (getD_mem (show k < L.length by omega))
    simp only [total]
    omega

theorem div_i64 {y n : Int} (hy : -9223372036854775808 * n ≤ y ∧ y ≤ 9223372036854775807 * n) (hn : 0 < n) : I64 (y / n) := by
  obtain ⟨h1, h2⟩ := hy
  constructor
  · rw [Int.le_ediv_iff_mul_le hn]; exact h1
  · have : y / n < 9223372036854775808 := by rw [Int.ediv_lt_iff_lt_mul hn]; omega
    omega

theorem quo_step (y n : Int) (hy : I64 y) (hn : 0 < n) (hn2 : n ≤ 2147483648) :
    (F2.ev .sub .i64 y (F2.ev .mul .i64 (F2.ev .quo .i64 y n) n) < 0 → F2.ev .sub .i64 (F2.ev .quo .i64 y n) 1 = y / n ∧ F2.ev .add .i64 (F2.ev .sub .i64 y (F2.ev .mul .i64 (F2.ev .quo .i64 y n) n)) n = y % n) ∧
    (¬ F2.ev .sub .i64 y (F2.ev .mul .i64 (F2.ev .quo .i64 y n) n) < 0 → F2.ev .quo .i64 y n = y / n ∧ F2.ev .sub .i64 y (F2.ev .mul .i64 (F2.ev .quo .i64 y n) n) = y % n) := by
  obtain ⟨y1, y2⟩ := hy
  have hQ : I64 (y / n) := div_i64 ⟨by omega, by omega⟩ hn
  have hR0 := Int.emod_nonneg y (show n ≠ 0 by omega)
  have hR1 := Int.emod_lt_of_pos y hn
  have hQR : y / n * n + y % n = y := Int.ediv_mul_add_emod y n
  obtain ⟨q1, q2⟩ := hQ
  have hq : F2.ev .quo .i64 y n = y / n ∧ (0 ≤ y ∨ y % n = 0) ∨ F2.ev .quo .i64 y n = y / n + 1 ∧ y < 0 ∧ y % n ≠ 0 := by
    rw [ev_quo, Int.tdiv_eq_ediv]
    by_cases hc : 0 ≤ y ∨ n ∣ y
    · left
      rw [if_pos hc, Int.add_zero]
      refine ⟨by rw [wrap_i64]; split <;> omega, ?_⟩
      rcases hc with h | h
      · exact .inl h
      · exact .inr (Int.emod_eq_zero_of_dvd h)
    · right
      have hc1 : y < 0 := by omega
      have hc2 : y % n ≠ 0 := fun h => hc (.inr (Int.dvd_of_emod_eq_zero h))
      rw [if_neg hc, Int.sign_eq_one_of_pos hn]
      have : y / n < 0 := by rw [Int.ediv_lt_iff_lt_mul hn]; omega
      refine ⟨by rw [wrap_i64]; split <;> omega, hc1, hc2⟩
  rcases hq with ⟨e, hc⟩ | ⟨e, hc1, hc2⟩
  · have h1 : F2.ev .sub .i64 y (F2.ev .mul .i64 (F2.ev .quo .i64 y n) n) = y % n := by
      rw [e, ev_mul, ev_sub, wrap_i64, wrap_i64]
      generalize y / n * n = z at *
      split <;> split <;> omega
    rw [h1, e]
    exact ⟨fun h => by omega, fun _ => ⟨rfl, rfl⟩⟩
  · have h1 : F2.ev .sub .i64 y (F2.ev .mul .i64 (F2.ev .quo .i64 y n) n) = y % n - n := by
      rw [e, ev_mul, ev_sub, wrap_i64, wrap_i64, Int.add_mul, Int.one_mul]
      generalize y / n * n = z at *
      split <;> split <;> omega
    rw [h1, e]
    refine ⟨fun _ => ⟨?_, ?_⟩, fun h => by omega⟩
    · rw [ev_sub, wrap_i64]; split <;> omega
    · rw [ev_add, wrap_i64]; split <;> omega

theorem wrap_add (a b : Int) : F2.ev .add .i64 (IntKind.wrap .i64 a) b = IntKind.wrap .i64 (a + b) := by
  rw [ev_add]
  simp only [wrap_i64]
  repeat' split
  all_goals omega

theorem wrap_in {a : Int} (h : I64 a) : IntKind.wrap .i64 a = a := by
  obtain ⟨h1, h2⟩ := h; rw [wrap_i64]; split <;> omega

theorem hold151 (x : Int) (h : (∀ y ∈ dec x, I64 y) ∧ (dec x).length ≤ 2147483648) : T151.holds (specOf []) (fun σ _ es => c151.post [x] (es.map (·.ev σ))) (valOf c151.row [x]) (fun _ _ => False) := by
  obtain ⟨h1, h2⟩ := h
  generalize hL : dec x = L at *
  obtain ⟨rr, hr, e⟩ : ∃ rr : Nat → List Int, rr 0 = L ∧ valOf c151.row [x] = ofL [x] rr := ⟨_, hL, rfl⟩
  rw [e]
  have hcnt (xs : List Int) : (IE.lcnt (.var 0) 1).ev (ofL (x :: xs) rr) = (L.length : Int) := by simp [IE.ev, ofL_v, hL]
  have hsel (xs : List Int) (k : Nat) (hk : xs.getD 2 0 = k) : (IE.sel 0 1 (.var 3) 0).ev (ofL (x :: xs) rr) = L.getD k 0 := by
    simp only [IE.ev, ofL_v, List.getD_cons_succ, hk, Int.toNat_natCast, Nat.mul_one, Nat.add_zero, ofL_r, hr]
  simp only [T151, Tr.holds, post151, List.map_cons, List.map_nil, hL]
  refine ⟨fun h0 => ?_, fun h0 => ?_⟩
  · have h0 : decide (IE.ev (ofL [x] rr) (.lcnt (.var 0) 1) = 0) = true := h0
    rw [hcnt, decide_eq_true_eq] at h0
    show (0 : Int) = _
    rw [meanF, if_pos (by omega)]
  have h0 : decide (IE.ev (ofL [x] rr) (.lcnt (.var 0) 1) = 0) = false := h0
  rw [hcnt, decide_eq_false_iff_not] at h0
  have hn : (0:Int) < L.length := by omega
  refine ⟨fun vs => ∃ (k : Nat) (w r B : Int), vs = [IntKind.wrap .i64 w, r, k] ∧ k ≤ L.length ∧ w * L.length + r = total L k ∧ 0 ≤ r ∧ r ≤ k * 2147483648, fun vs => L.length - (vs.getD 2 0).toNat, ⟨0, 0, 0, 0, by simp [AE.ev, IE.ev]; rfl, by omega, by simp [total], by omega, by omega⟩, ?_⟩
  rintro vs - ⟨k, w, r, -, rfl, hk, hw, r0, r1⟩
  rw [push_ofL, show ([x] ++ [IntKind.wrap .i64 w, r, (k : Int)]) = [x, IntKind.wrap .i64 w, r, k] from rfl]
  refine ⟨fun hc => ⟨fun hd => ?_, fun hd => ?_⟩, fun hc => ?_⟩
  · have hc : decide ((k : Int) < IE.ev (ofL (x :: [IntKind.wrap .i64 w, r, k]) rr) (.lcnt (.var 0) 1)) = true := hc
    rw [hcnt, decide_eq_true_eq] at hc
    have hkl : k < L.length := by omega
    have hy := h1 _ (getD_mem hkl)
    generalize hyy : L.getD k 0 = y at *
    have hs : (IE.sel 0 1 (.var 3) 0).ev (ofL [x, IntKind.wrap .i64 w, r, (k : Int)] rr) = y := by rw [← hyy]; exact hsel _ k rfl
    have hq := quo_step y L.length hy hn (by omega)
    have hc' := hcnt [IntKind.wrap .i64 w, r, (k : Int)]
    have hR0 := Int.emod_nonneg y (show (L.length : Int) ≠ 0 by omega)
    have hR1 := Int.emod_lt_of_pos y hn
    have hQR : y / L.length * L.length + y % L.length = y := Int.ediv_mul_add_emod y L.length
    have fin (u v i : Int) (hu : u = IntKind.wrap .i64 (w + y / L.length)) (hv : v = r + y % L.length) (hi : i = ((k + 1 : Nat) : Int)) : (∃ (k : Nat) (w r B : Int), [u, v, i] = [IntKind.wrap .i64 w, r, k] ∧ k ≤ L.length ∧ w * L.length + r = total L k ∧ 0 ≤ r ∧ r ≤ k * 2147483648) ∧ L.length - ([u, v, i].getD 2 0).toNat < L.length - ([IntKind.wrap .i64 w, r, (k : Int)].getD 2 0).toNat := by
      subst hu; subst hv; subst hi
      refine ⟨⟨k + 1, w + y / L.length, r + y % L.length, 0, rfl, by omega, ?_, by omega, by omega⟩, ?_⟩
      · rw [total, hyy, ← hw, Int.add_mul]; omega
      · simp only [List.getD_cons_succ, List.getD_cons_zero, Int.toNat_natCast]; omega
    have hi1 : F2.ev .add .i64 (k : Int) 1 = ((k + 1 : Nat) : Int) := by rw [ev_add, wrap_i64]; split <;> omega
    refine ⟨fun hneg => ?_, fun hneg => ?_⟩
    · simp only [ev_lt, ev_op, ev_lit, ev_var, List.getD_cons_succ, List.getD_cons_zero, hs, hc', decide_eq_true_eq] at hneg
      obtain ⟨a, b⟩ := hq.1 hneg
      simp only [AE.ev, if_true, ev_op, ev_lit, ev_var, List.getD_cons_succ, List.getD_cons_zero, hs, hc', a, b]
      refine fin _ _ _ (wrap_add _ _) ?_ hi1
      show F2.ev .add .i64 r _ = _
      rw [ev_add, wrap_in ⟨by omega, by omega⟩]
    · simp only [ev_lt, ev_op, ev_lit, ev_var, List.getD_cons_succ, List.getD_cons_zero, hs, hc', decide_eq_false_iff_not] at hneg
      obtain ⟨a, b⟩ := hq.2 hneg
      simp only [AE.ev, if_true, ev_op, ev_lit, ev_var, List.getD_cons_succ, List.getD_cons_zero, hs, hc', b]
      rw [a]
      refine fin _ _ _ (wrap_add _ _) ?_ hi1
      show F2.ev .add .i64 r _ = _
      rw [ev_add, wrap_in ⟨by omega, by omega⟩]
  · have hc : decide ((k : Int) < IE.ev (ofL (x :: [IntKind.wrap .i64 w, r, k]) rr) (.lcnt (.var 0) 1)) = true := hc
    have hd : (decide ((0:Int) ≤ k) && decide ((k : Int) < IE.ev (ofL (x :: [IntKind.wrap .i64 w, r, k]) rr) (.lcnt (.var 0) 1))) = false := hd
    rw [hc, Bool.and_true, decide_eq_false_iff_not] at hd
    omega
  · have hc : decide ((k : Int) < IE.ev (ofL (x :: [IntKind.wrap .i64 w, r, k]) rr) (.lcnt (.var 0) 1)) = false := hc
    rw [hcnt, decide_eq_false_iff_not] at hc
    have hkl : k = L.length := by omega
    have hb := total_bound L h1 L.length (Nat.le_refl _)
    rw [hkl] at hw
    have hI := div_i64 hb hn
    have hc' := hcnt [IntKind.wrap .i64 w, r, (k : Int)]
    have hrd := div_i64 (y := r) (n := L.length) ⟨by omega, by omega⟩ hn
    have e1 : w + r / L.length = total L L.length / L.length := by
      rw [← hw, Int.add_comm (w * _), Int.add_mul_ediv_right _ _ (by omega), Int.add_comm]
    have e2 : F2.ev .quo .i64 r L.length = r / L.length := by rw [ev_quo, Int.tdiv_eq_ediv, if_pos (.inl r0), Int.add_zero, wrap_in hrd]
    show F2.ev .max .i64 (F2.ev .add .i64 (IntKind.wrap .i64 w) (F2.ev .quo .i64 r (IE.ev (ofL (x :: [IntKind.wrap .i64 w, r, k]) rr) (.lcnt (.var 0) 1)))) (-9223372036854775807) = _
    rw [hc', e2, wrap_add, e1, wrap_in hI, meanF, if_neg (by omega), ev_max]
    simp only [M]
    omega
theorem met151 : c151.met := met_of (l := []) trivial c151 (hint := hint151) (n := 1000) (by kernel_rfl) (by kernel_rfl) run151 fun xs hl hp => by
  have hl : xs.length = 1 := hl
  obtain ⟨x, l0, rfl, h0⟩ := consOf hl
  cases nilOf h0
  exact hold151 x hp

theorem low_word {a0 b0 : Int} (a : U64 a0) (b : U64 b0) : F2.ev .sub .u64 a0 b0 = if a0 < b0 then a0 - b0 + 18446744073709551616 else a0 - b0 := by
  obtain ⟨a1, a2⟩ := a; obtain ⟨b1, b2⟩ := b
  rw [ev_sub, wrap_u64]; split <;> omega

theorem less_words {a1 a0 b1 b0 : Int} (p : U64 a1) (q : U64 a0) (r : U64 b1) (s : U64 b0) (h : W b1 b0 ≤ W a1 a0) :
    (a0 < b0 → U64 (F2.ev .sub .u64 (F2.ev .sub .u64 a1 b1) 1) ∧ U64 (F2.ev .sub .u64 a0 b0) ∧ W (F2.ev .sub .u64 (F2.ev .sub .u64 a1 b1) 1) (F2.ev .sub .u64 a0 b0) = W a1 a0 - W b1 b0) ∧
    (¬ a0 < b0 → U64 (F2.ev .sub .u64 a1 b1) ∧ U64 (F2.ev .sub .u64 a0 b0) ∧ W (F2.ev .sub .u64 a1 b1) (F2.ev .sub .u64 a0 b0) = W a1 a0 - W b1 b0) := by
  simp only [U64, W] at *
  have e := low_word ⟨q.1, q.2⟩ ⟨s.1, s.2⟩
  have e1 := low_word ⟨p.1, p.2⟩ ⟨r.1, r.2⟩
  refine ⟨fun hl => ?_, fun hl => ?_⟩
  · have : ¬ a1 < b1 := by omega
    have h2 : F2.ev .sub .u64 (a1 - b1) 1 = a1 - b1 - 1 := by rw [ev_sub, wrap_u64]; omega
    rw [e, if_pos hl, e1, if_neg this, h2]
    omega
  · have : ¬ a1 < b1 := by omega
    rw [e, if_neg hl, e1, if_neg this]
    omega

/-- the end of a mean: the difference of the sums, in parts -/
theorem mean_end {n D hi lo q r is g z : Int} {l : Nat} (hn : n = l) (h0 : 0 < n) (h1 : n ≤ 2147483648) (hD0 : 0 ≤ D) (hD : D ≤ 9223372036854775808 * n) (uh : U64 hi) (ul : U64 lo) (hW : W hi lo = D)
    (hq : (n ≤ hi → q = 0 ∧ r = 0 ∧ is = 0) ∧ (hi < n → is = 1 ∧ U64 q ∧ U64 r ∧ r < n ∧ W hi lo = q * n + r)) :
    U64 q ∧ U64 r ∧ ((z = cutF (g ≠ 0) q (0 < r)) → (g = 0 → D ≤ 9223372036854775807 * n → z = max (D / n) (-M)) ∧ (g ≠ 0 → z = max (-D / n) (-M))) := by
  have hlt : hi < n := by
    simp only [U64, W] at *
    rcases lt_or_ge' hi n with h | h
    · exact h
    · omega
  obtain ⟨_, uq, ur, hr, he⟩ := hq.2 hlt
  rw [hW] at he
  obtain ⟨e1, e2⟩ := quot_eq h0 he ur.1 hr
  refine ⟨uq, ur, fun hz => ⟨fun hg hD2 => ?_, fun hg => ?_⟩⟩
  · have hI := div_i64 (y := D) (n := n) ⟨by omega, hD2⟩ h0
    rw [hz, hg, e1]
    rw [e1] at hI
    obtain ⟨i1, i2⟩ := hI
    have u0 := uq.1
    simp only [cutF, M, ne_eq, not_true_eq_false, if_false]
    split <;> omega
  · have hneg : -D / n = if r = 0 then -q else -q - 1 := by
      by_cases hr0 : r = 0
      · rw [if_pos hr0, he, hr0, Int.add_zero, ← Int.neg_mul, Int.mul_ediv_cancel _ (by omega)]
      · rw [if_neg hr0]
        have : -D = (-q - 1) * n + (n - r) := by rw [he]; grind
        exact (quot_eq h0 this (by omega) (by have := ur.1; omega)).1
    have u0 := ur.1
    have u1 := uq.1
    rw [hz, hneg]
    simp only [cutF, M]
    rw [if_pos hg]
    repeat' split
    all_goals omega

theorem hold210 (x : Int) (h : (∀ y ∈ dec x, I64 y) ∧ (dec x).length ≤ 2147483648) : T210.holds (specOf [c193, c235, c223, c196, c195]) (fun σ _ es => c210.post [x] (es.map (·.ev σ))) (valOf c210.row [x]) (fun _ _ => False) := by
  obtain ⟨h1, h2⟩ := h
  generalize hL : dec x = L at *
  obtain ⟨rr, hr, e⟩ : ∃ rr : Nat → List Int, rr 0 = L ∧ valOf c210.row [x] = ofL [x] rr := ⟨_, hL, rfl⟩
  rw [e]
  have hcnt (xs : List Int) : (IE.lcnt (.var 0) 1).ev (ofL (x :: xs) rr) = (L.length : Int) := by simp [IE.ev, ofL_v, hL]
  have hsel (xs : List Int) (k : Nat) (hk : xs.getD 4 0 = k) : (IE.sel 0 1 (.var 5) 0).ev (ofL (x :: xs) rr) = L.getD k 0 := by
    simp only [IE.ev, ofL_v, List.getD_cons_succ, hk, Int.toNat_natCast, Nat.mul_one, Nat.add_zero, ofL_r, hr]
  simp only [T210, Tr.holds, post210, List.map_cons, List.map_nil, hL, sp210_193, sq210_193, sp210_235, sq210_235, sp210_223, sq210_223, sp210_196, sq210_196, sp210_195, sq210_195, pre193, post193, pre235, post235, pre223, post223, pre196, post196, pre195, post195, len1, len2, len3, push_ofL, List.cons_append, List.nil_append]
  refine ⟨fun h0 => ?_, fun h0 => ?_⟩
  · have h0 : decide (IE.ev (ofL [x] rr) (.lcnt (.var 0) 1) = 0) = true := h0
    rw [hcnt, decide_eq_true_eq] at h0
    show (0 : Int) = _
    rw [meanF, if_pos (by omega)]
  have h0 : decide (IE.ev (ofL [x] rr) (.lcnt (.var 0) 1) = 0) = false := h0
  rw [hcnt, decide_eq_false_iff_not] at h0
  have hn : (0:Int) < L.length := by omega
  refine ⟨fun vs => ∃ (k : Nat) (a1 a0 b1 b0 : Int), vs = [a1, a0, b1, b0, k] ∧ k ≤ L.length ∧ U64 a1 ∧ U64 a0 ∧ U64 b1 ∧ U64 b0 ∧ W a1 a0 - W b1 b0 = total L k ∧ W a1 a0 ≤ 9223372036854775808 * k ∧ W b1 b0 ≤ 9223372036854775808 * k, fun vs => L.length - (vs.getD 4 0).toNat, ⟨0, 0, 0, 0, 0, by simp [AE.ev, IE.ev], by omega, ⟨by decide, by decide⟩, ⟨by decide, by decide⟩, ⟨by decide, by decide⟩, ⟨by decide, by decide⟩, by simp [total, W], by simp [W], by simp [W]⟩, ?_⟩
  rintro vs - ⟨k, a1, a0, b1, b0, rfl, hk, ua1, ua0, ub1, ub0, hs, hA, hB⟩
  have hc' := hcnt [a1, a0, b1, b0, (k : Int)]
  refine ⟨fun hc => ⟨fun hd => ?_, fun hd => ?_⟩, fun hc => ?_⟩
  · have hc : decide ((k : Int) < IE.ev (ofL [x, a1, a0, b1, b0, k] rr) (.lcnt (.var 0) 1)) = true := hc
    rw [hc', decide_eq_true_eq] at hc
    have hkl : k < L.length := by omega
    have hy := h1 _ (getD_mem hkl)
    have hsl := hsel [a1, a0, b1, b0, (k : Int)] k rfl
    have hi1 : F2.ev .add .i64 (k : Int) 1 = ((k + 1 : Nat) : Int) := by rw [ev_add, wrap_i64]; split <;> omega
    have htot : total L (k + 1) = total L k + L.getD k 0 := rfl
    generalize hyy : L.getD k 0 = y at *
    have hz : AE.ev (ofL [x, a1, a0, b1, b0, (k : Int)] rr) (.num (.sel 0 1 (.var 5) 0)) = y := hsl
    rw [hz]
    refine ⟨hy, fun s g hsg => ?_⟩
    obtain ⟨hs1, hg⟩ := hsg
    have hsz := size_u64 hy
    have us : U64 s := ⟨by omega, by omega⟩
    have uz : U64 0 := ⟨by decide, by decide⟩
    have fin (p1 p0 q1 q0 i : Int) (hi : i = ((k + 1 : Nat) : Int)) (u1 : U64 p1) (u2 : U64 p0) (u3 : U64 q1) (u4 : U64 q0) (hT : W p1 p0 - W q1 q0 = total L k + y) (hb1 : W p1 p0 ≤ 9223372036854775808 * (k + 1 : Nat)) (hb2 : W q1 q0 ≤ 9223372036854775808 * (k + 1 : Nat)) : (∃ (k : Nat) (a1 a0 b1 b0 : Int), [p1, p0, q1, q0, i] = [a1, a0, b1, b0, (k : Int)] ∧ k ≤ L.length ∧ U64 a1 ∧ U64 a0 ∧ U64 b1 ∧ U64 b0 ∧ W a1 a0 - W b1 b0 = total L k ∧ W a1 a0 ≤ 9223372036854775808 * k ∧ W b1 b0 ≤ 9223372036854775808 * k) ∧ L.length - ([p1, p0, q1, q0, i].getD 4 0).toNat < L.length - ([a1, a0, b1, b0, (k : Int)].getD 4 0).toNat := by
      subst hi
      refine ⟨⟨k + 1, p1, p0, q1, q0, rfl, by omega, u1, u2, u3, u4, by rw [htot]; exact hT, hb1, hb2⟩, ?_⟩
      simp only [List.getD_cons_succ, List.getD_cons_zero, Int.toNat_natCast]; omega
    have hW0 : W 0 s = s := by simp [W]
    refine ⟨fun hc2 => ⟨⟨ub1, ub0, uz, us⟩, fun p q c hpq => ?_⟩, fun hc2 => ⟨⟨ua1, ua0, uz, us⟩, fun p q c hpq => ?_⟩⟩
    · have hc2 : (g != 0) = true := hc2
      rw [bne_iff_ne] at hc2
      obtain ⟨up, uq, hW, _⟩ := hpq
      have hW : W p q = (W b1 b0 + W 0 s) % WW := hW
      have hyn : y < 0 := by
        rcases lt_or_ge' y 0 with h | h
        · exact h
        · rw [if_neg (by omega)] at hg; exact absurd hg hc2
      have hsv : s = -y := by rw [hs1, sizeF, if_pos hyn]
      have e1 : W p q = W b1 b0 - y := by
        rw [hW, hW0, hsv]
        have : 0 ≤ W b1 b0 := by simp only [U64, W] at *; omega
        simp only [WW]
        rw [Int.emod_eq_of_lt (by omega) (by omega)]; omega
      exact fin a1 a0 p q _ hi1 ua1 ua0 up uq (by omega) (by omega) (by omega)
    · have hc2 : (g != 0) = false := hc2
      rw [bne_eq_false_iff_eq] at hc2
      obtain ⟨up, uq, hW, _⟩ := hpq
      have hW : W p q = (W a1 a0 + W 0 s) % WW := hW
      have hyn : ¬ y < 0 := fun h => by rw [if_pos h] at hg; omega
      have hsv : s = y := by rw [hs1, sizeF, if_neg hyn]
      have e1 : W p q = W a1 a0 + y := by
        rw [hW, hW0, hsv]
        have : 0 ≤ W a1 a0 := by simp only [U64, W] at *; omega
        simp only [WW]
        rw [Int.emod_eq_of_lt (by omega) (by omega)]
      exact fin p q b1 b0 _ hi1 up uq ub1 ub0 (by omega) (by omega) (by omega)
  · have hc : decide ((k : Int) < IE.ev (ofL [x, a1, a0, b1, b0, k] rr) (.lcnt (.var 0) 1)) = true := hc
    have hd : (decide ((0:Int) ≤ k) && decide ((k : Int) < IE.ev (ofL [x, a1, a0, b1, b0, k] rr) (.lcnt (.var 0) 1))) = false := hd
    rw [hc, Bool.and_true, decide_eq_false_iff_not] at hd
    omega
  · have hc : decide ((k : Int) < IE.ev (ofL [x, a1, a0, b1, b0, k] rr) (.lcnt (.var 0) 1)) = false := hc
    rw [hc', decide_eq_false_iff_not] at hc
    have hkl : k = L.length := by omega
    have hb := total_bound L h1 L.length (Nat.le_refl _)
    rw [hkl] at hs hA hB
    have hm : meanF L = max (total L L.length / L.length) (-M) := by rw [meanF, if_neg (by omega)]
    rw [hm]
    generalize total L L.length = T at *
    have hwn : IntKind.wrap .u64 (IE.ev (ofL [x, a1, a0, b1, b0, (k : Int)] rr) (.lcnt (.var 0) 1)) = L.length := by rw [hc', wrap_u64]; omega
    have un : U64 (L.length : Int) := ⟨by omega, by omega⟩
    refine ⟨⟨ua1, ua0, ub1, ub0⟩, fun g hg => ?_⟩
    have hg : g = if W a1 a0 < W b1 b0 then 1 else 0 := hg
    have hcg := hcnt [a1, a0, b1, b0, (k : Int), g]
    have hwg : AE.ev (ofL (x :: ([a1, a0, b1, b0, (k : Int)] ++ [g])) rr) (.num (.wrap .u64 (.lcnt (.var 0) 1))) = L.length := by
      show IntKind.wrap .u64 (IE.ev _ _) = _
      exact (congrArg _ hcg).trans (by rw [wrap_u64]; omega)
    have endg (hi lo D : Int) (uh : U64 hi) (ul : U64 lo) (hW : W hi lo = D) (hD0 : 0 ≤ D) (hD : D ≤ 9223372036854775808 * L.length) (hDT : (g = 0 ∧ D = T) ∨ (g ≠ 0 ∧ -D = T)) (q r is : Int)
        (hq : ((L.length : Int) ≤ hi → q = 0 ∧ r = 0 ∧ is = 0) ∧ (hi < (L.length : Int) → is = 1 ∧ U64 q ∧ U64 r ∧ r < L.length ∧ W hi lo = q * L.length + r)) :
        (U64 q ∧ U64 r) ∧ ∀ z, z = cutF ((if (g != 0) = true then (1 : Int) else 0) ≠ 0) q (0 < r) → z = max (T / L.length) (-M) := by
      obtain ⟨a, b, c⟩ := mean_end (g := g) (z := cutF (g ≠ 0) q (0 < r)) rfl hn (by omega) hD0 hD uh ul hW hq
      refine ⟨⟨a, b⟩, fun z hz => ?_⟩
      rw [hz, cut_congr (p' := g ≠ 0) (by by_cases h : g = 0 <;> simp [h]) (.inl rfl) (.inl Iff.rfl)]
      obtain ⟨c1, c2⟩ := c rfl
      rcases hDT with ⟨h1, h2⟩ | ⟨h1, h2⟩
      · rw [← h2]; exact c1 h1 (by omega)
      · rw [← h2]; exact c2 h1
    refine ⟨fun h6 => ?_, fun h6 => ?_⟩
    · have h6 : (g != 0) = true := h6
      rw [bne_iff_ne] at h6
      have hlt : W a1 a0 < W b1 b0 := by
        rcases lt_or_ge' (W a1 a0) (W b1 b0) with h | h
        · exact h
        · rw [if_neg (by omega)] at hg; exact absurd hg h6
      obtain ⟨l1, l2⟩ := less_words ub1 ub0 ua1 ua0 (Int.le_of_lt hlt)
      have hT : g ≠ 0 ∧ -(W b1 b0 - W a1 a0) = T := ⟨h6, by omega⟩
      have hA0 : 0 ≤ W a1 a0 := by simp only [U64, W] at *; omega
      refine ⟨fun h7 => ?_, fun h7 => ?_⟩
      · have h7 : decide (b0 < a0) = true := h7
        rw [decide_eq_true_eq] at h7
        obtain ⟨m1, m2, m3⟩ := l1 h7
        refine ⟨⟨m1, m2, by rw [hwg]; exact un⟩, fun q r is hq => ?_⟩
        rw [hwg] at hq
        exact endg _ _ _ m1 m2 m3 (by omega) (by omega) (.inr hT) q r is hq
      · have h7 : decide (b0 < a0) = false := h7
        rw [decide_eq_false_iff_not] at h7
        obtain ⟨m1, m2, m3⟩ := l2 h7
        refine ⟨⟨m1, m2, by rw [hwg]; exact un⟩, fun q r is hq => ?_⟩
        rw [hwg] at hq
        exact endg _ _ _ m1 m2 m3 (by omega) (by omega) (.inr hT) q r is hq
    · have h6 : (g != 0) = false := h6
      rw [bne_eq_false_iff_eq] at h6
      have hlt : W b1 b0 ≤ W a1 a0 := by
        rcases lt_or_ge' (W a1 a0) (W b1 b0) with h | h
        · rw [if_pos h] at hg; omega
        · exact h
      obtain ⟨l1, l2⟩ := less_words ua1 ua0 ub1 ub0 hlt
      have hT : g = 0 ∧ (W a1 a0 - W b1 b0) = T := ⟨h6, by omega⟩
      have hB0 : 0 ≤ W b1 b0 := by simp only [U64, W] at *; omega
      refine ⟨fun h7 => ?_, fun h7 => ?_⟩
      · have h7 : decide (a0 < b0) = true := h7
        rw [decide_eq_true_eq] at h7
        obtain ⟨m1, m2, m3⟩ := l1 h7
        refine ⟨⟨m1, m2, by rw [hwg]; exact un⟩, fun q r is hq => ?_⟩
        rw [hwg] at hq
        exact endg _ _ _ m1 m2 m3 (by omega) (by omega) (.inl hT) q r is hq
      · have h7 : decide (a0 < b0) = false := h7
        rw [decide_eq_false_iff_not] at h7
        obtain ⟨m1, m2, m3⟩ := l2 h7
        refine ⟨⟨m1, m2, by rw [hwg]; exact un⟩, fun q r is hq => ?_⟩
        rw [hwg] at hq
        exact endg _ _ _ m1 m2 m3 (by omega) (by omega) (.inl hT) q r is hq
theorem met210 : c210.met := met_of (l := [c193, c235, c223, c196, c195]) ⟨met193, met235, met223, met196, met195, trivial⟩ c210 (hint := hint210) (n := 1000) (by kernel_rfl) (by kernel_rfl) run210 fun xs hl hp => by
  have hl : xs.length = 1 := hl
  obtain ⟨x, l0, rfl, h0⟩ := consOf hl
  cases nilOf h0
  exact hold210 x hp
end Go.Proofs.Tx
