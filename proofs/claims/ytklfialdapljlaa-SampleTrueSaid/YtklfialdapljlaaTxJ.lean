/- Products and quotients of numbers: what they are. -/
import Derived.Test.YtklfialdapljlaaTxI
namespace Go.Proofs.Tx
open Go Go.Proofs.Sx
set_option maxRecDepth 100000
set_option linter.unusedSimpArgs false
set_option linter.unusedVariables false

theorem size_u64 {a : Int} (h : I64 a) : 0 ≤ sizeF a ∧ sizeF a ≤ 9223372036854775808 := by
  obtain ⟨h1, h2⟩ := h; simp only [sizeF]; split <;> omega

theorem shr31 (x : Int) : F2.ev .shr .u64 x 31 = x / 2147483648 := by
  rw [ev_shr .u64 x 31 (by decide)]; rfl

theorem u64max {σ : Val} : U64 ((AE.num (.lit 9223372036854775807)).ev σ) := ⟨(by decide : (0:Int) ≤ 9223372036854775807), (by decide : (9223372036854775807:Int) < 18446744073709551616)⟩
theorem u64max' {σ : Val} : U64 ((AE.num (.lit 9223372036854775808)).ev σ) := ⟨(by decide : (0:Int) ≤ 9223372036854775808), (by decide : (9223372036854775808:Int) < 18446744073709551616)⟩
theorem u64zero {σ : Val} : U64 ((AE.num (.lit 0)).ev σ) := ⟨(by decide : (0:Int) ≤ 0), (by decide : (0:Int) < 18446744073709551616)⟩
theorem mlit {σ : Val} : M ≤ (AE.num (.lit 9223372036854775807)).ev σ := (by decide : M ≤ 9223372036854775807)
theorem mlit' {σ : Val} : M ≤ (AE.num (.lit 9223372036854775808)).ev σ := (by decide : M ≤ 9223372036854775808)

theorem cut_congr {p p' r r' : Prop} [Decidable p] [Decidable p'] [Decidable r] [Decidable r'] {n n' : Int} (hp : p ↔ p') (hn : n = n' ∨ (M ≤ n ∧ M ≤ n')) (hr : (r ↔ r') ∨ (M ≤ n ∧ M ≤ n')) : cutF p n r = cutF p' n' r' := by
  simp only [cutF]
  by_cases h1 : p
  · rw [if_pos h1, if_pos (hp.1 h1)]
    by_cases h2 : r
    · rw [if_pos h2]
      by_cases h3 : r'
      · rw [if_pos h3]; split <;> split <;> omega
      · rw [if_neg h3]
        rcases hr with hr | hr
        · exact absurd (hr.1 h2) h3
        · split <;> split <;> omega
    · rw [if_neg h2]
      by_cases h3 : r'
      · rw [if_pos h3]
        rcases hr with hr | hr
        · exact absurd (hr.2 h3) h2
        · split <;> split <;> omega
      · rw [if_neg h3]; split <;> split <;> omega
  · rw [if_neg h1, if_neg (fun h => h1 (hp.2 h))]; split <;> split <;> omega

/-- the sign of a product, as it is told by the signs of its parts -/
theorem sign_iff {a b g h : Int} (hg : g = if a < 0 then 1 else 0) (hh : h = if b < 0 then 1 else 0) (σ : Val) (i j : Nat) (hi : σ.v i = g) (hj : σ.v j = h) :
    ((AE.tru (.not (.or (.and (.nz (.var i)) (.nz (.var j))) (.and (.not (.nz (.var i))) (.not (.nz (.var j))))))).ev σ ≠ 0) ↔ ¬ (a < 0 ↔ b < 0) := by
  simp only [AE.ev, BE.ev, IE.ev, hi, hj, hg, hh]
  by_cases h1 : a < 0 <;> by_cases h2 : b < 0 <;> simp [h1, h2]

theorem sign_iff' {a b : Int} (σ : Val) (i j : Nat) (hi : σ.v i = a) (hj : σ.v j = b) :
    ((AE.tru (.not (.or (.and (.lt (.var i) (.lit 0)) (.lt (.var j) (.lit 0))) (.and (.not (.lt (.var i) (.lit 0))) (.not (.lt (.var j) (.lit 0))))))).ev σ ≠ 0) ↔ ¬ (a < 0 ↔ b < 0) := by
  simp only [AE.ev, BE.ev, IE.ev, hi, hj]
  by_cases h1 : a < 0 <;> by_cases h2 : b < 0 <;> simp [h1, h2]

/-- two words, in the middle -/
theorem mid (p q : Int) (hp : U64 p) (hq : U64 q) (h : p < 2147483648) : F2.ev .or .u64 (F2.ev .shl .u64 p 32) (F2.ev .shr .u64 q 32) = W p q / 4294967296 ∧ F2.ev .shl .u64 q 32 = W p q % 4294967296 * 4294967296 := by
  obtain ⟨p1, p2⟩ := hp
  obtain ⟨q1, q2⟩ := hq
  rw [shr32, shl32, shl32, or32 _ _ ⟨by omega, by omega⟩ (by omega) (by omega) (by omega)]
  simp only [W]
  omega

theorem hold104 (a b : Int) (h : I64 a ∧ I64 b) : T104.holds (specOf [c193, c194, c195]) (fun σ _ es => c104.post [a, b] (es.map (·.ev σ))) (valOf c104.row [a, b]) (fun _ _ => False) := by
  obtain ⟨ha, hb⟩ := h
  simp only [T104, Tr.holds, len1, len2, valOf_ofL, push_ofL, List.cons_append, List.nil_append, List.map_cons, List.map_nil, sp104_193, sq104_193, sp104_194, sq104_194, sp104_195, sq104_195, pre193, post193, pre194, post194, pre195, post195, post104]
  refine ⟨ha, fun s g hs => ⟨hb, fun t h ht => ?_⟩⟩
  obtain ⟨hs, hg⟩ := hs
  obtain ⟨ht, hh⟩ := ht
  have hs : s = sizeF a := hs
  have ht : t = sizeF b := ht
  have hsa := size_u64 ha
  have htb := size_u64 hb
  refine ⟨⟨⟨by show 0 ≤ s; omega, by show s < _; omega⟩, by show 0 ≤ t; omega, by show t < _; omega⟩, fun p q hpq => ?_⟩
  obtain ⟨hp, hq, hW⟩ := hpq
  have hW : W p q = s * t := hW
  obtain ⟨p1, p2⟩ := hp
  obtain ⟨q1, q2⟩ := hq
  generalize hrr : (fun r => if (roIn c104.row.args 0 r).length = 0 then [] else dec ([a, b].getD r 0)) = rr
  have sg := sign_iff hg hh (ofL [a, b, s, g, t, h, p, q] rr) 3 5 rfl rfl
  have v6 : (ofL [a, b, s, g, t, h, p, q] rr).v 6 = p := rfl
  have v7 : (ofL [a, b, s, g, t, h, p, q] rr).v 7 = q := rfl
  have hm : mulF a b = cutF (¬ (a < 0 ↔ b < 0)) (s * t / 4294967296) (s * t % 4294967296 ≠ 0) := by rw [hs, ht]; rfl
  rw [hm, ← hW]
  refine ⟨fun hc => ⟨⟨u64max, u64zero⟩, fun r hr => ?_⟩, fun hc => ?_⟩
  · simp only [BE.ev, IE.ev, v6, shr31, decide_eq_true_eq] at hc
    refine hr.trans (cut_congr sg (.inr ⟨?_, ?_⟩) (.inr ⟨?_, ?_⟩)) <;> simp only [AE.ev, IE.ev, M, W] <;> omega
  · simp only [BE.ev, IE.ev, v6, shr31, decide_eq_false_iff_not] at hc
    obtain ⟨m1, m2⟩ := mid p q ⟨p1, p2⟩ ⟨q1, q2⟩ (by omega)
    have e1 : (AE.num (.op .or .u64 (.op .shl .u64 (.var 6) (.lit 32)) (.op .shr .u64 (.var 7) (.lit 32)))).ev (ofL [a, b, s, g, t, h, p, q] rr) = W p q / 4294967296 := m1
    have e2 : (AE.num (.op .shl .u64 (.var 7) (.lit 32))).ev (ofL [a, b, s, g, t, h, p, q] rr) = W p q % 4294967296 * 4294967296 := m2
    have w1 : U64 (W p q / 4294967296) := by simp only [U64, W]; omega
    have w2 : U64 (W p q % 4294967296 * 4294967296) := by simp only [U64, W]; omega
    refine ⟨⟨by rw [e1]; exact w1, by rw [e2]; exact w2⟩, fun r hr => hr.trans (cut_congr sg (.inl e1) (.inl ?_))⟩
    rw [e2]
    generalize W p q % 4294967296 = x at *
    simp only [U64] at w2
    constructor <;> intro <;> omega

theorem hold107 (a b : Int) (h : I64 a ∧ I64 b) : T107.holds (specOf [c197, c198, c199]) (fun σ _ es => c107.post [a, b] (es.map (·.ev σ))) (valOf c107.row [a, b]) (fun _ _ => False) := by
  obtain ⟨ha, hb⟩ := h
  simp only [T107, Tr.holds, len1, len2, valOf_ofL, push_ofL, List.cons_append, List.nil_append, List.map_cons, List.map_nil, sp107_197, sq107_197, sp107_198, sq107_198, sp107_199, sq107_199, pre197, post197, pre198, post198, pre199, post199, post107]
  refine ⟨ha, fun s hs => ⟨hb, fun t ht => ?_⟩⟩
  have hs : s = sizeF a := hs
  have ht : t = sizeF b := ht
  have hsa := size_u64 ha
  have htb := size_u64 hb
  refine ⟨⟨⟨by show 0 ≤ s; omega, by show s < _; omega⟩, by show 0 ≤ t; omega, by show t < _; omega⟩, fun p q hpq => ?_⟩
  obtain ⟨hp, hq, hW⟩ := hpq
  have hW : W p q = s * t := hW
  obtain ⟨p1, p2⟩ := hp
  obtain ⟨q1, q2⟩ := hq
  generalize hrr : (fun r => if (roIn c107.row.args 0 r).length = 0 then [] else dec ([a, b].getD r 0)) = rr
  have sg := sign_iff' (a := a) (b := b) (ofL [a, b, s, t, p, q] rr) 0 1 rfl rfl
  have v4 : (ofL [a, b, s, t, p, q] rr).v 4 = p := rfl
  have v5 : (ofL [a, b, s, t, p, q] rr).v 5 = q := rfl
  have hm : mulF a b = cutF (¬ (a < 0 ↔ b < 0)) (s * t / 4294967296) (s * t % 4294967296 ≠ 0) := by rw [hs, ht]; rfl
  rw [hm, ← hW]
  refine ⟨fun hc => ⟨u64max', fun r hr => ?_⟩, fun hc => ?_⟩
  · simp only [BE.ev, IE.ev, v4, decide_eq_true_eq] at hc
    refine hr.trans (cut_congr sg (.inr ⟨?_, ?_⟩) (.inr ⟨?_, ?_⟩)) <;> simp only [AE.ev, IE.ev, M, W] <;> omega
  · simp only [BE.ev, IE.ev, v4, decide_eq_false_iff_not] at hc
    obtain ⟨m1, m2⟩ := mid p q ⟨p1, p2⟩ ⟨q1, q2⟩ (by omega)
    have e1 : (AE.num (.op .or .u64 (.op .shl .u64 (.var 4) (.lit 32)) (.op .shr .u64 (.var 5) (.lit 32)))).ev (ofL [a, b, s, t, p, q] rr) = W p q / 4294967296 := m1
    have e2 : (IE.op .shl .u64 (.var 5) (.lit 32)).ev (ofL [a, b, s, t, p, q] rr) = W p q % 4294967296 * 4294967296 := m2
    have w1 : U64 (W p q / 4294967296) := by simp only [U64, W]; omega
    refine ⟨by rw [e1]; exact w1, fun r hr => hr.trans (cut_congr sg (.inl e1) (.inl ?_))⟩
    · show ((AE.tru (.not (.eq (.op .shl .u64 (.var 5) (.lit 32)) (.lit 0)))).ev (ofL [a, b, s, t, p, q] rr) ≠ 0) ↔ _
      have e3 : (BE.eq (.op .shl .u64 (.var 5) (.lit 32)) (.lit 0)).ev (ofL [a, b, s, t, p, q] rr) = decide (W p q % 4294967296 * 4294967296 = 0) := by
        simp only [BE.ev, e2]
        by_cases h0 : W p q % 4294967296 * 4294967296 = 0 <;> simp [h0, IE.ev]
      have e4 (X : BE) (σ : Val) : (AE.tru (.not X)).ev σ = if (!(X.ev σ)) = true then 1 else 0 := rfl
      rw [e4, e3]
      generalize W p q % 4294967296 = x
      by_cases h0 : x = 0
      · simp [h0]
      · have : ¬ (x * 4294967296 = 0) := by omega
        simp [this, h0]

theorem divdend (s : Int) (h0 : 0 ≤ s) (h1 : s ≤ 9223372036854775808) : U64 (F2.ev .shr .u64 s 32) ∧ U64 (F2.ev .shl .u64 s 32) ∧ W (F2.ev .shr .u64 s 32) (F2.ev .shl .u64 s 32) = s * 4294967296 := by
  rw [shr32, shl32]; simp only [U64, W]; omega

theorem quot_eq {n d q r : Int} (hd : 0 < d) (h : n = q * d + r) (h0 : 0 ≤ r) (h1 : r < d) : n / d = q ∧ n % d = r := by
  subst h
  constructor
  · rw [Int.add_comm, Int.add_mul_ediv_right _ _ (by omega), Int.ediv_eq_zero_of_lt h0 h1, Int.zero_add]
  · rw [Int.add_comm, Int.add_mul_emod_self_right, Int.emod_eq_of_lt h0 h1]

theorem div_great {s t : Int} (h0 : 0 ≤ s) (ht : 0 < t) (h : t ≤ s / 4294967296) : M ≤ s * 4294967296 / t := by
  rw [Int.le_ediv_iff_mul_le ht]
  have h1 : M * t ≤ M * (s / 4294967296) := Int.mul_le_mul_of_nonneg_left h (by decide)
  simp only [M] at *
  omega

theorem hold105 (a b : Int) (h : I64 a ∧ I64 b) : T105.holds (specOf [c193, c196, c195]) (fun σ _ es => c105.post [a, b] (es.map (·.ev σ))) (valOf c105.row [a, b]) (fun _ _ => False) := by
  obtain ⟨ha, hb⟩ := h
  simp only [T105, Tr.holds, len1, len2, len3, valOf_ofL, push_ofL, List.cons_append, List.nil_append, List.map_cons, List.map_nil, sp105_193, sq105_193, sp105_196, sq105_196, sp105_195, sq105_195, pre193, post193, pre196, post196, pre195, post195, post105]
  refine ⟨ha, fun s g hs => ⟨hb, fun t h ht => ?_⟩⟩
  obtain ⟨hs, hg⟩ := hs
  obtain ⟨ht, hh⟩ := ht
  have hs : s = sizeF a := hs
  have ht : t = sizeF b := ht
  have hsa := size_u64 ha
  have htb := size_u64 hb
  obtain ⟨d1, d2, d3⟩ := divdend s (by omega) (by omega)
  have ht64 : U64 t := ⟨by omega, by omega⟩
  refine ⟨⟨d1, d2, ht64⟩, fun q r is hq => ?_⟩
  obtain ⟨hq1, hq2⟩ := hq
  have hq1 : t ≤ F2.ev .shr .u64 s 32 → q = 0 ∧ r = 0 ∧ is = 0 := hq1
  have hq2 : F2.ev .shr .u64 s 32 < t → is = 1 ∧ U64 q ∧ U64 r ∧ r < t ∧ W (F2.ev .shr .u64 s 32) (F2.ev .shl .u64 s 32) = q * t + r := hq2
  rw [d3] at hq2
  rw [shr32] at hq1 hq2
  generalize hrr : (fun r => if (roIn c105.row.args 0 r).length = 0 then [] else dec ([a, b].getD r 0)) = rr
  have sg := sign_iff hg hh (ofL [a, b, s, g, t, h, q, r, is] rr) 3 5 rfl rfl
  have v0 : (ofL [a, b, s, g, t, h, q, r, is] rr).v 0 = a := rfl
  have v8 : (ofL [a, b, s, g, t, h, q, r, is] rr).v 8 = is := rfl
  refine ⟨fun hc => ?_, fun hc => ⟨fun hc2 => ⟨⟨u64max, u64zero⟩, fun x hx => ?_⟩, fun hc2 => ?_⟩⟩
  · simp only [BE.ev, IE.ev, v0, beq_iff_eq] at hc
    simp only [AE.ev, IE.ev, divF, if_pos hc]
  · simp only [BE.ev, IE.ev, v0, beq_eq_false_iff_ne, ne_eq] at hc
    simp only [BE.ev, IE.ev, v8, Bool.not_eq_true', bne_eq_false_iff_eq] at hc2
    have hge : t ≤ s / 4294967296 := by
      rcases lt_or_ge' (s / 4294967296) t with h | h
      · have := (hq2 h).1; omega
      · exact h
    simp only [divF, if_neg hc]
    by_cases hb0 : b = 0
    · rw [if_pos hb0]
      refine (hx.trans (cut_congr sg (.inl rfl) (.inl Iff.rfl))).trans ?_
      show cutF (¬ (a < 0 ↔ b < 0)) 9223372036854775807 ((0:Int) < 0) = _
      subst hb0
      by_cases ha0 : a < 0 <;> simp [cutF, ha0, M]
    · rw [if_neg hb0]
      have htp : 0 < t := by rw [ht]; simp only [sizeF]; split <;> omega
      have hgr := div_great (by omega) htp hge
      rw [hs, ht] at hgr
      exact hx.trans (cut_congr sg (.inr ⟨mlit, hgr⟩) (.inr ⟨mlit, hgr⟩))
  · simp only [BE.ev, IE.ev, v0, beq_eq_false_iff_ne, ne_eq] at hc
    simp only [BE.ev, IE.ev, v8, Bool.not_eq_false', bne_iff_ne, ne_eq] at hc2
    have hlt : s / 4294967296 < t := by
      rcases lt_or_ge' (s / 4294967296) t with h | h
      · exact h
      · have := (hq1 h).2.2; omega
    obtain ⟨_, k1, k2, k3, k4⟩ := hq2 hlt
    have htp : 0 < t := by omega
    have hb0 : b ≠ 0 := fun e => by rw [e] at ht; simp [sizeF] at ht; omega
    obtain ⟨e1, e2⟩ := quot_eq htp k4 k2.1 k3
    refine ⟨⟨k1, k2⟩, fun x hx => ?_⟩
    simp only [divF, if_neg hc, if_neg hb0]
    rw [← hs, ← ht, e1, e2]
    have h0 := k2.1
    exact hx.trans (cut_congr sg (.inl rfl) (.inl ⟨fun h => by have h : 0 < r := h; omega, fun h => by show 0 < r; omega⟩))

theorem hold109 (a b : Int) (h : I64 a ∧ I64 b) : T109.holds (specOf [c197, c198, c200]) (fun σ _ es => c109.post [a, b] (es.map (·.ev σ))) (valOf c109.row [a, b]) (fun _ _ => False) := by
  obtain ⟨ha, hb⟩ := h
  simp only [T109, Tr.holds, len1, len2, len3, valOf_ofL, push_ofL, List.cons_append, List.nil_append, List.map_cons, List.map_nil, sp109_197, sq109_197, sp109_198, sq109_198, sp109_200, sq109_200, pre197, post197, pre198, post198, pre200, post200, post109]
  generalize hrr : (fun r => if (roIn c109.row.args 0 r).length = 0 then [] else dec ([a, b].getD r 0)) = rr
  have w0 : (ofL [a, b] rr).v 0 = a := rfl
  have w1 : (ofL [a, b] rr).v 1 = b := rfl
  refine ⟨fun hb0 => ⟨fun ha0 => ?_, fun ha0 => ⟨u64max', fun x hx => ?_⟩⟩, fun hb0 => ⟨ha, fun s hs => ⟨hb, fun t ht => ?_⟩⟩⟩
  · simp only [BE.ev, IE.ev, w0, beq_iff_eq] at ha0
    simp only [AE.ev, IE.ev, divF, if_pos ha0]
  · simp only [BE.ev, IE.ev, w0, w1, beq_iff_eq, beq_eq_false_iff_ne, ne_eq] at ha0 hb0
    simp only [divF, if_neg ha0, if_pos hb0]
    refine hx.trans ?_
    by_cases hn : a < 0 <;> simp [cutF, AE.ev, BE.ev, IE.ev, w0, hn, M]
  simp only [BE.ev, IE.ev, w1, beq_eq_false_iff_ne, ne_eq] at hb0
  have hs : s = sizeF a := hs
  have ht : t = sizeF b := ht
  have hsa := size_u64 ha
  have htb := size_u64 hb
  obtain ⟨d1, d2, d3⟩ := divdend s (by omega) (by omega)
  have ht64 : U64 t := ⟨by omega, by omega⟩
  refine ⟨⟨d1, d2, ht64⟩, fun q r is hq => ?_⟩
  obtain ⟨hq1, hq2⟩ := hq
  have hq1 : t ≤ F2.ev .shr .u64 s 32 → q = 0 ∧ r = 0 ∧ is = 0 := hq1
  have hq2 : F2.ev .shr .u64 s 32 < t → is = 1 ∧ U64 q ∧ U64 r ∧ r < t ∧ W (F2.ev .shr .u64 s 32) (F2.ev .shl .u64 s 32) = q * t + r := hq2
  rw [d3] at hq2
  rw [shr32] at hq1 hq2
  have sg := sign_iff' (a := a) (b := b) (ofL [a, b, s, t, q, r, is] rr) 0 1 rfl rfl
  have v6 : (ofL [a, b, s, t, q, r, is] rr).v 6 = is := rfl
  have htp : 0 < t := by rw [ht]; simp only [sizeF]; split <;> omega
  have hdiv : a ≠ 0 → divF a b = cutF (¬ (a < 0 ↔ b < 0)) (s * 4294967296 / t) (s * 4294967296 % t ≠ 0) := fun h => by simp only [divF, if_neg h, if_neg hb0, hs, ht]
  have hdiv0 : a = 0 → divF a b = 0 ∧ s = 0 := fun h => by
    subst h; exact ⟨by simp only [divF, if_true], by rw [hs]; rfl⟩
  refine ⟨fun hc2 => ⟨u64max', fun x hx => ?_⟩, fun hc2 => ?_⟩
  · simp only [BE.ev, IE.ev, v6, Bool.not_eq_true', bne_eq_false_iff_eq] at hc2
    have hge : t ≤ s / 4294967296 := by
      rcases lt_or_ge' (s / 4294967296) t with h | h
      · have := (hq2 h).1; omega
      · exact h
    have ha0 : a ≠ 0 := fun h => by have := (hdiv0 h).2; omega
    rw [hdiv ha0]
    have hgr := div_great (by omega) htp hge
    exact hx.trans (cut_congr sg (.inr ⟨mlit', hgr⟩) (.inr ⟨mlit', hgr⟩))
  · simp only [BE.ev, IE.ev, v6, Bool.not_eq_false', bne_iff_ne, ne_eq] at hc2
    have hlt : s / 4294967296 < t := by
      rcases lt_or_ge' (s / 4294967296) t with h | h
      · exact h
      · have := (hq1 h).2.2; omega
    obtain ⟨_, k1, k2, k3, k4⟩ := hq2 hlt
    obtain ⟨e1, e2⟩ := quot_eq htp k4 k2.1 k3
    refine ⟨k1, fun x hx => ?_⟩
    have h0 := k2.1
    have hrest : ((AE.tru (.lt (.lit 0) (.var 5))).ev (ofL [a, b, s, t, q, r, is] rr) ≠ 0) ↔ r ≠ 0 := by
      have v5 : (ofL [a, b, s, t, q, r, is] rr).v 5 = r := rfl
      simp only [AE.ev, BE.ev, IE.ev, v5]
      by_cases hr : 0 < r <;> simp [hr] <;> omega
    by_cases ha0 : a = 0
    · obtain ⟨z1, z2⟩ := hdiv0 ha0
      rw [z1]
      have hq0 : q = 0 ∧ r = 0 := by
        rw [z2] at k4 e1 e2
        simp at e1 e2
        exact ⟨e1.symm, e2.symm⟩
      refine hx.trans ?_
      have v4 : (AE.num (.var 4)).ev (ofL [a, b, s, t, q, r, is] rr) = 0 := hq0.1
      rw [v4]
      have : cutF ((AE.tru (.not (.or (.and (.lt (.var 0) (.lit 0)) (.lt (.var 1) (.lit 0))) (.and (.not (.lt (.var 0) (.lit 0))) (.not (.lt (.var 1) (.lit 0))))))).ev (ofL [a, b, s, t, q, r, is] rr) ≠ 0) 0 ((AE.tru (.lt (.lit 0) (.var 5))).ev (ofL [a, b, s, t, q, r, is] rr) ≠ 0) = cutF (¬ (a < 0 ↔ b < 0)) 0 (r ≠ 0) := cut_congr sg (.inl rfl) (.inl hrest)
      rw [this]
      simp only [cutF, hq0.2]
      split <;> simp [M]
    · rw [hdiv ha0, e1, e2]
      exact hx.trans (cut_congr sg (.inl rfl) (.inl hrest))
theorem met104 : c104.met := met_of (l := [c193, c194, c195]) ⟨met193, met194, met195, trivial⟩ c104 (hint := noHint) (n := 1000) (by kernel_rfl) (by kernel_rfl) run104 fun xs hl hp => by
  have hl : xs.length = 2 := hl
  obtain ⟨a, l0, rfl, h0⟩ := consOf hl
  obtain ⟨b, l1, rfl, h1⟩ := consOf h0
  cases nilOf h1
  exact hold104 a b hp
theorem met107 : c107.met := met_of (l := [c197, c198, c199]) ⟨met197, met198, met199, trivial⟩ c107 (hint := noHint) (n := 1000) (by kernel_rfl) (by kernel_rfl) run107 fun xs hl hp => by
  have hl : xs.length = 2 := hl
  obtain ⟨a, l0, rfl, h0⟩ := consOf hl
  obtain ⟨b, l1, rfl, h1⟩ := consOf h0
  cases nilOf h1
  exact hold107 a b hp
theorem met105 : c105.met := met_of (l := [c193, c196, c195]) ⟨met193, met196, met195, trivial⟩ c105 (hint := noHint) (n := 1000) (by kernel_rfl) (by kernel_rfl) run105 fun xs hl hp => by
  have hl : xs.length = 2 := hl
  obtain ⟨a, l0, rfl, h0⟩ := consOf hl
  obtain ⟨b, l1, rfl, h1⟩ := consOf h0
  cases nilOf h1
  exact hold105 a b hp
theorem met109 : c109.met := met_of (l := [c197, c198, c200]) ⟨met197, met198, met200, trivial⟩ c109 (hint := noHint) (n := 1000) (by kernel_rfl) (by kernel_rfl) run109 fun xs hl hp => by
  have hl : xs.length = 2 := hl
  obtain ⟨a, l0, rfl, h0⟩ := consOf hl
  obtain ⟨b, l1, rfl, h1⟩ := consOf h0
  cases nilOf h1
  exact hold109 a b hp
end Go.Proofs.Tx
