/- The quotient of words, by halves: what it is. -/
import Derived.Test.YtklfialdapljlaaTxG
namespace Go.Proofs.Tx
open Go Go.Proofs.Sx
set_option maxRecDepth 100000
set_option linter.unusedSimpArgs false
set_option linter.unusedVariables false

/-- a half of the quotient is sought: what is fixed -/
structure Half (H nx D d1 d0 : Int) : Prop where
  eD : D = d1 * 4294967296 + d0
  d1l : 2147483648 ≤ d1
  d1u : d1 < 4294967296
  d0l : 0 ≤ d0
  d0u : d0 < 4294967296
  Hl : 0 ≤ H
  Hu : H < D
  nl : 0 ≤ nx
  nu : nx < 4294967296

/-- the half -/
def quoH (H nx D : Int) : Int := (H * 4294967296 + nx) / D

/-- a guess of it, and what is left -/
structure Guess (H nx D d1 n r : Int) : Prop where
  rl : 0 ≤ r
  ru : r < 4294967296
  eq : n * d1 + r = H
  le : quoH H nx D ≤ n
  nl : 0 ≤ n
  nu : n ≤ 4294967297

section
variable {H nx D d1 d0 n r : Int}

theorem Half.Dpos (h : Half H nx D d1 d0) : 0 < D := by have := h.eD; have := h.d1l; have := h.d0l; omega

theorem quoH_spec (h : Half H nx D d1 d0) : 0 ≤ quoH H nx D ∧ quoH H nx D ≤ 4294967295 ∧ quoH H nx D * D ≤ H * 4294967296 + nx ∧ H * 4294967296 + nx < quoH H nx D * D + D := by
  have hD := h.Dpos
  have h1 := Int.mul_ediv_add_emod (H * 4294967296 + nx) D
  have h2 := Int.emod_nonneg (H * 4294967296 + nx) (show D ≠ 0 by omega)
  have h3 := Int.emod_lt_of_pos (H * 4294967296 + nx) hD
  have hn := h.Hl; have hnl := h.nl; have hnu := h.nu; have hHu := h.Hu
  have h0 : 0 ≤ quoH H nx D := Int.ediv_nonneg (by omega) (by omega)
  have hlt : quoH H nx D < 4294967296 := by
    have : H * 4294967296 + nx < 4294967296 * D := by omega
    exact Int.ediv_lt_of_lt_mul hD this
  unfold quoH at *
  rw [Int.mul_comm] at h1
  omega

theorem guess_first (h : Half H nx D d1 d0) : Guess H nx D d1 (H / d1) (H - H / d1 * d1) := by
  obtain ⟨q0, q1, q2, q3⟩ := quoH_spec h
  have hD := h.eD; have g1 := h.d1l; have g2 := h.d1u; have g3 := h.d0l; have g4 := h.d0u; have g5 := h.Hl; have g6 := h.Hu; have g7 := h.nl; have g8 := h.nu
  have e1 := Int.mul_ediv_add_emod H d1
  have e2 := Int.emod_nonneg H (show d1 ≠ 0 by omega)
  have e3 := Int.emod_lt_of_pos H (show 0 < d1 by omega)
  rw [Int.mul_comm] at e1
  have hq : quoH H nx D ≤ H / d1 := by
    rw [Int.le_ediv_iff_mul_le (by omega)]
    have h1 : quoH H nx D * (d1 * 4294967296) ≤ quoH H nx D * D := Int.mul_le_mul_of_nonneg_left (by omega) q0
    rw [← Int.mul_assoc] at h1
    omega
  have hn : H / d1 < 4294967298 := by
    refine Int.ediv_lt_of_lt_mul (by omega) ?_
    omega
  have hn0 : 0 ≤ H / d1 := Int.ediv_nonneg g5 (by omega)
  exact ⟨by omega, by omega, by omega, hq, hn0, by omega⟩

theorem guess_right (h : Half H nx D d1 d0) (hn : 0 ≤ n) (he : n * d1 + r = H) (hle : quoH H nx D ≤ n) (hc : n * d0 ≤ r * 4294967296 + nx) : n = quoH H nx D := by
  have hD := h.eD
  have : n * D ≤ H * 4294967296 + nx := by
    rw [hD, Int.mul_add, ← Int.mul_assoc, ← he, Int.add_mul]
    omega
  have : n ≤ quoH H nx D := by unfold quoH; rw [Int.le_ediv_iff_mul_le h.Dpos]; exact this
  omega

theorem guess_less (h : Half H nx D d1 d0) (g : Guess H nx D d1 n r) (hc : 4294967295 < n ∨ r * 4294967296 + nx < n * d0) : quoH H nx D ≤ n - 1 ∧ 1 ≤ n ∧ (n - 1) * d1 + (r + d1) = H := by
  obtain ⟨q0, q1, q2, q3⟩ := quoH_spec h
  have he := g.eq
  have e : (n - 1) * d1 + (r + d1) = n * d1 + r := by rw [Int.sub_mul, Int.one_mul]; omega
  have hlt : quoH H nx D < n := by
    rcases hc with hc | hc
    · omega
    · unfold quoH
      refine Int.ediv_lt_of_lt_mul h.Dpos ?_
      rw [h.eD, Int.mul_add, ← Int.mul_assoc, ← he, Int.add_mul]
      omega
  exact ⟨by omega, by omega, by omega⟩

theorem guess_next (h : Half H nx D d1 d0) (g : Guess H nx D d1 n r) (hc : 4294967295 < n ∨ r * 4294967296 + nx < n * d0) (hr : r + d1 ≤ 4294967295) : Guess H nx D d1 (n - 1) (r + d1) := by
  obtain ⟨k1, k2, k3⟩ := guess_less h g hc
  have := g.rl; have := g.nu; have := h.d1l
  exact ⟨by omega, by omega, k3, k1, by omega, by omega⟩

theorem guess_last (h : Half H nx D d1 d0) (g : Guess H nx D d1 n r) (hc : 4294967295 < n ∨ r * 4294967296 + nx < n * d0) (hr : 4294967295 < r + d1) : n - 1 = quoH H nx D := by
  obtain ⟨k1, k2, k3⟩ := guess_less h g hc
  have hnu := g.nu; have := h.d0l; have := h.d0u; have := h.nl
  refine guess_right h (by omega) k3 k1 ?_
  have h1 : (n - 1) * d0 ≤ 4294967296 * d0 := Int.mul_le_mul_of_nonneg_right (by omega) (by omega)
  omega

end

theorem or_half {r nx : Int} (h1 : 0 ≤ r) (h2 : r < 4294967296) (h3 : 0 ≤ nx) (h4 : nx < 4294967296) : F2.ev .or .u64 (F2.ev .shl .u64 r 32) nx = r * 4294967296 + nx := by
  rw [shl32, or32 _ _ ⟨by omega, by omega⟩ (by omega) h3 h4]; omega

theorem quo_u64 {x y : Int} (hx : 0 ≤ x) (hx2 : x < 18446744073709551616) (hy : 0 < y) : F2.ev .quo .u64 x y = x / y := by
  rw [ev_quo, wrap_u64, Int.tdiv_eq_ediv_of_nonneg hx]
  have h1 := Int.ediv_nonneg hx (Int.le_of_lt hy)
  have h2 := Int.ediv_le_self y hx
  omega

/-- one half, as a tree -/
def restT (eH eD enx n : IE) : IE := .op .sub .u64 (.op .add .u64 (.op .shl .u64 eH (.lit 32)) enx) (.op .mul .u64 n eD)
def halfT (j : Nat) (eH eD1 eD0 enx : IE) (res : IE → List AE) : Tr (List AE) :=
  .br (.eq eD1 (.lit 0)) (.fail 3)
    (.loop (j + 1) [.num (.op .quo .u64 eH eD1), .num (.op .sub .u64 eH (.op .mul .u64 (.op .quo .u64 eH eD1) eD1))] 2
      (.br (.not (.lt (.lit 4294967295) (.var (j + 1))))
        (.br (.lt (.op .or .u64 (.op .shl .u64 (.var (j + 2)) (.lit 32)) enx) (.op .mul .u64 (.var (j + 1)) eD0))
          (.br (.lt (.lit 4294967295) (.op .add .u64 (.var (j + 2)) eD1))
            (.again j (res (.op .sub .u64 (.var (j + 1)) (.lit 1))))
            (.again (j + 1) [.num (.op .sub .u64 (.var (j + 1)) (.lit 1)), .num (.op .add .u64 (.var (j + 2)) eD1)]))
          (.again j (res (.var (j + 1)))))
        (.br (.lt (.lit 4294967295) (.op .add .u64 (.var (j + 2)) eD1))
          (.again j (res (.op .sub .u64 (.var (j + 1)) (.lit 1))))
          (.again (j + 1) [.num (.op .sub .u64 (.var (j + 1)) (.lit 1)), .num (.op .add .u64 (.var (j + 2)) eD1)]))))

theorem half_holds {SP : Spec} {Φ : Val → Again → List AE → Prop} {Λ : Again} {j : Nat} {l : List Int} {rr : Nat → List Int} (hl : l.length = j + 1) {eH eD1 eD0 enx : IE} {H nx D d1 d0 : Int}
    (okH : eH.ok (j + 1) = true) (ok1 : eD1.ok (j + 1) = true) (ok0 : eD0.ok (j + 1) = true) (okn : enx.ok (j + 1) = true)
    (vH : eH.ev (ofL l rr) = H) (v1 : eD1.ev (ofL l rr) = d1) (v0 : eD0.ev (ofL l rr) = d0) (vn : enx.ev (ofL l rr) = nx) (Hf : Half H nx D d1 d0) (hD64 : D < 18446744073709551616)
    {res : IE → List AE} (hres : ∀ (τ : Val) (e : IE), (ofL l rr).le τ → e.ev τ = quoH H nx D → Λ j ((res e).map (·.ev τ))) :
    (halfT j eH eD1 eD0 enx res).holds SP Φ (ofL l rr) Λ := by
  have g1 := Hf.d1l; have g2 := Hf.d1u; have g3 := Hf.d0l; have g4 := Hf.d0u; have g5 := Hf.Hl; have g6 := Hf.Hu; have g7 := Hf.nl; have g8 := Hf.nu
  have hn : (ofL l rr).n = j + 1 := hl
  simp only [halfT, Tr.holds]
  refine ⟨fun h => ?_, fun _ => ?_⟩
  · simp only [BE.ev, IE.ev, v1, beq_iff_eq] at h; omega
  have hq : F2.ev .quo .u64 H d1 = H / d1 := quo_u64 g5 (by omega) (by omega)
  have F := guess_first Hf
  have e0 : F2.ev .sub .u64 H (F2.ev .mul .u64 (H / d1) d1) = H - H / d1 * d1 := by
    have h1 := F.rl; have h2 := F.ru
    have h3 : 0 ≤ H / d1 * d1 := Int.mul_nonneg F.nl (by omega)
    rw [ev_mul, ev_sub, wrap_u64, wrap_u64]; omega
  refine ⟨fun vs => ∃ n r : Int, vs = [n, r] ∧ Guess H nx D d1 n r, fun vs => (vs.getD 0 0).toNat, ⟨H / d1, H - H / d1 * d1, ?_, F⟩, ?_⟩
  · simp only [List.map_cons, List.map_nil, AE.ev, IE.ev, vH, v1, hq, e0]
  rintro vs - ⟨n, r, rfl, G⟩
  have hle := (ofL l rr).le_push [n, r]
  have wH : eH.ev ((ofL l rr).push [n, r]) = H := (IE.ev_le hle (by rw [hn]; exact okH)).trans vH
  have w1 : eD1.ev ((ofL l rr).push [n, r]) = d1 := (IE.ev_le hle (by rw [hn]; exact ok1)).trans v1
  have w0 : eD0.ev ((ofL l rr).push [n, r]) = d0 := (IE.ev_le hle (by rw [hn]; exact ok0)).trans v0
  have wn : enx.ev ((ofL l rr).push [n, r]) = nx := (IE.ev_le hle (by rw [hn]; exact okn)).trans vn
  have vN : ((ofL l rr).push [n, r]).v (j + 1) = n := by rw [push_ofL, ofL_v, List.getD_eq_getElem?_getD, List.getElem?_append_right (by omega), hl]; simp
  have vR : ((ofL l rr).push [n, r]).v (j + 2) = r := by rw [push_ofL, ofL_v, List.getD_eq_getElem?_getD, List.getElem?_append_right (by omega), hl]; simp
  have a1 := G.rl; have a2 := G.ru; have a3 := G.nl; have a4 := G.nu; have a5 := G.le
  obtain ⟨q0, q1, _, _⟩ := quoH_spec Hf
  have hne : j ≠ j + 1 := by omega
  have hor := or_half a1 a2 g7 g8
  have hadd : F2.ev .add .u64 r d1 = r + d1 := by rw [ev_add, wrap_u64]; omega
  have hsub : 1 ≤ n → F2.ev .sub .u64 n 1 = n - 1 := fun _ => by rw [ev_sub, wrap_u64]; omega
  simp only [Tr.holds, BE.ev, IE.ev, vN, vR, w1, w0, wn, hor, hadd, decide_eq_true_eq, decide_eq_false_iff_not, Bool.not_eq_true', Bool.not_eq_false', List.map_cons, List.map_nil, AE.ev, if_neg hne, if_true]
  -- what comes of a guess that is too great
  have down : (4294967295 < n ∨ r * 4294967296 + nx < n * d0) →
      (4294967295 < r + d1 → Λ j ((res (.op .sub .u64 (.var (j + 1)) (.lit 1))).map (·.ev ((ofL l rr).push [n, r])))) ∧
      (¬ 4294967295 < r + d1 → (∃ n' r' : Int, [F2.ev .sub .u64 n 1, r + d1] = [n', r'] ∧ Guess H nx D d1 n' r') ∧ ([F2.ev .sub .u64 n 1, r + d1].getD 0 0).toNat < ([n, r].getD 0 0).toNat) := fun hc => by
    obtain ⟨k1, k2, k3⟩ := guess_less Hf G hc
    refine ⟨fun hr => hres _ _ hle ?_, fun hr => ⟨⟨n - 1, r + d1, by rw [hsub k2], guess_next Hf G hc (by omega)⟩, ?_⟩⟩
    · simp only [IE.ev, vN, hsub k2]; exact guess_last Hf G hc hr
    · rw [hsub k2]; simp only [List.getD_cons_zero]; omega
  refine ⟨fun h1 => ⟨fun h2 => ?_, fun h2 => ?_⟩, fun h1 => down (.inl h1)⟩
  · have hm : F2.ev .mul .u64 n d0 = n * d0 := by
      have h3 : 0 ≤ n * d0 := Int.mul_nonneg a3 g3
      have h4 : n * d0 ≤ 4294967295 * 4294967295 := Int.mul_le_mul (by omega) (by omega) g3 (by decide)
      rw [ev_mul, wrap_u64]; omega
    rw [hm] at h2
    exact down (.inr h2)
  · have hm : F2.ev .mul .u64 n d0 = n * d0 := by
      have h3 : 0 ≤ n * d0 := Int.mul_nonneg a3 g3
      have h4 : n * d0 ≤ 4294967295 * 4294967295 := Int.mul_le_mul (by omega) (by omega) g3 (by decide)
      rw [ev_mul, wrap_u64]; omega
    rw [hm] at h2
    exact hres _ _ hle (by simp only [IE.ev, vN]; exact guess_right Hf a3 G.eq a5 (by omega))

theorem rest_ev {τ : Val} {eH eD enx n : IE} {H nx D d1 d0 : Int} (Hf : Half H nx D d1 d0) (hD64 : D < 18446744073709551616) (vH : eH.ev τ = H) (vD : eD.ev τ = D) (vn : enx.ev τ = nx) (hn : n.ev τ = quoH H nx D) :
    (restT eH eD enx n).ev τ = H * 4294967296 + nx - quoH H nx D * D ∧ 0 ≤ H * 4294967296 + nx - quoH H nx D * D ∧ H * 4294967296 + nx - quoH H nx D * D < D := by
  obtain ⟨q0, q1, q2, q3⟩ := quoH_spec Hf
  have g5 := Hf.Hl; have g7 := Hf.nl
  refine ⟨?_, by omega, by omega⟩
  simp only [restT, IE.ev, vH, vD, vn, hn, shl32, ev_add, ev_sub, ev_mul, wrap_u64]
  have h3 : 0 ≤ quoH H nx D * D := Int.mul_nonneg q0 (Int.le_of_lt Hf.Dpos)
  omega

/-- the number of bits that lack, the divisor, the dividend, as they are shifted -/
def eUp : IE := .op .sub .i64 (.lit 63) (.var 3)
def eD' : IE := .op .shl .u64 (.var 2) eUp
def eD1 : IE := .op .shr .u64 eD' (.lit 32)
def eD0 : IE := .op .and .u64 eD' (.lit 4294967295)
def eHi : IE := .op .or .u64 (.op .shl .u64 (.var 0) eUp) (.op .shr .u64 (.var 1) (.op .sub .i64 (.lit 64) eUp))
def eLo : IE := .op .shl .u64 (.var 1) eUp
/-- both halves, and the end -/
def bothT (eH eL : IE) : Tr (List AE) :=
  .join 4 3 (halfT 4 eH eD1 eD0 (.op .shr .u64 eL (.lit 32)) fun n => [.num n, .num (.lit 0), .num (restT eH eD' (.op .shr .u64 eL (.lit 32)) n)])
    (.join 7 3 (halfT 7 (.var 6) eD1 eD0 (.op .and .u64 eL (.lit 4294967295)) fun n => [.num (.var 4), .num n, .num (restT (.var 6) eD' (.op .and .u64 eL (.lit 4294967295)) n)])
      (.ret [.num (.op .or .u64 (.op .shl .u64 (.var 7) (.lit 32)) (.var 8)), .num (.op .shr .u64 (.var 9) eUp), .tru (.lit true)]))

theorem T196_eq : T196 = .br (.le (.var 2) (.var 0)) (.ret [.num (.lit 0), .num (.lit 0), .tru (.lit false)]) (.call 206 [.num (.var 2)] 1
    (.br (.lt eUp (.lit 0)) (.fail 5) (.br (.lt (.lit 0) eUp) (.br (.lt (.op .sub .i64 (.lit 64) eUp) (.lit 0)) (.fail 5) (bothT eHi eLo)) (bothT (.var 0) (.var 1))))) := rfl


theorem both_holds {SP : Spec} {Λ : Again} {hi lo d L H Lo : Int} {rr : Nat → List Int} {eH eL : IE} (hhi : hi < d) (hd : U64 d) (hL0 : 0 ≤ L) (hL1 : L ≤ 63)
    (hD1 : 9223372036854775808 ≤ d * 2 ^ (63 - L).toNat) (hD2 : d * 2 ^ (63 - L).toNat < 18446744073709551616)
    (okH : eH.ok 4 = true) (okL : eL.ok 4 = true) (vH : eH.ev (ofL [hi, lo, d, L] rr) = H) (vL : eL.ev (ofL [hi, lo, d, L] rr) = Lo) (hH0 : 0 ≤ H) (hH1 : H < d * 2 ^ (63 - L).toNat) (hLo : U64 Lo)
    (hW : W H Lo = W hi lo * 2 ^ (63 - L).toNat) : (bothT eH eL).holds SP (fun σ _ es => c196.post [hi, lo, d] (es.map (·.ev σ))) (ofL [hi, lo, d, L] rr) Λ := by
  obtain ⟨p, hp, hpe⟩ : ∃ p : Int, 0 < p ∧ 2 ^ (63 - L).toNat = p := ⟨_, pow_pos' _, rfl⟩
  obtain ⟨D, hDe⟩ : ∃ D : Int, d * p = D := ⟨_, rfl⟩
  rw [hpe] at hD1 hD2 hH1 hW
  rw [hDe] at hD1 hD2 hH1
  obtain ⟨l1, l2⟩ := hLo
  -- values of what is fixed
  have eup : F2.ev .sub .i64 63 L = 63 - L := by rw [ev_sub, wrap_i64]; split <;> omega
  have vals : ∀ l : List Int, eUp.ev (ofL ([hi, lo, d, L] ++ l) rr) = 63 - L ∧ eD'.ev (ofL ([hi, lo, d, L] ++ l) rr) = D ∧ eD1.ev (ofL ([hi, lo, d, L] ++ l) rr) = D / 4294967296 ∧ eD0.ev (ofL ([hi, lo, d, L] ++ l) rr) = D % 4294967296 := fun l => by
    have h1 : eUp.ev (ofL ([hi, lo, d, L] ++ l) rr) = 63 - L := by simp only [eUp, IE.ev, ofL_v, List.cons_append, List.getD_cons_zero, List.getD_cons_succ, eup]
    have h2 : eD'.ev (ofL ([hi, lo, d, L] ++ l) rr) = D := by
      have v2 : (ofL ([hi, lo, d, L] ++ l) rr).v 2 = d := rfl
      simp only [eD', IE.ev, h1, v2]
      rw [ev_shl64 _ _ (by omega), hpe, hDe]; omega
    exact ⟨h1, h2, by simp only [eD1, IE.ev, h2, shr32], by simp only [eD0, IE.ev, h2, and32]⟩
  have mk : ∀ H nx : Int, 0 ≤ H → H < D → 0 ≤ nx → nx < 4294967296 → Half H nx D (D / 4294967296) (D % 4294967296) := fun H nx h1 h2 h3 h4 =>
    ⟨by omega, by omega, by omega, by omega, by omega, h1, h2, h3, h4⟩
  have H1f := mk H (Lo / 4294967296) hH0 hH1 (by omega) (by omega)
  obtain ⟨q10, q11, q12, q13⟩ := quoH_spec H1f
  have lift : ∀ (e : IE) (l : List Int), e.ok 4 = true → e.ev (ofL ([hi, lo, d, L] ++ l) rr) = e.ev (ofL [hi, lo, d, L] rr) := fun e l ho => by
    rw [← push_ofL]; exact IE.ev_le ((ofL [hi, lo, d, L] rr).le_push l) ho
  have okup : eUp.ok 4 = true := rfl
  have okn1 : (IE.op .shr .u64 eL (.lit 32)).ok 5 = true := by simp only [IE.ok, Bool.and_true]; exact IE.ok_le (by decide) okL
  have okn2 : (IE.op .and .u64 eL (.lit 4294967295)).ok 8 = true := by simp only [IE.ok, Bool.and_true]; exact IE.ok_le (by decide) okL
  obtain ⟨Q1, hQ1⟩ : ∃ Q, quoH H (Lo / 4294967296) D = Q := ⟨_, rfl⟩
  obtain ⟨H1, hH1e⟩ : ∃ x, H * 4294967296 + Lo / 4294967296 - Q1 * D = x := ⟨_, rfl⟩
  simp only [bothT, Tr.holds]
  refine ⟨fun vs => vs = [Q1, 0, H1], ?_, ?_⟩
  · rw [push_ofL]
    obtain ⟨w1, w2, w3, w4⟩ := vals [0]
    refine half_holds (l := [hi, lo, d, L] ++ [0]) rfl (H := H) (nx := Lo / 4294967296) (IE.ok_le (by decide) okH) rfl rfl okn1 ((lift eH [0] okH).trans vH) w3 w4 (by simp only [IE.ev, lift eL [0] okL, vL, shr32]) H1f hD2 ?_
    intro τ e hle he
    have z1 := (IE.ev_le hle (show eH.ok 5 = true from IE.ok_le (by decide) okH)).trans ((lift eH [0] okH).trans vH)
    have z2 := (IE.ev_le hle (show eD'.ok _ = true from rfl)).trans w2
    have z3 : (IE.op .shr .u64 eL (.lit 32)).ev τ = Lo / 4294967296 := (IE.ev_le hle (show (IE.op .shr .u64 eL (.lit 32)).ok _ = true from okn1)).trans (by simp only [IE.ev, lift eL [0] okL, vL, shr32])
    obtain ⟨r1, r2, r3⟩ := rest_ev H1f hD2 z1 z2 z3 he
    simp only [if_true, List.map_cons, List.map_nil, AE.ev, List.length_cons, List.length_nil, he, r1, IE.ev]
    rw [hQ1, hH1e]
    exact ⟨trivial, rfl⟩
  · rintro vs - rfl
    rw [push_ofL]
    have hH1b : 0 ≤ H1 ∧ H1 < D := by rw [← hH1e, ← hQ1]; omega
    have H2f := mk H1 (Lo % 4294967296) hH1b.1 hH1b.2 (by omega) (by omega)
    obtain ⟨q20, q21, q22, q23⟩ := quoH_spec H2f
    obtain ⟨Q0, hQ0⟩ : ∃ Q, quoH H1 (Lo % 4294967296) D = Q := ⟨_, rfl⟩
    obtain ⟨H0, hH0e⟩ : ∃ x, H1 * 4294967296 + Lo % 4294967296 - Q0 * D = x := ⟨_, rfl⟩
    refine ⟨fun vs => vs = [Q1, Q0, H0], ?_, ?_⟩
    · rw [push_ofL, List.append_assoc]
      obtain ⟨w1, w2, w3, w4⟩ := vals ([Q1, 0, H1] ++ [0])
      refine half_holds (l := [hi, lo, d, L] ++ ([Q1, 0, H1] ++ [0])) rfl (H := H1) (nx := Lo % 4294967296) rfl rfl rfl okn2 rfl w3 w4 (by simp only [IE.ev, lift eL _ okL, vL, and32]) H2f hD2 ?_
      intro τ e hle he
      have z1 : (IE.var 6).ev τ = H1 := (IE.ev_le (e := .var 6) hle rfl)
      have z4 : (IE.var 4).ev τ = Q1 := (IE.ev_le (e := .var 4) hle rfl)
      have z2 := (IE.ev_le hle (show eD'.ok _ = true from rfl)).trans w2
      have z3 : (IE.op .and .u64 eL (.lit 4294967295)).ev τ = Lo % 4294967296 := (IE.ev_le hle (show (IE.op .and .u64 eL (.lit 4294967295)).ok _ = true from okn2)).trans (by simp only [IE.ev, lift eL _ okL, vL, and32])
      obtain ⟨r1, r2, r3⟩ := rest_ev H2f hD2 z1 z2 z3 he
      simp only [if_true, List.map_cons, List.map_nil, AE.ev, List.length_cons, List.length_nil, he, r1]
      rw [hQ0, hH0e, z4]
      exact ⟨trivial, rfl⟩
    · rintro vs - rfl
      rw [push_ofL, List.append_assoc]
      obtain ⟨w1, _⟩ := vals ([Q1, 0, H1] ++ [Q1, Q0, H0])
      have hH0b : 0 ≤ H0 ∧ H0 < D := by rw [← hH0e, ← hQ0]; omega
      simp only [List.map_cons, List.map_nil, AE.ev, IE.ev, w1, BE.ev, if_true]
      have v7 : (ofL ([hi, lo, d, L] ++ ([Q1, 0, H1] ++ [Q1, Q0, H0])) rr).v 7 = Q1 := rfl
      have v8 : (ofL ([hi, lo, d, L] ++ ([Q1, 0, H1] ++ [Q1, Q0, H0])) rr).v 8 = Q0 := rfl
      have v9 : (ofL ([hi, lo, d, L] ++ ([Q1, 0, H1] ++ [Q1, Q0, H0])) rr).v 9 = H0 := rfl
      rw [v7, v8, v9, or_half (by omega) (by omega) (by omega) (by omega), ev_shr .u64 _ _ (by show 63 - L ≤ 64; omega), hpe, post196]
      refine ⟨fun h => by omega, fun _ => ⟨rfl, ⟨by omega, by omega⟩, ?_⟩⟩
      -- all together
      have hall : W hi lo * p = (Q1 * 4294967296 + Q0) * d * p + H0 := by
        rw [← hW, Int.mul_assoc, hDe, Int.add_mul]
        have e1 : Q1 * 4294967296 * D = Q1 * D * 4294967296 := by rw [Int.mul_assoc, Int.mul_comm 4294967296 D, ← Int.mul_assoc]
        rw [e1]
        simp only [W]
        omega
      have hmul : H0 = (W hi lo - (Q1 * 4294967296 + Q0) * d) * p := by rw [Int.sub_mul]; omega
      have hdiv : H0 / p = W hi lo - (Q1 * 4294967296 + Q0) * d := by rw [hmul, Int.mul_ediv_cancel _ (by omega)]
      have hr0 : 0 ≤ H0 / p := Int.ediv_nonneg hH0b.1 (by omega)
      have hr1 : H0 / p < d := Int.ediv_lt_of_lt_mul hp (by rw [hDe]; exact hH0b.2)
      have := hd.2
      exact ⟨⟨hr0, by omega⟩, hr1, by omega⟩

theorem hold196 (hi lo d : Int) (h : U64 hi ∧ U64 lo ∧ U64 d) : T196.holds (specOf [c206]) (fun σ _ es => c196.post [hi, lo, d] (es.map (·.ev σ))) (valOf c196.row [hi, lo, d]) (fun _ _ => False) := by
  obtain ⟨⟨a1, a2⟩, ⟨b1, b2⟩, d1, d2⟩ := h
  rw [T196_eq]
  simp only [Tr.holds, valOf_ofL]
  refine ⟨fun hdh => ?_, fun hdh => ⟨⟨d1, d2⟩, fun rs hl hL => ?_⟩⟩
  · simp only [BE.ev, IE.ev, ofL_v, List.getD_cons_zero, List.getD_cons_succ, decide_eq_true_eq] at hdh
    rw [show (List.map (fun x => AE.ev (ofL [hi, lo, d] fun r => if (roIn c196.row.args 0 r).length = 0 then [] else dec ([hi, lo, d].getD r 0)) x) [AE.num (IE.lit 0), AE.num (IE.lit 0), AE.tru (BE.lit false)]) = [0, 0, 0] from rfl, post196]
    exact ⟨fun _ => ⟨rfl, rfl, rfl⟩, fun h => by omega⟩
  simp only [BE.ev, IE.ev, ofL_v, List.getD_cons_zero, List.getD_cons_succ, decide_eq_false_iff_not] at hdh
  obtain ⟨L, l', rfl, hl'⟩ := consOf hl
  cases nilOf hl'
  have hL : c206.post [d] [L] := hL
  rw [post206] at hL
  obtain ⟨L1, L2, _, hL⟩ := hL
  obtain ⟨L0, hL3, hL4⟩ := hL (by omega)
  rw [push_ofL]
  generalize (fun r => if (roIn c196.row.args 0 r).length = 0 then [] else dec ([hi, lo, d].getD r 0)) = rr
  have eup : eUp.ev (ofL ([hi, lo, d] ++ [L]) rr) = 63 - L := by
    simp only [eUp, IE.ev, ofL_v, List.cons_append, List.nil_append, List.getD_cons_zero, List.getD_cons_succ]
    rw [ev_sub, wrap_i64]; split <;> omega
  have e63 : (2 : Int) ^ 63 = 9223372036854775808 := by decide
  have e64 : (2 : Int) ^ 64 = 18446744073709551616 := by decide
  have hD1 : 9223372036854775808 ≤ d * 2 ^ (63 - L).toNat := by
    have h1 : (2 : Int) ^ L.toNat * 2 ^ (63 - L).toNat ≤ d * 2 ^ (63 - L).toNat := Int.mul_le_mul_of_nonneg_right hL3 (Int.le_of_lt (pow_pos' _))
    rw [← Int.pow_add, show L.toNat + (63 - L).toNat = 63 by omega, e63] at h1
    exact h1
  have hD2 : d * 2 ^ (63 - L).toNat < 18446744073709551616 := by
    have h1 : d * 2 ^ (63 - L).toNat < 2 ^ (L.toNat + 1) * 2 ^ (63 - L).toNat := Int.mul_lt_mul_of_pos_right hL4 (pow_pos' _)
    rw [← Int.pow_add, show L.toNat + 1 + (63 - L).toNat = 64 by omega, e64] at h1
    exact h1
  refine ⟨fun h => ?_, fun _ => ⟨fun hup => ⟨fun h => ?_, fun _ => ?_⟩, fun hup => ?_⟩⟩
  · simp only [BE.ev, eup, IE.ev, decide_eq_true_eq] at h; omega
  · simp only [BE.ev, IE.ev, eup, decide_eq_true_eq] at h
    rw [ev_sub, wrap_i64] at h
    split at h <;> omega
  · simp only [BE.ev, IE.ev, eup, decide_eq_true_eq] at hup
    have esub : F2.ev .sub .i64 64 (63 - L) = L + 1 := by rw [ev_sub, wrap_i64]; split <;> omega
    have hp := pow_pos' (63 - L).toNat
    have hq := pow_pos' (L + 1).toNat
    have hpq : (2 : Int) ^ (63 - L).toNat * 2 ^ (L + 1).toNat = 18446744073709551616 := by rw [← Int.pow_add, show (63 - L).toNat + (L + 1).toNat = 64 by omega, e64]
    have evL : eLo.ev (ofL [hi, lo, d, L] rr) = lo * 2 ^ (63 - L).toNat % 18446744073709551616 := by
      have e := eup
      simp only [List.cons_append, List.nil_append] at e
      simp only [eLo, IE.ev, e, ofL_v, List.getD_cons_zero, List.getD_cons_succ]
      rw [ev_shl64 _ _ (by omega)]
    -- the upper word, shifted
    have hlow : 0 ≤ lo / 2 ^ (L + 1).toNat ∧ lo / 2 ^ (L + 1).toNat < 2 ^ (63 - L).toNat := by
      refine ⟨Int.ediv_nonneg b1 (Int.le_of_lt hq), Int.ediv_lt_of_lt_mul hq ?_⟩
      rw [hpq]; exact b2
    have hhiD : hi * 2 ^ (63 - L).toNat + 2 ^ (63 - L).toNat ≤ d * 2 ^ (63 - L).toNat := by
      have h1 : (hi + 1) * 2 ^ (63 - L).toNat ≤ d * 2 ^ (63 - L).toNat := Int.mul_le_mul_of_nonneg_right (by omega) (Int.le_of_lt hp)
      rw [Int.add_mul, Int.one_mul] at h1
      exact h1
    have hhi0 : 0 ≤ hi * 2 ^ (63 - L).toNat := Int.mul_nonneg a1 (Int.le_of_lt hp)
    have evH : eHi.ev (ofL [hi, lo, d, L] rr) = hi * 2 ^ (63 - L).toNat + lo / 2 ^ (L + 1).toNat := by
      have e := eup
      simp only [List.cons_append, List.nil_append] at e
      simp only [eHi, IE.ev, e, esub, ofL_v, List.getD_cons_zero, List.getD_cons_succ]
      rw [ev_shl64 _ _ (by omega), ev_shr .u64 _ _ (by show L + 1 ≤ 64; omega), Int.emod_eq_of_lt hhi0 (by omega)]
      have ep : ((2 ^ (63 - L).toNat : Nat) : Int) = 2 ^ (63 - L).toNat := by rw [Int.natCast_pow]; rfl
      exact or_low _ _ (63 - L).toNat (by omega) ⟨hhi0, by omega⟩ (by rw [ep]; exact Int.mul_emod_left _ _) hlow.1 (by rw [ep]; exact hlow.2)
    refine both_holds (by omega) ⟨d1, d2⟩ L0 L2 hD1 hD2 rfl rfl evH evL (by omega) (by omega) ⟨by omega, by omega⟩ ?_
    -- lo's upper part and its lower one
    have h1 := Int.mul_ediv_add_emod lo (2 ^ (L + 1).toNat)
    have h2 := Int.emod_nonneg lo (show (2 : Int) ^ (L + 1).toNat ≠ 0 by omega)
    have h3 := Int.emod_lt_of_pos lo hq
    have h4 : lo * 2 ^ (63 - L).toNat = 18446744073709551616 * (lo / 2 ^ (L + 1).toNat) + lo % 2 ^ (L + 1).toNat * 2 ^ (63 - L).toNat := by
      rw [← hpq, Int.mul_assoc, Int.mul_comm (2 ^ (63 - L).toNat) (2 ^ (L + 1).toNat * _), ← Int.add_mul, h1]
    have h5 : 0 ≤ lo % 2 ^ (L + 1).toNat * 2 ^ (63 - L).toNat := Int.mul_nonneg h2 (Int.le_of_lt hp)
    have h6 : lo % 2 ^ (L + 1).toNat * 2 ^ (63 - L).toNat < 18446744073709551616 := by
      have := Int.mul_lt_mul_of_pos_right h3 hp
      rw [Int.mul_comm (2 ^ (L + 1).toNat), hpq] at this
      exact this
    have h7 : lo * 2 ^ (63 - L).toNat % 18446744073709551616 = lo % 2 ^ (L + 1).toNat * 2 ^ (63 - L).toNat := by rw [h4]; omega
    rw [h7]
    simp only [W]
    rw [Int.add_mul, Int.add_mul, h4]
    have : hi * 2 ^ (63 - L).toNat * 18446744073709551616 = hi * 18446744073709551616 * 2 ^ (63 - L).toNat := by rw [Int.mul_assoc, Int.mul_comm (2 ^ _) 18446744073709551616, ← Int.mul_assoc]
    omega
  · simp only [BE.ev, IE.ev, eup, decide_eq_false_iff_not] at hup
    have hL63 : L = 63 := by omega
    have h0 : (63 - L).toNat = 0 := by omega
    refine both_holds (H := hi) (Lo := lo) (by omega) ⟨d1, d2⟩ L0 L2 hD1 hD2 rfl rfl rfl rfl a1 ?_ ⟨b1, b2⟩ ?_
    · rw [h0, Int.pow_zero, Int.mul_one]; omega
    · rw [h0, Int.pow_zero, Int.mul_one]
theorem met196 : c196.met := met_of (l := [c206]) ⟨met206, trivial⟩ c196 (hint := hint196) (n := 1000) (by kernel_rfl) (by kernel_rfl) run196 fun xs hl hp => by
  have hl : xs.length = 3 := hl
  obtain ⟨hi, l0, rfl, h0⟩ := consOf hl
  obtain ⟨lo, l1, rfl, h1⟩ := consOf h0
  obtain ⟨d, l2, rfl, h2⟩ := consOf h1
  cases nilOf h2
  exact hold196 hi lo d hp
end Go.Proofs.Tx
