/- Numbers of 64 bits, what the functions of them are; words for the laws of trees. -/
import Derived.Test.YtklfialdapljlaaTxA
namespace Go.Proofs.Tx
open Go Go.Proofs.Sx

/-! ## Words for the laws of trees -/

/-- the numbers of the variables, as a list -/
def ofL (l : List Int) (r : Nat → List Int) : Val := { n := l.length, v := fun i => l.getD i 0, r := r }

theorem valOf_ofL (row : Row) (xs : List Int) : valOf row xs = ofL xs (fun r => if (roIn row.args 0 r).length = 0 then [] else dec (xs.getD r 0)) := rfl

theorem push_ofL (l rs : List Int) (r : Nat → List Int) : (ofL l r).push rs = ofL (l ++ rs) r := by
  unfold ofL Val.push
  simp only [Val.mk.injEq, List.length_append, and_true, true_and]
  funext i
  by_cases h : i < l.length
  · simp only [h, if_true]; rw [List.getD_eq_getElem?_getD, List.getD_eq_getElem?_getD, List.getElem?_append_left h]
  · simp only [h, if_false]; rw [List.getD_eq_getElem?_getD, List.getD_eq_getElem?_getD, List.getElem?_append_right (by omega)]

theorem ofL_v (l : List Int) (r : Nat → List Int) (i : Nat) : (ofL l r).v i = l.getD i 0 := rfl
theorem ofL_r (l : List Int) (r : Nat → List Int) : (ofL l r).r = r := rfl

theorem len0 {P : List Int → Prop} : (∀ rs : List Int, rs.length = 0 → P rs) ↔ P [] := ⟨fun h => h [] rfl, fun h rs hl => by rw [List.length_eq_zero_iff.1 hl]; exact h⟩
theorem lenS {P : List Int → Prop} {n : Nat} : (∀ rs : List Int, rs.length = n + 1 → P rs) ↔ ∀ (r : Int) (rs : List Int), rs.length = n → P (r :: rs) :=
  ⟨fun h r rs hl => h (r :: rs) (by simp [hl]), fun h rs hl => by
    cases rs with
    | nil => simp at hl
    | cons r rs => exact h r rs (by simpa using hl)⟩
theorem len1 {P : List Int → Prop} : (∀ rs : List Int, rs.length = 1 → P rs) ↔ ∀ r, P [r] := by rw [lenS]; exact forall_congr' fun r => len0 (P := fun rs => P (r :: rs))
theorem len2 {P : List Int → Prop} : (∀ rs : List Int, rs.length = 2 → P rs) ↔ ∀ r s, P [r, s] := by rw [lenS]; exact forall_congr' fun r => len1 (P := fun rs => P (r :: rs))
theorem len3 {P : List Int → Prop} : (∀ rs : List Int, rs.length = 3 → P rs) ↔ ∀ r s t, P [r, s, t] := by rw [lenS]; exact forall_congr' fun r => len2 (P := fun rs => P (r :: rs))
theorem len4 {P : List Int → Prop} : (∀ rs : List Int, rs.length = 4 → P rs) ↔ ∀ r s t u, P [r, s, t, u] := by rw [lenS]; exact forall_congr' fun r => len3 (P := fun rs => P (r :: rs))
theorem len5 {P : List Int → Prop} : (∀ rs : List Int, rs.length = 5 → P rs) ↔ ∀ r s t u v, P [r, s, t, u, v] := by rw [lenS]; exact forall_congr' fun r => len4 (P := fun rs => P (r :: rs))
theorem len6 {P : List Int → Prop} : (∀ rs : List Int, rs.length = 6 → P rs) ↔ ∀ r s t u v w, P [r, s, t, u, v, w] := by rw [lenS]; exact forall_congr' fun r => len5 (P := fun rs => P (r :: rs))

theorem consOf {xs : List Int} {n : Nat} (h : xs.length = n + 1) : ∃ a l, xs = a :: l ∧ l.length = n := by
  cases xs with
  | nil => simp at h
  | cons a l => exact ⟨a, l, rfl, by simpa using h⟩
theorem nilOf {xs : List Int} (h : xs.length = 0) : xs = [] := List.length_eq_zero_iff.1 h

/-! ## Numbers of 64 bits -/

/-- the greatest number -/
abbrev M : Int := 9223372036854775807
/-- a number of 64 bits with a sign; without one; a number of 32 bits -/
def I64 (x : Int) : Prop := -9223372036854775808 ≤ x ∧ x ≤ 9223372036854775807
def U64 (x : Int) : Prop := 0 ≤ x ∧ x < 18446744073709551616
def U32 (x : Int) : Prop := 0 ≤ x ∧ x < 4294967296
def U8 (x : Int) : Prop := 0 ≤ x ∧ x < 256
/-- a number of two words -/
def W (hi lo : Int) : Int := hi * 18446744073709551616 + lo
abbrev WW : Int := 340282366920938463463374607431768211456

def clampM (x : Int) : Int := if x < -M then -M else if M < x then M else x
def addF (a b : Int) : Int := clampM (a + b)
def subF (a b : Int) : Int := clampM (a - b)
def sizeF (a : Int) : Int := if a < 0 then -a else a
def absF (a : Int) : Int := clampM (sizeF a)
def holdF (a lo hi : Int) : Int := clampM (if a < lo then lo else if hi < a then hi else a)
def cutF (minus : Prop) (n : Int) (rest : Prop) [Decidable minus] [Decidable rest] : Int :=
  if minus then (if rest then -(if n < M then n + 1 else M) else -(if n < M then n else M)) else (if n < M then n else M)
def diffF (a b : Int) : Int := clampM (IntKind.wrap .i64 (a - b))

theorem wrap_i64 (x : Int) : IntKind.wrap .i64 x = if x % 18446744073709551616 ≥ 9223372036854775808 then x % 18446744073709551616 - 18446744073709551616 else x % 18446744073709551616 := by
  simp [IntKind.wrap, IntKind.signed, IntKind.bits]
theorem wrap_u64 (x : Int) : IntKind.wrap .u64 x = x % 18446744073709551616 := by
  simp [IntKind.wrap, IntKind.signed, IntKind.bits]
theorem wrap_u32 (x : Int) : IntKind.wrap .u32 x = x % 4294967296 := by
  simp [IntKind.wrap, IntKind.signed, IntKind.bits]
theorem wrap_u8 (x : Int) : IntKind.wrap .u8 x = x % 256 := by
  simp [IntKind.wrap, IntKind.signed, IntKind.bits]

theorem ev_add (k : IntKind) (x y : Int) : F2.ev .add k x y = k.wrap (x + y) := rfl
theorem ev_sub (k : IntKind) (x y : Int) : F2.ev .sub k x y = k.wrap (x - y) := rfl
theorem ev_mul (k : IntKind) (x y : Int) : F2.ev .mul k x y = k.wrap (x * y) := rfl
theorem ev_quo (k : IntKind) (x y : Int) : F2.ev .quo k x y = k.wrap (x.tdiv y) := rfl
theorem ev_rem (k : IntKind) (x y : Int) : F2.ev .rem k x y = x.tmod y := rfl
theorem ev_max (k : IntKind) (x y : Int) : F2.ev .max k x y = if y > x then y else x := rfl
theorem ev_min (k : IntKind) (x y : Int) : F2.ev .min k x y = if y < x then y else x := rfl

theorem lt_or_ge' (a b : Int) : a < b ∨ b ≤ a := by omega

end Go.Proofs.Tx
