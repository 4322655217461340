/- What abstract data stand for, and first lemmas: the quick reckoning is the model's; makers keep their value; more variables and more blocks change nothing. -/
import Derived.Test.YtklfialdapljlaaSxC
namespace Go.Proofs.Sx
open Go

/-! ## The quick reckoning -/

theorem pw_eq (k : IntKind) : (pw k : Int) = 2 ^ k.bits := by cases k <;> rfl
theorem pwn_eq (k : IntKind) : pw k = 2 ^ k.bits := by cases k <;> rfl
theorem bitsF_eq (k : IntKind) : bitsF k = k.bits := by cases k <;> rfl

theorem emodF_eq (n : Int) (m : Nat) (hm : 0 < m) : (emodF n m : Int) = n % (m : Int) := by
  cases n with
  | ofNat a => simp [emodF]
  | negSucc a =>
    have h : a % m < m := Nat.mod_lt _ hm
    have e : (Int.negSucc a) % (m : Int) = (m : Int) - 1 - (a % m : Nat) := by
      rw [Int.negSucc_emod _ (by omega)]
      have : ((a : Int) % (m : Int)) = ((a % m : Nat) : Int) := by simp
      omega
    rw [e]
    simp only [emodF]
    omega

theorem wrapF_eq (k : IntKind) (n : Int) : wrapF k n = k.wrap n := by
  have hp : 0 < pw k := by cases k <;> decide
  have h := emodF_eq n (pw k) hp
  have hlt : emodF n (pw k) < pw k := by
    have := Int.emod_lt_of_pos n (show (0 : Int) < (pw k : Int) by omega)
    omega
  unfold wrapF IntKind.wrap
  rw [← pw_eq, ← h]
  generalize emodF n (pw k) = m at *
  cases k <;> simp [pw, hw, IntKind.signed, IntKind.bits] at * <;> (try split) <;> (try split) <;> omega

theorem ofIntBits (k : IntKind) (x : Int) : (BitVec.ofInt k.bits x).toNat = emodF x (pw k) := by
  have hp : 0 < pw k := by cases k <;> decide
  have h := emodF_eq x (pw k) hp
  rw [BitVec.toNat_ofInt]
  have : ((2 ^ k.bits : Nat) : Int) = (pw k : Int) := by rw [pwn_eq]
  rw [this]
  omega

theorem evF_eq (f : F2) (k : IntKind) (x y : Int) : f.evF k x y = f.ev k x y := by
  cases f <;> simp only [F2.evF, F2.ev, wrapF_eq]
  case and => rw [BitVec.toNat_and, ofIntBits, ofIntBits]; rfl
  case or => rw [BitVec.toNat_or, ofIntBits, ofIntBits]; rfl
  case xor => rw [BitVec.toNat_xor, ofIntBits, ofIntBits]; rfl
  case andNot =>
    rw [BitVec.toNat_and, BitVec.toNat_not, ofIntBits, ofIntBits, ← pwn_eq]
    rfl
  case shl => rw [bitsF_eq]; rfl
  case shr => rw [bitsF_eq]; rfl

/-! ## Makers -/

theorem ibeq_iff (x y : Int) : ibeq x y = true ↔ x = y := by
  cases x <;> cases y <;> simp [ibeq, Nat.beq_eq]
  omega

theorem ibeq_eq (x y : Int) : ibeq x y = (x == y) := by
  rw [Bool.eq_iff_iff, ibeq_iff]; simp

theorem kbeq_iff (a b : IntKind) : kbeq a b = true ↔ a = b := by cases a <;> cases b <;> simp [kbeq]
theorem fbeq_iff (a b : FloatKind) : fbeq a b = true ↔ a = b := by cases a <;> cases b <;> simp [fbeq]
theorem f2beq_iff (a b : F2) : a.beq b = true ↔ a = b := by cases a <;> cases b <;> simp [F2.beq]

theorem IE.beq_eq : ∀ {a b : IE}, a.beq b = true → a = b := by
  intro a
  induction a with
  | lit n => intro b h; cases b <;> simp [IE.beq, ibeq_iff] at h; rw [h]
  | var i => intro b h; cases b <;> simp [IE.beq, Nat.beq_eq] at h; rw [h]
  | op f k x y ih1 ih2 =>
    intro b h; cases b <;> simp [IE.beq, f2beq_iff, kbeq_iff] at h
    obtain ⟨⟨⟨h1, h2⟩, h3⟩, h4⟩ := h
    rw [h1, h2, ih1 h3, ih2 h4]
  | wrap k x ih => intro b h; cases b <;> simp [IE.beq, kbeq_iff] at h; rw [h.1, ih h.2]
  | pl x y ih1 ih2 => intro b h; cases b <;> simp [IE.beq] at h; rw [ih1 h.1, ih2 h.2]
  | mi x y ih1 ih2 => intro b h; cases b <;> simp [IE.beq] at h; rw [ih1 h.1, ih2 h.2]
  | byt x ih => intro b h; cases b <;> simp [IE.beq] at h; rw [ih h]
  | sel r m x j ih =>
    intro b h; cases b <;> simp [IE.beq, Nat.beq_eq] at h
    obtain ⟨⟨⟨h1, h2⟩, h3⟩, h4⟩ := h
    rw [h1, h2, h3, ih h4]
  | len r => intro b h; cases b <;> simp [IE.beq, Nat.beq_eq] at h; rw [h]
  | lnil => intro b h; cases b <;> simp [IE.beq] at h; rfl
  | lone x ih => intro b h; cases b <;> simp [IE.beq] at h; rw [ih h]
  | lcat x y ih1 ih2 => intro b h; cases b <;> simp [IE.beq] at h; rw [ih1 h.1, ih2 h.2]
  | lsub r m x y ih1 ih2 =>
    intro b h; cases b <;> simp [IE.beq, Nat.beq_eq] at h
    obtain ⟨⟨⟨h1, h2⟩, h3⟩, h4⟩ := h
    rw [h1, h2, ih1 h3, ih2 h4]
  | lat x m y j ih1 ih2 =>
    intro b h; cases b <;> simp [IE.beq, Nat.beq_eq] at h
    obtain ⟨⟨⟨h1, h2⟩, h3⟩, h4⟩ := h
    rw [h1, h2, ih1 h3, ih2 h4]
  | lcnt x m ih => intro b h; cases b <;> simp [IE.beq, Nat.beq_eq] at h; rw [h.1, ih h.2]
  | lset x m y j z ih1 ih2 ih3 =>
    intro b h; cases b <;> simp [IE.beq, Nat.beq_eq] at h
    obtain ⟨⟨⟨⟨h1, h2⟩, h3⟩, h4⟩, h5⟩ := h
    rw [h1, h2, ih1 h3, ih2 h4, ih3 h5]
  | lrep x y ih1 ih2 => intro b h; cases b <;> simp [IE.beq] at h; rw [ih1 h.1, ih2 h.2]

theorem bopbeq_eq {a b : BinOp} (h : bopbeq a b = true) : a = b := by cases a <;> cases b <;> simp [bopbeq] at h <;> rfl

theorem BE.beq_eq : ∀ {a b : BE}, a.beq b = true → a = b := by
  intro a
  induction a with
  | lit n => intro b h; cases b <;> simp [BE.beq] at h; rw [h]
  | eq x y => intro b h; cases b <;> simp [BE.beq] at h; rw [IE.beq_eq h.1, IE.beq_eq h.2]
  | lt x y => intro b h; cases b <;> simp [BE.beq] at h; rw [IE.beq_eq h.1, IE.beq_eq h.2]
  | le x y => intro b h; cases b <;> simp [BE.beq] at h; rw [IE.beq_eq h.1, IE.beq_eq h.2]
  | nz x => intro b h; cases b <;> simp [BE.beq] at h; rw [IE.beq_eq h]
  | not x ih => intro b h; cases b <;> simp [BE.beq] at h; rw [ih h]
  | and x y ih1 ih2 => intro b h; cases b <;> simp [BE.beq] at h; rw [ih1 h.1, ih2 h.2]
  | or x y ih1 ih2 => intro b h; cases b <;> simp [BE.beq] at h; rw [ih1 h.1, ih2 h.2]
  | flt o k x y =>
    intro b h; cases b <;> simp [BE.beq, fbeq_iff] at h
    obtain ⟨⟨⟨h1, h2⟩, h3⟩, h4⟩ := h
    rw [bopbeq_eq h1, h2, IE.beq_eq h3, IE.beq_eq h4]

theorem AE.beq_eq : ∀ {a b : AE}, a.beq b = true → a = b := by
  intro a b h
  cases a <;> cases b <;> simp [AE.beq] at h
  · rw [IE.beq_eq h]
  · rw [BE.beq_eq h]

section
variable (σ : Val)

theorem ev_mkOp (f : F2) (k : IntKind) (a b : IE) : (mkOp f k a b).ev σ = f.ev k (a.ev σ) (b.ev σ) := by
  unfold mkOp; split
  · simp [IE.ev, evF_eq]
  · rfl
theorem ev_mkWrap (k : IntKind) (a : IE) : (mkWrap k a).ev σ = k.wrap (a.ev σ) := by
  unfold mkWrap; split
  · simp [IE.ev, wrapF_eq]
  · rfl
theorem ev_mkPl (a b : IE) : (mkPl a b).ev σ = a.ev σ + b.ev σ := by
  unfold mkPl; split
  · simp [IE.ev]
  · split
    · rename_i h; rw [ibeq_iff] at h; simp [IE.ev, h]
    · rfl
  · rfl
theorem ev_mkMi (a b : IE) : (mkMi a b).ev σ = a.ev σ - b.ev σ := by
  unfold mkMi; split
  · simp [IE.ev]
  · split
    · rename_i h; rw [ibeq_iff] at h; simp [IE.ev, h]
    · rfl
  · rfl

theorem wrap_u8 (n : Int) : IntKind.u8.wrap n = n % 256 := by simp [IntKind.wrap, IntKind.signed, IntKind.bits]

theorem small_u8 (f : F2) (h : f.small = true) (x y : Int) : 0 ≤ f.ev .u8 x y ∧ f.ev .u8 x y < 256 := by
  cases f <;> simp [F2.small] at h <;> simp only [F2.ev, wrap_u8] <;> omega

theorem ev_mkByt (a : IE) : (mkByt a).ev σ = (((a.ev σ).toNat % 256 : Nat) : Int) := by
  unfold mkByt
  split
  · rfl
  · simp only [IE.ev, wrap_u8]; omega
  · simp only [IE.ev]; omega
  · split
    · rename_i f x y h
      have := small_u8 _ h (IE.ev σ x) (IE.ev σ y)
      simp only [IE.ev]
      omega
    · rfl
  · rfl

theorem ev_mkEq (a b : IE) : (mkEq a b).ev σ = (a.ev σ == b.ev σ) := by
  unfold mkEq; split
  · simp [BE.ev, IE.ev, ibeq_eq]
  · split
    · rename_i h; rw [IE.beq_eq h]; simp [BE.ev]
    · rfl
theorem ev_mkLt (a b : IE) : (mkLt a b).ev σ = decide (a.ev σ < b.ev σ) := by
  unfold mkLt; split <;> rfl
theorem ev_mkLe (a b : IE) : (mkLe a b).ev σ = decide (a.ev σ ≤ b.ev σ) := by
  unfold mkLe; split <;> rfl
theorem ev_mkNot (a : BE) : (mkNot a).ev σ = !(a.ev σ) := by
  unfold mkNot; split <;> simp [BE.ev]
theorem ev_mkAnd (a b : BE) : (mkAnd a b).ev σ = (a.ev σ && b.ev σ) := by
  unfold mkAnd; (repeat' split) <;> simp [BE.ev]
theorem ev_mkNz (a : IE) : (mkNz a).ev σ = (a.ev σ != 0) := by
  unfold mkNz; split
  · simp [BE.ev, IE.ev, ibeq_eq, bne]
  · rfl
theorem ev_mkFlt (o : BinOp) (k : FloatKind) (a b : IE) : (mkFlt o k a b).ev σ = fcmp o k (a.ev σ).toNat (b.ev σ).toNat := by
  unfold mkFlt; split <;> rfl
theorem ev_beqB (a b : BE) : (beqB a b).ev σ = (a.ev σ == b.ev σ) := by
  unfold beqB; split <;> simp [BE.ev, ev_mkNot] <;> cases a.ev σ <;> cases b.ev σ <;> rfl
end

section
variable (n : Nat)
theorem ok_mkOp {f : F2} {k : IntKind} {a b : IE} (ha : a.ok n = true) (hb : b.ok n = true) : (mkOp f k a b).ok n = true := by
  unfold mkOp; split
  · rfl
  · simp [IE.ok, ha, hb]
theorem ok_mkWrap {k : IntKind} {a : IE} (ha : a.ok n = true) : (mkWrap k a).ok n = true := by
  unfold mkWrap; split
  · rfl
  · simpa [IE.ok] using ha
theorem ok_mkPl {a b : IE} (ha : a.ok n = true) (hb : b.ok n = true) : (mkPl a b).ok n = true := by
  unfold mkPl; split
  · rfl
  · split
    · exact hb
    · simp [IE.ok, hb]
  · simp [IE.ok, ha, hb]
theorem ok_mkMi {a b : IE} (ha : a.ok n = true) (hb : b.ok n = true) : (mkMi a b).ok n = true := by
  unfold mkMi; split
  · rfl
  · split
    · exact ha
    · simp [IE.ok, ha]
  · simp [IE.ok, ha, hb]
theorem ok_mkByt {a : IE} (ha : a.ok n = true) : (mkByt a).ok n = true := by
  unfold mkByt; split
  · rfl
  · exact ha
  · exact ha
  · split
    · exact ha
    · exact ha
  · exact ha
theorem ok_mkEq {a b : IE} (ha : a.ok n = true) (hb : b.ok n = true) : (mkEq a b).ok n = true := by
  unfold mkEq; split
  · rfl
  · split
    · rfl
    · simp [BE.ok, ha, hb]
theorem ok_mkLt {a b : IE} (ha : a.ok n = true) (hb : b.ok n = true) : (mkLt a b).ok n = true := by
  unfold mkLt; split
  · rfl
  · simp [BE.ok, ha, hb]
theorem ok_mkLe {a b : IE} (ha : a.ok n = true) (hb : b.ok n = true) : (mkLe a b).ok n = true := by
  unfold mkLe; split
  · rfl
  · simp [BE.ok, ha, hb]
theorem ok_mkNot {a : BE} (ha : a.ok n = true) : (mkNot a).ok n = true := by
  unfold mkNot; split
  · rfl
  · simpa [BE.ok] using ha
  · simpa [BE.ok] using ha
theorem ok_mkAnd {a b : BE} (ha : a.ok n = true) (hb : b.ok n = true) : (mkAnd a b).ok n = true := by
  unfold mkAnd; (repeat' split) <;> simp_all [BE.ok]
theorem ok_mkNz {a : IE} (ha : a.ok n = true) : (mkNz a).ok n = true := by
  unfold mkNz; split
  · rfl
  · simpa [BE.ok] using ha
theorem ok_mkFlt {o : BinOp} {k : FloatKind} {a b : IE} (ha : a.ok n = true) (hb : b.ok n = true) : (mkFlt o k a b).ok n = true := by
  unfold mkFlt; split
  · rfl
  · simp [BE.ok, ha, hb]
theorem ok_beqB {a b : BE} (ha : a.ok n = true) (hb : b.ok n = true) : (beqB a b).ok n = true := by
  unfold beqB; split
  · exact hb
  · exact ok_mkNot n hb
  · exact ha
  · exact ok_mkNot n ha
  · simp [BE.ok, ha, hb]
end

/-! ## More variables change nothing -/

theorem encI_inj {x y : Int} (h : encI x = encI y) : x = y := by
  cases x <;> cases y <;> simp only [encI, Int.ofNat_eq_natCast] at h ⊢ <;> omega

theorem pair_inj : ∀ (a b c d : Nat), 2 ^ a * (2 * c + 1) = 2 ^ b * (2 * d + 1) → a = b ∧ c = d := by
  intro a
  induction a with
  | zero =>
    intro b c d h
    cases b with
    | zero => simp only [Nat.pow_zero, Nat.one_mul] at h; exact ⟨rfl, by omega⟩
    | succ b =>
      rw [Nat.pow_succ, Nat.pow_zero, Nat.one_mul, Nat.mul_comm (2 ^ b) 2, Nat.mul_assoc] at h
      omega
  | succ a ih =>
    intro b c d h
    cases b with
    | zero =>
      rw [Nat.pow_succ, Nat.pow_zero, Nat.one_mul, Nat.mul_comm (2 ^ a) 2, Nat.mul_assoc] at h
      omega
    | succ b =>
      rw [Nat.pow_succ, Nat.pow_succ, Nat.mul_comm (2 ^ a) 2, Nat.mul_comm (2 ^ b) 2, Nat.mul_assoc, Nat.mul_assoc] at h
      obtain ⟨h1, h2⟩ := ih b c d (by omega)
      exact ⟨by rw [h1], h2⟩

theorem enc_inj : ∀ {l m : List Int}, enc l = enc m → l = m := by
  intro l
  induction l with
  | nil =>
    intro m h
    cases m with
    | nil => rfl
    | cons y m =>
      simp only [enc] at h
      have := Nat.mul_pos (Nat.two_pow_pos (encI y)) (show 0 < 2 * enc m + 1 by omega)
      omega
  | cons x l ih =>
    intro m h
    cases m with
    | nil =>
      simp only [enc] at h
      have := Nat.mul_pos (Nat.two_pow_pos (encI x)) (show 0 < 2 * enc l + 1 by omega)
      omega
    | cons y m =>
      simp only [enc] at h
      obtain ⟨h1, h2⟩ := pair_inj _ _ _ _ h
      rw [encI_inj h1, ih h2]

theorem lst_inj {l m : List Int} (h : lst l = lst m) : l = m := enc_inj (by unfold lst at h; omega)

@[simp] theorem dec_lst (l : List Int) : dec (lst l) = l := by
  unfold dec
  have h : ∃ m, lst m = lst l := ⟨l, rfl⟩
  rw [dif_pos h]
  exact lst_inj h.choose_spec

@[simp] theorem lst_eq_lst {l m : List Int} : lst l = lst m ↔ l = m := ⟨lst_inj, fun h => by rw [h]⟩

structure Val.le (σ τ : Val) : Prop where
  n : σ.n ≤ τ.n
  v : ∀ i, i < σ.n → τ.v i = σ.v i
  r : τ.r = σ.r

theorem Val.le.refl (σ : Val) : σ.le σ := ⟨Nat.le_refl _, fun _ _ => rfl, rfl⟩
theorem Val.le.trans {a b c : Val} (h : a.le b) (h' : b.le c) : a.le c :=
  ⟨Nat.le_trans h.n h'.n, fun i hi => (h'.v i (Nat.lt_of_lt_of_le hi h.n)).trans (h.v i hi), h'.r.trans h.r⟩

theorem IE.ev_le {σ τ : Val} (h : σ.le τ) : ∀ {e : IE}, e.ok σ.n = true → e.ev τ = e.ev σ := by
  intro e
  induction e with
  | lit n => intro _; rfl
  | var i => intro hi; simp [IE.ok, Nat.blt_eq] at hi; exact h.v i hi
  | op f k a b ih1 ih2 => intro hi; simp [IE.ok] at hi; simp [IE.ev, ih1 hi.1, ih2 hi.2]
  | wrap k a ih => intro hi; simp [IE.ok] at hi; simp [IE.ev, ih hi]
  | pl a b ih1 ih2 => intro hi; simp [IE.ok] at hi; simp [IE.ev, ih1 hi.1, ih2 hi.2]
  | mi a b ih1 ih2 => intro hi; simp [IE.ok] at hi; simp [IE.ev, ih1 hi.1, ih2 hi.2]
  | byt a ih => intro hi; simp [IE.ok] at hi; simp [IE.ev, ih hi]
  | sel r m a j ih => intro hi; simp [IE.ok] at hi; simp [IE.ev, ih hi, h.r]
  | len r => intro _; simp [IE.ev, h.r]
  | lnil => intro _; rfl
  | lone a ih => intro hi; simp only [IE.ok] at hi; simp only [IE.ev, ih hi]
  | lcat a b ih1 ih2 => intro hi; simp only [IE.ok, Bool.and_eq_true] at hi; simp only [IE.ev, ih1 hi.1, ih2 hi.2]
  | lsub r m a b ih1 ih2 => intro hi; simp only [IE.ok, Bool.and_eq_true] at hi; simp only [IE.ev, ih1 hi.1, ih2 hi.2, h.r]
  | lat a m i j ih1 ih2 => intro hi; simp only [IE.ok, Bool.and_eq_true] at hi; simp only [IE.ev, ih1 hi.1, ih2 hi.2]
  | lcnt a m ih => intro hi; simp only [IE.ok] at hi; simp only [IE.ev, ih hi]
  | lset a m i j e ih1 ih2 ih3 => intro hi; simp only [IE.ok, Bool.and_eq_true] at hi; simp only [IE.ev, ih1 hi.1.1, ih2 hi.1.2, ih3 hi.2]
  | lrep a b ih1 ih2 => intro hi; simp only [IE.ok, Bool.and_eq_true] at hi; simp only [IE.ev, ih1 hi.1, ih2 hi.2]

theorem IE.ok_le {n m : Nat} (h : n ≤ m) : ∀ {e : IE}, e.ok n = true → e.ok m = true := by
  intro e
  induction e with
  | var i => intro hi; simp [IE.ok, Nat.blt_eq] at *; omega
  | op f k a b ih1 ih2 => intro hi; simp [IE.ok] at *; exact ⟨ih1 hi.1, ih2 hi.2⟩
  | pl a b ih1 ih2 => intro hi; simp [IE.ok] at *; exact ⟨ih1 hi.1, ih2 hi.2⟩
  | mi a b ih1 ih2 => intro hi; simp [IE.ok] at *; exact ⟨ih1 hi.1, ih2 hi.2⟩
  | wrap k a ih => intro hi; simp [IE.ok] at *; exact ih hi
  | byt a ih => intro hi; simp [IE.ok] at *; exact ih hi
  | sel r m a j ih => intro hi; simp [IE.ok] at *; exact ih hi
  | lit n => intro _; rfl
  | len r => intro _; rfl
  | lnil => intro _; rfl
  | lone a ih => intro hi; simp only [IE.ok] at *; exact ih hi
  | lcat a b ih1 ih2 => intro hi; simp only [IE.ok, Bool.and_eq_true] at *; exact ⟨ih1 hi.1, ih2 hi.2⟩
  | lsub r m a b ih1 ih2 => intro hi; simp only [IE.ok, Bool.and_eq_true] at *; exact ⟨ih1 hi.1, ih2 hi.2⟩
  | lat a m i j ih1 ih2 => intro hi; simp only [IE.ok, Bool.and_eq_true] at *; exact ⟨ih1 hi.1, ih2 hi.2⟩
  | lcnt a m ih => intro hi; simp only [IE.ok] at *; exact ih hi
  | lset a m i j e ih1 ih2 ih3 => intro hi; simp only [IE.ok, Bool.and_eq_true] at *; exact ⟨⟨ih1 hi.1.1, ih2 hi.1.2⟩, ih3 hi.2⟩
  | lrep a b ih1 ih2 => intro hi; simp only [IE.ok, Bool.and_eq_true] at *; exact ⟨ih1 hi.1, ih2 hi.2⟩

theorem BE.ev_le {σ τ : Val} (h : σ.le τ) : ∀ {c : BE}, c.ok σ.n = true → c.ev τ = c.ev σ := by
  intro c
  induction c with
  | lit b => intro _; rfl
  | eq a b => intro hi; simp [BE.ok] at hi; simp [BE.ev, IE.ev_le h hi.1, IE.ev_le h hi.2]
  | lt a b => intro hi; simp [BE.ok] at hi; simp [BE.ev, IE.ev_le h hi.1, IE.ev_le h hi.2]
  | le a b => intro hi; simp [BE.ok] at hi; simp [BE.ev, IE.ev_le h hi.1, IE.ev_le h hi.2]
  | nz a => intro hi; simp [BE.ok] at hi; simp [BE.ev, IE.ev_le h hi]
  | not a ih => intro hi; simp [BE.ok] at hi; simp [BE.ev, ih hi]
  | and a b ih1 ih2 => intro hi; simp [BE.ok] at hi; simp [BE.ev, ih1 hi.1, ih2 hi.2]
  | or a b ih1 ih2 => intro hi; simp [BE.ok] at hi; simp [BE.ev, ih1 hi.1, ih2 hi.2]
  | flt o k a b => intro hi; simp [BE.ok] at hi; simp [BE.ev, IE.ev_le h hi.1, IE.ev_le h hi.2]

theorem BE.ok_le {n m : Nat} (h : n ≤ m) : ∀ {c : BE}, c.ok n = true → c.ok m = true := by
  intro c
  induction c with
  | lit b => intro _; rfl
  | eq a b => intro hi; simp [BE.ok] at *; exact ⟨IE.ok_le h hi.1, IE.ok_le h hi.2⟩
  | lt a b => intro hi; simp [BE.ok] at *; exact ⟨IE.ok_le h hi.1, IE.ok_le h hi.2⟩
  | le a b => intro hi; simp [BE.ok] at *; exact ⟨IE.ok_le h hi.1, IE.ok_le h hi.2⟩
  | flt o k a b => intro hi; simp [BE.ok] at *; exact ⟨IE.ok_le h hi.1, IE.ok_le h hi.2⟩
  | nz a => intro hi; simp [BE.ok] at *; exact IE.ok_le h hi
  | not a ih => intro hi; simp [BE.ok] at *; exact ih hi
  | and a b ih1 ih2 => intro hi; simp [BE.ok] at *; exact ⟨ih1 hi.1, ih2 hi.2⟩
  | or a b ih1 ih2 => intro hi; simp [BE.ok] at *; exact ⟨ih1 hi.1, ih2 hi.2⟩

end Go.Proofs.Sx
