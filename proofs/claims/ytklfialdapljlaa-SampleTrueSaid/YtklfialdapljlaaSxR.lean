/- Equality of abstract data, told by Bools; what stands for one value alone. -/
import Derived.Test.YtklfialdapljlaaSxQ
namespace Go.Proofs.Sx
open Go

theorem ielbeq_eq : ∀ {a b : List IE}, ielbeq a b = true → a = b := by
  intro a
  induction a with
  | nil => intro b h; cases b <;> simp_all [ielbeq]
  | cons x a ih => intro b h; cases b with
    | nil => simp [ielbeq] at h
    | cons y b => simp only [ielbeq, Bool.and_eq_true] at h; rw [IE.beq_eq h.1, ih h.2]

theorem aelbeq_eq : ∀ {a b : List AE}, aelbeq a b = true → a = b := by
  intro a
  induction a with
  | nil => intro b h; cases b <;> simp_all [aelbeq]
  | cons x a ih => intro b h; cases b with
    | nil => simp [aelbeq] at h
    | cons y b => simp only [aelbeq, Bool.and_eq_true] at h; rw [AE.beq_eq h.1, ih h.2]

theorem stepsbeq_eq : ∀ {a b : List FieldStep}, stepsbeq a b = true → a = b := by
  intro a
  induction a with
  | nil => intro b h; cases b <;> simp_all [stepsbeq]
  | cons x a ih => intro b h; cases b with
    | nil => simp [stepsbeq] at h
    | cons y b =>
      obtain ⟨x1, x2, x3⟩ := x
      obtain ⟨y1, y2, y3⟩ := y
      simp only [stepsbeq, stepbeq, Bool.and_eq_true, Nat.beq_eq, beq_iff_eq] at h
      obtain ⟨⟨⟨h1, h2⟩, h3⟩, h4⟩ := h
      rw [h1, h2, h3, ih h4]

theorem fnbeq_eq {a b : Fn} (h : fnbeq a b = true) : a = b := by
  cases a <;> cases b <;> simp only [fnbeq, Nat.beq_eq, Bool.and_eq_true, beq_iff_eq, Bool.false_eq_true] at h
  · rw [h]
  · obtain ⟨⟨⟨h1, h2⟩, h3⟩, h4⟩ := h
    rw [h1, h3, h4, Array.toList_inj.1 (stepsbeq_eq h2)]

theorem AV.beq_eq0 : ∀ (a b : AV), a.beq b = true → a = b := by
  intro a
  refine AV.rec (motive_1 := fun a => ∀ b, a.beq b = true → a = b) (motive_2 := fun l => ∀ m, AV.beqL l m = true → l = m)
    ?_ ?_ ?_ ?_ ?_ ?_ ?_ ?_ ?_ ?_ ?_ ?_ ?_ ?_ ?_ ?_ ?_ ?_ ?_ ?_ a
  case _ => intro c b h; cases b <;> simp only [AV.beq, Bool.false_eq_true] at h; rw [BE.beq_eq h]
  case _ => intro k e b h; cases b <;> simp only [AV.beq, Bool.false_eq_true, Bool.and_eq_true, kbeq_iff] at h; rw [h.1, IE.beq_eq h.2]
  case _ => intro k e b h; cases b <;> simp only [AV.beq, Bool.false_eq_true, Bool.and_eq_true, fbeq_iff] at h; rw [h.1, IE.beq_eq h.2]
  case _ => intro l b h; cases b <;> simp only [AV.beq, Bool.false_eq_true] at h; rw [ielbeq_eq h]
  case _ => intro b h; cases b <;> simp only [AV.beq, Bool.false_eq_true] at h; rfl
  case _ => intro x y b h; cases b <;> simp only [AV.beq, Bool.false_eq_true, Bool.and_eq_true, Nat.beq_eq] at h; rw [h.1, h.2]
  case _ => intro x y z u b h; cases b <;> simp only [AV.beq, Bool.false_eq_true, Bool.and_eq_true, Nat.beq_eq] at h; rw [h.1.1.1, h.1.1.2, IE.beq_eq h.1.2, IE.beq_eq h.2]
  case _ => intro x y z u b h; cases b <;> simp only [AV.beq, Bool.false_eq_true, Bool.and_eq_true, Nat.beq_eq] at h; rw [h.1.1.1, IE.beq_eq h.1.1.2, IE.beq_eq h.1.2, IE.beq_eq h.2]
  case _ => intro x y z b h; cases b <;> simp only [AV.beq, Bool.false_eq_true, Bool.and_eq_true, Nat.beq_eq] at h; rw [h.1.1, IE.beq_eq h.1.2, h.2]
  case _ => intro x y z u b h; cases b <;> simp only [AV.beq, Bool.false_eq_true, Bool.and_eq_true, Nat.beq_eq] at h; rw [h.1.1.1, h.1.1.2, IE.beq_eq h.1.2, h.2]
  case _ => intro x b h; cases b <;> simp only [AV.beq, Bool.false_eq_true, Nat.beq_eq] at h; rw [h]
  case _ => intro f x y ihx ihy b h; cases b <;> simp only [AV.beq, Bool.false_eq_true, Bool.and_eq_true] at h; rw [fnbeq_eq h.1.1, ihx _ h.1.2, ihy _ h.2]
  case _ => intro b h; cases b <;> simp only [AV.beq, Bool.false_eq_true] at h; rfl
  case _ => intro t v ih b h; cases b <;> simp only [AV.beq, Bool.false_eq_true, Bool.and_eq_true, Nat.beq_eq] at h; rw [h.1, ih _ h.2]
  case _ => intro b h; cases b <;> simp only [AV.beq, Bool.false_eq_true] at h; rfl
  case _ => intro l ih b h; cases b <;> simp only [AV.beq, Bool.false_eq_true] at h; rw [ih _ h]
  case _ => intro l ih b h; cases b <;> simp only [AV.beq, Bool.false_eq_true] at h; rw [ih _ h]
  case _ => intro b h; cases b <;> simp only [AV.beq, Bool.false_eq_true] at h; rfl
  case _ => intro m h; cases m <;> simp_all [AV.beqL]
  case _ =>
    intro x l ihx ihl m h
    cases m with
    | nil => simp [AV.beqL] at h
    | cons y m => simp only [AV.beqL, Bool.and_eq_true] at h; rw [ihx _ h.1, ihl _ h.2]

theorem AV.beq_eq {a b : AV} (h : a.beq b = true) : a = b := AV.beq_eq0 a b h

theorem AV.beqL_eq : ∀ {a b : List AV}, AV.beqL a b = true → a = b := by
  intro a
  induction a with
  | nil => intro b h; cases b <;> simp_all [AV.beqL]
  | cons x a ih => intro b h; cases b with
    | nil => simp [AV.beqL] at h
    | cons y b => simp only [AV.beqL, Bool.and_eq_true] at h; rw [AV.beq_eq h.1, ih h.2]

theorem AObj.beq_eq {a b : AObj} (h : a.beq b = true) : a = b := by
  obtain ⟨a1, a2, a3, a4⟩ := a
  obtain ⟨b1, b2, b3, b4⟩ := b
  simp only [AObj.beq, Bool.and_eq_true, Nat.beq_eq] at h
  obtain ⟨⟨⟨h1, h2⟩, h3⟩, h4⟩ := h
  have e4 : a4 = b4 := by
    cases a4 with
    | none => cases b4 with
      | none => rfl
      | some _ => simp [lsbeq] at h4
    | some p =>
      cases b4 with
      | none => simp [lsbeq] at h4
      | some q =>
        obtain ⟨p1, p2⟩ := p
        obtain ⟨q1, q2⟩ := q
        simp only [lsbeq, Bool.and_eq_true] at h4
        rw [IE.beq_eq h4.1, cksbeq_eq h4.2]
  have e3 : a3 = b3 := by
    cases a3 with
    | none => cases b3 with
      | none => rfl
      | some _ => simp [spbeq] at h3
    | some p =>
      cases b3 with
      | none => simp [spbeq] at h3
      | some q =>
        obtain ⟨p1, p2⟩ := p
        obtain ⟨q1, q2⟩ := q
        simp only [spbeq, Bool.and_eq_true, Nat.beq_eq] at h3
        rw [IE.beq_eq h3.1, h3.2]
  rw [AV.beqL_eq h1, h2, e3, e4]

theorem hpbeq_eq : ∀ {a b : List (Nat × AObj)}, hpbeq a b = true → a = b := by
  intro a
  induction a with
  | nil => intro b h; cases b <;> simp_all [hpbeq]
  | cons x a ih => intro b h; cases b with
    | nil => simp [hpbeq] at h
    | cons y b =>
      obtain ⟨x1, x2⟩ := x
      obtain ⟨y1, y2⟩ := y
      simp only [hpbeq, Bool.and_eq_true, Nat.beq_eq] at h
      rw [h.1.1, AObj.beq_eq h.1.2, ih h.2]

theorem pcbeq_eq : ∀ {a b : List (BE × Bool)}, pcbeq a b = true → a = b := by
  intro a
  induction a with
  | nil => intro b h; cases b <;> simp_all [pcbeq]
  | cons x a ih => intro b h; cases b with
    | nil => simp [pcbeq] at h
    | cons y b =>
      obtain ⟨x1, x2⟩ := x
      obtain ⟨y1, y2⟩ := y
      simp only [pcbeq, Bool.and_eq_true, beq_iff_eq] at h
      rw [BE.beq_eq h.1.1, h.1.2, ih h.2]

theorem Tm.beq_eq : ∀ {a b : Tm}, a.beq b = true → a = b := by
  intro a
  induction a with
  | nil => intro b h; cases b <;> simp_all [Tm.beq]
  | nd v l r ihl ihr => intro b h; cases b with
    | nil => simp [Tm.beq] at h
    | nd w x y => simp only [Tm.beq, Bool.and_eq_true] at h; rw [AV.beq_eq h.1.1, ihl h.1.2, ihr h.2]

theorem St.beq_eq {a b : St} (h : a.beq b = true) : a = b := by
  obtain ⟨a1, a2, a3, a4, a5, a6⟩ := a
  obtain ⟨b1, b2, b3, b4, b5, b6⟩ := b
  simp only [St.beq, Bool.and_eq_true, Nat.beq_eq] at h
  obtain ⟨⟨⟨⟨⟨h1, h2⟩, h3⟩, h4⟩, h5⟩, h6⟩ := h
  rw [Tm.beq_eq h1, h2, hpbeq_eq h3, h4, h5, pcbeq_eq h6]

theorem Tr.beq_eq : ∀ {a b : Tr St}, a.beq b = true → a = b := by
  intro a
  induction a with
  | ret x => intro b h; cases b <;> simp only [Tr.beq, Bool.false_eq_true] at h; rw [St.beq_eq h]
  | br c t e iht ihe => intro b h; cases b <;> simp only [Tr.beq, Bool.false_eq_true, Bool.and_eq_true] at h; rw [BE.beq_eq h.1.1, iht h.1.2, ihe h.2]
  | call f es n t ih => intro b h; cases b <;> simp only [Tr.beq, Bool.false_eq_true, Bool.and_eq_true, Nat.beq_eq] at h; rw [h.1.1.1, aelbeq_eq h.1.1.2, h.1.2, ih h.2]
  | any t ih => intro b h; cases b <;> simp only [Tr.beq, Bool.false_eq_true] at h; rw [ih h]
  | asm c t ih => intro b h; cases b <;> simp only [Tr.beq, Bool.false_eq_true, Bool.and_eq_true] at h; rw [BE.beq_eq h.1, ih h.2]
  | loop id init n b ih => intro b h; cases b <;> simp [Tr.beq] at h
  | again id vs => intro b h; cases b <;> simp [Tr.beq] at h
  | join id n b k ih1 ih2 => intro b h; cases b <;> simp [Tr.beq] at h
  | fail n => intro b h; cases b <;> simp [Tr.beq] at h

theorem mergeA_holds {SP : Spec} {Φ : Val → Again → St → Prop} {σ : Val} {Λ : Again} {l : List (Tr St)} (h : (mergeA l).holds SP Φ σ Λ) : ∀ t ∈ l, t.holds SP Φ σ Λ := by
  cases l with
  | nil => exact h.elim
  | cons u l =>
    simp only [mergeA] at h
    split at h
    · rename_i hall
      intro t ht
      rcases List.mem_cons.1 ht with rfl | ht
      · exact h
      · rw [← Tr.beq_eq (List.all_eq_true.1 hall t ht)]; exact h
    · exact h.elim

theorem subHp_get : ∀ {x h : List (Nat × AObj)}, subHp x h = true → ∀ b o, hget x b = some o → hget h b = some o := by
  intro x
  induction x with
  | nil => intro h _ b o hb; simp [hget] at hb
  | cons p x ih =>
    intro h hs b o hb
    obtain ⟨c, q⟩ := p
    simp only [subHp, Bool.and_eq_true] at hs
    simp only [hget] at hb
    split at hb
    · rename_i hc
      simp only [Nat.beq_eq] at hc; subst hc
      simp only [Option.some.injEq] at hb; subst hb
      split at hs
      · rename_i p hp
        rw [hp, AObj.beq_eq hs.1]
      · exact absurd hs.1 (by simp)
    · exact ih hs.2 b o hb

section
variable {D : Ctx} {B : Base} {σ : Val} {β : Bmap}

theorem det_same0 : ∀ (v : AV) (V W : Value), detA v = true → v.rep D B σ β V → v.rep D B σ β W → V = W := by
  intro v
  refine AV.rec (motive_1 := fun v => ∀ V W, detA v = true → v.rep D B σ β V → v.rep D B σ β W → V = W) (motive_2 := fun l => ∀ m n, detL l = true → AV.repL D B σ β l m → AV.repL D B σ β l n → m = n)
    ?_ ?_ ?_ ?_ ?_ ?_ ?_ ?_ ?_ ?_ ?_ ?_ ?_ ?_ ?_ ?_ ?_ ?_ ?_ ?_ v
  case _ => intro c V W _ h h'; simp only [AV.rep] at h h'; rw [h.2, h'.2]
  case _ => intro k e V W _ h h'; simp only [AV.rep] at h h'; rw [h.2, h'.2]
  case _ => intro k e V W _ h h'; simp only [AV.rep] at h h'; rw [h.2, h'.2]
  case _ => intro l V W _ h h'; simp only [AV.rep] at h h'; rw [h.2, h'.2]
  case _ => intro V W _ h h'; simp only [AV.rep] at h h'; rw [h, h']
  case _ => intro b off V W _ h h'; simp only [AV.rep] at h h'; obtain ⟨r, h1, h2⟩ := h; obtain ⟨r', h3, h4⟩ := h'; rw [h1] at h3; cases h3; rw [h2, h4]
  case _ => intro b off l c V W hd; simp [detA] at hd
  case _ => intro b off l c V W hd; simp [detA] at hd
  case _ =>
    intro r a j V W _ h h'; simp only [AV.rep] at h h'
    obtain ⟨_, i, h1, _, h2⟩ := h; obtain ⟨_, i', h3, _, h4⟩ := h'
    have : i = i' := by omega
    subst this
    rw [h2, h4]
  case _ =>
    intro b m a j V W _ h h'; simp only [AV.rep] at h h'
    obtain ⟨_, rb, i, h0, h1, h2⟩ := h; obtain ⟨_, rb', i', h0', h3, h4⟩ := h'
    rw [h0] at h0'; cases h0'
    have : i = i' := by omega
    subst this
    rw [h2, h4]
  case _ => intro r V W hd; simp [detA] at hd
  case _ =>
    intro f x y ihx ihy V W hd h h'
    simp only [detA, Bool.and_eq_true] at hd
    simp only [AV.rep] at h h'
    obtain ⟨p, q, rfl, h1, h2⟩ := h
    obtain ⟨p', q', rfl, h3, h4⟩ := h'
    rw [ihx _ _ hd.1 h1 h3, ihy _ _ hd.2 h2 h4]
  case _ => intro V W _ h h'; simp only [AV.rep] at h h'; rw [h, h']
  case _ =>
    intro t v ih V W hd h h'
    simp only [detA] at hd
    simp only [AV.rep] at h h'
    obtain ⟨p, rfl, h1⟩ := h
    obtain ⟨q, rfl, h2⟩ := h'
    rw [ih _ _ hd h1 h2]
  case _ => intro V W _ h h'; simp only [AV.rep] at h h'; rw [h, h']
  case _ => intro l ih V W hd h h'; simp only [detA] at hd; simp only [AV.rep] at h h'; obtain ⟨p, rfl, h1⟩ := h; obtain ⟨q, rfl, h2⟩ := h'; rw [ih _ _ hd h1 h2]
  case _ => intro l ih V W hd h h'; simp only [detA] at hd; simp only [AV.rep] at h h'; obtain ⟨p, rfl, h1⟩ := h; obtain ⟨q, rfl, h2⟩ := h'; rw [ih _ _ hd h1 h2]
  case _ => intro V W hd; simp [detA] at hd
  case _ => intro m n _ h h'; cases m <;> cases n <;> simp_all [AV.repL]
  case _ =>
    intro a l iha ihl m n hd h h'
    simp only [detL, Bool.and_eq_true] at hd
    cases m with
    | nil => simp [AV.repL] at h
    | cons x m => cases n with
      | nil => simp [AV.repL] at h'
      | cons y n => simp only [AV.repL] at h h'; rw [iha _ _ hd.1 h.1 h'.1, ihl _ _ hd.2 h.2 h'.2]

theorem det_same {v : AV} {V W : Value} (hd : detA v = true) (h : v.rep D B σ β V) (h' : v.rep D B σ β W) : V = W := det_same0 v V W hd h h'

end
end Go.Proofs.Sx
