/- Regions: in the order of the text; in an order that is drawn. -/
import Derived.Test.YtklfialdapljlaaSxR
import Derived.Tactics
import Derived.OrdersHeld
namespace Go.Proofs.Sx
open Go

section
variable {D : Ctx} {B : Base} {SP : Spec} {γ : Type} {Φ : Val → Again → γ → Prop}

/-- what a region comes to -/
def Done (D : Ctx) (B : Base) (SP : Spec) (Φ : Val → Again → γ → Prop) (σ : Val) (β : Bmap) (Λ : Again) (st : St) (k : St → Tr γ) (Q : Act → World → Prop) : Prop :=
  ∀ σ' β' Λ' st' a' w', On σ Λ σ' Λ' → Ble β β' → (∀ b, b < st.nb → β' b = β b) → st.nb ≤ st'.nb → Fits D B σ' β' st' a' w' → (k st').holds SP Φ σ' Λ' → Q a' w'

theorem xops_sound {ops : Array Oper} {call : CallH γ} (C : CallOk D B SP Φ call) {k : St → Tr γ} {Q : Exit → Act → World → Prop} :
    ∀ (l : List Oper) (σ : Val) (β : Bmap) (Λ : Again) (st : St) (a : Act) (w : World), Fits D B σ β st a w → RoOk D B σ →
      (xops D call ops.toList l st k).holds SP Φ σ Λ → Done D B SP Φ σ β Λ st k (Q .normal) → wpList D.P ops Q l a w := by
  intro l
  induction l with
  | nil => intro σ β Λ st a w F R h hn; exact hn _ _ _ _ _ _ (.refl _ _) (.refl _) (fun _ _ => rfl) (Nat.le_refl _) F h
  | cons o l ih =>
    intro σ β Λ st a w F R h hn
    have := gop_sound (Q := Q) (next := wpList D.P ops Q l) (ops := ops) (ox := o) (id := none) F R C (fun i hi => by cases hi) (k := fun s => xops D call ops.toList l s k) h
      (fun σ' β' Λ' st' a' w' hon hble hkeep hnb F' hh => ih _ _ _ _ _ _ F' (R.le hon.le) hh
        (fun σ2 β2 Λ2 st2 a2 w2 hon2 hble2 hkeep2 hnb2 F2 hh2 => hn _ _ _ _ _ _ (hon.trans hon2) (hble.trans hble2)
          (fun b hb => (hkeep2 b (Nat.lt_of_lt_of_le hb hnb)).trans (hkeep b hb (by simp))) (Nat.le_trans hnb hnb2) F2 hh2))
    unfold wpList
    split
    · rename_i hw; rw [if_pos hw] at this; exact .inl this
    · rename_i hw; rw [if_neg hw] at this; exact this

theorem put_hp (st : St) (d : Option Nat) (v : AV) : (st.put d v).hp = st.hp := by
  unfold St.put; split
  · rfl
  · split <;> rfl

/-! ### quiet operations -/

/-- what is held of the world all through the region -/
def Held (D : Ctx) (B : Base) (σ0 : Val) (β0 : Bmap) (hold : List (Nat × AObj)) (w : World) : Prop :=
  ∃ (τ : Val) (δ : Bmap), σ0.le τ ∧ Ble β0 δ ∧ HeapOk D B τ δ hold w ∧ RoAt D B τ w

variable {σ0 : Val} {β0 : Bmap} {hold : List (Nat × AObj)} {nv0 : Nat}
variable {σ : Val} {β : Bmap} {Λ : Again} {st : St} {a : Act} {w : World}

theorem stay_rep (hσ : σ0.le σ) (hβ : Ble β0 β) (h0 : ∀ b, (hget hold b).isSome = true → ∃ rb, β0 b = some rb) (hnv : σ0.n = nv0) {p : AV} {V : Value} (h : stayA hold nv0 p = true) (hp : p.rep D B σ β V) :
    p.rep D B σ0 β0 V := by
  unfold stayA at h
  split at h
  · rename_i b off
    simp only [AV.rep] at *
    obtain ⟨rb, h1, h2⟩ := hp
    obtain ⟨rb', h3⟩ := h0 b h
    have := hβ _ _ h3
    rw [h1] at this; cases this
    exact ⟨rb, h3, h2⟩
  · rename_i r e j
    simp only [AV.rep] at *
    obtain ⟨h1, i, h2, h3, h4⟩ := hp
    rw [← hnv] at h
    exact ⟨h, i, by rw [← IE.ev_le hσ h]; exact h2, by rw [← hσ.r]; exact h3, h4⟩
  · rename_i b m e j
    simp only [Bool.and_eq_true] at h
    simp only [AV.rep] at *
    obtain ⟨h1, rb, i, h2, h3, h4⟩ := hp
    obtain ⟨rb', h5⟩ := h0 b h.1
    have := hβ _ _ h5
    rw [h2] at this; cases this
    have h6 := h.2
    rw [← hnv] at h6
    exact ⟨h6, rb, i, h5, by rw [← IE.ev_le hσ h6]; exact h3, h4⟩
  · cases h

theorem readA_pc {st : St} {pc pc' : List (BE × Bool)} {p : AV} {n : Nat} {l l' : List AV} (h : readA D { st with pc := pc } p n = some l) (h' : readA D { st with pc := pc' } p n = some l') : l = l' := by
  unfold readA at h h'
  cases p <;> simp only [] at h h' <;> (try cases h)
  case ptr b off =>
    rw [h] at h'; simpa using h'
  case rp r a j =>
    rw [h] at h'; simpa using h'
  case lp b m a j =>
    split at h
    · rename_i o L ks hg
      simp only [hg] at h'
      split at h <;> split at h' <;> (try cases h) <;> (try cases h')
      split at h
      · rename_i ks' hks
        simp only [hks] at h'
        simp only [Option.some.injEq] at h h'
        rw [← h, ← h']
      · cases h
    · cases h

theorem loadA_pc {st : St} {pc pc' : List (BE × Bool)} {t : TypeId} {p : AV} {v v' : AV} (h : loadA D { st with pc := pc } t p = some v) (h' : loadA D { st with pc := pc' } t p = some v') : v = v' := by
  unfold loadA at h h'
  split at h
  · rename_i d n hu hn
    simp only [hu, hn] at h'
    split at h
    · rename_i hd
      rw [if_pos hd] at h'
      simp only [Option.map_eq_some_iff] at h h'
      obtain ⟨l, h1, rfl⟩ := h
      obtain ⟨l', h2, rfl⟩ := h'
      rw [readA_pc h1 h2]
    · rename_i hd
      rw [if_neg hd] at h'
      split at h
      · rename_i x h1
        split at h'
        · rename_i y h2
          have := readA_pc h1 h2
          simp only [Option.some.injEq] at h h'
          rw [← h, ← h']; simpa using this
        · cases h'
      · cases h
  · cases h

theorem gop_quiet {ops : Array Oper} {ox : Oper} {call : CallH γ} {k : St → Tr γ} {ws : World} (F : Fits D B σ β st a w)
    (hσ : σ0.le σ) (hβ : Ble β0 β) (h0 : ∀ b, (hget hold b).isSome = true → ∃ rb, β0 b = some rb) (hnv : σ0.n = nv0) (H0 : HeapOk D B σ0 β0 hold ws) (R0 : RoAt D B σ0 ws)
    (hs : ∀ b o, hget hold b = some o → hget st.hp b = some o) (hq : quietA D hold nv0 st ox = true)
    (h : (gop D call ops.toList none ox st k).holds SP Φ σ Λ) :
    ∃ V st', YieldsIf D.P ops (Held D B σ0 β0 hold) ox V a ∧ Fits D B σ β st' (a.put ox.dst V) w ∧ (k st').holds SP Φ σ Λ ∧ st'.nb = st.nb ∧ st'.hp = st.hp := by
  unfold gop at h
  split at h
  · exact h.elim
  · rename_i g hg
    obtain ⟨h1, h2⟩ := guardA_sound F hg
    rcases split_sound h h1 F with ⟨hc, pc, hpc, h'⟩ | ⟨hc, pc, hpc, h'⟩
    · have hw : Region.wanted ox (yielded ops a.tmps) = true := by rw [h2, hc]
      unfold xop at h'
      have epop : pop D { st with pc := pc } ox.op = pop D st ox.op := rfl
      unfold quietA at hq
      split at h'
      · rename_i p hp
        obtain ⟨h3, h4⟩ := pop_sound (F.withPc hpc).ev (F.withPc hpc).lstOk hp
        obtain ⟨v, pc', h5, h6, h7⟩ := PT.run_sound h' h3 (F.withPc hpc)
        obtain ⟨V, hV, hd⟩ := h4 v h5
        exact ⟨V, _, .inl ⟨hw, fun w' _ => hd ox w' rfl⟩, ((F.withPc hpc).withPc h6).put ox.dst hV, h7, by rw [put_nb], by rw [put_hp]⟩
      · rename_i hp
        rw [epop] at hp
        rw [hp] at hq
        simp only [] at hq
        split at hq
        · rename_i t x hop
          simp only [Bool.and_eq_true] at hq
          obtain ⟨hq1, hq2⟩ := hq
          have erop : rop D { st with pc := pc } ox.op = some (loadA D { st with pc := pc } t (st.ev x), blockOf (st.ev x)) := by rw [hop]; rfl
          rw [erop] at h'
          have F1 := F.withPc hpc
          cases hl0 : loadA D st t (st.ev x) with
          | none => rw [hl0] at hq2; simp at hq2
          | some v0 =>
          cases hl : loadA D { st with pc := pc } t (st.ev x) with
          | none => rw [hl] at h'; exact h'.elim
          | some v =>
            have : v0 = v := loadA_pc (st := st) (pc := st.pc) (pc' := pc) hl0 hl
            subst this
            rw [hl0] at hq2
            rw [hl] at h'
            simp only [] at hq2 h'
            have hp0 := stay_rep hσ hβ h0 hnv hq1 (F.ev x)
            have hb : ∀ b, blockOf (st.ev x) = some b → hget hold b = hget st.hp b := fun b e => by
              have key : ∀ c, (hget hold c).isSome = true → hget hold c = hget st.hp c := fun c hc => by
                obtain ⟨o, ho⟩ := Option.isSome_iff_exists.1 hc
                rw [ho, hs c o ho]
              cases hx : st.ev x <;> rw [hx] at hq1 e <;> simp only [blockOf, Option.some.injEq, reduceCtorEq, stayA, Bool.and_eq_true, Bool.false_eq_true] at hq1 e
              · subst e; exact key _ hq1
              · subst e; exact key _ hq1.1
            have hpc0 : ∀ τ : Val, σ0.le τ → PcFor τ { st with pc := pc } (st.ev x) := fun τ hτ b m e j o L ks hx hg hpc' => by
              have hx0 := hp0
              rw [hx] at hx0 hq1
              simp only [stayA, Bool.and_eq_true] at hq1
              obtain ⟨o', ho'⟩ := Option.isSome_iff_exists.1 hq1.1
              obtain ⟨g1, g2⟩ := hgetl_some hg
              have : hget hold b = some o := by rw [ho', ← hs b o' ho']; exact g1
              obtain ⟨rb, _, Vs, rest, fz, _, c1, _⟩ := H0 b o this
              have okL := (c1.some g2).2.1
              have okc : (mkLt e (cntL L m)).ok σ0.n = true := ok_mkLt _ (by rw [hnv]; exact hq1.2) (cntL_ok okL)
              have e1 := pcget_sound hpc hpc'
              rw [BE.ev_le hτ okc, ← BE.ev_le hσ okc]
              exact e1
            obtain ⟨V, A, g1, g2, _⟩ := loadA_sound H0 R0 (hpc0 σ0 (.refl _)) hb hl hp0
            refine ⟨V, _, .inl ⟨hw, fun w' hw' => ?_⟩, (F.withPc hpc).put ox.dst (rep_le hσ hβ _ _ g2), h', by rw [put_nb], by rw [put_hp]⟩
            obtain ⟨τ, δ, k1, k2, k3, k4⟩ := hw'
            obtain ⟨V', A', g3, g4, g5⟩ := loadA_sound k3 k4 (hpc0 τ k1) hb hl (rep_le k1 k2 _ _ hp0)
            have : V = V' := det_same hq2 (rep_le k1 k2 _ _ g2) g4
            subst this
            simp [execOp, hop, Instr.loadAt, g3, Instr.sureAddr, g5]
        · cases hq
    · have hw : Region.wanted ox (yielded ops a.tmps) = false := by rw [h2, hc]
      exact ⟨undef, _, .inr ⟨hw, rfl⟩, (F.withPc hpc).put ox.dst undefA_rep, h', by rw [put_nb], by rw [put_hp]⟩

/-! ### the lists that the executor reads -/

theorem lgetO_eq : ∀ (l : List Oper) (i : Nat), lgetO l i = l[i]? := by
  intro l
  induction l with
  | nil => intro i; simp [lgetO]
  | cons x l ih => intro i; cases i <;> simp [lgetO, ih]

theorem elem_iff {i : Nat} : ∀ {l : List Nat}, elem i l = true ↔ i ∈ l := by
  intro l
  induction l with
  | nil => simp [elem]
  | cons x l ih => simp only [elem, Bool.or_eq_true, Nat.beq_eq, ih, List.mem_cons]

theorem readyA_iff {o : Oper} {todo : List Nat} : readyA o todo = true ↔ ∀ e ∈ o.after, Region.binds .any e = true → e.on ∉ todo := by
  unfold readyA
  rw [List.all_eq_true]
  constructor
  · intro h e he hb hm
    have := h e (by simpa using he)
    simp [hb, elem_iff.2 hm] at this
  · intro h e he
    have he' : e ∈ o.after := by simpa using he
    cases hb : Region.binds .any e with
    | false => simp
    | true =>
      have := h e he' hb
      have : elem e.on todo = false := by rw [Bool.eq_false_iff]; exact fun hh => this (elem_iff.1 hh)
      simp [this]

theorem waitsOn_iff {o : Oper} {i : Nat} : waitsOn o i = true ↔ ∃ e ∈ o.after, Region.binds .any e = true ∧ e.on = i := by
  unfold waitsOn
  rw [List.any_eq_true]
  constructor
  · rintro ⟨e, he, h⟩
    simp only [Bool.and_eq_true, Nat.beq_eq] at h
    exact ⟨e, by simpa using he, h.1, h.2⟩
  · rintro ⟨e, he, h1, h2⟩
    exact ⟨e, by simpa using he, by simp [h1, h2]⟩

theorem okPairs1_spec {ops : Array Oper} {oi : Oper} {i : Nat} : ∀ {l : List Oper} {j : Nat}, okPairs1 ops oi i l j = true → ∀ q oj, l[q]? = some oj → i = j + q ∨ waitsOn oj i = true ∨ waitsOn oi (j + q) = true ∨ oi.apart ops oj = true := by
  intro l
  induction l with
  | nil => intro j _ q oj h; simp at h
  | cons x l ih =>
    intro j h q oj hq
    simp only [okPairs1, Bool.and_eq_true, Bool.or_eq_true, Nat.beq_eq] at h
    cases q with
    | zero =>
      simp only [List.getElem?_cons_zero, Option.some.injEq] at hq; subst hq
      rcases h.1 with ((h | h) | h) | h
      · exact .inl h
      · exact .inr (.inl h)
      · exact .inr (.inr (.inl h))
      · exact .inr (.inr (.inr h))
    | succ q =>
      have := ih h.2 q oj (by simpa using hq)
      rw [Nat.add_assoc, Nat.add_comm 1 q] at this
      exact this

theorem okPairs_spec {ops : Array Oper} : ∀ {l : List Oper} {i : Nat}, okPairs ops l i = true → ∀ p oi, l[p]? = some oi → okPairs1 ops oi (i + p) ops.toList 0 = true := by
  intro l
  induction l with
  | nil => intro i _ p oi h; simp at h
  | cons x l ih =>
    intro i h p oi hp
    simp only [okPairs, Bool.and_eq_true] at h
    cases p with
    | zero => simp only [List.getElem?_cons_zero, Option.some.injEq] at hp; subst hp; exact h.1
    | succ p =>
      have := ih h.2 p oi (by simpa using hp)
      rw [Nat.add_assoc, Nat.add_comm 1 p] at this
      exact this

theorem fwdOk_spec : ∀ {l : List Oper} {i : Nat}, fwdOk l i = true → ∀ p o, l[p]? = some o → ∀ e ∈ o.after, Region.binds .any e = true → e.on < i + p := by
  intro l
  induction l with
  | nil => intro i _ p o h; simp at h
  | cons x l ih =>
    intro i h p o hp e he hb
    simp only [fwdOk, Bool.and_eq_true] at h
    cases p with
    | zero =>
      simp only [List.getElem?_cons_zero, Option.some.injEq] at hp; subst hp
      have := List.all_eq_true.1 h.1 e (by simpa using he)
      simpa [hb, Nat.blt_eq] using this
    | succ p =>
      have := ih h.2 p o (by simpa using hp) e he hb
      omega

theorem findQuiet_spec {ops : List Oper} {todo : List Nat} : ∀ {l : List Nat} {j : Nat} {o : Oper}, findQuiet D ops hold nv0 st todo l = some (j, o) → j ∈ l ∧ ops[j]? = some o ∧ readyA o todo = true ∧ quietA D hold nv0 st o = true := by
  intro l
  induction l with
  | nil => intro j o h; simp [findQuiet] at h
  | cons i l ih =>
    intro j o h
    simp only [findQuiet] at h
    split at h
    · rename_i o' ho
      split at h
      · rename_i hr
        simp only [Option.some.injEq, Prod.mk.injEq] at h
        obtain ⟨rfl, rfl⟩ := h
        rw [lgetO_eq] at ho
        rw [Bool.and_eq_true] at hr
        exact ⟨List.mem_cons_self, ho, hr.1, hr.2⟩
      · obtain ⟨h1, h2⟩ := ih h
        exact ⟨List.mem_cons_of_mem _ h1, h2⟩
    · cases h

theorem allReady_spec {ops : List Oper} {todo : List Nat} : ∀ {l : List Nat} {rs : List (Nat × Oper)}, allReady ops todo l = some rs → ∀ i ∈ l, ∀ o, ops[i]? = some o → readyA o todo = true → (i, o) ∈ rs := by
  intro l
  induction l with
  | nil => intro rs _ i h; cases h
  | cons j l ih =>
    intro rs h i hi o ho hr
    simp only [allReady] at h
    split at h
    · rename_i o' r ho' hr'
      rcases List.mem_cons.1 hi with rfl | hi
      · rw [lgetO_eq, ho, Option.some.injEq] at ho'
        subst ho'
        rw [if_pos hr, Option.some.injEq] at h
        subst h
        exact List.mem_cons_self
      · have := ih hr' i hi o ho hr
        split at h
        · rw [Option.some.injEq] at h; subst h; exact List.mem_cons_of_mem _ this
        · rw [Option.some.injEq] at h; subst h; exact this
    · cases h

theorem without1_mem {i : Nat} : ∀ {l : List Nat}, l.Nodup → ∀ j, j ∈ without1 i l ↔ j ∈ l ∧ j ≠ i := by
  intro l
  induction l with
  | nil => intro _ j; simp [without1]
  | cons x l ih =>
    intro hn j
    rw [List.nodup_cons] at hn
    simp only [without1]
    split
    · rename_i h
      rw [Nat.beq_eq] at h; subst h
      simp only [List.mem_cons]
      constructor
      · intro hj; exact ⟨.inr hj, fun e => hn.1 (e ▸ hj)⟩
      · rintro ⟨h1 | h1, h2⟩
        · exact absurd h1 h2
        · exact h1
    · rename_i h
      rw [Nat.beq_eq] at h
      simp only [List.mem_cons, ih hn.2]
      constructor
      · rintro (rfl | ⟨h1, h2⟩)
        · exact ⟨.inl rfl, fun e => h e.symm⟩
        · exact ⟨.inr h1, h2⟩
      · rintro ⟨h1 | h1, h2⟩
        · exact .inl h1
        · exact .inr ⟨h1, h2⟩

theorem without1_nodup {i : Nat} : ∀ {l : List Nat}, l.Nodup → (without1 i l).Nodup := by
  intro l
  induction l with
  | nil => intro h; exact h
  | cons x l ih =>
    intro hn
    have hn' := hn
    rw [List.nodup_cons] at hn
    simp only [without1]
    split
    · exact hn.2
    · rw [List.nodup_cons]
      exact ⟨fun h => hn.1 ((without1_mem hn.2 x).1 h).1, ih hn.2⟩

theorem least : ∀ {l : List Nat}, l ≠ [] → ∃ i, i ∈ l ∧ ∀ j ∈ l, i ≤ j := by
  intro l
  induction l with
  | nil => intro h; exact absurd rfl h
  | cons x l ihl =>
    intro _
    by_cases hl : l = []
    · subst hl; exact ⟨x, by simp, fun j hj => by simp at hj; omega⟩
    · obtain ⟨i, h1, h2⟩ := ihl hl
      by_cases hx : x ≤ i
      · exact ⟨x, by simp, fun j hj => by
          rcases List.mem_cons.1 hj with rfl | hj
          · exact Nat.le_refl _
          · exact Nat.le_trans hx (h2 j hj)⟩
      · exact ⟨i, List.mem_cons_of_mem _ h1, fun j hj => by
          rcases List.mem_cons.1 hj with rfl | hj
          · omega
          · exact h2 j hj⟩

theorem without1_length {i : Nat} : ∀ {l : List Nat}, i ∈ l → (without1 i l).length + 1 = l.length := by
  intro l
  induction l with
  | nil => intro h; cases h
  | cons x l ih =>
    intro h
    simp only [without1]
    split
    · simp
    · rename_i hx
      rw [Nat.beq_eq] at hx
      rcases List.mem_cons.1 h with h | h
      · exact absurd h hx
      · simp [ih h]

end
end Go.Proofs.Sx
