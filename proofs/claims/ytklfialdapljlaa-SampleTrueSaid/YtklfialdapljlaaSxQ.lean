/- An operation with its guard; a region in the order of its text. -/
import Derived.Test.YtklfialdapljlaaSxP
namespace Go.Proofs.Sx
open Go

section
variable {D : Ctx} {B : Base} {SP : Spec} {γ : Type} {Φ : Val → Again → γ → Prop}
variable {σ : Val} {β : Bmap} {Λ : Again} {st : St} {a : Act} {w : World}

variable {id : Option Nat} {ox : Oper} {next : Act → World → Prop} {Q : Exit → Act → World → Prop}

theorem xop_sound (F : Fits D B σ β st a w) (R : RoOk D B σ) {call : CallH γ} (C : CallOk D B SP Φ call) (hid : ∀ i, id = some i → β i = none ∧ i < st.nb) {k : AV → St → Tr γ}
    (h : (xop D call id ox.op st k).holds SP Φ σ Λ) (hn : Tells D B SP Φ σ β Λ st a id k (Told D a ox next)) : ox.wp D.P a w next Q := by
  unfold xop at h
  split at h
  · rename_i p hp
    obtain ⟨h1, h2⟩ := pop_sound F.ev F.lstOk hp
    obtain ⟨v, pc, h3, h4, h5⟩ := PT.run_sound h h1 F
    obtain ⟨V, hV, hd⟩ := h2 v h3
    exact wp_value (hd ox w rfl) (hn _ _ _ _ _ _ _ (Went.same (F.withPc h4) rfl) hV h5)
  · split at h
    · rename_i v blk hr
      obtain ⟨V, hV, hd⟩ := rop_sound F.ev F.heapOk (R.at F) F.pcFor hr (fun _ _ => rfl)
      exact wp_value (hd ox rfl) (hn _ _ _ _ _ _ _ (Went.same F rfl) hV h)
    · exact h.elim
    · exact iop_sound F.ev F R C hid h hn

theorem guardA_sound {ops : Array Oper} {g : BE} (F : Fits D B σ β st a w) (h : guardA ops.toList st ox = some g) : g.ok σ.n = true ∧ Region.wanted ox (yielded ops a.tmps) = g.ev σ := by
  unfold guardA at h
  cases hg : ox.guard with
  | none => simp only [hg, Option.some.injEq] at h; subst h; exact ⟨rfl, by simp [Region.wanted, hg, BE.ev]⟩
  | some p =>
    obtain ⟨j, want⟩ := p
    simp only [hg] at h
    have hw : Region.wanted ox (yielded ops a.tmps) = (yielded ops a.tmps j == some want) := by simp [Region.wanted, hg]
    rw [hw]
    split at h
    · rename_i hj
      simp only [Option.some.injEq] at h; subst h
      refine ⟨rfl, ?_⟩
      have : ops[j]? = none := by simpa using hj
      simp [yielded, this, BE.ev]
    · rename_i oj hj
      have hj' : ops[j]? = some oj := by simpa using hj
      split at h
      · rename_i hd
        simp only [Option.some.injEq] at h; subst h
        refine ⟨rfl, ?_⟩
        simp [yielded, hj', hd, BE.ev]
      · rename_i d hd
        have ht := F.tm d
        split at h
        · rename_i c hc
          simp only [Option.some.injEq] at h; subst h
          rw [hc] at ht
          simp only [AV.rep] at ht
          have hy : yielded ops a.tmps j = some (c.ev σ) := by
            have hget : a.tmps[d]? = some (.bool (c.ev σ)) := by
              have := ht.2
              rw [Array.getD_eq_getD_getElem?] at this
              cases hh : a.tmps[d]? with
              | none => rw [hh] at this; simp [undef] at this
              | some V => rw [hh] at this; simp at this; rw [this]
            simp [yielded, hj', hd, hget]
          rw [hy]
          cases want
          · exact ⟨ok_mkNot _ ht.1, by simp only [Bool.false_eq_true, if_false]; rw [ev_mkNot]; cases c.ev σ <;> rfl⟩
          · exact ⟨ht.1, by simp only [if_true]; cases c.ev σ <;> rfl⟩
        · rename_i l hc
          simp only [Option.some.injEq] at h; subst h
          rw [hc] at ht
          simp only [AV.rep] at ht
          obtain ⟨x, hx, _⟩ := ht
          have hy : yielded ops a.tmps j = none := by
            rw [Array.getD_eq_getD_getElem?] at hx
            cases hh : a.tmps[d]? with
            | none => simp [yielded, hj', hd, hh]
            | some V => rw [hh] at hx; simp at hx; simp [yielded, hj', hd, hh, hx]
          rw [hy]
          exact ⟨rfl, by simp [BE.ev]⟩
        · cases h

theorem put_nb (st : St) (d : Option Nat) (v : AV) : (st.put d v).nb = st.nb := by
  unfold St.put
  split
  · rfl
  · split <;> rfl

/-- **An operation, its guard and all.** -/
theorem gop_sound {ops : Array Oper} (F : Fits D B σ β st a w) (R : RoOk D B σ) {call : CallH γ} (C : CallOk D B SP Φ call) (hid : ∀ i, id = some i → β i = none ∧ i < st.nb) {k : St → Tr γ}
    (h : (gop D call ops.toList id ox st k).holds SP Φ σ Λ)
    (hn : ∀ σ' β' Λ' st' a' w', On σ Λ σ' Λ' → Ble β β' → (∀ b, b < st.nb → some b ≠ id → β' b = β b) → st.nb ≤ st'.nb → Fits D B σ' β' st' a' w' → (k st').holds SP Φ σ' Λ' → next a' w') :
    if Region.wanted ox (yielded ops a.tmps) then ox.wp D.P a w next Q else next (a.put ox.dst undef) w := by
  unfold gop at h
  split at h
  · exact h.elim
  · rename_i g hg
    obtain ⟨h1, h2⟩ := guardA_sound F hg
    rw [h2]
    rcases split_sound h h1 F with ⟨hc, pc, hpc, h'⟩ | ⟨hc, pc, hpc, h'⟩
    · rw [hc, if_pos rfl]
      refine xop_sound (F.withPc hpc) R C hid h' fun σ' β' Λ' v V st' w' W hv hh => ?_
      exact hn _ _ _ (st'.put ox.dst v) _ _ W.on W.ble W.keep (by rw [put_nb]; exact W.nb) (W.fits.put ox.dst hv) hh
    · rw [hc]
      exact hn _ _ _ (({ st with pc := pc } : St).put ox.dst undefA) _ _ (.refl _ _) (.refl _) (fun _ _ _ => rfl) (by rw [put_nb]; exact Nat.le_refl _) ((F.withPc hpc).put ox.dst undefA_rep) h'

end
end Go.Proofs.Sx
