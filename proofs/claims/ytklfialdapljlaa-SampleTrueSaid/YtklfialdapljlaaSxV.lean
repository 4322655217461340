/- Loops: the state at the head, at first and again. -/
import Derived.Test.YtklfialdapljlaaSxU
namespace Go.Proofs.Sx
open Go

section
variable {D : Ctx} {B : Base} {σ σs : Val} {β βs : Bmap}

theorem push_at {σ : Val} {vs : List Int} {q : Nat} {x : Int} (h : vs[q]? = some x) : (σ.push vs).v (σ.n + q) = x ∧ σ.n + q < (σ.push vs).n := by
  have hlt := (List.getElem?_eq_some_iff.1 h).1
  refine ⟨?_, by simp [Val.push, hlt]⟩
  show (if σ.n + q < σ.n then σ.v (σ.n + q) else vs.getD (σ.n + q - σ.n) 0) = x
  rw [if_neg (by omega)]
  simp [h]

theorem SpareOk.low {sp : Option (IE × Nat)} (hσ : σ.le σs) {Vs rest V0 r0 : List Value} (h0 : SpareOk σ sp V0 r0) (h : SpareOk σs sp Vs rest) : SpareOk σ sp Vs rest := by
  unfold SpareOk at *
  split
  · exact h
  · rename_i e z
    exact ⟨h0.1, by rw [← IE.ev_le hσ h0.1]; exact h.2⟩

theorem Fits.head {h : Hint} {body : Code} {st head : St} {ps : List (Nat × Nat)} {es : List AE} {a : Act} {w : World} (F : Fits D B σ β st a w) (hh : headA h body st = some (ps, es, head)) :
    Fits D B (σ.push (es.map (·.ev σ))) β head a w := by
  unfold headA at hh
  split at hh
  · rename_i ps' hps
    split at hh
    · rename_i es' s hc
      simp only [Option.some.injEq, Prod.mk.injEq] at hh
      obtain ⟨rfl, rfl, rfl⟩ := hh
      have C := carry_sound (τ := σ.push (es'.map (·.ev σ))) (β := β) (σs := σ) (βs := β) hc F.tm (fun q e hq => by
        rw [← F.nn]; exact push_at (by simp [hq])) rfl
      have hle := σ.le_push (es'.map (·.ev σ))
      have hs : s.nt = st.nt ∧ s.nb = st.nb := by
        unfold carry at hc
        split at hc
        · simp only [Option.some.injEq, Prod.mk.injEq] at hc; obtain ⟨_, rfl⟩ := hc; exact ⟨rfl, rfl⟩
        · cases hc
      have back : ∀ b o, hget s.hp b = some o → ∃ o0, hget st.hp b = some o0 := fun b o ho => by
        cases hg : hget st.hp b with
        | none => rw [C.gone b hg] at ho; cases ho
        | some o0 => exact ⟨o0, rfl⟩
      exact
        { nn := by simp [Val.push, F.nn]
          df := F.df
          sz := by simp only []; rw [hs.1]; exact F.sz
          tm := fun i => by
            simp only []
            rcases forget_get (keep := h.slots) (i := i) (ws := writesC body) (m := s.tm) with h' | h'
            · rw [h']; trivial
            · rw [h']
              by_cases hi : i ∈ h.slots
              · exact C.slot i hi
              · rw [C.other i hi]; exact rep_le hle (Ble.refl β) _ _ (F.tm i)
          hp := fun b o ho => by
            obtain ⟨o0, h0⟩ := back b o ho
            obtain ⟨rb, h1, ⟨Vs, rest, fz, g1, g2, g3, g4⟩, h3⟩ := F.hp b o0 h0
            obtain ⟨o', c1, c2, c3, cl, c4, c5, c6⟩ := C.cell b o0 h0
            rw [ho, Option.some.injEq] at c1; subst c1
            refine ⟨rb, h1, ⟨Vs, rest, fz, by rw [c2]; exact g1, ?_, by rw [c3]; exact g3.le hle, g4⟩, h3⟩
            cases hl : o0.lst with
            | none =>
              have g2 := g2.none hl
              unfold ContRep
              rw [cl, hl]
              refine repL_iff.2 ⟨by rw [c4, repL_length g2], fun j v V hv hV => ?_⟩
              by_cases hj : (b, j) ∈ ps'
              · exact c6 Vs g2 j V v hj hV hv
              · rw [c5 j hj] at hv
                exact rep_le hle (Ble.refl β) _ _ ((repL_iff.1 g2).2 j v V hv hV)
            | some p =>
              obtain ⟨L, ks⟩ := p
              have g2 := (g2.le hle (Ble.refl β)).some hl
              unfold ContRep
              rw [cl, hl]
              refine ⟨?_, g2.2⟩
              have := g2.1
              rw [this] at c4
              exact List.length_eq_zero_iff.1 c4
          inj := fun b b' o o' rb ho ho' h1 h2 => by
            obtain ⟨o0, h0⟩ := back b o ho
            obtain ⟨o0', h0'⟩ := back b' o' ho'
            exact F.inj b b' _ _ rb h0 h0' h1 h2
          fresh := fun b hb => F.fresh b (by simp only [] at hb; rw [hs.2] at hb; exact hb)
          bnd := F.bnd
          pc := fun c v hm => by
            obtain ⟨h1, h2⟩ := F.pc c v (okPc_mem hm)
            exact ⟨BE.ok_le hle.n h1, by rw [BE.ev_le hle h1]; exact h2⟩
          grow := F.grow
          env := F.env
          fr := F.fr }
    · cases hh
  · cases hh

theorem Fits.again {h : Hint} {body : Code} {st head s : St} {ps : List (Nat × Nat)} {es vs : List AE} {a0 a : Act} {w0 w : World} (F0 : Fits D B σ β st a0 w0) (hh : headA h body st = some (ps, es, head))
    (hσ : σ.le σs) (hβ : Ble β βs) (F : Fits D B σs βs s a w) (ha : againA h ps head st.nv s = some vs) :
    es.length = vs.length ∧ Fits D B (σ.push (vs.map (·.ev σs))) β head a w := by
  have F1 := F0.head hh
  unfold headA at hh
  split at hh
  · rename_i ps' hps
    split at hh
    · rename_i es' s1 hc
      simp only [Option.some.injEq, Prod.mk.injEq] at hh
      obtain ⟨rfl, rfl, rfl⟩ := hh
      have C0 := carry_sound (τ := σ.push (es'.map (·.ev σ))) (β := β) (σs := σ) (βs := β) hc F0.tm (fun q e hq => by
        rw [← F0.nn]; exact push_at (by simp [hq])) rfl
      unfold againA at ha
      split at ha
      · rename_i vs' s' hc'
        split at ha
        · rename_i hcond
          simp only [Option.some.injEq] at ha; subst ha
          simp only [Bool.and_eq_true, Nat.beq_eq] at hcond
          obtain ⟨⟨q1, q2⟩, q3⟩ := hcond
          have hlen : es'.length = vs'.length := by
            unfold carry at hc hc'
            split at hc
            · rename_i cs ss hcs hss
              split at hc'
              · rename_i cs' ss' hcs' hss'
                simp only [Option.some.injEq, Prod.mk.injEq] at hc hc'
                obtain ⟨rfl, _⟩ := hc
                obtain ⟨rfl, _⟩ := hc'
                simp [fsts_length, (rdCells_spec hcs).1, (rdCells_spec hcs').1, (rdSlots_spec hss).1, (rdSlots_spec hss').1]
              · cases hc'
            · cases hc
          refine ⟨hlen, ?_⟩
          have C := carry_sound (τ := σ.push (vs'.map (·.ev σs))) (β := β) (σs := σs) (βs := βs) hc' F.tm (fun q e hq => by
            rw [← F0.nn]; exact push_at (by simp [hq])) hσ.r.symm
          have hle := σ.le_push (vs'.map (·.ev σs))
          have hs : s1.nt = st.nt ∧ s1.nb = st.nb := by
            unfold carry at hc
            split at hc
            · simp only [Option.some.injEq, Prod.mk.injEq] at hc; obtain ⟨_, rfl⟩ := hc; exact ⟨rfl, rfl⟩
            · cases hc
          have back0 : ∀ b o, hget s1.hp b = some o → ∃ o0, hget st.hp b = some o0 := fun b o ho => by
            cases hg : hget st.hp b with
            | none => rw [C0.gone b hg] at ho; cases ho
            | some o0 => exact ⟨o0, rfl⟩
          have back : ∀ b o, hget s1.hp b = some o → ∃ os, hget s.hp b = some os ∧ hget s'.hp b = some o := fun b o ho => by
            have h1 := subHp_get q2 b o ho
            cases hg : hget s.hp b with
            | none => rw [C.gone b hg] at h1; cases h1
            | some os => exact ⟨os, rfl, h1⟩
          exact
            { nn := by simp [Val.push, F0.nn, hlen]
              df := F.df
              sz := by rw [F.sz]; exact q3.symm
              tm := fun i => by
                rcases subTm_get q1 i with h' | h'
                · rw [h']; trivial
                · by_cases hi : i ∈ h.slots
                  · rw [h']; exact C.slot i hi
                  · have e1 := C.other i hi
                    rcases forget_get (keep := h.slots) (i := i) (ws := writesC body) (m := s1.tm) with h2 | h2
                    · simp only [] at *; rw [h2]; trivial
                    · have e2 := C0.other i hi
                      simp only [] at *
                      rw [h2, e2]
                      have hr := F.tm i
                      rw [← e1, ← h', h2, e2] at hr
                      exact rep_le hle (Ble.refl β) _ _ (low hσ hβ _ _ _ (F0.tm i) hr)
              hp := fun b o ho => by
                obtain ⟨o0, h0⟩ := back0 b o ho
                obtain ⟨rb, h1, ⟨V0, r0, f0, g1, g2, g3, g4⟩, h3⟩ := F0.hp b o0 h0
                obtain ⟨o', c1, c2, c3, cl, c4, c5, c6⟩ := C0.cell b o0 h0
                rw [ho, Option.some.injEq] at c1; subst c1
                obtain ⟨os, k0, k1⟩ := back b o ho
                obtain ⟨rb', l1, ⟨Vs, rs, fs, m1, m2, m3, m4⟩, l3⟩ := F.hp b os k0
                have := hβ _ _ h1
                rw [l1, Option.some.injEq] at this; subst this
                obtain ⟨o'', d1, d2, d3, dl, d4, d5, d6⟩ := C.cell b os k0
                rw [k1, Option.some.injEq] at d1; subst d1
                refine ⟨_, h1, ⟨Vs, rs, fs, by rw [d2]; exact m1, ?_, ?_, m4⟩, h3⟩
                · cases hl : o0.lst with
                  | none =>
                    have g2 := g2.none hl
                    have m2 := m2.none (by rw [← dl, cl, hl])
                    unfold ContRep
                    rw [cl, hl]
                    refine repL_iff.2 ⟨by rw [d4, repL_length m2], fun j v V hv hV => ?_⟩
                    by_cases hj : (b, j) ∈ ps'
                    · exact d6 Vs m2 j V v hj hV hv
                    · have hv0 := hv
                      rw [d5 j hj] at hv
                      rw [c5 j hj] at hv0
                      have hr := (repL_iff.1 m2).2 j v V hv hV
                      have hlt0 : j < V0.length := by rw [← repL_length g2]; exact (List.getElem?_eq_some_iff.1 hv0).1
                      have hr0 := (repL_iff.1 g2).2 j v _ hv0 (List.getElem?_eq_getElem hlt0)
                      exact rep_le hle (Ble.refl β) _ _ (low hσ hβ _ _ _ hr0 hr)
                  | some p =>
                    obtain ⟨L, ks⟩ := p
                    have g2 := g2.some hl
                    have m2 := m2.some (by rw [← dl, cl, hl])
                    unfold ContRep
                    rw [cl, hl]
                    have e1 := IE.ev_le hσ g2.2.1
                    have e2 := IE.ev_le hle g2.2.1
                    refine ⟨?_, IE.ok_le hle.n g2.2.1, g2.2.2.1, by rw [e2, ← e1]; exact m2.2.2.2.1, by rw [e2, ← e1]; exact m2.2.2.2.2⟩
                    have := g2.1
                    rw [this] at c4
                    exact List.length_eq_zero_iff.1 c4
                · rw [c3] at *
                  rw [← d3] at m3
                  exact (SpareOk.low hσ g3 m3).le hle
              inj := F1.inj
              fresh := F1.fresh
              bnd := fun b rb hb => F.bnd b rb (hβ b rb hb)
              pc := fun c v hm => by
                obtain ⟨h1, h2⟩ := F0.pc c v (okPc_mem hm)
                exact ⟨BE.ok_le hle.n h1, by rw [BE.ev_le hle h1]; exact h2⟩
              grow := F.grow
              env := F.env
              fr := F.fr }
        · cases ha
      · cases ha
    · cases hh
  · cases hh

end
end Go.Proofs.Sx
