/- A call from the outside. -/
import Derived.Test.YtklfialdapljlaaSxX
namespace Go.Proofs.Sx
open Go

section
variable {D : Ctx} {SP : Spec}

/-- nothing is owned; the lists lie at 'ra' -/
def base (w : World) (ra : Nat → Addr) : Base := { w0 := w, O := fun _ => False, ra := ra }

theorem run_sound (H : Fine D SP) {n : Nat} {g : FuncId} {fn : Func} {c : Code} (hf : D.P.funcs[g]? = some fn) (hb : fn.body = some c) {w : World} {ra : Nat → Addr} {σ : Val} {nv : Nat} (hn : σ.n = nv)
    (R : RoOk D (base w ra) σ) {args : List AV} {Vs : List Value} (hargs : AV.repL D (base w ra) σ (fun _ => none) args Vs) {γ : Type} {Φ : Val → Again → γ → Prop} {k : AV → St → Tr γ}
    (h : (run D n g args nv k).holds SP Φ σ (fun _ _ => False)) :
    Calls D.P g Vs.toArray w fun e w' => ∃ V σ' β' v st' a' Λ', e = .returned V ∧ σ.le σ' ∧ v.rep D (base w ra) σ' β' V ∧ Fits D (base w ra) σ' β' st' a' w' ∧ (k v st').holds SP Φ σ' Λ' ∧ Kept w w' := by
  have F : Fits D (base w ra) σ (fun _ => none) (st0 nv) { tmps := #[undef], defers := [] } w :=
    { nn := hn, df := rfl, sz := rfl, tm := fun i => trivial, hp := fun b o h => by simp [st0, hget] at h, inj := fun b b' o o' rb h => by simp [st0, hget] at h
      fresh := fun _ _ => rfl, bnd := fun b o h => absurd h (by simp), pc := fun c v h => by simp [st0] at h, grow := Nat.le_refl _, env := ⟨rfl, rfl⟩, fr := fun _ _ _ => rfl }
  have := callA_sound H (xc_sound (B := base w ra) H n) g args (st0 nv) k σ _ _ w Vs _ F hargs R h
    { (default : Oper) with dst := some 0 } (fun a' w' => ∃ V σ' β' v st' a1 Λ', a'.tmps = #[V] ∧ σ.le σ' ∧ v.rep D (base w ra) σ' β' V ∧ Fits D (base w ra) σ' β' st' a1 w' ∧ (k v st').holds SP Φ σ' Λ' ∧ Kept w w') (fun _ _ _ => False)
    (fun σ' β' Λ' v V st' w' hon hble hkeep hnb F' hv hh => ⟨V, σ', β', v, st', _, Λ', by simp [Act.put], hon.le, hv, F', hh, F'.grow, (fun r hr => F'.fr r hr fun h => h), F'.env⟩)
  rw [run_enter hf (H.names g fn hf) hb, Oper.upon_enter] at this
  refine Calls.mono this ?_
  intro e w' he
  cases e with
  | returned V =>
    obtain ⟨V', σ', β', v, st', a1, Λ', h1, h2, h3, h4, h5, h6⟩ := he
    have : V' = V := by simpa [Act.put] using h1.symm
    subst this
    exact ⟨V', σ', β', v, st', a1, Λ', rfl, h2, h3, h4, h5, h6⟩
  | panicked ch => exact he.elim
  | outgrown => obtain ⟨_, _, h⟩ := he; exact h.elim

/-- the valuation of what a row's call gets -/
noncomputable def valOf (row : Row) (xs : List Int) : Val :=
  { n := xs.length, v := fun i => xs.getD i 0, r := fun r => if (roIn row.args 0 r).length = 0 then [] else dec (xs.getD r 0) }

theorem roIn_low : ∀ {ks : List Sh} {i r : Nat}, r < i → roIn ks i r = [] := by
  intro ks
  induction ks with
  | nil => intro i r _; rfl
  | cons k ks ih =>
    intro i r h
    cases k with
    | cell k => simp only [roIn, Sh.count]; exact ih (by omega)
    | agg l => simp only [roIn, Sh.count]; exact ih (by omega)
    | lst l t =>
      have e : Nat.beq i r = false := by rw [Bool.eq_false_iff]; simp [Nat.beq_eq]; omega
      simp only [roIn, e, Bool.false_eq_true, if_false]; exact ih (by omega)

/-- what a call gets, by its shapes -/
theorem argsIs_rep {w : World} : ∀ (ks : List Sh) (i : Nat) (xs : List Int) (Vs : List Value), ArgsIs w ks xs Vs →
    xs.length = shCount ks ∧ ∃ ra : Nat → Addr, (∀ r, (ra r).spot = none) ∧ ∀ (D : Ctx) (B : Base) (σ : Val) (β : Bmap), (∀ r, i ≤ r → B.ra r = ra r) → (∀ r, i ≤ r → D.ro r = roIn ks i r) → (∀ q x, xs[q]? = some x → σ.v (i + q) = x) → i + shCount ks ≤ σ.n →
      (∀ r, i ≤ r → D.ro r ≠ [] → σ.r r = dec (σ.v r)) →
      AV.repL D B σ β (shIn ks i) Vs ∧ ∀ r, i ≤ r → D.ro r ≠ [] → ∀ j, j < (σ.r r).length → ∀ k, (D.ro r)[j % (D.ro r).length]? = some k → w.cell? ⟨(ra r).block, (ra r).off + j, none⟩ = some (ckVal k ((σ.r r).getD j 0)) := by
  intro ks
  induction ks with
  | nil =>
    intro i xs Vs h
    obtain ⟨rfl, rfl⟩ := h
    exact ⟨rfl, fun _ => ⟨0, 0, none⟩, fun _ => rfl, fun D B σ β _ hD _ _ _ => ⟨trivial, fun r hr hne => absurd (hD r hr) hne⟩⟩
  | cons k ks ih =>
    intro i xs Vs h
    cases k with
    | cell k =>
      obtain ⟨x, xs', Vs', rfl, rfl, h'⟩ := h
      obtain ⟨hl, ra, hs, hh⟩ := ih (i + 1) xs' Vs' h'
      refine ⟨by simp [shCount, Sh.count, hl]; omega, ra, hs, fun D B σ β hB hD hv hn hr => ?_⟩
      simp only [shCount, Sh.count] at hn
      obtain ⟨g1, g2⟩ := hh D B σ β (fun r hr => hB r (by omega)) (fun r hr => hD r (by omega)) (fun q y hq => by
        have := hv (q + 1) y (by simpa using hq)
        rw [← this]; congr 1; omega) (by omega) (fun r h1 h2 => hr r (by omega) h2)
      refine ⟨⟨var_rep (by omega) (hv 0 x rfl), g1⟩, fun r h1 h2 => ?_⟩
      by_cases hri : r = i
      · subst hri
        exact absurd (by rw [hD r (Nat.le_refl _)]; simp only [roIn, Sh.count]; exact roIn_low (by omega)) h2
      · exact g2 r (by omega) h2
    | agg l =>
      obtain ⟨ys, xs', Vs', rfl, hy, rfl, h'⟩ := h
      obtain ⟨hl, ra, hs, hh⟩ := ih (i + l.length) xs' Vs' h'
      refine ⟨by simp [shCount, Sh.count, hl, hy], ra, hs, fun D B σ β hB hD hv hn hr => ?_⟩
      simp only [shCount, Sh.count] at hn
      obtain ⟨g1, g2⟩ := hh D B σ β (fun r hr => hB r (by omega)) (fun r hr => hD r (by omega)) (fun q y hq => by
        have := hv (l.length + q) y (by rw [List.getElem?_append_right (by omega)]; rw [← hq]; congr 1; omega)
        rw [← this]; congr 1; omega) (by omega) (fun r h1 h2 => hr r (by omega) h2)
      refine ⟨⟨⟨_, rfl, ckRes_rep (by omega) (by omega) fun q x hq hx => hv q x (by rw [List.getElem?_append_left (by omega)]; exact hx)⟩, g1⟩, fun r h1 h2 => ?_⟩
      by_cases hri : r < i + l.length
      · exact absurd (by rw [hD r h1]; simp only [roIn, Sh.count]; exact roIn_low hri) h2
      · exact g2 r (by omega) h2
    | lst l t =>
      obtain ⟨x, xs', V, Vs', rfl, rfl, hV, h'⟩ := h
      obtain ⟨hl, ra, hs, hh⟩ := ih (i + 1) xs' Vs' h'
      obtain ⟨A, n, c, rfl, hnc, hpos, hlen, hcell⟩ := hV
      obtain ⟨b0, o0, hA⟩ : ∃ b0 o0, n = 0 ∨ (A = some ⟨b0, o0, none⟩ ∧ ∀ j v, (lstVals l (dec x))[j]? = some v → w.cell? ⟨b0, o0 + j, none⟩ = some v) := by
        rcases hcell with h | ⟨b0, o0, h1, h2⟩
        · exact ⟨0, 0, .inl h⟩
        · exact ⟨b0, o0, .inr ⟨h1, h2⟩⟩
      refine ⟨by simp [shCount, Sh.count, hl]; omega, fun r => if r = i then ⟨b0, o0, none⟩ else ra r, (fun r => by by_cases hr : r = i <;> simp [hr, hs r]), fun D B σ β hB hD hv hn hr => ?_⟩
      simp only [shCount, Sh.count] at hn
      have hro : D.ro i = l := by rw [hD i (Nat.le_refl _)]; simp [roIn, Nat.beq_eq]
      have hne : D.ro i ≠ [] := by rw [hro]; intro e; rw [e] at hpos; simp at hpos
      have hx : σ.v i = x := hv 0 x rfl
      have hri : σ.r i = dec x := by rw [hr i (Nat.le_refl _) hne, hx]
      obtain ⟨g1, g2⟩ := hh D B σ β (fun r h1 => by rw [hB r (by omega)]; exact if_neg (by omega)) (fun r h1 => by
        rw [hD r (by omega)]
        have e : Nat.beq i r = false := by rw [Bool.eq_false_iff]; simp [Nat.beq_eq]; omega
        simp only [roIn, e, Bool.false_eq_true, if_false]) (fun q y hq => by
        have := hv (q + 1) y (by simpa using hq)
        rw [← this]; congr 1; omega) (by omega) (fun r h1 h2 => hr r (by omega) h2)
      refine ⟨⟨⟨rfl, by simp [IE.ok, Nat.blt_eq]; omega, 0, n, c, A, rfl, rfl, by simp only [IE.ev, hx, hlen]; rw [Nat.mul_div_cancel _ hpos], hnc, by rw [hro, hri, hlen]; simp, ?_⟩, g1⟩, fun r h1 h2 => ?_⟩
      · rcases hA with h | ⟨h1, _⟩
        · exact .inl h
        · right
          rw [h1, hB i (Nat.le_refl _)]; simp
      · by_cases hi : r = i
        · subst hi
          intro j hj k hk
          rw [hri] at hj
          simp only [if_true]
          rw [hro] at hk
          rcases hA with h | ⟨_, h3⟩
          · subst h; rw [hlen] at hj; simp at hj
          · refine h3 j _ ?_
            rw [lstVals_get, List.getElem?_eq_getElem hj, Option.map_some]
            have : kAt l j = k := by simp [kAt, hk]
            rw [this, hri, List.getD_eq_getElem?_getD, List.getElem?_eq_getElem hj]
            rfl
        · intro j hj k hk
          simp only [if_neg hi]
          exact g2 r (by omega) h2 j hj k hk

theorem resEs_is {w : World} {ra : Nat → Addr} {σ : Val} {β : Bmap} {st : St} {a : Act} {w' : World} (F : Fits D (base w ra) σ β st a w') : ∀ {ks : List Sh} {vs : List AV} {es : List AE} {Vs : List Value}, resEs D st ks vs = some es → AV.repL D (base w ra) σ β vs Vs →
    ResIs w w' ks (es.map (·.ev σ)) Vs ∧ es.length = shRCount ks := by
  intro ks
  induction ks with
  | nil =>
    intro vs es Vs h hv
    cases vs with
    | nil => cases Vs with
      | nil => simp [resEs] at h; subst h; exact ⟨⟨rfl, rfl⟩, rfl⟩
      | cons _ _ => simp [AV.repL] at hv
    | cons _ _ => simp [resEs] at h
  | cons k ks ih =>
    intro vs es Vs h hv
    cases vs with
    | nil => cases k <;> simp [resEs] at h
    | cons v vs =>
      cases Vs with
      | nil => simp [AV.repL] at hv
      | cons V Vs =>
        simp only [AV.repL] at hv
        cases k with
        | cell k =>
          simp only [resEs] at h
          split at h
          · rename_i x y ha hb
            simp only [Option.some.injEq] at h; subst h
            obtain ⟨h1, h2⟩ := ckArgs_vals ha (Vs := [V]) ⟨hv.1, trivial⟩
            obtain ⟨h3, h4⟩ := ih hb hv.2
            obtain ⟨x, rfl⟩ := one_of h1
            simp [ckVals] at h2
            exact ⟨⟨_, _, _, rfl, by rw [h2], h3⟩, by simp [shRCount, Sh.rcount, h4]; omega⟩
          · cases h
        | agg l =>
          cases v <;> simp only [resEs, reduceCtorEq] at h
          split at h
          · rename_i x y ha hb
            simp only [Option.some.injEq] at h; subst h
            simp only [AV.rep] at hv
            obtain ⟨⟨X, rfl, hx⟩, hv2⟩ := hv
            obtain ⟨h1, h2⟩ := ckArgs_vals ha hx
            obtain ⟨h3, h4⟩ := ih hb hv2
            exact ⟨⟨x.map (·.ev σ), _, _, by simp, by simp [h1], by rw [h2], h3⟩, by simp [shRCount, Sh.rcount, h4, h1]⟩
          · cases h
        | lst l ty =>
          cases v <;> simp only [resEs, reduceCtorEq] at h
          rename_i b off len cap
          split at h
          · rename_i r hr
            obtain ⟨h3, h4⟩ := ih hr hv.2
            have hsl := hv.1
            simp only [AV.rep] at hsl
            obtain ⟨ol, oc, n, c, A, rfl, v1, v2, v3, v4⟩ := hsl
            split at h
            · cases h
            · rename_i hpos
              have hpos : 0 < l.length := by simpa [Nat.blt_eq] using hpos
              split at h
              · rename_i hnil
                simp only [Option.some.injEq] at h; subst h
                obtain ⟨rfl, rfl⟩ := nilA_some hnil
                simp only [IE.ev] at v1 v2
                have : n = 0 := by omega
                subst this
                have : c = 0 := by omega
                subst this
                exact ⟨⟨_, _, _, _, _, rfl, rfl, ⟨A, 0, 0, rfl, rfl, Nat.le_refl _, hpos, by simp [AE.ev, IE.ev], fun h => absurd rfl h⟩, h3⟩, by simp [shRCount, Sh.rcount, h4]; omega⟩
              · split at h
                · rename_i o ho
                  split at h
                  · rename_i L hL
                    split at h
                    · rename_i hc
                      simp only [Option.some.injEq] at h; subst h
                      simp only [Bool.and_eq_true, Nat.beq_eq] at hc
                      obtain ⟨⟨rfl, rfl⟩, hw⟩ := hc
                      obtain ⟨rb, g1, ⟨Us, rest, fz, g2, g3, g4, g5⟩, g6⟩ := F.hp b o ho
                      obtain ⟨b1, b2, b3, rfl⟩ := blockL_sound hL g3
                      obtain ⟨w1, w2⟩ := wholeA_sound hL hw g3 g4 v1 v2
                      rw [lstVals_length] at w1
                      refine ⟨⟨_, _, _, _, _, rfl, rfl, ⟨A, n, c, rfl, v2, v3, hpos, w1, fun hc0 => ?_⟩, h3⟩, by simp [shRCount, Sh.rcount, h4]; omega⟩
                      refine ⟨rb, rest, fz, ?_, ?_, g2, w2, g5⟩
                      · rcases v4 with v4 | ⟨rb', v4, rfl⟩
                        · exact absurd v4 hc0
                        · rw [g1] at v4; cases v4; rfl
                      · rcases g6 with g6 | g6
                        · exact g6
                        · exact g6.elim
                    · cases h
                  · cases h
                · cases h
          · cases h

theorem resOf_is {w : World} {ra : Nat → Addr} {σ : Val} {β : Bmap} {st : St} {a : Act} {w' : World} (F : Fits D (base w ra) σ β st a w') {res : List Sh} {v : AV} {V : Value} {es : List AE} (h : resOf D st res v = some es) (hv : v.rep D (base w ra) σ β V) :
    ∃ Rs, V = oneOrTupV Rs ∧ ResIs w w' res (es.map (·.ev σ)) Rs ∧ es.length = shRCount res := by
  unfold resOf at h
  split at h
  · rename_i k
    obtain ⟨h1, h2⟩ := resEs_is F h (Vs := [V]) ⟨hv, trivial⟩
    exact ⟨[V], rfl, h1, h2⟩
  · rename_i hres
    split at h
    · simp only [AV.rep] at hv
      obtain ⟨x, rfl, hx⟩ := hv
      obtain ⟨h1, h2⟩ := resEs_is F h hx
      refine ⟨x, ?_, h1, h2⟩
      have hlen : ∀ {ks : List Sh} {xs : List Int} {Us : List Value}, ResIs w w' ks xs Us → Us.length = ks.length := by
        intro ks
        induction ks with
        | nil => intro xs Us h; obtain ⟨_, rfl⟩ := h; rfl
        | cons k ks ih =>
          intro xs Us h
          cases k with
          | cell k => obtain ⟨_, _, _, _, rfl, h'⟩ := h; simp [ih h']
          | agg l => obtain ⟨_, _, _, _, _, rfl, h'⟩ := h; simp [ih h']
          | lst l t => obtain ⟨_, _, _, _, _, _, rfl, _, h'⟩ := h; simp [ih h']
      have hl := hlen h1
      cases x with
      | nil => rfl
      | cons a x => cases x with
        | nil =>
          cases res with
          | nil => simp at hl
          | cons k res => cases res with
            | nil => exact absurd rfl (hres k)
            | cons _ _ => simp at hl
        | cons _ _ => rfl
    · cases h

theorem roOk_of {w : World} {ra : Nat → Addr} {σ : Val} (h2 : ∀ r, 0 ≤ r → D.ro r ≠ [] → ∀ j, j < (σ.r r).length → ∀ k, (D.ro r)[j % (D.ro r).length]? = some k → w.cell? ⟨(ra r).block, (ra r).off + j, none⟩ = some (ckVal k ((σ.r r).getD j 0))) :
    RoOk D (base w ra) σ := by
  refine ⟨fun r j hj k hk => ?_, fun r hne hpos => ?_⟩
  · by_cases hne : D.ro r = []
    · rw [hne] at hk; simp at hk
    · exact h2 r (Nat.zero_le _) hne j hj k hk
  · refine ⟨?_, fun h => h⟩
    have hk : 0 % (D.ro r).length < (D.ro r).length := Nat.mod_lt _ (by cases hq : D.ro r with | nil => exact absurd hq hne | cons _ _ => simp)
    have := h2 r (Nat.zero_le _) hne 0 hpos _ (List.getElem?_eq_getElem hk)
    unfold World.cell? at this
    cases hg : w.heap[(ra r).block]? with
    | none => rw [hg] at this; simp at this
    | some o => exact (Array.getElem?_eq_some_iff.1 hg).1

/-- **What a function yields, from its tree.** -/
theorem runRow_sound (H : Fine D SP) {n : Nat} {g : FuncId} {fn : Func} {c : Code} (hf : D.P.funcs[g]? = some fn) (hb : fn.body = some c) {row : Row} {w : World} {ra : Nat → Addr} {σ : Val} (R : RoOk D (base w ra) σ)
    (hn : σ.n = shCount row.args) {Vs : List Value} (hargs : AV.repL D (base w ra) σ (fun _ => none) (shIn row.args 0) Vs) {Ψ : List Int → Prop}
    (h : (runRow D n g row).holds SP (fun σ' _ es => Ψ (es.map (·.ev σ'))) σ (fun _ _ => False)) :
    Calls D.P g Vs.toArray w fun e w' => ∃ rs Rs, rs.length = shRCount row.res ∧ Ψ rs ∧ ResIs w w' row.res rs Rs ∧ e = .returned (oneOrTupV Rs) ∧ Kept w w' := by
  refine Calls.mono (run_sound H hf hb (ra := ra) (σ := σ) hn R hargs h) ?_
  rintro e w' ⟨V, σ', β', v, st', a', Λ', rfl, hle, hv, F, hk, hkept⟩
  split at hk
  · rename_i es hes
    split at hk
    · obtain ⟨Rs, hV, hR, hlen⟩ := resOf_is F hes hv
      exact ⟨es.map (·.ev σ'), Rs, by simp [hlen], (show Ψ (es.map (·.ev σ')) from hk), hR, by rw [hV], hkept⟩
    · exact hk.elim
  · exact hk.elim

end
end Go.Proofs.Sx
