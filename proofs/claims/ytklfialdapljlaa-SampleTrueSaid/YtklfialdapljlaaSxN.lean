/- append, copy, conversions, calls: 'iop_sound'. -/
import Derived.Test.YtklfialdapljlaaSxM
namespace Go.Proofs.Sx
open Go

section
variable {D : Ctx} {B : Base} {SP : Spec} {γ : Type} {Φ : Val → Again → γ → Prop}
variable {σ : Val} {β : Bmap} {Λ : Again} {st : St} {a : Act} {w : World} {id : Option Nat} {k : AV → St → Tr γ} {ox : Oper} {next : Act → World → Prop} {Q : Exit → Act → World → Prop}

theorem run_builtin_append {c : Call} (hc : c.callee = .builtin .append) (ho : ox.op = .call c) {V : Value} {w' : World} (h : (Builtin.append_ c.argTypes ox.type (c.args.map a.eval)).run D.P w = .ok V w') :
    (execOp a.eval ox).run D.P w = .ok (.value V) w' := by
  simp only [execOp, ho, resolve, hc, invoke, builtin, Sem.run_bind, Sem.run_pure, Result.andThen_ok, h]

theorem run_builtin_copy {c : Call} (hc : c.callee = .builtin .copy) (ho : ox.op = .call c) {V : Value} {w' : World} (h : (Builtin.copy_ c.argTypes ox.type (c.args.map a.eval)).run D.P w = .ok V w') :
    (execOp a.eval ox).run D.P w = .ok (.value V) w' := by
  simp only [execOp, ho, resolve, hc, invoke, builtin, Sem.run_bind, Sem.run_pure, Result.andThen_ok, h]

theorem two_reps {l : List Operand} {x y : AV} (E : EvOk D B σ β st a) (h : l.map st.ev = [x, y]) : ∃ X Y, l.map a.eval = [X, Y] ∧ x.rep D B σ β X ∧ y.rep D B σ β Y := by
  have hm := E.map l
  rw [h] at hm
  cases hq : l.map a.eval with
  | nil => rw [hq] at hm; simp [AV.repL] at hm
  | cons X m =>
    cases m with
    | nil => rw [hq] at hm; simp [AV.repL] at hm
    | cons Y m =>
      cases m with
      | nil => rw [hq] at hm; simp only [AV.repL, and_true] at hm; exact ⟨X, Y, rfl, hm.1, hm.2⟩
      | cons _ _ => rw [hq] at hm; simp [AV.repL] at hm

theorem oldA_some {st : St} {b off n : Nat} {cap : IE} {sz : Option Nat} {ty : TypeId} {old : List AV} (h : oldA st b off n cap sz ty = some old) :
    (n = 0 ∧ old = [] ∧ cap = .lit 0) ∨ (n ≠ 0 ∧ off = 0 ∧ ∃ o z, sz = some z ∧ hgetc st.hp b = some o ∧ old = o.cs ∧ o.cs.length = n * z ∧ o.ty = ty ∧
      ((o.spare = none ∧ cap = .lit (n : Int)) ∨ o.spare = some (cap, z))) := by
  unfold oldA at h
  split at h
  · rename_i hn
    simp only [Nat.beq_eq] at hn
    split at h
    · rename_i hc
      have := litNat_some hc
      simp only [Option.some.injEq] at h
      exact .inl ⟨hn, h.symm, this⟩
    · cases h
  · rename_i hn
    simp only [Nat.beq_eq] at hn
    right
    split at h
    · rename_i o z ho
      split at h
      · rename_i hc
        simp only [Bool.and_eq_true, Nat.beq_eq] at hc
        split at h
        · rename_i hs
          split at h
          · rename_i c hcc
            have := litNat_some hcc
            split at h
            · rename_i hcn
              simp only [Nat.beq_eq] at hcn
              simp only [Option.some.injEq] at h
              exact ⟨hn, hc.1.1, o, z, rfl, ho, h.symm, hc.1.2, hc.2, .inl ⟨hs, by rw [this, hcn]⟩⟩
            · cases h
          · cases h
        · rename_i e z' hs
          split at h
          · rename_i hcn
            simp only [Bool.and_eq_true, Nat.beq_eq] at hcn
            simp only [Option.some.injEq] at h
            exact ⟨hn, hc.1.1, o, z, rfl, ho, h.symm, hc.1.2, hc.2, .inr (by rw [hs, IE.beq_eq hcn.1, hcn.2])⟩
          · cases h
      · cases h
    · cases h

theorem sub_cells {o : AObj} {l : List AV} {off n : Nat} {Vs rest : List Value} {rb : Nat} {fz : Nat × Nat} (h1 : w.heap[rb]? = some (.cells (Vs ++ rest).toArray o.ty fz)) (h2 : AV.repL D B σ β o.cs Vs) (h : lsub o.cs off n = some l) :
    ∃ Ns : List Value, AV.repL D B σ β l Ns ∧ Ns.length = n ∧ ∀ j v, Ns[j]? = some v → w.cell? ((⟨rb, off, none⟩ : Addr).add j) = some v := by
  have hs := repL_sub h2 h
  obtain ⟨h7, h8⟩ := lsub_eq h
  have hlen := repL_length h2
  refine ⟨_, hs, by simp; omega, fun j v hv => ?_⟩
  rw [addr_add, cell_of_obj h1]
  rw [List.getElem?_take, List.getElem?_drop] at hv
  split at hv
  · have hlt : off + j < Vs.length := (List.getElem?_eq_some_iff.1 hv).1
    rw [List.getElem?_append_left hlt]; exact hv
  · cases hv

theorem appendC_sound (F : Fits D B σ β st a w) (hid : ∀ i, id = some i → β i = none ∧ i < st.nb) {c : Call} (hc : c.callee = .builtin .append) (ho : ox.op = .call c) {t1 t2 : TypeId} {x1 x2 : AV} {X Y : Value}
    (hX : x1.rep D B σ β X) (hY : x2.rep D B σ β Y) (hargs : c.args.map a.eval = #[X, Y]) (htypes : c.argTypes = #[t1, t2])
    (h : (appendC D id t1 t2 x1 x2 st k).holds SP Φ σ Λ) (hn : Tells D B SP Φ σ β Λ st a id k (Told D a ox next)) : ox.wp D.P a w next Q := by
  unfold appendC at h
  split at h
  · rename_i b off len cap b2 off2 len2 cap2
    split at h
    · rename_i e e2 n m hu1 hu2 hln hlm
      have := litNat_some hln; subst this
      have := litNat_some hlm; subst this
      split at h
      · rename_i sz ie old new hsz hi hold hnew
        split at h
        · rename_i hcond
          simp only [Bool.and_eq_true, Nat.beq_eq, Nat.blt_eq, Nat.ble_eq] at hcond
          obtain ⟨⟨⟨⟨⟨⟨q1, q2⟩, q3⟩, q4⟩, q5⟩, q6⟩, q7⟩ := hcond
          have hsz' : ie.size = sz := by
            obtain ⟨i', hi', hs'⟩ := szOf_some hsz
            rw [hi] at hi'; cases hi'; exact hs'
          subst hsz'
          obtain ⟨Z, hz, hzs⟩ : ∃ Z, ie.zero = some Z ∧ Z.cells.size = ie.size := by
            unfold okZero at q5
            split at q5
            · rename_i z hz
              simp only [Nat.beq_eq] at q5
              unfold zeroA at hz
              rw [hi] at hz
              simp only [Option.bind_some, Option.map_eq_some_iff] at hz
              obtain ⟨Z, hZ, rfl⟩ := hz
              refine ⟨Z, hZ, ?_⟩
              have := repL_length (ofVal_cells (D := D) (B := B) (σ := σ) (β := β) Z)
              rw [← q5, this]; simp
            · cases q5
          simp only [AV.rep, IE.ev] at hX hY
          obtain ⟨_, x2, n', cv, A, rfl, x3, x4, x5, x6⟩ := hX
          obtain ⟨_, _, m', c2, A2, rfl, y3, y4, y5, y6⟩ := hY
          have hnn : n' = n := by omega
          have hmm : m' = m := by omega
          subst hnn; subst hmm
          -- the new cells
          obtain ⟨New, r1, r2, r3⟩ : ∃ New : List Value, AV.repL D B σ β new New ∧ New.length = m' * ie.size ∧ ∃ A', A2 = some A' ∧ ∀ j v, New[j]? = some v → w.cell? (A'.add j) = some v := by
            split at hnew
            · rename_i o2 ho2
              obtain ⟨ho2, hl2⟩ := hgetc_some ho2
              obtain ⟨rb2, g1, ⟨Vs2, rest2, fz2, g2, g3, _⟩, _⟩ := F.hp b2 o2 ho2
              have g3 := g3.none hl2
              rw [hsz] at hnew
              simp only [Option.getD_some] at hnew
              obtain ⟨New, k1, k2, k3⟩ := sub_cells (w := w) g2 g3 hnew
              refine ⟨New, k1, k2, ?_⟩
              rcases y6 with y6 | ⟨rb', y6, rfl⟩
              · omega
              · rw [g1] at y6; cases y6
                exact ⟨_, rfl, k3⟩
            · cases hnew
          have hone := flatL_one r1 q7
          rcases oldA_some hold with ⟨o1, o2, o3⟩ | ⟨o1, o2, o, z, o3, o4, o5, o6, hty, o7⟩
          · -- nothing yet
            subst o1; subst o2; subst o3
            have hcv : cv = 0 := by simp only [IE.ev] at x4; omega
            subst hcv
            have hq : Nat.beq 0 0 = true := rfl
            simp only [hq, if_true] at h
            rcases append_run (P := D.P) (w := w) (ty := ox.type) (A := A) (c2 := c2) hu1 hu2 hi hz hzs q4 (Vs := []) q3 q2 (by simp) r2 hone (fun h => absurd rfl h) (fun _ => rfl) r3 with ⟨_, _, _, _, _, hh, _⟩ | ⟨newCap, rest, w', u1, u2, u3, u4, uE⟩
            · exact absurd rfl hh
            · have F1 := F.more [(newCap : Int)]
              have hsp : SpareOk (σ.push [(newCap : Int)]) (some (.var st.nv, ie.size)) ([] ++ New) rest := by
                refine ⟨by simp [IE.ok, Val.push, F.nn, Nat.blt_eq], ?_⟩
                rw [u2]; simp [IE.ev, Val.push, F.nn]
              have hid' : ∀ i, id = some i → β i = none ∧ i < ({ st with nv := st.nv + 1 } : St).nb := hid
              have hw := went_alloc (Λ := Λ) (w' := w') (t := e) (fz := (0, 0)) (rest := rest) (l := [] ++ new) (Vs := [] ++ New) F1 hid' (repL_append trivial (repL_le (σ.le_push _) (.refl β) _ _ r1)) hsp (.inl rfl) (by rw [u4]) uE
              have hh := h (newCap : Int)
              refine wp_value (run_builtin_append hc ho (by rw [hargs, htypes]; exact u3)) (hn (σ.push [(newCap : Int)]) (β.upd (id.getD st.nb) w.heap.size) Λ _ _ _ w' ?_ ?_ hh)
              · exact ⟨(On.push σ Λ _).trans hw.1.on, hw.1.ble, hw.1.keep, hw.1.nb, hw.1.fits⟩
              · refine ⟨rfl, by simp [IE.ok, Val.push, F.nn, Nat.blt_eq], 0 + m', newCap, _, rfl, rfl, by simp [IE.ev, Val.push, F.nn], u1, .inr ⟨w.heap.size, ?_, rfl⟩⟩
                rw [show ({ st with nv := st.nv + 1 } : St).new id ([] ++ new) e (some (.var st.nv, ie.size)) = _ from new_eq (st := { st with nv := st.nv + 1 }) (fun i hi => (hid i hi).2) _ _ _]
                simp [Bmap.upd]
          · subst o2; subst o5
            rw [hsz] at o3; cases o3
            have hnb : Nat.beq n' 0 = false := by rw [Bool.eq_false_iff]; simp [Nat.beq_eq]; exact o1
            simp only [hnb, Bool.false_eq_true, if_false] at h
            obtain ⟨o4, hl4⟩ := hgetc_some o4
            obtain ⟨rb, g1, ⟨Vs, rest, fz, g2, g3, g4, g5⟩, g6⟩ := F.hp b o o4
            have g3 := g3.none hl4
            have hvl := repL_length g3
            have hcap : (Vs ++ rest).length = cv * ie.size := by
              rcases o7 with ⟨o7, o8⟩ | o7
              · unfold SpareOk at g4
                rw [o7] at g4
                subst o8; subst g4
                simp only [IE.ev] at x4
                have : cv = n' := by omega
                subst this
                simp; omega
              · unfold SpareOk at g4
                rw [o7] at g4
                rw [g4.2, x4]; simp
            have hA : A = some ⟨rb, 0, none⟩ := by
              rcases x6 with x6 | ⟨rb', x6, rfl⟩
              · omega
              · rw [g1] at x6; cases x6; rfl
            have hnodel : ∀ c o', hget (hdel st.hp b) c = some o' → β c ≠ some rb := fun c o' hh e' => by
              rw [hget_hdel] at hh
              split at hh
              · cases hh
              · rename_i hcb; exact hcb (F.inj c b o' o rb hh o4 e' g1)
            have Fd := F.del b
            rcases append_run (P := D.P) (w := w) (ty := ox.type) (A := A) (c2 := c2) hu1 hu2 hi hz hzs q4 (Vs := Vs) q3 q2 (by omega) r2 hone (fun _ => ⟨rb, rest, o.ty, fz, hA, g2, hcap, g5⟩) (fun h => by omega) r3 with
              ⟨rb1, rest1, ty1, fz1, w', _, u1, u2, u3, u4, u5, u6, u7⟩ | ⟨newCap, rest', w', u1, u2, u3, u4, uE⟩
            · rw [hA] at u2; cases u2
              rw [g2] at u3
              simp only [Option.some.injEq, Obj.cells.injEq] at u3
              obtain ⟨e1, rfl, rfl⟩ := u3
              have e1' : rest = rest1 := by
                have := congrArg Array.toList e1
                simpa using this
              subst e1'
              have F1 := Fd.more [(cv : Int)]
              have hfit : n' * ie.size + m' * ie.size ≤ cv * ie.size := by rw [← Nat.add_mul]; exact Nat.mul_le_mul_right _ u1
              have hlt : rb < w.heap.size := F.bnd _ _ g1
              have hsp : SpareOk (σ.push [(cv : Int)]) (some (.var st.nv, ie.size)) (Vs ++ New) (rest.drop New.length) := by
                refine ⟨by simp [IE.ok, Val.push, F.nn, Nat.blt_eq], ?_⟩
                simp only [List.length_append, List.length_drop] at hcap ⊢
                simp [IE.ev, Val.push, F.nn]
                omega
              obtain ⟨j1, j2⟩ := new_none F hid
              have FF := F1.adopt (id := id.getD st.nb) (rb := rb) (w' := w') (ob := { cs := o.cs ++ new, ty := e, spare := some (.var st.nv, ie.size) }) j1 j2 g6 hlt hnodel (show AV.repL D B _ _ _ _ from repL_append (repL_le (σ.le_push _) (.refl β) _ _ g3) (repL_le (σ.le_push _) (.refl β) _ _ r1)) hsp
                (g5.imp (fun h => h) (fun h => by simp only [List.length_append, List.length_drop] at h hcap ⊢; omega)) (by rw [← hty]; exact u7)
              have hh := h (cv : Int)
              refine wp_value (run_builtin_append hc ho (by rw [hargs, htypes]; exact u6)) (hn (σ.push [(cv : Int)]) (β.upd (id.getD st.nb) rb) Λ _ _ _ w' ?_ ?_ hh)
              · rw [show ({ st with hp := hdel st.hp b, nv := st.nv + 1 } : St).new id (o.cs ++ new) e (some (.var st.nv, ie.size)) = _ from new_eq (st := { st with hp := hdel st.hp b, nv := st.nv + 1 }) (fun i hi => (hid i hi).2) _ _ _]
                exact ⟨On.push σ Λ _, Ble.upd j1, keep_upd, by dsimp only; split <;> omega, FF⟩
              · rw [show ({ st with hp := hdel st.hp b, nv := st.nv + 1 } : St).new id (o.cs ++ new) e (some (.var st.nv, ie.size)) = _ from new_eq (st := { st with hp := hdel st.hp b, nv := st.nv + 1 }) (fun i hi => (hid i hi).2) _ _ _]
                refine ⟨rfl, by simp [IE.ok, Val.push, F.nn, Nat.blt_eq], n' + m', cv, _, rfl, rfl, by simp [IE.ev, Val.push, F.nn], u1, .inr ⟨rb, by simp [Bmap.upd], hA⟩⟩
            · have F1 := Fd.more [(newCap : Int)]
              have hsp : SpareOk (σ.push [(newCap : Int)]) (some (.var st.nv, ie.size)) (Vs ++ New) rest' := by
                refine ⟨by simp [IE.ok, Val.push, F.nn, Nat.blt_eq], ?_⟩
                rw [u2]; simp [IE.ev, Val.push, F.nn]
              have hid' : ∀ i, id = some i → β i = none ∧ i < ({ st with hp := hdel st.hp b, nv := st.nv + 1 } : St).nb := hid
              have hw := went_alloc (Λ := Λ) (w' := w') (t := e) (fz := (0, 0)) (rest := rest') (l := o.cs ++ new) (Vs := Vs ++ New) F1 hid' (repL_append (repL_le (σ.le_push _) (.refl β) _ _ g3) (repL_le (σ.le_push _) (.refl β) _ _ r1)) hsp (.inl rfl) (by rw [u4]) uE
              have hh := h (newCap : Int)
              refine wp_value (run_builtin_append hc ho (by rw [hargs, htypes]; exact u3)) (hn (σ.push [(newCap : Int)]) (β.upd (id.getD st.nb) w.heap.size) Λ _ _ _ w' ?_ ?_ hh)
              · exact ⟨(On.push σ Λ _).trans hw.1.on, hw.1.ble, hw.1.keep, hw.1.nb, hw.1.fits⟩
              · refine ⟨rfl, by simp [IE.ok, Val.push, F.nn, Nat.blt_eq], n' + m', newCap, _, rfl, rfl, by simp [IE.ev, Val.push, F.nn], u1, .inr ⟨w.heap.size, ?_, rfl⟩⟩
                rw [show ({ st with hp := hdel st.hp b, nv := st.nv + 1 } : St).new id (o.cs ++ new) e (some (.var st.nv, ie.size)) = _ from new_eq (st := { st with hp := hdel st.hp b, nv := st.nv + 1 }) (fun i hi => (hid i hi).2) _ _ _]
                simp [Bmap.upd]
        · exact h.elim
      · exact h.elim
    · exact h.elim
  · exact h.elim


theorem lstVals_append {ks : List CK} {l m : List Int} (h : l.length % ks.length = 0) : lstVals ks (l ++ m) = lstVals ks l ++ lstVals ks m := by
  apply List.ext_getElem?
  intro q
  rw [lstVals_get]
  by_cases hq : q < l.length
  · rw [List.getElem?_append_left hq, List.getElem?_append_left (by rw [lstVals_length]; exact hq), lstVals_get]
  · rw [List.getElem?_append_right (by omega), List.getElem?_append_right (by rw [lstVals_length]; omega), lstVals_get, lstVals_length]
    congr 2
    simp only [kAt]
    have : q % ks.length = (q - l.length) % ks.length := by
      have e : q = (q - l.length) + l.length := by omega
      rw [e, Nat.add_mod, h, Nat.add_zero, Nat.mod_mod]
      simp
    rw [this]

theorem lstVals_one {ks : List CK} {l : List Int} : ∀ v ∈ lstVals ks l, v.oneCell' = true := fun v hv => by
  obtain ⟨q, hq⟩ := List.getElem?_of_mem hv
  rw [lstVals_get] at hq
  cases h : l[q]? with
  | none => rw [h] at hq; cases hq
  | some x => rw [h] at hq; simp only [Option.map_some, Option.some.injEq] at hq; rw [← hq]; exact ckVal_one _ _

theorem div_back {x m n : Nat} (h : x % m = 0) (e : x / m = n) : x = n * m := by
  have := Nat.div_add_mod x m
  rw [h, e, Nat.add_zero, Nat.mul_comm] at this
  exact this.symm

/-- what a slice holds -/
theorem listOf_sound (F : Fits D B σ β st a w) (R : RoOk D B σ) {ks : List CK} {x : AV} {L : IE} {X : Value} (h : listOf D st ks x = some L) (hx : x.rep D B σ β X) :
    L.ok σ.n = true ∧ ∃ A n c, X = .slice A n c ∧ (dec (L.ev σ)).length = n * ks.length ∧ n ≤ c ∧ (∀ l b, lenOf x = some (l, b) → l.ok σ.n = true ∧ l.ev σ = (n : Int)) ∧
      (n ≠ 0 → ∃ bb oo, A = some ⟨bb, oo, none⟩ ∧ ∀ j v, (lstVals ks (dec (L.ev σ)))[j]? = some v → w.cell? ((⟨bb, oo, none⟩ : Addr).add j) = some v) := by
  unfold listOf at h
  split at h
  · rename_i b off len cap
    simp only [AV.rep] at hx
    obtain ⟨x1, x2, n, c, A, rfl, x3, x4, x5, x6⟩ := hx
    have hlen : ∀ l b', lenOf (.sl b off len cap) = some (l, b') → l.ok σ.n = true ∧ l.ev σ = (n : Int) := by
      intro l b' e; simp only [lenOf, Option.some.injEq, Prod.mk.injEq] at e; obtain ⟨rfl, _⟩ := e; exact ⟨x1, x3⟩
    split at h
    · rename_i hl0
      have := litNat_some hl0; subst this
      simp only [Option.some.injEq] at h; subst h
      simp only [IE.ev] at x3
      have : n = 0 := by omega
      subst this
      exact ⟨rfl, A, 0, c, rfl, by simp [IE.ev], x5, hlen, fun h => absurd rfl h⟩
    · split at h
      · rename_i o ho
        obtain ⟨rb, g1, ⟨Vs, rest, fz, g2, g3, g4, g5⟩, g6⟩ := F.hp b o ho
        have hA : n ≠ 0 → A = some ⟨rb, off, none⟩ := fun hn => by
          rcases x6 with x6 | ⟨rb', x6, rfl⟩
          · omega
          · rw [g1] at x6; cases x6; rfl
        split at h
        · rename_i L' ks' hl
          split at h
          · rename_i hc
            simp only [Option.some.injEq] at h; subst h
            simp only [Bool.and_eq_true, Nat.beq_eq] at hc
            obtain ⟨⟨h1, h2⟩, h3⟩ := hc
            have := cksbeq_eq h1; subst this
            subst h2
            have := IE.beq_eq h3; subst this
            obtain ⟨_, hLok, hm0, hdiv, rfl⟩ := g3.some hl
            rw [cntL_ev] at x3
            refine ⟨hLok, A, n, c, rfl, div_back hdiv (by omega), x5, hlen, fun hn => ⟨_, _, hA hn, fun j v hv => ?_⟩⟩
            rw [addr_add, cell_of_obj g2, Nat.zero_add, List.getElem?_append_left (List.getElem?_eq_some_iff.1 hv).1]; exact hv
          · cases h
        · rename_i hl
          split at h
          · rename_i m hlm
            have := litNat_some hlm; subst this
            simp only [IE.ev] at x3
            have : n = m := by omega
            subst this
            split at h
            · rename_i cs hcs
              simp only [Option.map_eq_some_iff] at h
              obtain ⟨es, hes, rfl⟩ := h
              have g3 := g3.none hl
              obtain ⟨Ns, k1, k2, k3⟩ := sub_cells (w := w) g2 g3 hcs
              obtain ⟨e1, e2, e3⟩ := numsA_sound _ _ _ _ hes k1
              have hv := lstVals_of e3
              have hcl := repL_length k1
              rw [consL_ev]
              refine ⟨consL_ok e2, A, n, c, rfl, by simp; omega, x5, hlen, fun hn => ⟨_, _, hA hn, fun j v hj => k3 j v (by rw [hv]; exact hj)⟩⟩
            · cases h
          · cases h
      · cases h
  · rename_i r off len cap
    split at h
    · rename_i hc
      simp only [Bool.and_eq_true, Nat.blt_eq] at hc
      obtain ⟨h1, h2⟩ := hc
      have := cksbeq_eq h1; subst this
      simp only [Option.some.injEq] at h; subst h
      simp only [AV.rep] at hx
      obtain ⟨x0, x1, o, n, c, A, rfl, x3, x4, x5, x6, x7⟩ := hx
      have hd : dec ((IE.lsub r (D.ro r).length off len).ev σ) = ((σ.r r).drop (o * (D.ro r).length)).take (n * (D.ro r).length) := by simp [IE.ev, x3, x4]
      have hnm : (o + n) * (D.ro r).length = o * (D.ro r).length + n * (D.ro r).length := Nat.add_mul _ _ _
      rw [hd]
      refine ⟨by simp [IE.ok, x0, x1], A, n, c, rfl, by simp; omega, x5, fun l b' e => ?_, fun hn => ?_⟩
      · simp only [lenOf, Option.some.injEq, Prod.mk.injEq] at e; obtain ⟨rfl, _⟩ := e; exact ⟨x1, x4⟩
      · rcases x7 with x7 | rfl
        · omega
        · refine ⟨_, _, rfl, fun j v hv => ?_⟩
          rw [lstVals_get, List.getElem?_take, List.getElem?_drop] at hv
          by_cases hj : j < n * (D.ro r).length
          · rw [if_pos hj] at hv
            have hin : o * (D.ro r).length + j < (σ.r r).length := by omega
            rw [List.getElem?_eq_getElem hin, Option.map_some, Option.some.injEq] at hv
            have hmod : (o * (D.ro r).length + j) % (D.ro r).length = j % (D.ro r).length := by rw [Nat.add_comm, Nat.add_mul_mod_self_right]
            have hlt : j % (D.ro r).length < (D.ro r).length := Nat.mod_lt _ h2
            have := (R.at F) r (o * (D.ro r).length + j) hin ((D.ro r)[j % (D.ro r).length]) (by rw [hmod, List.getElem?_eq_getElem hlt])
            rw [addr_add, Nat.add_assoc, this, ← hv]
            congr 2
            · simp [kAt, hlt]
            · simp [List.getD_eq_getElem?_getD, hin]
          · rw [if_neg hj] at hv; cases hv
    · cases h
  · cases h

/-- the block of a slice that is a whole one; none: it has none -/
def OldAt (B : Base) (β : Bmap) (st : St) (w : World) (ks : List CK) (l : List Int) (e : TypeId) (A : Option Addr) (n c : Nat) : Option Nat → Prop
  | none => n = 0 ∧ c = 0
  | some b => ∃ o rb rest fz, hget st.hp b = some o ∧ β b = some rb ∧ w.heap[rb]? = some (.cells (lstVals ks l ++ rest).toArray e fz) ∧
          (lstVals ks l ++ rest).length = c * ks.length ∧ (fz.2 = 0 ∨ (lstVals ks l ++ rest).length ≤ fz.1) ∧ (B.w0.heap.size ≤ rb ∨ B.O rb) ∧ (c ≠ 0 → A = some ⟨rb, 0, none⟩)

/-- the slice that is appended to -/
theorem oldL_sound (F : Fits D B σ β st a w) (R : RoOk D B σ) {ks : List CK} {x : AV} {L : IE} {X : Value} {ob : Option Nat} {e : TypeId} (hL : listOf D st ks x = some L) (hx : x.rep D B σ β X) (h : oldL st x ks.length e = some ob) :
    ∃ A n c, X = .slice A n c ∧ (dec (L.ev σ)).length = n * ks.length ∧ n ≤ c ∧ OldAt B β st w ks (dec (L.ev σ)) e A n c ob := by
  obtain ⟨_, A, n, c, rfl, l1, l2, l3, l4⟩ := listOf_sound F R hL hx
  refine ⟨A, n, c, rfl, l1, l2, ?_⟩
  unfold oldL at h
  split at h
  · rename_i b off len cap
    simp only [AV.rep] at hx
    obtain ⟨x1, x2, n', c', A', hX, x3, x4, x5, x6⟩ := hx
    cases hX
    split at h
    · rename_i hl0 hc0
      simp only [Option.some.injEq] at h; subst h
      have := litNat_some hl0; subst this
      have := litNat_some hc0; subst this
      simp only [IE.ev] at x3 x4
      exact ⟨by omega, by omega⟩
    · split at h
      · rename_i o ho
        obtain ⟨rb, g1, ⟨Vs, rest, fz, g2, g3, g4, g5⟩, g6⟩ := F.hp b o ho
        split at h
        · rename_i hc
          simp only [Bool.and_eq_true, Nat.beq_eq] at hc
          obtain ⟨rfl, rfl⟩ := hc
          have hA : c ≠ 0 → A = some ⟨rb, 0, none⟩ := fun hn => by
            rcases x6 with x6 | ⟨rb', x6, rfl⟩
            · omega
            · rw [g1] at x6; cases x6; rfl
          split at h
          · rename_i L' ks' hl
            obtain ⟨_, hLok, hm0, hdiv, rfl⟩ := g3.some hl
            split at h
            · rename_i ee z hs
              split at h
              · rename_i hcc
                simp only [Option.some.injEq] at h; subst h
                simp only [Bool.and_eq_true, Nat.beq_eq] at hcc
                obtain ⟨⟨q1, rfl⟩, q2⟩ := hcc
                have := IE.beq_eq q1; subst this
                have := IE.beq_eq q2; subst this
                have hLL : n ≠ 0 → ks = ks' ∧ L = L' := fun hn => by
                  unfold listOf at hL
                  simp only [] at hL
                  split at hL
                  · rename_i hl0
                    have := litNat_some hl0
                    rw [this] at x3; simp only [IE.ev] at x3; omega
                  · rw [ho] at hL
                    simp only [hl] at hL
                    split at hL
                    · rename_i hcs
                      simp only [Option.some.injEq] at hL
                      simp only [Bool.and_eq_true] at hcs
                      exact ⟨cksbeq_eq hcs.1.1, hL.symm⟩
                    · cases hL
                have hnil : litNat (cntL L' ks'.length) = none := rfl
                have hLL : ks = ks' ∧ L = L' := by
                  unfold listOf at hL
                  simp only [hnil] at hL
                  rw [ho] at hL
                  simp only [hl] at hL
                  split at hL
                  · rename_i hcs
                    simp only [Option.some.injEq] at hL
                    simp only [Bool.and_eq_true] at hcs
                    exact ⟨cksbeq_eq hcs.1.1, hL.symm⟩
                  · cases hL
                obtain ⟨rfl, rfl⟩ := hLL
                unfold SpareOk at g4
                rw [hs] at g4
                exact ⟨o, rb, rest, fz, ho, g1, g2, by rw [g4.2, x4]; simp, g5, g6, hA⟩
              · cases h
            · cases h
          · rename_i hl
            split at h
            · rename_i m hlm
              have := litNat_some hlm; subst this
              simp only [IE.ev] at x3
              have : n = m := by omega
              subst this
              split at h
              · rename_i hcc
                simp only [Bool.and_eq_true, Nat.beq_eq, Nat.blt_eq] at hcc
                have g3 := g3.none hl
                have hvl := repL_length g3
                have hVs : Vs = lstVals ks (dec (L.ev σ)) := by
                  unfold listOf at hL
                  have hn0 : ∀ m : Nat, litNat (.lit (m : Int)) = some m := fun m => rfl
                  simp only [hn0] at hL
                  split at hL
                  · rename_i hz; simp only [Option.some.injEq] at hz; omega
                  · rw [ho] at hL
                    simp only [hl] at hL
                    split at hL
                    · rename_i cs hcs
                      simp only [Option.map_eq_some_iff] at hL
                      obtain ⟨es, hes, rfl⟩ := hL
                      obtain ⟨s1, s2⟩ := lsub_eq hcs
                      have : cs = o.cs := by rw [s1, List.drop_zero, List.take_of_length_le (by omega)]
                      subst this
                      obtain ⟨e1, e2, e3⟩ := numsA_sound _ _ _ _ hes g3
                      rw [consL_ev]
                      exact lstVals_of e3
                    · cases hL
                subst hVs
                split at h
                · rename_i hs
                  unfold SpareOk at g4
                  rw [hs] at g4
                  subst g4
                  split at h
                  · rename_i c2 hc2
                    split at h
                    · rename_i hcn
                      simp only [Option.some.injEq] at h; subst h
                      simp only [Nat.beq_eq] at hcn; subst hcn
                      have := litNat_some hc2; subst this
                      simp only [IE.ev] at x4
                      have : c = c2 := by omega
                      subst this
                      exact ⟨o, rb, [], fz, ho, g1, g2, by simp; rw [← hvl]; omega, g5, g6, hA⟩
                    · cases h
                  · cases h
                · rename_i ee z hs
                  unfold SpareOk at g4
                  rw [hs] at g4
                  split at h
                  · rename_i hcz
                    simp only [Option.some.injEq] at h; subst h
                    simp only [Bool.and_eq_true, Nat.beq_eq] at hcz
                    obtain ⟨q1, rfl⟩ := hcz
                    have := IE.beq_eq q1; subst this
                    exact ⟨o, rb, rest, fz, ho, g1, g2, by rw [g4.2, x4]; simp, g5, g6, hA⟩
                  · cases h
              · cases h
            · cases h
        · cases h
      · cases h
  · cases h


theorem append_zero {P : Program} {t1 t2 ty e e2 : TypeId} (hu1 : P.underlying t1 = some (.slice e)) (hu2 : P.underlying t2 = some (.slice e2)) {sz : Nat} (hsz : szOf P e = some sz) {A A2 : Option Addr} {n c c2 : Nat} (hnc : n ≤ c) (w : World) :
    (Builtin.append_ #[t1, t2] ty #[.slice A n c, .slice A2 0 c2]).run P w = .ok (.slice A n c) w := by
  have hf : ∀ w, (Builtin.firstCells sz 0 (.slice A2 0 c2)).run P w = .ok #[] w := fun w => run_firstCells (Vs := []) (by simp) (fun h => absurd rfl h)
  cases A <;> simp [Builtin.append_, run_underlying hu1, run_underlying hu2, run_sizeOf' hsz, Builtin.lenOf, hnc, hf, storeCells]

theorem appendL_sound (F : Fits D B σ β st a w) (R : RoOk D B σ) (hid : ∀ i, id = some i → β i = none ∧ i < st.nb) {c : Call} (hc : c.callee = .builtin .append) (ho : ox.op = .call c) {t1 t2 : TypeId} {x1 x2 : AV} {X Y : Value}
    (hX : x1.rep D B σ β X) (hY : x2.rep D B σ β Y) (hargs : c.args.map a.eval = #[X, Y]) (htypes : c.argTypes = #[t1, t2])
    (h : (appendL D id t1 t2 x1 x2 st k).holds SP Φ σ Λ) (hn : Tells D B SP Φ σ β Λ st a id k (Told D a ox next)) : ox.wp D.P a w next Q := by
  unfold appendL at h
  split at h
  · rename_i e e2 hu1 hu2
    split at h
    · rename_i ks sz ie hks hsz hi
      split at h
      · rename_i L1 L2 ob len2 b2 hL1 hL2 hob hlen
        split at h
        · rename_i hcond
          simp only [Bool.and_eq_true, Nat.beq_eq, Nat.blt_eq, Nat.ble_eq] at hcond
          obtain ⟨⟨⟨⟨rfl, q2⟩, q3⟩, q4⟩, _⟩ := hcond
          have hsz' : ie.size = ks.length := by
            obtain ⟨i', hi', hs'⟩ := szOf_some hsz
            rw [hi] at hi'; cases hi'; exact hs'
          obtain ⟨Z, hz, hzs⟩ : ∃ Z, ie.zero = some Z ∧ Z.cells.size = ie.size := by
            unfold okZero at q4
            split at q4
            · rename_i z hz
              simp only [Nat.beq_eq] at q4
              unfold zeroA at hz
              rw [hi] at hz
              simp only [Option.bind_some, Option.map_eq_some_iff] at hz
              obtain ⟨Z, hZ, rfl⟩ := hz
              refine ⟨Z, hZ, ?_⟩
              have := repL_length (ofVal_cells (D := D) (B := B) (σ := σ) (β := β) Z)
              rw [hsz', ← q4, this]; simp
            · cases q4
          obtain ⟨ok1, _⟩ := listOf_sound F R hL1 hX
          obtain ⟨A, n, cv, rfl, l1, l2, l3⟩ := oldL_sound F R hL1 hX hob
          obtain ⟨ok2, A2, m, c2, rfl, m1, m2, m3, m4⟩ := listOf_sound F R hL2 hY
          obtain ⟨okl, evl⟩ := m3 _ _ hlen
          rcases split_sound h (ok_mkEq _ okl (show IE.ok σ.n (.lit 0) = true from rfl)) F with ⟨hz0, pc, hpc, h⟩ | ⟨hz0, pc, hpc, h⟩
          · -- nothing is appended
            rw [ev_mkEq] at hz0
            simp only [IE.ev, evl, beq_iff_eq] at hz0
            have : m = 0 := by omega
            subst this
            exact wp_value (run_builtin_append hc ho (by rw [hargs, htypes]; exact append_zero hu1 hu2 hsz l2 w)) (hn _ _ _ _ _ _ _ (Went.same (F.withPc hpc) rfl) hX h)
          · have hmpos : 0 < m := by
              rw [ev_mkEq] at hz0
              simp only [IE.ev, evl, beq_eq_false_iff_ne] at hz0
              omega
            have F1 := F.withPc hpc
            have hcat : dec ((IE.lcat L1 L2).ev σ) = dec (L1.ev σ) ++ dec (L2.ev σ) := by simp [IE.ev]
            have hcl : (dec ((IE.lcat L1 L2).ev σ)).length = (n + m) * ks.length := by rw [hcat, List.length_append, l1, m1, Nat.add_mul]
            have hdiv1 : (dec (L1.ev σ)).length % ks.length = 0 := by rw [l1]; exact Nat.mul_mod_left _ _
            have okc : (IE.lcat L1 L2).ok σ.n = true := by simp [IE.ok, ok1, ok2]
            rcases split_sound h (ok_mkLe _ (show IE.ok σ.n (.lcnt (.lcat L1 L2) ks.length) = true from okc) (show IE.ok σ.n (.lit 1000000) = true from rfl)) F1 with ⟨hb, pc2, hpc2, h⟩ | ⟨_, _, _, h⟩
            · rw [ev_mkLe] at hb
              have hb := of_decide_eq_true hb
              simp only [IE.ev] at hb
              have hcl' : (dec (L1.ev σ) ++ dec (L2.ev σ)).length = (n + m) * ks.length := by rw [← hcat]; exact hcl
              rw [dec_lst, hcl', Nat.mul_div_cancel _ q2] at hb
              have F2 := F1.withPc hpc2
              have hVs : (lstVals ks (dec (L1.ev σ))).length = n * ie.size := by rw [lstVals_length, l1, hsz']
              have hNew : (lstVals ks (dec (L2.ev σ))).length = m * ie.size := by rw [lstVals_length, m1, hsz']
              have hnew : ∃ A', A2 = some A' ∧ ∀ j v, (lstVals ks (dec (L2.ev σ)))[j]? = some v → w.cell? (A'.add j) = some v := by obtain ⟨bb, oo, h1, h2⟩ := m4 (by omega); exact ⟨_, h1, h2⟩
              have hold : cv ≠ 0 → ∃ rb rest ty' fz, A = some ⟨rb, 0, none⟩ ∧ w.heap[rb]? = some (.cells (lstVals ks (dec (L1.ev σ)) ++ rest).toArray ty' fz) ∧ (lstVals ks (dec (L1.ev σ)) ++ rest).length = cv * ie.size ∧
                  (fz.2 = 0 ∨ (lstVals ks (dec (L1.ev σ)) ++ rest).length ≤ fz.1) := fun hcv => by
                cases ob with
                | none => exact absurd l3.2 hcv
                | some b =>
                  obtain ⟨o, rb, rest, fz, p1, p2, p3, p4, p5, p6, p7⟩ := l3
                  exact ⟨rb, rest, e, fz, p7 hcv, p3, by rw [hsz']; exact p4, p5⟩
              -- the state without the old block
              obtain ⟨st1, hst⟩ : ∃ st1, outL ob ({ st with pc := pc2 } : St) = st1 := ⟨_, rfl⟩
              have Fd : Fits D B σ β st1 a w := by
                rw [← hst]
                cases ob with
                | none => exact F2
                | some b => exact F2.del b
              have hst1 : st1.nb = st.nb ∧ st1.nv = st.nv := by rw [← hst]; cases ob <;> exact ⟨rfl, rfl⟩
              have h' : (Tr.any (k (.sl (({ st1 with nv := st1.nv + 1 } : St).newL id (.lcat L1 L2) ks e (some (.var st1.nv, ks.length))).1 0 (cntL (.lcat L1 L2) ks.length) (.var st1.nv))
                  (({ st1 with nv := st1.nv + 1 } : St).newL id (.lcat L1 L2) ks e (some (.var st1.nv, ks.length))).2)).holds SP Φ σ Λ := by rw [← hst]; exact h
              clear h
              have hle : ∀ x : Int, σ.le (σ.push [x]) := fun x => σ.le_push [x]
              have hev : ∀ x : Int, (IE.lcat L1 L2).ev (σ.push [x]) = (IE.lcat L1 L2).ev σ := fun x => IE.ev_le (hle x) okc
              have okv : ∀ x : Int, (IE.var st1.nv).ok (σ.push [x]).n = true := fun x => by simp [IE.ok, Val.push, F.nn, Nat.blt_eq, hst1.2]
              have evv : ∀ x : Int, (IE.var st1.nv).ev (σ.push [x]) = x := fun x => by simp [IE.ev, Val.push, F.nn, hst1.2]
              have hvals : lstVals ks (dec ((IE.lcat L1 L2).ev σ)) = lstVals ks (dec (L1.ev σ)) ++ lstVals ks (dec (L2.ev σ)) := by rw [hcat, lstVals_append hdiv1]
              have slrep : ∀ (cap : Nat) (γ : Bmap) (A' : Option Addr), n + m ≤ cap → (∃ rb, γ (id.getD st1.nb) = some rb ∧ A' = some ⟨rb, 0, none⟩) →
                  AV.rep D B (σ.push [(cap : Int)]) γ (.sl (id.getD st1.nb) 0 (cntL (.lcat L1 L2) ks.length) (.var st1.nv)) (.slice A' (n + m) cap) := fun cap γ A' hle' hA' => by
                refine ⟨IE.ok_le (hle cap).n (cntL_ok okc), okv cap, n + m, cap, A', rfl, ?_, evv cap, hle', .inr hA'⟩
                rw [cntL_ev, hev, hcl, Nat.mul_div_cancel _ q2]
              have hid1 : ∀ i, id = some i → β i = none ∧ i < ({ st1 with nv := st1.nv + 1 } : St).nb := fun i hi => by have := hid i hi; exact ⟨this.1, by show i < st1.nb; rw [hst1.1]; exact this.2⟩
              have hidn : ∀ i, id = some i → i < ({ st1 with nv := st1.nv + 1 } : St).nb := fun i hi => (hid1 i hi).2
              rcases append_run (P := D.P) (w := w) (ty := ox.type) (A := A) (c2 := c2) hu1 hu2 hi hz hzs q3 hmpos (by omega) hVs hNew lstVals_one hold (fun h => by omega) hnew with
                ⟨rb1, rest1, ty1, fz1, w', hcv, u1, u2, u3, u4, u5, u6, u7⟩ | ⟨newCap, rest', w', u1, u2, u3, u4, uE⟩
              · -- in place
                cases hobc : ob with
                | none => rw [hobc] at l3; exact absurd l3.2 hcv
                | some b =>
                  rw [hobc] at l3
                  obtain ⟨o, rb, rest, fz, p1, p2, p3, p4, p5, p6, p7⟩ := l3
                  have hA := p7 hcv
                  rw [hA] at u2
                  have e0 : rb = rb1 := by cases u2; rfl
                  subst e0
                  rw [p3] at u3
                  simp only [Option.some.injEq, Obj.cells.injEq] at u3
                  obtain ⟨e1, rfl, rfl⟩ := u3
                  have e1' : rest = rest1 := by
                    have := congrArg Array.toList e1
                    simpa using this
                  subst e1'
                  have Fm := Fd.more [(cv : Int)]
                  have hfit : n * ks.length + m * ks.length ≤ cv * ks.length := by rw [← Nat.add_mul]; exact Nat.mul_le_mul_right _ u1
                  have hlt : rb < w.heap.size := F.bnd _ _ p2
                  have hnodel : ∀ c o', hget ({ st1 with nv := st1.nv + [(cv : Int)].length } : St).hp c = some o' → β c ≠ some rb := fun c o' hh e' => by
                    have hhp : ({ st1 with nv := st1.nv + [(cv : Int)].length } : St).hp = hdel st.hp b := by show st1.hp = _; rw [← hst, hobc]; rfl
                    rw [hhp, hget_hdel] at hh
                    split at hh
                    · cases hh
                    · rename_i hcb; exact hcb (F.inj c b o' o rb hh p1 e' p2)
                  have hlen2 : (lstVals ks (dec (L1.ev σ)) ++ lstVals ks (dec (L2.ev σ)) ++ rest.drop (lstVals ks (dec (L2.ev σ))).length).length = cv * ks.length := by
                    simp only [List.length_append, List.length_drop, lstVals_length, l1, m1] at p4 ⊢
                    omega
                  obtain ⟨j1, j2⟩ := new_none Fd (id := id) (fun i hi => hid1 i hi)
                  have FF := Fm.adopt (id := id.getD st1.nb) (rb := rb) (w' := w') (ob := { cs := [], ty := e, spare := some (.var st1.nv, ks.length), lst := some (.lcat L1 L2, ks) }) (Vs := lstVals ks (dec ((IE.lcat L1 L2).ev σ))) (rest := rest.drop (lstVals ks (dec (L2.ev σ))).length) (fz := fz)
                    j1 j2 p6 hlt hnodel ⟨rfl, IE.ok_le (hle cv).n okc, q2, by rw [hev, hcl]; exact Nat.mul_mod_left _ _, by rw [hev]⟩
                    ⟨okv cv, by rw [hvals, hlen2, evv]; simp⟩ (p5.imp (fun h => h) fun hh => by rw [hvals, hlen2, ← p4]; exact hh) (by rw [hvals]; exact u7)
                  have hh := h' (cv : Int)
                  rw [newL_eq hidn] at hh
                  refine wp_value (run_builtin_append hc ho (by rw [hargs, htypes]; exact u6)) (hn (σ.push [(cv : Int)]) (β.upd (id.getD st1.nb) rb) Λ _ _ _ w' ⟨On.push σ Λ _, Ble.upd j1, ?_, ?_, FF⟩ (slrep cv _ _ u1 ⟨rb, by simp [Bmap.upd], hA⟩) hh)
                  · rw [hst1.1]; exact keep_upd
                  · rw [← hst1.1]; dsimp only; split <;> omega
              · -- a new block
                have Fm := Fd.more [(newCap : Int)]
                have hw := went_allocL (Λ := Λ) (w' := w') (t := e) (fz := (0, 0)) (rest := rest') (L := .lcat L1 L2) (ks := ks) (sp := some (.var st1.nv, ks.length)) Fm hid1 (IE.ok_le (hle newCap).n okc) q2 (by rw [hev, hcl]; exact Nat.mul_mod_left _ _)
                  ⟨okv newCap, by rw [hev, hvals, u2, evv, hsz']; simp⟩ (.inl rfl) (by rw [hev, hvals]; exact u4) uE
                have hh := h' (newCap : Int)
                have h2 : (({ st1 with nv := st1.nv + 1 } : St).newL id (.lcat L1 L2) ks e (some (.var st1.nv, ks.length))).1 = id.getD st1.nb := hw.2
                rw [h2] at hh
                refine wp_value (run_builtin_append hc ho (by rw [hargs, htypes]; exact u3)) (hn (σ.push [(newCap : Int)]) (β.upd (id.getD st1.nb) w.heap.size) Λ _ _ _ w' ?_ (slrep newCap _ _ u1 ⟨w.heap.size, by simp [Bmap.upd], rfl⟩) hh)
                refine ⟨(On.push σ Λ _).trans hw.1.on, hw.1.ble, fun b hb hne => hw.1.keep b (by show b < st1.nb; rw [hst1.1]; exact hb) hne, ?_, hw.1.fits⟩
                have := hw.1.nb
                rw [← hst1.1]; exact this
            · exact h.elim
        · exact h.elim
      · exact h.elim
    · exact h.elim
  · exact h.elim

theorem iop_append (E : EvOk D B σ β st a) (F : Fits D B σ β st a w) (R : RoOk D B σ) (hid : ∀ i, id = some i → β i = none ∧ i < st.nb) {c : Call} (hc : c.callee = .builtin .append) (ho : ox.op = .call c) {call : CallH γ}
    (h : (iop D call id (.call c) st k).holds SP Φ σ Λ) (hn : Tells D B SP Φ σ β Λ st a id k (Told D a ox next)) : ox.wp D.P a w next Q := by
  unfold iop at h
  simp only [hc] at h
  split at h
  · rename_i t1 t2 x1 x2 hts hxs
    obtain ⟨X, Y, hXY, hX, hY⟩ := two_reps E hxs
    have hargs : c.args.map a.eval = #[X, Y] := by rw [map_arr, hXY]
    have htypes : c.argTypes = #[t1, t2] := by rw [← Array.toArray_toList (xs := c.argTypes), hts]
    split at h
    · exact appendL_sound F R hid hc ho hX hY hargs htypes h hn
    · exact appendC_sound F hid hc ho hX hY hargs htypes h hn
  · exact h.elim

end
end Go.Proofs.Sx
