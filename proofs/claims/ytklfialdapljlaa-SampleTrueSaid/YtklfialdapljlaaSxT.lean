/- Regions that draw their order: every order. -/
import Derived.Test.YtklfialdapljlaaSxS
namespace Go.Proofs.Sx
open Go

section
variable {D : Ctx} {B : Base} {SP : Spec} {γ : Type}

/-- the state in the middle of a drawn region -/
structure Mid (D : Ctx) (B : Base) (ops : Array Oper) (σ0 : Val) (β0 : Bmap) (Λ0 : Again) (nb0 : Nat) (hold : List (Nat × AObj)) (todo : List Nat) (listed : Array Bool) (σ : Val) (β : Bmap) (Λ : Again) (st : St) (a : Act) (w : World) : Prop where
  fits : Fits D B σ β st a w
  on : On σ0 Λ0 σ Λ
  ble : Ble β0 β
  keep : ∀ b, b < nb0 → β b = β0 b
  nb : nb0 ≤ st.nb
  sub : ∀ b o, hget hold b = some o → hget st.hp b = some o
  free : ∀ j ∈ todo, β (nb0 + j) = none ∧ nb0 + j < st.nb
  nodup : todo.Nodup
  sz : listed.size = ops.size
  lst : ∀ j, listed.getD j true = false ↔ j ∈ todo

theorem hget_isSome_sub {hold hp : List (Nat × AObj)} (h : subHp hold hp = true) : ∀ b o, hget hold b = some o → hget hp b = some o := subHp_get h

theorem Mid.heapOk {ops : Array Oper} {σ0 : Val} {β0 : Bmap} {Λ0 : Again} {nb0 : Nat} {hold : List (Nat × AObj)} {todo : List Nat} {listed : Array Bool} {σ : Val} {β : Bmap} {Λ : Again} {st : St} {a : Act} {w : World}
    (M : Mid D B ops σ0 β0 Λ0 nb0 hold todo listed σ β Λ st a w) (R : RoOk D B σ0) : Held D B σ0 β0 hold w :=
  ⟨σ, β, M.on.le, M.ble, fun b o h => M.fits.heapOk b o (M.sub b o h), (R.le M.on.le).at M.fits⟩

theorem getD_lst {listed : Array Bool} {i : Nat} (hlt : i < listed.size) (h : listed.getD i true ≠ false) : listed.getD i false = true := by
  simp only [Array.getD, hlt, dif_pos] at *
  simpa using h

theorem lst_set {listed : Array Bool} {todo : List Nat} {i : Nat} (hn : todo.Nodup) (h : ∀ j, listed.getD j true = false ↔ j ∈ todo) :
    ∀ j, (listed.setIfInBounds i true).getD j true = false ↔ j ∈ without1 i todo := by
  intro j
  rw [without1_mem hn, ← h]
  by_cases hji : j = i
  · subst hji
    simp only [ne_eq, not_true, and_false, iff_false]
    simp only [Array.getD_eq_getD_getElem?, Array.getElem?_setIfInBounds]
    by_cases hlt : j < listed.size <;> simp [hlt]
  · rw [getD_set_ne true (fun e => hji e.symm)]
    simp [hji]

variable {ops : Array Oper} {σ0 : Val} {β0 : Bmap} {Λ0 : Again} {st0 : St} {ws : World} {hold : List (Nat × AObj)} {pc0 : List (BE × Bool)} {Φ : Val → Again → St → Prop}

theorem xdraw_sound {call : CallH St} (C : CallOk D B SP Φ call) (R : RoOk D B σ0) {nb0 nv0 : Nat} (hnv : σ0.n = nv0)
    (h0 : ∀ b, (hget hold b).isSome = true → ∃ rb, β0 b = some rb) (H0 : HeapOk D B σ0 β0 hold ws) (R0 : RoAt D B σ0 ws)
    (hpc : PcOk σ0 pc0) (hsel : Region.noSelect ops = true) (hpairs : okPairs ops ops.toList 0 = true) (hfwd : fwdOk ops.toList 0 = true)
    {Q : Act → World → Prop}
    (hn : ∀ σ' β' Λ' st' a' w', On σ0 Λ0 σ' Λ' → Ble β0 β' → (∀ b, b < nb0 → β' b = β0 b) → nb0 ≤ st'.nb → Fits D B σ' β' st' a' w' → Φ σ' Λ' st' → Q a' w') :
    ∀ (n : Nat) (todo : List Nat) (listed : Array Bool) (σ : Val) (β : Bmap) (Λ : Again) (st : St) (a : Act) (w : World),
      Mid D B ops σ0 β0 Λ0 nb0 hold todo listed σ β Λ st a w →
      (xdraw D call ops.toList nb0 nv0 hold pc0 n todo st).holds SP Φ σ Λ →
      wpAnyH D.P .any ops (fun e a w => e = .normal ∧ Q a w) (Held D B σ0 β0 hold) todo.length listed a w := by
  intro n
  induction n with
  | zero => intro todo listed σ β Λ st a w _ h; exact h.elim
  | succ n ih =>
    intro todo listed σ β Λ st a w M h
    have inR : ∀ j, j ∈ todo → j < ops.size := fun j hj => by
      have := (M.lst j).2 hj
      by_cases hlt : j < listed.size
      · rw [← M.sz]; exact hlt
      · simp [Array.getD, hlt] at this
    have gone : ∀ i o, i ∈ todo → ops[i]? = some o → ∀ e ∈ o.after, Region.binds .any e = true → e.on < i := fun i o _ ho e he hb => by
      have := fwdOk_spec hfwd i o (by simpa using ho) e he hb
      omega
    have ready : ∀ i o, i ∈ todo → ops[i]? = some o → readyA o todo = true → i ∈ Region.ready .any ops listed := fun i o hi ho hr => by
      rw [mem_ready]
      refine ⟨(M.lst i).2 hi, o, ho, fun e he hb => ?_⟩
      have h1 := gone i o hi ho e he hb
      have h2 := readyA_iff.1 hr e he hb
      refine getD_lst (by rw [M.sz]; exact Nat.lt_trans h1 (inR i hi)) fun hf => h2 ((M.lst e.on).1 hf)
    unfold xdraw at h
    simp only [] at h
    split at h
    · -- all have come up
      have hr : Region.ready .any ops listed = [] := by
        rw [List.eq_nil_iff_forall_not_mem]
        intro j hj
        have := (M.lst j).1 (mem_ready.1 hj).1
        cases this
      refine wpAnyH_done hr ⟨rfl, ?_⟩ _
      refine hn _ _ _ _ _ _ M.on M.ble M.keep (by simpa using M.nb) (M.fits.withPc (pc := pc0) fun c v hm => ?_) h
      obtain ⟨h1, h2⟩ := hpc c v hm
      exact ⟨BE.ok_le M.on.le.n h1, by rw [BE.ev_le M.on.le h1]; exact h2⟩
    · rename_i hne
      have hne : todo ≠ [] := hne
      split at h
      · -- a quiet one
        rename_i j o hj
        obtain ⟨hj1, hj2, hj3, hj4⟩ := findQuiet_spec hj
        have hj2' : ops[j]? = some o := by simpa using hj2
        obtain ⟨V, st', hy, F', hh, hnb', hhp'⟩ := gop_quiet (k := fun s => xdraw D call ops.toList nb0 nv0 hold pc0 n (without1 j todo) s) M.fits M.on.le M.ble h0 hnv H0 R0 M.sub hj4 h
        have hl := without1_length hj1
        rw [← hl]
        refine wpAnyH_first hj2' (fun j o cs b ho => Region.noSelect_spec hsel j o cs b ho) (fun c a w hq => by cases hq.1) _ listed a w ?_ (ready j o hj1 hj2' hj3) hy (M.heapOk R) ?_
        · intro q oq hq hqj hun hno
          have hp := okPairs1_spec (okPairs_spec hpairs j o hj2) q oq (by simpa using hq)
          rcases hp with hp | hp | hp | hp
          · exact absurd hp (by omega)
          · obtain ⟨e, he, hb, heq⟩ := waitsOn_iff.1 hp
            exact absurd heq (by have := hno e he hb; omega)
          · obtain ⟨e, he, hb, heq⟩ := waitsOn_iff.1 hp
            have h1 := (mem_ready.1 (ready j o hj1 hj2' hj3)).2
            obtain ⟨o2, ho2, h1⟩ := h1
            rw [hj2'] at ho2; cases ho2
            have := h1 e he hb
            rw [heq, Nat.zero_add] at this
            have hlt : q < listed.size := by rw [M.sz]; exact (Array.getElem?_eq_some_iff.1 hq).1
            simp only [Array.getD, hlt, dif_pos] at this hun
            rw [this] at hun; cases hun
          · exact hp
        · refine ih _ _ _ _ _ _ _ _ ⟨F', M.on, M.ble, M.keep, by rw [hnb']; exact M.nb, by rw [hhp']; exact M.sub, fun i hi => by rw [hnb']; exact M.free i ((without1_mem M.nodup i).1 hi).1, without1_nodup M.nodup, by simpa using M.sz, lst_set M.nodup M.lst⟩ hh
      · split at h
        · -- whichever comes up
          rename_i rs hrs
          have hall := mergeA_holds h
          obtain ⟨m, hm⟩ : ∃ m, todo.length = m + 1 := ⟨todo.length - 1, by cases todo with | nil => exact absurd rfl hne | cons x l => simp⟩
          rw [hm]
          refine ⟨fun hr => ?_, fun i hi => ?_⟩
          · -- the least one may come up
            exfalso
            obtain ⟨i, hi, hmin⟩ := least hne
            obtain ⟨o, ho⟩ : ∃ o, ops[i]? = some o := ⟨_, Array.getElem?_eq_getElem (inR i hi)⟩
            have := ready i _ hi ho (readyA_iff.2 fun e he hb hmem => by
              have h1 := gone i _ hi ho e he hb
              have h2 := hmin _ hmem
              omega)
            rw [hr] at this; cases this
          · obtain ⟨h1, o, ho, h2⟩ := mem_ready.1 hi
            have hit := (M.lst i).1 h1
            have hrd : readyA o todo = true := readyA_iff.2 fun e he hb hmem => by
              have g1 := h2 e he hb
              have g2 := (M.lst e.on).2 hmem
              have hlt : e.on < listed.size := by rw [M.sz]; exact inR _ hmem
              simp only [Array.getD, hlt, dif_pos] at g1 g2
              rw [g1] at g2; cases g2
            have hmem := allReady_spec hrs i hit o (by simpa using ho) hrd
            have hh := hall _ (List.mem_map_of_mem (f := fun (p : Nat × Oper) => gop D call ops.toList (some (nb0 + p.1)) p.2 st fun s =>
              if heldA hold s then xdraw D call ops.toList nb0 nv0 hold pc0 n (without1 p.1 todo) s else .fail 83) hmem)
            simp only [] at hh
            have hlen : (without1 i todo).length = m := by have := without1_length hit; omega
            unfold wpOp
            simp only [ho]
            have := gop_sound (Q := fun e a w => e = .normal ∧ Q a w)
              (next := fun a' w' => Held D B σ0 β0 hold w' ∧ wpAnyH D.P .any ops (fun e a w => e = .normal ∧ Q a w) (Held D B σ0 β0 hold) m (listed.setIfInBounds i true) a' w')
              (ops := ops) (ox := o) (id := some (nb0 + i)) M.fits (R.le M.on.le) C (fun j hj => by cases hj; exact M.free i hit) hh
              (fun σ' β' Λ' st' a' w' hon hble hkeep hnb F' hh' => by
                by_cases hd : heldA hold st' = true
                · rw [if_pos hd] at hh'
                  have M' : Mid D B ops σ0 β0 Λ0 nb0 hold (without1 i todo) (listed.setIfInBounds i true) σ' β' Λ' st' a' w' :=
                    ⟨F', M.on.trans hon, M.ble.trans hble, fun b hb => (hkeep b (Nat.lt_of_lt_of_le hb M.nb) (by simp; omega)).trans (M.keep b hb), Nat.le_trans M.nb hnb, subHp_get hd,
                      fun j hj => by
                        obtain ⟨k1, k2⟩ := (without1_mem M.nodup j).1 hj
                        obtain ⟨k3, k4⟩ := M.free j k1
                        exact ⟨(hkeep _ k4 (by simp; exact k2)).trans k3, Nat.lt_of_lt_of_le k4 hnb⟩,
                      without1_nodup M.nodup, by simpa using M.sz, lst_set M.nodup M.lst⟩
                  exact ⟨M'.heapOk R, by rw [← hlen]; exact ih _ _ _ _ _ _ _ _ M' hh'⟩
                · rw [if_neg hd] at hh'; exact hh'.elim)
            split
            · rename_i hw; rw [if_pos hw] at this; exact .inl this
            · rename_i hw; rw [if_neg hw] at this; exact this
        · exact h.elim

theorem hget_without {bs : List Nat} : ∀ {l : List (Nat × AObj)}, ∀ b o, hget (without bs l) b = some o → hget l b = some o := by
  intro l b o
  have : ∀ l, hget (without bs l) b = if bs.contains b then none else hget l b := by
    intro l
    induction l with
    | nil => simp [without, hget]
    | cons p l ih =>
      obtain ⟨c, q⟩ := p
      simp only [without]
      by_cases hcb : c = b
      · subst hcb
        split
        · rename_i hc; rw [ih, if_pos hc]
        · rename_i hc; simp [hget, Nat.beq_eq]
      · have e : Nat.beq c b = false := by rw [Bool.eq_false_iff]; simp [Nat.beq_eq]; exact hcb
        split
        · rw [ih]; simp [hget, e]
        · simp only [hget, e, Bool.false_eq_true, if_false]; exact ih
  rw [this]
  split
  · intro h; cases h
  · exact id

theorem hget_holdOf {st : St} {ops : List Oper} : ∀ b o, hget (holdOf st ops) b = some o → hget st.hp b = some o := by
  intro b o h
  unfold holdOf at h
  split at h
  · exact hget_without b o h
  · simp [hget] at h

variable {δ : Type} {Ψ : Val → Again → δ → Prop}

/-- **A region, whatever its order.** -/
theorem xregion_sound {id : Nat} {draw : Bool} {st : St} {σ : Val} {β : Bmap} {Λ : Again} {a : Act} {w : World} {call : CallH δ} {callS : CallH St} {k : St → Tr δ} {Q : Exit → Act → World → Prop}
    (hm : D.P.follows .mixedOrders = true) (C : CallOk D B SP Ψ call) (CS : CallOk D B SP (fun τ M s => (k s).holds SP Ψ τ M) callS)
    (F : Fits D B σ β st a w) (R : RoOk D B σ) (h : (xregion D call callS ops draw st k).holds SP Ψ σ Λ)
    (hn : Done D B SP Ψ σ β Λ st k (Q .normal)) : (Code.region id ops draw).wp D.P Q a w := by
  unfold xregion at h
  cases draw with
  | false =>
    simp only [Bool.false_eq_true, if_false] at h
    exact wp_region_list (xops_sound C ops.toList σ β Λ st a w F R h hn)
  | true =>
    simp only [if_true] at h
    split at h
    · rename_i hok
      simp only [Bool.and_eq_true] at hok
      obtain ⟨⟨hsel, hpairs⟩, hfwd⟩ := hok
      have h' := Tr.holds_bind h
      have F1 : Fits D B σ β { st with nb := st.nb + ops.size } a { w with drawn := w.drawn + 1 } :=
        let F := F.world (w' := { w with drawn := w.drawn + 1 }) rfl
        { nn := F.nn, df := F.df, sz := F.sz, tm := F.tm, hp := F.hp, inj := F.inj, fresh := fun b hb => F.fresh b (by simp at hb; omega), bnd := F.bnd, pc := F.pc, grow := F.grow, env := F.env, fr := F.fr }
      have hset : ∀ b o, hget (holdOf st ops.toList) b = some o → hget st.hp b = some o := hget_holdOf
      have M : Mid D B ops σ β Λ st.nb (holdOf st ops.toList) (List.range ops.size) (Array.replicate ops.size false) σ β Λ { st with nb := st.nb + ops.size } a { w with drawn := w.drawn + 1 } :=
        { fits := F1, on := .refl _ _, ble := .refl _, keep := fun _ _ => rfl, nb := by simp, sub := hset,
          free := fun j hj => ⟨F.fresh _ (by omega), by simp at hj ⊢; omega⟩, nodup := List.nodup_range, sz := by simp,
          lst := fun j => by
            simp only [Array.getD_eq_getD_getElem?, List.mem_range]
            by_cases hlt : j < ops.size <;> simp [hlt] }
      have := xdraw_sound (Q := Q .normal) CS R (σ0 := σ) (β0 := β) (Λ0 := Λ) (ws := { w with drawn := w.drawn + 1 }) (hold := holdOf st ops.toList) (pc0 := st.pc) (nb0 := st.nb) (nv0 := st.nv) F.nn
        (fun b hb => by
          obtain ⟨o, ho⟩ := Option.isSome_iff_exists.1 hb
          obtain ⟨rb, h1, _⟩ := F.hp b o (hset b o ho)
          exact ⟨rb, h1⟩)
        (fun b o ho => F1.heapOk b o (hset b o ho)) (R.at F1) F.pc hsel hpairs hfwd
        (fun σ' β' Λ' st' a' w' hon hble hkeep hnb F' hh => hn _ _ _ _ _ _ hon hble hkeep hnb F' hh) _ _ _ _ _ _ _ _ _ M h'
      rw [List.length_range] at this
      exact Code.wp_mono (fun e a w q => by obtain ⟨rfl, q⟩ := q; exact q) (wp_region_held hm this)
    · exact h.elim

end
end Go.Proofs.Sx
