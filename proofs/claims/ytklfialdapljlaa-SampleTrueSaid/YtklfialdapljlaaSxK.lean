/- Operations that make or write memory, or call. -/
import Derived.Test.YtklfialdapljlaaSxJ
namespace Go.Proofs.Sx
open Go

section
variable {D : Ctx} {B : Base} {SP : Spec}

/-- Whoever carries out calls does so rightly. -/
def CallOk (D : Ctx) (B : Base) (SP : Spec) {γ : Type} (Φ : Val → Again → γ → Prop) (call : CallH γ) : Prop :=
  ∀ (g : FuncId) (args : List AV) (st : St) (k : AV → St → Tr γ) (σ : Val) (β : Bmap) (a : Act) (w : World) (Vs : List Value) (Λ : Again),
    Fits D B σ β st a w → AV.repL D B σ β args Vs → RoOk D B σ → (call g args st k).holds SP Φ σ Λ →
    ∀ (o : Oper) (next : Act → World → Prop) (Q : Exit → Act → World → Prop),
      (∀ σ' β' Λ' v V st' w', On σ Λ σ' Λ' → Ble β β' → (∀ b, b < st.nb → β' b = β b) → st.nb ≤ st'.nb → Fits D B σ' β' st' a w' → v.rep D B σ' β' V → (k v st').holds SP Φ σ' Λ' → next (a.put o.dst V) w') →
      o.upon D.P a next Q ((callFunc g Vs.toArray).run D.P w)

/-- where an operation leaves the state -/
structure Went (D : Ctx) (B : Base) (σ : Val) (β : Bmap) (Λ : Again) (st : St) (a : Act) (id : Option Nat) (σ' : Val) (β' : Bmap) (Λ' : Again) (st' : St) (w' : World) : Prop where
  on : On σ Λ σ' Λ'
  ble : Ble β β'
  keep : ∀ b, b < st.nb → some b ≠ id → β' b = β b
  nb : st.nb ≤ st'.nb
  fits : Fits D B σ' β' st' a w'

/-- the promise of an operation: whatever the state comes to, it is one that the rest is told of -/
def Tells {γ : Type} (D : Ctx) (B : Base) (SP : Spec) (Φ : Val → Again → γ → Prop) (σ : Val) (β : Bmap) (Λ : Again) (st : St) (a : Act) (id : Option Nat) (k : AV → St → Tr γ) (R : Value → World → Prop) : Prop :=
  ∀ σ' β' Λ' v V st' w', Went D B σ β Λ st a id σ' β' Λ' st' w' → v.rep D B σ' β' V → (k v st').holds SP Φ σ' Λ' → R V w'

variable {γ : Type} {Φ : Val → Again → γ → Prop}

theorem new_eq {st : St} {id : Option Nat} (h : ∀ i, id = some i → i < st.nb) (l : List AV) (t : TypeId) (sp : Option (IE × Nat)) :
    st.new id l t sp = (id.getD st.nb, { st with hp := hins st.hp (id.getD st.nb) { cs := l, ty := t, spare := sp }, nb := if id.getD st.nb = st.nb then st.nb + 1 else st.nb }) := by
  cases id with
  | none => simp [St.new]
  | some i => have := h i rfl; simp [St.new]; omega

theorem newL_eq {st : St} {id : Option Nat} (h : ∀ i, id = some i → i < st.nb) (L : IE) (ks : List CK) (t : TypeId) (sp : Option (IE × Nat)) :
    st.newL id L ks t sp = (id.getD st.nb, { st with hp := hins st.hp (id.getD st.nb) { cs := [], ty := t, spare := sp, lst := some (L, ks) }, nb := if id.getD st.nb = st.nb then st.nb + 1 else st.nb }) := by
  cases id with
  | none => simp [St.newL]
  | some i => have := h i rfl; simp [St.newL]; omega

theorem new_none {σ : Val} {β : Bmap} {st : St} {a : Act} {w : World} (F : Fits D B σ β st a w) {id : Option Nat} (h : ∀ i, id = some i → β i = none ∧ i < st.nb) : β (id.getD st.nb) = none ∧ id.getD st.nb ≤ st.nb := by
  cases id with
  | none => exact ⟨F.fresh _ (Nat.le_refl _), Nat.le_refl _⟩
  | some i => exact ⟨(h i rfl).1, Nat.le_of_lt (h i rfl).2⟩

theorem keep_upd {β : Bmap} {st : St} {id : Option Nat} {r : Nat} : ∀ b, b < st.nb → some b ≠ id → β.upd (id.getD st.nb) r b = β b := by
  intro b hb hne
  unfold Bmap.upd
  rw [if_neg]
  cases id with
  | none => simp; omega
  | some i => simp; exact fun e => hne (by rw [e])

/-- a new block's state -/
theorem went_alloc {σ : Val} {β : Bmap} {Λ : Again} {st : St} {a : Act} {w w' : World} (F : Fits D B σ β st a w) {id : Option Nat} (hid : ∀ i, id = some i → β i = none ∧ i < st.nb)
    {l : List AV} {Vs rest : List Value} {t : TypeId} {fz : Nat × Nat} {sp : Option (IE × Nat)} (hl : AV.repL D B σ β l Vs) (hs : SpareOk σ sp Vs rest) (hz : fz.2 = 0 ∨ (Vs ++ rest).length ≤ fz.1)
    (hw : w'.heap = w.heap.push (.cells (Vs ++ rest).toArray t fz)) (he : w'.os = w.os ∧ w'.output = w.output := by exact ⟨rfl, rfl⟩) :
    Went D B σ β Λ st a id σ (β.upd (id.getD st.nb) w.heap.size) Λ (st.new id l t sp).2 w' ∧ (st.new id l t sp).1 = id.getD st.nb := by
  obtain ⟨h1, h2⟩ := new_none F hid
  rw [new_eq (fun i hi => (hid i hi).2)]
  refine ⟨⟨.refl _ _, Ble.upd h1, keep_upd, ?_, F.alloc (ob := { cs := l, ty := t, spare := sp }) h1 h2 hl hs hz hw he⟩, rfl⟩
  dsimp only; split <;> omega

/-- a new list's state -/
theorem went_allocL {σ : Val} {β : Bmap} {Λ : Again} {st : St} {a : Act} {w w' : World} (F : Fits D B σ β st a w) {id : Option Nat} (hid : ∀ i, id = some i → β i = none ∧ i < st.nb)
    {L : IE} {ks : List CK} {rest : List Value} {t : TypeId} {fz : Nat × Nat} {sp : Option (IE × Nat)} (hL : L.ok σ.n = true) (hk : 0 < ks.length) (hm : (dec (L.ev σ)).length % ks.length = 0)
    (hs : SpareOk σ sp (lstVals ks (dec (L.ev σ))) rest) (hz : fz.2 = 0 ∨ (lstVals ks (dec (L.ev σ)) ++ rest).length ≤ fz.1)
    (hw : w'.heap = w.heap.push (.cells (lstVals ks (dec (L.ev σ)) ++ rest).toArray t fz)) (he : w'.os = w.os ∧ w'.output = w.output := by exact ⟨rfl, rfl⟩) :
    Went D B σ β Λ st a id σ (β.upd (id.getD st.nb) w.heap.size) Λ (st.newL id L ks t sp).2 w' ∧ (st.newL id L ks t sp).1 = id.getD st.nb := by
  obtain ⟨h1, h2⟩ := new_none F hid
  rw [newL_eq (fun i hi => (hid i hi).2)]
  refine ⟨⟨.refl _ _, Ble.upd h1, keep_upd, ?_, F.alloc (ob := { cs := [], ty := t, spare := sp, lst := some (L, ks) }) h1 h2 ⟨rfl, hL, hk, hm, rfl⟩ hs hz hw he⟩, rfl⟩
  dsimp only; split <;> omega

theorem fill_repl {σ : Val} {β : Bmap} {z : List AV} {Z : List Value} (h : AV.repL D B σ β z Z) : ∀ n, AV.repL D B σ β (repl n z) (repl n Z) := by
  intro n
  induction n with
  | zero => trivial
  | succ n ih => exact repL_append h ih

theorem range_repl (Z : Array Value) (n : Nat) (_hz : 0 < Z.size) : ((Array.range (n * Z.size)).map (Z[· % Z.size]!)).toList = repl n Z.toList := by
  induction n with
  | zero => simp [repl]
  | succ n ih =>
    have e : repl (n + 1) Z.toList = repl n Z.toList ++ Z.toList := by
      have : ∀ m, Z.toList ++ repl m Z.toList = repl m Z.toList ++ Z.toList := by
        intro m
        induction m with
        | zero => simp [repl]
        | succ m ihm => simp only [repl]; rw [List.append_assoc, ← ihm]
      simp only [repl]; exact this n
    rw [e, ← ih]
    apply List.ext_getElem?
    intro i
    have hl : ((Array.range (n * Z.size)).map (Z[· % Z.size]!)).toList.length = n * Z.size := by simp
    by_cases hi : i < n * Z.size
    · rw [List.getElem?_append_left (by rw [hl]; exact hi)]
      simp [Nat.add_mul, hi, Nat.lt_of_lt_of_le hi (Nat.le_add_right _ _)]
    · rw [List.getElem?_append_right (by rw [hl]; omega), hl]
      by_cases hi2 : i < (n + 1) * Z.size
      · have hlt : i - n * Z.size < Z.size := by rw [Nat.add_mul] at hi2; omega
        have hmod : i % Z.size = i - n * Z.size := by
          have : i = (i - n * Z.size) + n * Z.size := by omega
          rw [this, Nat.add_mul_mod_self_right, Nat.mod_eq_of_lt hlt]; omega
        simp [hi2, hmod, hlt, getElem!_pos]
      · rw [List.getElem?_eq_none (by simp; omega), List.getElem?_eq_none (by simp; rw [Nat.add_mul] at hi2; omega)]

theorem buildSliceA_sound {σ : Val} {β : Bmap} {t : TypeId} {len : Nat} {parts : List (Nat × AV)} {Parts : List (Nat × Value)} {e : TypeId} {l : List AV} (hP : PartsRep D B σ β parts Parts) (h : buildSliceA D.P t len parts = some (e, l)) (w : World) :
    ∃ Vs : List Value, AV.repL D B σ β l Vs ∧ (Instr.buildSlice t len Parts.toArray).run D.P w = .ok (.slice (some ⟨w.heap.size, 0, none⟩) len len) { w with heap := w.heap.push (.cells Vs.toArray e (0, 0)) } := by
  unfold buildSliceA at h
  split at h
  · rename_i elem hu
    split at h
    · rename_i n z hn hz
      split at h
      · rename_i hc
        simp only [Bool.and_eq_true, Nat.beq_eq, Nat.blt_eq, Nat.ble_eq] at hc
        obtain ⟨⟨h1, h2⟩, h3⟩ := hc
        simp only [Option.map_eq_some_iff, Prod.mk.injEq] at h
        obtain ⟨l', hl, rfl, rfl⟩ := h
        obtain ⟨Z, rfl, hZ⟩ := zeroA_some hz
        have hzc := ofVal_cells (D := D) (B := B) (σ := σ) (β := β) Z
        have hzl := repL_length hzc
        have hzs : Z.cells.size = n := by rw [← h1, hzl]; simp
        have hrep : AV.repL D B σ β (repl len (ofVal Z).cells) ((Array.range (len * n)).map (Z.cells[· % Z.cells.size]!)).toList := by
          rw [← hzs, range_repl _ _ (by omega)]
          exact fill_repl hzc len
        obtain ⟨R, hR, hRr⟩ := fillA_sound (place := fun i => some (i * n, n)) (fun i x hx => hx) _ _ _ _ _ hP hrep hl
        refine ⟨R.toList, hRr, ?_⟩
        have hbig : ¬ len * n > 2 ^ 24 := by omega
        by_cases hz0 : len * n = 0
        · have hlen : len = 0 := by
            rcases Nat.mul_eq_zero.1 hz0 with h | h
            · exact h
            · omega
          subst hlen
          simp only [Nat.zero_mul] at hR ⊢
          simp only [Instr.buildSlice, Sem.run_bind, run_underlying hu, Result.andThen_ok, run_sizeOf' hn, Nat.zero_mul, Sem.run_ite, Nat.not_lt_zero, gt_iff_lt, if_false, if_true, Sem.run_pure]
          have hR' : Instr.fill (fun i => some (i * n, n)) ((Array.range 0).map fun x => (#[] : Array Value)[x % (#[] : Array Value).size]!) Parts = some R := by
            have e0 : (Array.range 0).map (fun x => (#[] : Array Value)[x % (#[] : Array Value).size]!) = (Array.range 0).map (Z.cells[· % Z.cells.size]!) := by simp
            rw [e0]; exact hR
          simp only [hR', newRow, Sem.run_bind, run_newObj, Result.andThen_ok, Sem.run_pure]
        · simp only [Instr.buildSlice, Sem.run_bind, run_underlying hu, Result.andThen_ok, run_sizeOf' hn, Sem.run_ite, hbig, hz0, if_false, hZ, Sem.run_pure]
          simp only [hR, newRow, Sem.run_bind, run_newObj, Result.andThen_ok, Sem.run_pure]
      · cases h
    · cases h
  · cases h

end
/-! ### what is known on the way -/

def PcOk (σ : Val) (l : List (BE × Bool)) : Prop := ∀ c v, (c, v) ∈ l → c.ok σ.n = true ∧ c.ev σ = v

theorem pcget_sound {σ : Val} : ∀ {l : List (BE × Bool)} {c : BE} {b : Bool}, PcOk σ l → pcget l c = some b → c.ev σ = b := by
  intro l
  induction l with
  | nil => intro c b _ h; simp [pcget] at h
  | cons p l ih =>
    intro c b hl h
    obtain ⟨d, v⟩ := p
    simp only [pcget] at h
    split at h
    · rename_i hd
      simp only [Option.some.injEq] at h; subst h
      rw [← BE.beq_eq hd]
      exact (hl d v List.mem_cons_self).2
    · exact ih (fun c v hm => hl c v (List.mem_cons_of_mem _ hm)) h

theorem dec_sound {σ : Val} {st : St} (h : PcOk σ st.pc) : ∀ {c : BE} {b : Bool}, st.dec c = some b → c.ev σ = b := by
  intro c
  induction c with
  | lit v => intro b hb; simp only [St.dec, Option.some.injEq] at hb; exact hb
  | not c ih =>
    intro b hb
    simp only [St.dec] at hb
    split at hb
    · rename_i v hv
      simp only [Option.some.injEq] at hb; subst hb
      simp [BE.ev, ih hv]
    · cases hb
  | and x y ihx ihy =>
    intro b hb
    simp only [St.dec] at hb
    split at hb
    · rename_i hv; simp only [Option.some.injEq] at hb; subst hb; simp [BE.ev, ihx hv]
    · rename_i hv; simp [BE.ev, ihx hv, ihy hb]
    · split at hb
      · rename_i hv; simp only [Option.some.injEq] at hb; subst hb; simp [BE.ev, ihy hv]
      · cases hb
  | or x y ihx ihy =>
    intro b hb
    simp only [St.dec] at hb
    split at hb
    · rename_i hv; simp only [Option.some.injEq] at hb; subst hb; simp [BE.ev, ihx hv]
    · rename_i hv; simp [BE.ev, ihx hv, ihy hb]
    · split at hb
      · rename_i hv; simp only [Option.some.injEq] at hb; subst hb; simp [BE.ev, ihy hv]
      · cases hb
  | eq x y => intro b hb; exact pcget_sound h hb
  | lt x y => intro b hb; exact pcget_sound h hb
  | le x y => intro b hb; exact pcget_sound h hb
  | nz x => intro b hb; exact pcget_sound h hb
  | flt o k x y => intro b hb; exact pcget_sound h hb

theorem PcOk.cons {σ : Val} {l : List (BE × Bool)} {c : BE} {v : Bool} (h : PcOk σ l) (hc : c.ok σ.n = true) (hv : c.ev σ = v) : PcOk σ ((c, v) :: l) := by
  intro d u hm
  rcases List.mem_cons.1 hm with h' | h'
  · cases h'; exact ⟨hc, hv⟩
  · exact h d u h'

theorem pcadd_sound {σ : Val} : ∀ {c : BE} {v : Bool} {l : List (BE × Bool)}, PcOk σ l → c.ok σ.n = true → c.ev σ = v → PcOk σ (pcadd l c v) := by
  intro c
  induction c with
  | lit b => intro v l hl hc hv; exact hl.cons hc hv
  | eq x y => intro v l hl hc hv; exact hl.cons hc hv
  | nz x => intro v l hl hc hv; exact hl.cons hc hv
  | flt o k x y => intro v l hl hc hv; exact hl.cons hc hv
  | not c ih =>
    intro v l hl hc hv
    simp only [pcadd]
    exact ih hl hc (by simp only [BE.ev] at hv; rw [← hv]; simp)
  | and x y ihx ihy =>
    intro v l hl hc hv
    simp only [BE.ok, Bool.and_eq_true] at hc
    cases v with
    | true =>
      simp only [BE.ev, Bool.and_eq_true] at hv
      simp only [pcadd]
      exact ihy (ihx hl hc.1 hv.1) hc.2 hv.2
    | false => exact hl.cons (by simp [BE.ok, hc]) hv
  | or x y ihx ihy =>
    intro v l hl hc hv
    simp only [BE.ok, Bool.and_eq_true] at hc
    cases v with
    | false =>
      simp only [BE.ev, Bool.or_eq_false_iff] at hv
      simp only [pcadd]
      exact ihy (ihx hl hc.1 hv.1) hc.2 hv.2
    | true => exact hl.cons (by simp [BE.ok, hc]) hv
  | lt x y =>
    intro v l hl hc hv
    have hc' : (BE.le y x).ok σ.n = true := by simp only [BE.ok, Bool.and_eq_true] at *; exact ⟨hc.2, hc.1⟩
    cases v with
    | true =>
      refine (hl.cons hc' ?_).cons hc hv
      simp only [BE.ev, decide_eq_true_eq, decide_eq_false_iff_not] at *; omega
    | false =>
      refine (hl.cons hc' ?_).cons hc hv
      simp only [BE.ev, decide_eq_true_eq, decide_eq_false_iff_not] at *; omega
  | le x y =>
    intro v l hl hc hv
    have hc' : (BE.lt y x).ok σ.n = true := by simp only [BE.ok, Bool.and_eq_true] at *; exact ⟨hc.2, hc.1⟩
    simp only [pcadd]
    refine (hl.cons hc' ?_).cons hc hv
    simp only [BE.ev] at *
    cases v
    · simp only [decide_eq_false_iff_not, Bool.not_false, decide_eq_true_eq] at *; omega
    · simp only [decide_eq_true_eq, Bool.not_true, decide_eq_false_iff_not] at *; omega

section
variable {D : Ctx} {B : Base} {SP : Spec} {γ : Type} {Φ : Val → Again → γ → Prop}
variable {σ : Val} {β : Bmap} {Λ : Again} {st : St} {a : Act} {w : World}

theorem Fits.withPc (F : Fits D B σ β st a w) {pc : List (BE × Bool)} (h : PcOk σ pc) : Fits D B σ β { st with pc := pc } a w :=
  { nn := F.nn, df := F.df, sz := F.sz, tm := F.tm, hp := F.hp, inj := F.inj, fresh := F.fresh, bnd := F.bnd, pc := h, grow := F.grow, env := F.env, fr := F.fr }

theorem split_sound {c : BE} {kt ke : St → Tr γ} (h : (st.split c kt ke).holds SP Φ σ Λ) (hc : c.ok σ.n = true) (F : Fits D B σ β st a w) :
    (c.ev σ = true ∧ ∃ pc, PcOk σ pc ∧ (kt { st with pc := pc }).holds SP Φ σ Λ) ∨ (c.ev σ = false ∧ ∃ pc, PcOk σ pc ∧ (ke { st with pc := pc }).holds SP Φ σ Λ) := by
  unfold St.split at h
  split at h
  · rename_i hd; exact .inl ⟨dec_sound F.pc hd, st.pc, F.pc, h⟩
  · rename_i hd; exact .inr ⟨dec_sound F.pc hd, st.pc, F.pc, h⟩
  · cases hv : c.ev σ with
    | true => exact .inl ⟨rfl, _, pcadd_sound F.pc hc hv, h.1 hv⟩
    | false => exact .inr ⟨rfl, _, pcadd_sound F.pc hc hv, h.2 hv⟩

theorem PT.run_sound {α : Type} : ∀ {p : PT α} {st : St} {k : α → St → Tr γ}, (p.run st k).holds SP Φ σ Λ → p.okc σ.n = true → Fits D B σ β st a w →
    ∃ x pc, p.pick σ = some x ∧ PcOk σ pc ∧ (k x { st with pc := pc }).holds SP Φ σ Λ := by
  intro p
  induction p with
  | ret x => intro st k h _ F; exact ⟨x, st.pc, rfl, F.pc, h⟩
  | br c t e iht ihe =>
    intro st k h ho F
    simp only [PT.okc, Bool.and_eq_true] at ho
    simp only [PT.run] at h
    rcases split_sound h ho.1.1 F with ⟨hc, pc, hpc, h'⟩ | ⟨hc, pc, hpc, h'⟩
    · obtain ⟨x, pc', h1, h2, h3⟩ := iht h' ho.1.2 (F.withPc hpc)
      exact ⟨x, pc', by simp [PT.pick, hc, h1], h2, h3⟩
    · obtain ⟨x, pc', h1, h2, h3⟩ := ihe h' ho.2 (F.withPc hpc)
      exact ⟨x, pc', by simp [PT.pick, hc, h1], h2, h3⟩
  | fail n => intro st k h _ _; exact h.elim


theorem Fits.pcFor (F : Fits D B σ β st a w) (p : AV) : PcFor σ st p := fun _ _ _ _ _ _ _ _ _ h => pcget_sound F.pc h

theorem Went.withPc {id : Option Nat} {σ' : Val} {β' : Bmap} {Λ' : Again} {st' : St} {w' : World} {pc : List (BE × Bool)} (h : Went D B σ β Λ { st with pc := pc } a id σ' β' Λ' st' w') : Went D B σ β Λ st a id σ' β' Λ' st' w' :=
  ⟨h.on, h.ble, h.keep, h.nb, h.fits⟩

end
end Go.Proofs.Sx
