/- Operations that make or write memory, or call: 'iop_sound'. -/
import Derived.Test.YtklfialdapljlaaSxK
namespace Go.Proofs.Sx
open Go

theorem lput_left {α : Type} : ∀ (new l r : List α) (o : Nat), o + new.length ≤ l.length → lput (l ++ r) o new = lput l o new ++ r := by
  intro new
  induction new with
  | nil => intro l r o _; rfl
  | cons y new ih =>
    intro l r o hlen
    simp only [List.length_cons] at hlen
    simp only [lput, lset_eq]
    rw [List.set_append_left _ _ (by omega), ih _ _ _ (by simp; omega)]

theorem lput_get {α : Type} : ∀ (new l : List α) (o i : Nat), (lput l o new)[i]? = if o ≤ i ∧ i < o + new.length ∧ i < l.length then new[i - o]? else l[i]? := by
  intro new
  induction new with
  | nil => intro l o i; simp only [lput, List.length_nil]; rw [if_neg (by omega)]
  | cons x new ih =>
    intro l o i
    simp only [lput, ih, lset_eq, List.length_set, List.length_cons]
    by_cases h : o + 1 ≤ i ∧ i < o + 1 + new.length ∧ i < l.length
    · rw [if_pos h, if_pos (by omega)]
      have : i - o = (i - (o + 1)) + 1 := by omega
      rw [this, List.getElem?_cons_succ]
    · rw [if_neg h]
      by_cases h2 : i = o
      · subst h2
        by_cases h3 : i < l.length
        · rw [if_pos (by omega)]; simp [h3]
        · rw [if_neg (by omega), List.getElem?_eq_none (by simp; omega), List.getElem?_eq_none (by omega)]
      · rw [List.getElem?_set_ne (by omega)]
        by_cases h3 : o ≤ i ∧ i < o + (new.length + 1) ∧ i < l.length
        · omega
        · rw [if_neg h3]


/-! ## Lists of numbers -/

/-- the kind of the 'q'th cell, behind those of 'r' those of 'ks' over and over -/
def kindAt (ks r : List CK) (q : Nat) : CK := if q < r.length then (r[q]?).getD .bool else kAt ks (q - r.length)

theorem ckVal_one (k : CK) (x : Int) : (ckVal k x).oneCell' = true := by cases k <;> rfl

theorem kbeq_rfl {k l : IntKind} (h : kbeq k l = true) : k = l := (kbeq_iff k l).1 h

theorem cksbeq_eq : ∀ {a b : List CK}, cksbeq a b = true → a = b := by
  intro a
  induction a with
  | nil => intro b h; cases b <;> simp [cksbeq] at h; rfl
  | cons x a ih =>
    intro b h
    cases b with
    | nil => simp [cksbeq] at h
    | cons y b =>
      simp only [cksbeq, Bool.and_eq_true] at h
      rw [ih h.2]
      have : x = y := by
        have h1 := h.1
        cases x <;> cases y <;> simp [ckbeq, kbeq_iff, fbeq_iff, ibeq_iff] at h1 <;> simp [h1]
      rw [this]

section
variable {D : Ctx} {B : Base} {σ : Val} {β : Bmap}

theorem numsA_sound {ks : List CK} : ∀ (vs : List AV) (r : List CK) (es : List IE) (Vs : List Value), numsA ks r vs = some es → AV.repL D B σ β vs Vs →
    es.length = vs.length ∧ (∀ e ∈ es, IE.ok σ.n e = true) ∧ ∀ q, Vs[q]? = (es[q]?).map fun e => ckVal (kindAt ks r q) (e.ev σ) := by
  intro vs
  induction vs with
  | nil =>
    intro r es Vs h hv
    cases Vs with
    | cons _ _ => simp [AV.repL] at hv
    | nil =>
      have : es = [] := by cases r <;> simp [numsA] at h <;> exact h
      subst this
      exact ⟨rfl, (fun e he => absurd he (by simp)), fun q => by simp⟩
  | cons v vs ih =>
    intro r es Vs h hv
    cases Vs with
    | nil => simp [AV.repL] at hv
    | cons V Vs =>
      simp only [AV.repL] at hv
      have step : ∀ (k : CK) (r' : List CK) (e : IE) (es' : List IE), numsA ks r' vs = some es' → IE.ok σ.n e = true → V = ckVal k (e.ev σ) → es = e :: es' → kindAt ks r 0 = k → (∀ q, kindAt ks r (q + 1) = kindAt ks r' q) →
          es.length = (v :: vs).length ∧ (∀ e ∈ es, IE.ok σ.n e = true) ∧ ∀ q, (V :: Vs)[q]? = (es[q]?).map fun e => ckVal (kindAt ks r q) (e.ev σ) := by
        intro k r' e es' h1 h2 h3 h4 h5 h6
        obtain ⟨g1, g2, g3⟩ := ih r' es' Vs h1 hv.2
        subst h4
        refine ⟨by simp [g1], fun x hx => ?_, fun q => ?_⟩
        · rcases List.mem_cons.1 hx with rfl | hx
          · exact h2
          · exact g2 x hx
        · cases q with
          | zero => simp [h5, h3]
          | succ q => simp only [List.getElem?_cons_succ, h6, g3 q]
      have kcons : ∀ (k : CK) (r' : List CK), r = k :: r' → kindAt ks r 0 = k ∧ ∀ q, kindAt ks r (q + 1) = kindAt ks r' q := by
        intro k r' e; subst e
        refine ⟨by simp [kindAt], fun q => ?_⟩
        simp only [kindAt, List.length_cons, Nat.add_lt_add_iff_right, List.getElem?_cons_succ]
        have : q + 1 - (r'.length + 1) = q - r'.length := by omega
        rw [this]
      have knil : ∀ (k : CK) (r' : List CK), r = [] → ks = k :: r' → kindAt ks r 0 = k ∧ ∀ q, kindAt ks r (q + 1) = kindAt ks r' q := by
        intro k r' e e'; subst e; subst e'
        refine ⟨by simp [kindAt, kAt], fun q => ?_⟩
        simp only [kindAt, List.length_nil, Nat.not_lt_zero, if_false, Nat.sub_zero]
        split
        · rename_i hq
          simp only [kAt, List.length_cons]
          rw [Nat.mod_eq_of_lt (by omega), List.getElem?_cons_succ]
        · rename_i hq
          simp only [kAt, List.length_cons]
          have e : q + 1 = (q - r'.length) + (r'.length + 1) := by omega
          rw [e, Nat.add_mod_right]
      unfold numsA at h
      split at h
      · rename_i hh; cases hh
      · rename_i v' vs' hh
        simp only [List.cons.injEq] at hh
        obtain ⟨rfl, rfl⟩ := hh
        split at h
        · rename_i k r' k' e
          split at h
          · rename_i hk
            have := kbeq_rfl hk; subst this
            simp only [Option.map_eq_some_iff] at h
            obtain ⟨es', h1, h2⟩ := h
            have hv1 := hv.1
            simp only [AV.rep] at hv1
            obtain ⟨g1, g2⟩ := knil _ _ rfl rfl
            exact step (.int _) _ e es' h1 hv1.1 hv1.2 h2.symm g1 g2
          · cases h
        · rename_i k r' k' e
          split at h
          · rename_i hk
            have := (fbeq_iff _ _).1 hk; subst this
            simp only [Option.map_eq_some_iff] at h
            obtain ⟨es', h1, h2⟩ := h
            have hv1 := hv.1
            simp only [AV.rep] at hv1
            obtain ⟨g1, g2⟩ := knil _ _ rfl rfl
            exact step (.flt _) _ e es' h1 hv1.1 hv1.2 h2.symm g1 g2
          · cases h
        · cases h
      · rename_i k r' k' e vs' hh
        simp only [List.cons.injEq] at hh
        obtain ⟨rfl, rfl⟩ := hh
        split at h
        · rename_i hk
          have := kbeq_rfl hk; subst this
          simp only [Option.map_eq_some_iff] at h
          obtain ⟨es', h1, h2⟩ := h
          have hv1 := hv.1
          simp only [AV.rep] at hv1
          obtain ⟨g1, g2⟩ := kcons _ _ rfl
          exact step (.int _) _ e es' h1 hv1.1 hv1.2 h2.symm g1 g2
        · cases h
      · rename_i k r' k' e vs' hh
        simp only [List.cons.injEq] at hh
        obtain ⟨rfl, rfl⟩ := hh
        split at h
        · rename_i hk
          have := (fbeq_iff _ _).1 hk; subst this
          simp only [Option.map_eq_some_iff] at h
          obtain ⟨es', h1, h2⟩ := h
          have hv1 := hv.1
          simp only [AV.rep] at hv1
          obtain ⟨g1, g2⟩ := kcons _ _ rfl
          exact step (.flt _) _ e es' h1 hv1.1 hv1.2 h2.symm g1 g2
        · cases h
      · cases h

theorem setsL_ok {n m : Nat} {a : IE} (ha : a.ok n = true) : ∀ {es : List IE} {L : IE} {j : Nat}, L.ok n = true → (∀ e ∈ es, IE.ok n e = true) → (setsL L m a j es).ok n = true := by
  intro es
  induction es with
  | nil => intro L j h _; exact h
  | cons e es ih =>
    intro L j h he
    simp only [setsL]
    exact ih (by simp [IE.ok, h, ha, he e List.mem_cons_self]) fun x hx => he x (List.mem_cons_of_mem _ hx)

theorem setsL_ev {m i : Nat} {a : IE} (ha : a.ev σ = (i : Int)) : ∀ {es : List IE} {L : IE} {j : Nat}, dec ((setsL L m a j es).ev σ) = lput (dec (L.ev σ)) (i * m + j) (es.map (·.ev σ)) := by
  intro es
  induction es with
  | nil => intro L j; rfl
  | cons e es ih =>
    intro L j
    simp only [setsL, ih, IE.ev, dec_lst, ha, Int.toNat_natCast, List.map_cons, lput, lset_eq, Nat.add_assoc]

theorem consL_ok {n : Nat} : ∀ {es : List IE}, (∀ e ∈ es, IE.ok n e = true) → (consL es).ok n = true := by
  intro es
  induction es with
  | nil => intro _; rfl
  | cons e es ih =>
    intro h
    have h1 := h e List.mem_cons_self
    have h2 := ih fun x hx => h x (List.mem_cons_of_mem _ hx)
    cases es with
    | nil => exact h1
    | cons f es => simp [consL, IE.ok, h1] at *; exact h2

theorem consL_ev : ∀ (es : List IE), dec ((consL es).ev σ) = es.map (·.ev σ) := by
  intro es
  induction es with
  | nil => simp [consL, IE.ev]
  | cons e es ih =>
    cases es with
    | nil => simp [consL, IE.ev]
    | cons f es => simp only [consL, IE.ev, dec_lst, ih, List.map_cons, List.singleton_append]

/-- a list's cells, as cells of its numbers -/
theorem lstVals_of {ks : List CK} {es : List IE} {Vs : List Value} (h : ∀ q : Nat, Vs[q]? = (es[q]?).map fun e => ckVal (kindAt ks ks q) (e.ev σ)) : Vs = lstVals ks (es.map (·.ev σ)) := by
  apply List.ext_getElem?
  intro q
  rw [h q, lstVals_get, List.getElem?_map, Option.map_map]
  congr 1
  funext e
  simp only [Function.comp]
  congr 1
  simp only [kindAt]
  split
  · rename_i hq; simp only [kAt, Nat.mod_eq_of_lt hq]
  · rename_i hq
    simp only [kAt]
    have e : q % ks.length = (q - ks.length) % ks.length := by
      have : q = (q - ks.length) + ks.length := by omega
      rw [this, Nat.add_mod_right]; simp
    rw [e]
end

section
variable {D : Ctx} {B : Base} {SP : Spec} {γ : Type} {Φ : Val → Again → γ → Prop}

/-- what an operation is asked: its value, its world -/
def Told (_ : Ctx) (a : Act) (ox : Oper) (next : Act → World → Prop) (V : Value) (w' : World) : Prop := next (a.put ox.dst V) w'

theorem wp_value {ox : Oper} {a : Act} {w w' : World} {V : Value} {next : Act → World → Prop} {Q : Exit → Act → World → Prop} (h : (execOp a.eval ox).run D.P w = .ok (.value V) w') (hn : next (a.put ox.dst V) w') :
    ox.wp D.P a w next Q := by
  unfold Oper.wp; rw [h]; exact hn

theorem wp_skip {ox : Oper} {a : Act} {w w' : World} {next : Act → World → Prop} {Q : Exit → Act → World → Prop} (h : (execOp a.eval ox).run D.P w = .ok .skip w') (hn : next (a.put ox.dst undef) w') :
    ox.wp D.P a w next Q := by
  unfold Oper.wp; rw [h]; exact hn

theorem undefA_rep {σ : Val} {β : Bmap} : undefA.rep D B σ β undef := ⟨[], rfl, trivial⟩

theorem ptr_new {β : Bmap} {σ : Val} (id r : Nat) : (AV.ptr id 0).rep D B σ (β.upd id r) (.pointer (some ⟨r, 0, none⟩)) := ⟨r, by simp [Bmap.upd], rfl⟩

theorem sl_new {β : Bmap} {σ : Val} (id r n c : Nat) (h : n ≤ c) : (AV.sl id 0 (.lit (Int.ofNat n)) (.lit (Int.ofNat c))).rep D B σ (β.upd id r) (.slice (some ⟨r, 0, none⟩) n c) :=
  ⟨rfl, rfl, n, c, _, rfl, rfl, rfl, h, .inr ⟨r, by simp [Bmap.upd], rfl⟩⟩

section
variable {σ : Val} {β : Bmap} {Λ : Again} {st : St} {a : Act} {w : World} {id : Option Nat} {k : AV → St → Tr γ} {ox : Oper} {next : Act → World → Prop} {Q : Exit → Act → World → Prop}

theorem iop_alloc (F : Fits D B σ β st a w) (hid : ∀ i, id = some i → β i = none ∧ i < st.nb) {t : TypeId} (ho : ox.op = .alloc t) {call : CallH γ} (h : (iop D call id (.alloc t) st k).holds SP Φ σ Λ)
    (hn : Tells D B SP Φ σ β Λ st a id k (Told D a ox next)) : ox.wp D.P a w next Q := by
  unfold iop at h
  dsimp only at h
  split at h
  · rename_i z hz
    obtain ⟨Z, rfl, hZ⟩ := zeroA_some hz
    have hw := went_alloc (Λ := Λ) (w' := { w with heap := w.heap.push (.cells Z.cells t (0, 0)) }) (t := t) (fz := (0, 0)) (rest := []) (sp := none) F hid (ofVal_cells Z) rfl (.inl rfl) (by simp)
    have hrep := ptr_new (D := D) (B := B) (β := β) (σ := σ) (id.getD st.nb) w.heap.size
    refine wp_value (V := .pointer (some ⟨w.heap.size, 0, none⟩)) ?_ (hn _ _ _ _ _ _ _ hw.1 (by rw [hw.2]; exact hrep) h)
    simp [execOp, ho, Instr.alloc, hZ, newVar, newRow]
  · exact h.elim

theorem iop_box (E : EvOk D B σ β st a) (F : Fits D B σ β st a w) (hid : ∀ i, id = some i → β i = none ∧ i < st.nb) {t : TypeId} {x : Operand} (ho : ox.op = .box t x) {call : CallH γ} (h : (iop D call id (.box t x) st k).holds SP Φ σ Λ)
    (hn : Tells D B SP Φ σ β Λ st a id k (Told D a ox next)) : ox.wp D.P a w next Q := by
  unfold iop at h
  dsimp only at h
  split at h
  · rename_i hk
    have hc := cells_rep (E x) hk
    have hw := went_alloc (Λ := Λ) (w' := { w with heap := w.heap.push (.cells (a.eval x).cells t (0, 0)) }) (t := t) (fz := (0, 0)) (rest := []) (sp := none) F hid hc rfl (.inl rfl) (by simp)
    have hrep := ptr_new (D := D) (B := B) (β := β) (σ := σ) (id.getD st.nb) w.heap.size
    refine wp_value (V := .pointer (some ⟨w.heap.size, 0, none⟩)) ?_ (hn _ _ _ _ _ _ _ hw.1 (by rw [hw.2]; exact hrep) h)
    simp [execOp, ho, Instr.box, newVar, newRow]
  · exact h.elim

theorem iop_buildSlice (E : EvOk D B σ β st a) (F : Fits D B σ β st a w) (hid : ∀ i, id = some i → β i = none ∧ i < st.nb) {t : TypeId} {len : Nat} {parts : Array (Nat × Operand)} (ho : ox.op = .buildSlice t len parts) {call : CallH γ}
    (h : (iop D call id (.buildSlice t len parts) st k).holds SP Φ σ Λ) (hn : Tells D B SP Φ σ β Λ st a id k (Told D a ox next)) : ox.wp D.P a w next Q := by
  unfold iop at h
  dsimp only at h
  split at h
  · rename_i e l hl
    obtain ⟨Vs, h1, h2⟩ := buildSliceA_sound (PartsRep.of E parts.toList) hl w
    have hw := went_alloc (Λ := Λ) (w' := { w with heap := w.heap.push (.cells Vs.toArray e (0, 0)) }) (t := e) (fz := (0, 0)) (rest := []) (sp := none) F hid h1 rfl (.inl rfl) (by simp)
    have hrep := sl_new (D := D) (B := B) (β := β) (σ := σ) (id.getD st.nb) w.heap.size len len (Nat.le_refl _)
    refine wp_value (V := .slice (some ⟨w.heap.size, 0, none⟩) len len) ?_ (hn _ _ _ _ _ _ _ hw.1 (by rw [hw.2]; exact hrep) h)
    have e2 : (parts.map fun (i, x) => (i, a.eval x)) = (parts.toList.map fun (i, x) => (i, a.eval x)).toArray := map_arr _ _
    simp only [execOp, ho, e2, Sem.run_bind, h2, Result.andThen_ok, Sem.run_pure]
  · exact h.elim

theorem hget_nb {b : Nat} {o : AObj} (F : Fits D B σ β st a w) (h : hget st.hp b = some o) : b < st.nb := by
  obtain ⟨rb, h1, _⟩ := F.hp b o h
  by_cases hb : b < st.nb
  · exact hb
  · rw [F.fresh b (by omega)] at h1; cases h1

theorem Went.same {st' : St} {w' : World} (h : Fits D B σ β st' a w') (hnb : st'.nb = st.nb) : Went D B σ β Λ st a id σ β Λ st' w' :=
  ⟨.refl _ _, .refl _, fun _ _ _ => rfl, by omega, h⟩

theorem iop_store (E : EvOk D B σ β st a) (F : Fits D B σ β st a w) {t : TypeId} {p x : Operand} (ho : ox.op = .store t p x) {call : CallH γ}
    (h : (iop D call id (.store t p x) st k).holds SP Φ σ Λ) (hn : Tells D B SP Φ σ β Λ st a id k (Told D a ox next)) : ox.wp D.P a w next Q := by
  unfold iop at h
  dsimp only at h
  split at h
  · rename_i b m e j hb
    split at h
    · rename_i o L ks n hg hs
      obtain ⟨hg, hlst⟩ := hgetl_some hg
      split at h
      · rename_i ks' hks
        split at h
        · rename_i es hes
          split at h
          · rename_i hc
            simp only [Bool.and_eq_true, Nat.beq_eq, Nat.blt_eq, yes_iff] at hc
            obtain ⟨⟨⟨rfl, h1⟩, h0⟩, h2⟩ := hc
            have hp := E p
            rw [hb] at hp
            simp only [AV.rep] at hp
            obtain ⟨he, rb, i, hrb, hi, hp⟩ := hp
            obtain ⟨rb', g1, ⟨Vs, rest, fz, g2, g3, g4, g5⟩, g6⟩ := F.hp b o hg
            rw [hrb] at g1; cases g1
            obtain ⟨hcs, hLok, hm0, hdiv, rfl⟩ := g3.some hlst
            have hlt := pcget_sound F.pc h2
            rw [ev_mkLt, cntL_ev, hi] at hlt
            have hlt := of_decide_eq_true hlt
            have hmul : (i + 1) * ks.length ≤ (dec (L.ev σ)).length := by
              have h9 : i + 1 ≤ (dec (L.ev σ)).length / ks.length := by omega
              exact Nat.le_trans (Nat.mul_le_mul_right _ h9) (Nat.div_mul_le_self _ _)
            have hmul' : i * ks.length + ks.length ≤ (dec (L.ev σ)).length := by rw [Nat.add_mul, Nat.one_mul] at hmul; exact hmul
            have hk : known (st.ev x) = true := by
              cases hx : st.ev x <;> first | rfl | (rw [hx] at hes; cases ks' <;> simp [AV.cells, numsA] at hes)
            have hcr := cells_rep (E x) hk
            obtain ⟨e1, e2, e3⟩ := numsA_sound _ _ _ _ hes hcr
            have hcl := repL_length hcr
            obtain ⟨g7, g8⟩ := lsub_eq hks
            have hkl : ks'.length = n := by rw [g7]; simp; omega
            have hone : ∀ v ∈ (a.eval x).cells.toList, v.oneCell' = true := fun v hv => by
              obtain ⟨q, hq⟩ := List.getElem?_of_mem hv
              rw [e3 q] at hq
              cases hes' : es[q]? with
              | none => rw [hes'] at hq; cases hq
              | some y => rw [hes'] at hq; simp only [Option.map_some, Option.some.injEq] at hq; rw [← hq]; exact ckVal_one _ _
            obtain ⟨w', r1, r2⟩ := run_storeCells (P := D.P) (rb := rb) (off := i * ks.length + j) (t := o.ty) (fz := fz) (a.eval x).cells.toList 0 (lstVals ks (dec (L.ev σ)) ++ rest) w g2
              (by simp only [List.length_append, lstVals_length]; omega) hone g5
            rw [Nat.add_zero, lput_left _ _ _ _ (by rw [lstVals_length]; omega)] at r2
            have hput : lput (lstVals ks (dec (L.ev σ))) (i * ks.length + j) (a.eval x).cells.toList = lstVals ks (dec ((setsL L ks.length e j es).ev σ)) := by
              rw [setsL_ev hi]
              apply List.ext_getElem?
              intro q
              simp only [lput_get, lstVals_get, lstVals_length, List.length_map]
              have hel : es.length = (a.eval x).cells.toList.length := by omega
              by_cases hq : i * ks.length + j ≤ q ∧ q < i * ks.length + j + (a.eval x).cells.toList.length ∧ q < (dec (L.ev σ)).length
              · rw [if_pos hq, if_pos (by omega), e3, List.getElem?_map, Option.map_map]
                congr 1
                funext y
                simp only [Function.comp]
                congr 1
                simp only [kindAt]
                rw [if_pos (by omega)]
                have hq' : q = i * ks.length + (j + (q - (i * ks.length + j))) := by omega
                have hjq : j + (q - (i * ks.length + j)) < ks.length := by omega
                rw [hq', kAt_mul hjq, g7, List.getElem?_take, if_pos (by omega), List.getElem?_drop]
                have : j + (i * ks.length + (j + (q - (i * ks.length + j))) - (i * ks.length + j)) = j + (q - (i * ks.length + j)) := by omega
                rw [this, List.getElem?_eq_getElem hjq]; rfl
              · rw [if_neg hq, if_neg (by omega)]
            rw [hput] at r2
            have hlen : (dec ((setsL L ks.length e j es).ev σ)).length = (dec (L.ev σ)).length := by rw [setsL_ev hi, lput_length]
            have hs2 : SpareOk σ o.spare (lstVals ks (dec ((setsL L ks.length e j es).ev σ))) rest := by
              unfold SpareOk at *
              split
              · rename_i e'; rw [e'] at g4; exact g4
              · rename_i e' z e''; rw [e''] at g4; exact ⟨g4.1, by simp only [List.length_append, lstVals_length, hlen] at *; exact g4.2⟩
            have F' := F.upd (o' := { o with lst := some (setsL L ks.length e j es, ks) }) hg hrb ⟨hcs, setsL_ok he hLok e2, hm0, by rw [hlen]; exact hdiv, rfl⟩ hs2
              (by simp only [List.length_append, lstVals_length, hlen] at *; exact g5) r2
            refine wp_skip ?_ (hn _ _ _ _ _ _ _ (Went.same F' rfl) undefA_rep h)
            have hsz : (a.eval x).cells.size = n := by rw [← h1, e1, hcl]; simp
            simp [execOp, ho, Instr.storeAt, hp, Instr.sureAddr, storeVar, run_sizeOf' hs, hsz, r1]
          · exact h.elim
        · exact h.elim
      · exact h.elim
    · exact h.elim
  · rename_i b off hb
    split at h
    · rename_i o n hg hs
      obtain ⟨hg, hlst⟩ := hgetc_some hg
      split at h
      · rename_i hc
        simp only [Bool.and_eq_true, Nat.beq_eq, Nat.ble_eq] at hc
        obtain ⟨⟨h1, h2⟩, h3⟩ := hc
        have hp := E p
        rw [hb] at hp
        simp only [AV.rep] at hp
        obtain ⟨rb, hrb, hp⟩ := hp
        obtain ⟨rb', g1, ⟨Vs, rest, fz, g2, g3, g4, g5⟩, g6⟩ := F.hp b o hg
        have g3 := g3.none hlst
        rw [hrb] at g1; cases g1
        have hk : known (st.ev x) = true := by
          cases hx : st.ev x <;> first | rfl | (rw [hx] at h3; simp [AV.cells, flatL, flatA] at h3)
        have hcr := cells_rep (E x) hk
        have hcl := repL_length hcr
        have hvl := repL_length g3
        obtain ⟨w', r1, r2⟩ := run_storeCells (P := D.P) (rb := rb) (off := off) (t := o.ty) (fz := fz) (a.eval x).cells.toList 0 (Vs ++ rest) w g2 (by simp only [List.length_append]; omega) (flatL_one hcr h3) g5
        have hput : lput (Vs ++ rest) (off + 0) (a.eval x).cells.toList = lput Vs off (a.eval x).cells.toList ++ rest := by
          have key : ∀ (new : List Value) (l r : List Value) (o : Nat), o + new.length ≤ l.length → lput (l ++ r) o new = lput l o new ++ r := by
            intro new
            induction new with
            | nil => intro l r o _; rfl
            | cons y new ih =>
              intro l r o hlen
              simp only [List.length_cons] at hlen
              simp only [lput, lset_eq]
              rw [List.set_append_left _ _ (by omega), ih _ _ _ (by simp; omega)]
          exact key _ _ _ _ (by omega)
        rw [hput] at r2
        have hs2 : SpareOk σ o.spare (lput Vs off (a.eval x).cells.toList) rest := by
          unfold SpareOk at *
          split
          · rename_i e; rw [e] at g4; exact g4
          · rename_i e z e'; rw [e'] at g4; exact ⟨g4.1, by simp only [List.length_append, lput_length] at *; exact g4.2⟩
        have F' := F.upd (o' := { o with cs := lput o.cs off (st.ev x).cells }) hg hrb (by unfold ContRep; simp only [hlst]; exact repL_put off g3 hcr) hs2 (by simp only [List.length_append, lput_length] at *; exact g5) r2
        refine wp_skip ?_ (hn _ _ _ _ _ _ _ (Went.same F' rfl) undefA_rep h)
        have hsz : (a.eval x).cells.size = n := by rw [← h1, hcl]; simp
        simp [execOp, ho, Instr.storeAt, hp, Instr.sureAddr, storeVar, run_sizeOf' hs, hsz, r1]
      · exact h.elim
    · exact h.elim
  · exact h.elim

theorem makeSlice_run {P : Program} {t e : TypeId} {ie : TypeInfo} {Z : Value} {kl kc : IntKind} {n m : Nat} (hu : P.underlying t = some (.slice e)) (hi : P.info? e = some ie) (hZ : ∀ w, (zeroValue e).run P w = .ok Z w)
    (hzs : Z.cells.size = ie.size) (h1 : n ≤ m) (h2 : m ≤ 1000000) (h4 : 0 < ie.size) (h5 : ie.bytes ≤ 100000) (w : World) :
    (Instr.makeSlice t (.int kl n) (.int kc m)).run P w = .ok (.slice (some ⟨w.heap.size, 0, none⟩) n m) { w with heap := w.heap.push (.cells (repl m Z.cells.toList).toArray e (0, 0)) } := by
  have hwn : IntKind.i64.wrap (n : Int) = n := by simp [IntKind.wrap, IntKind.signed, IntKind.bits]; omega
  have hwm : IntKind.i64.wrap (m : Int) = m := by simp [IntKind.wrap, IntKind.signed, IntKind.bits]; omega
  have hb : (ie.bytes : Int) * (m : Int) ≤ 100000 * 1000000 := by
    have := Nat.mul_le_mul h5 h2
    have e : ((ie.bytes * m : Nat) : Int) ≤ ((100000 * 1000000 : Nat) : Int) := by omega
    simpa using e
  have c1 : ¬ ((m : Int) < 0) := by omega
  have c2 : ¬ ((ie.bytes : Int) * (m : Int) > 2 ^ 48) := by omega
  have c3 : ¬ ((n : Int) < 0) := by omega
  have c4 : ¬ ((n : Int) > (m : Int)) := by omega
  simp only [Instr.makeSlice, Sem.run_bind, run_underlying hu, Result.andThen_ok, asInt, asIntOf, Sem.run_pure, typeInfo, run_program, hi, hwn, hwm, c1, c2, c3, c4, decide_false, Bool.or_self, Bool.false_eq_true, if_false, sizeOf, run_askRoom, Int.toNat_natCast]
  by_cases hz0 : m * ie.size = 0
  · have hm0 : m = 0 := by
      rcases Nat.mul_eq_zero.1 hz0 with h | h
      · exact h
      · omega
    subst hm0
    have e0 : ∀ f : Nat → Value, (Array.range 0).map f = #[] := fun f => by apply Array.toList_inj.1; simp
    simp [newRow, repl, e0]
  · simp only [hz0, if_false, Sem.run_bind, hZ, Result.andThen_ok, Sem.run_pure, newRow, run_newObj]
    have hr := range_repl Z.cells m (by omega)
    rw [← hzs]
    rw [← hr]

theorem ofVal_int {V : Value} {k : IntKind} {z : Int} (h : ofVal V = .int k (.lit z)) : V = .int k z := by
  unfold ofVal at h
  split at h
  · cases h
  · unfold ofVal1 at h
    split at h <;> simp at h
    obtain ⟨rfl, rfl⟩ := h
    rfl

theorem repl_one {α : Type} (x : α) : ∀ n, repl n [x] = List.replicate n x := by
  intro n
  induction n with
  | zero => rfl
  | succ n ih => simp [repl, ih, List.replicate_succ]

theorem lstVals_replicate (k : CK) (n : Nat) (z : Int) : lstVals [k] (List.replicate n z) = List.replicate n (ckVal k z) := by
  apply List.ext_getElem?
  intro q
  rw [lstVals_get, List.getElem?_replicate, List.getElem?_replicate]
  split
  · simp [kAt, Nat.mod_one]
  · rfl

theorem iop_makeL (E : EvOk D B σ β st a) (F : Fits D B σ β st a w) (hid : ∀ i, id = some i → β i = none ∧ i < st.nb) {t : TypeId} {len cap : Operand} (ho : ox.op = .makeSlice t len cap) {e : TypeId} {kl kc : IntKind} {l : IE}
    (hu : D.P.underlying t = some (.slice e)) (hl : st.ev len = .int kl l) (hc : st.ev cap = .int kc l)
    (h : (makeL D id e l st k).holds SP Φ σ Λ) (hn : Tells D B SP Φ σ β Λ st a id k (Told D a ox next)) : ox.wp D.P a w next Q := by
  unfold makeL at h
  split at h
  · rename_i ie kk z hi hz
    split at h
    · rename_i hcond
      simp only [Bool.and_eq_true, Nat.beq_eq, Nat.ble_eq] at hcond
      have hlr := E len
      have hcr := E cap
      rw [hl] at hlr
      rw [hc] at hcr
      simp only [AV.rep] at hlr hcr
      obtain ⟨Z, hz, hZ⟩ := zeroA_some hz
      have := ofVal_int hz.symm
      subst this
      rcases split_sound h (ok_mkAnd _ (ok_mkLe _ (show IE.ok σ.n (.lit 0) = true from rfl) hlr.1) (ok_mkLe _ hlr.1 (show IE.ok σ.n (.lit 1000000) = true from rfl))) F with ⟨hb, pc, hpc, h⟩ | ⟨_, pc, _, h⟩
      · simp only [ev_mkAnd, ev_mkLe, IE.ev, Bool.and_eq_true] at hb
        have hb1 := of_decide_eq_true hb.1
        have hb2 := of_decide_eq_true hb.2
        obtain ⟨N, hN⟩ : ∃ N : Nat, l.ev σ = N := ⟨(l.ev σ).toNat, by omega⟩
        have F1 := F.withPc hpc
        have hd : dec ((IE.lrep l (.lit z)).ev σ) = List.replicate N z := by simp [IE.ev, hN]
        have hrun := makeSlice_run (P := D.P) (kl := kl) (kc := kc) (n := N) (m := N) hu hi hZ (by rw [hcond.1]; rfl) (Nat.le_refl _) (by omega) (by omega) hcond.2 w
        have hcells : repl N (Value.int kk z).cells.toList = lstVals [.int kk] (dec ((IE.lrep l (.lit z)).ev σ)) := by
          rw [hd, lstVals_replicate]; exact repl_one _ _
        rw [hcells] at hrun
        have hw := went_allocL (Λ := Λ) (w' := { w with heap := w.heap.push (.cells (lstVals [.int kk] (dec ((IE.lrep l (.lit z)).ev σ))).toArray e (0, 0)) }) (t := e) (fz := (0, 0)) (rest := []) (sp := some (l, 1)) (L := .lrep l (.lit z)) (ks := [.int kk]) F1 hid
          (by simp [IE.ok, hlr.1]) (by simp) (by simp [Nat.mod_one]) ⟨hlr.1, by rw [hd]; simp [lstVals_length, hN]⟩ (.inl rfl) (by simp)
        have hav : AV.rep D B σ (β.upd (id.getD st.nb) w.heap.size) (.sl (({ st with pc := pc } : St).newL id (.lrep l (.lit z)) [.int kk] e (some (l, 1))).1 0 (cntL (.lrep l (.lit z)) 1) l) (.slice (some ⟨w.heap.size, 0, none⟩) N N) := by
          rw [hw.2]
          exact ⟨cntL_ok (by simp [IE.ok, hlr.1]), hlr.1, N, N, _, rfl, by rw [cntL_ev, hd]; simp, hN, Nat.le_refl _, .inr ⟨w.heap.size, by simp [Bmap.upd], rfl⟩⟩
        refine wp_value (V := .slice (some ⟨w.heap.size, 0, none⟩) N N) ?_ (hn _ _ _ _ _ _ _ hw.1.withPc hav h)
        simp only [execOp, ho, hlr.2, hcr.2, hN, Sem.run_bind, hrun, Result.andThen_ok, Sem.run_pure]
      · exact h.elim
    · exact h.elim
  · exact h.elim

theorem iop_makeSlice (E : EvOk D B σ β st a) (F : Fits D B σ β st a w) (hid : ∀ i, id = some i → β i = none ∧ i < st.nb) {t : TypeId} {len cap : Operand} (ho : ox.op = .makeSlice t len cap) {call : CallH γ}
    (h : (iop D call id (.makeSlice t len cap) st k).holds SP Φ σ Λ) (hn : Tells D B SP Φ σ β Λ st a id k (Told D a ox next)) : ox.wp D.P a w next Q := by
  unfold iop at h
  dsimp only at h
  split at h
  · rename_i e kl l kc c hu hl hc
    split at h
    · split at h
      · rename_i hlc
        have := IE.beq_eq hlc; subst this
        exact iop_makeL E F hid ho hu hl hc h hn
      · exact h.elim
    · rename_i n hnl
      split at h
      · rename_i m ie z hnc hi hz
        split at h
        · rename_i hcond
          simp only [Bool.and_eq_true, Nat.beq_eq, Nat.blt_eq, Nat.ble_eq] at hcond
          obtain ⟨⟨⟨⟨h1, h2⟩, h3⟩, h4⟩, h5⟩ := hcond
          have := litNat_some hnl; subst this
          have := litNat_some hnc; subst this
          have hlr := E len
          have hcr := E cap
          rw [hl] at hlr
          rw [hc] at hcr
          simp only [AV.rep, IE.ev] at hlr hcr
          obtain ⟨Z, rfl, hZ⟩ := zeroA_some hz
          have hzc := ofVal_cells (D := D) (B := B) (σ := σ) (β := β) Z
          have hzl := repL_length hzc
          have hzs : Z.cells.size = ie.size := by rw [← h3, hzl]; simp
          have hrep := fill_repl hzc m
          have hw := went_alloc (Λ := Λ) (w' := { w with heap := w.heap.push (.cells (repl m Z.cells.toList).toArray e (0, 0)) }) (t := e) (fz := (0, 0)) (rest := []) (sp := none) F hid hrep rfl (.inl rfl) (by simp)
          have hsl := sl_new (D := D) (B := B) (β := β) (σ := σ) (id.getD st.nb) w.heap.size n m h1
          refine wp_value (V := .slice (some ⟨w.heap.size, 0, none⟩) n m) ?_ (hn _ _ _ _ _ _ _ hw.1 (by rw [hw.2]; exact hsl) h)
          have hrun := makeSlice_run (P := D.P) (kl := kl) (kc := kc) hu hi hZ hzs h1 h2 h4 h5 w
          simp only [execOp, ho, hlr.2, hcr.2, Sem.run_bind, hrun, Result.andThen_ok, Sem.run_pure]
        · exact h.elim
      · exact h.elim
  · exact h.elim

end
end
end Go.Proofs.Sx
