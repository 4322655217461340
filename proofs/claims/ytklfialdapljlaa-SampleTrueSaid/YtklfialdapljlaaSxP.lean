/- conversions to bytes, calls: 'iop_sound'; an operation with its guard: 'gop_sound'. -/
import Derived.Test.YtklfialdapljlaaSxO
namespace Go.Proofs.Sx
open Go

section
variable {D : Ctx} {B : Base} {SP : Spec} {γ : Type} {Φ : Val → Again → γ → Prop}
variable {σ : Val} {β : Bmap} {Λ : Again} {st : St} {a : Act} {w : World} {id : Option Nat} {k : AV → St → Tr γ} {ox : Oper} {next : Act → World → Prop} {Q : Exit → Act → World → Prop}

theorem bytes_cells (σ : Val) (β : Bmap) : ∀ {l : List IE}, (∀ e ∈ l, IE.ok σ.n e = true) → AV.repL D B σ β (l.map fun e => AV.int .u8 (mkByt e)) (l.map fun e => Value.int .u8 ((UInt8.ofNat (e.ev σ).toNat).toNat : Int)) := by
  intro l
  induction l with
  | nil => intro _; trivial
  | cons e l ih =>
    intro hl
    simp only [List.mem_cons, forall_eq_or_imp] at hl
    simp only [List.map_cons, AV.repL]
    exact ⟨⟨ok_mkByt _ hl.1, by rw [ev_mkByt]; simp⟩, ih hl.2⟩

theorem iop_convert (E : EvOk D B σ β st a) (F : Fits D B σ β st a w) (hid : ∀ i, id = some i → β i = none ∧ i < st.nb) {src dst : TypeId} {x : Operand} (ho : ox.op = .convert src dst x) {call : CallH γ}
    (h : (iop D call id (.convert src dst x) st k).holds SP Φ σ Λ) (hn : Tells D B SP Φ σ β Λ st a id k (Told D a ox next)) : ox.wp D.P a w next Q := by
  unfold iop at h
  dsimp only at h
  split at h
  · rename_i e l hs hd hx
    split at h
    · rename_i hu
      have hX := E x
      rw [hx] at hX
      simp only [AV.rep] at hX
      obtain ⟨hok, hX⟩ := hX
      have hsz : (⟨(l.map fun e => UInt8.ofNat (e.ev σ).toNat).toArray⟩ : ByteArray).size = l.length := by simp [ByteArray.size]
      have hq : (Question.appendCap l.length 0 e).forced = false := rfl
      obtain ⟨newCap, hnc, hnc2⟩ : ∃ newCap, (Question.appendCap l.length 0 e).cut (w.tape w.drawn (.appendCap l.length 0 e)) = newCap ∧ l.length ≤ newCap := ⟨_, rfl, by simp [Question.cut]⟩
      have hcells := bytes_cells (D := D) (B := B) σ β hok
      -- the new block, marked behind its end
      let Vs : List Value := l.map fun e => Value.int .u8 ((UInt8.ofNat (e.ev σ).toNat).toNat : Int)
      let rest : List Value := List.replicate (newCap - l.length) (.int .u8 0)
      have hlen : (Vs ++ rest).length = newCap := by simp [Vs, rest]; omega
      have hrun : ∃ w', (Conv.stringToBytes e ⟨(l.map fun e => UInt8.ofNat (e.ev σ).toNat).toArray⟩).run D.P w = .ok (.slice (some ⟨w.heap.size, 0, none⟩) l.length newCap) w' ∧ w'.heap = w.heap.push (.cells (Vs ++ rest).toArray e (newCap, newCap + 1)) ∧ w'.os = w.os ∧ w'.output = w.output := by
        refine ⟨({ w with drawn := w.drawn + 1, heap := w.heap.push (.cells (Vs ++ rest).toArray e (0, 0)) } : World).freeze ⟨w.heap.size, newCap, none⟩ 1, ?_, ?_, rfl, rfl⟩
        · have harr : ((l.map fun e => UInt8.ofNat (e.ev σ).toNat).toArray.map fun b => Value.int .u8 (b.toNat : Int)) ++ Array.replicate (newCap - l.length) (.int .u8 0) = (Vs ++ rest).toArray := by
            apply Array.toList_inj.1; simp [Vs, rest]
          have hshape : ({ w with drawn := w.drawn + 1, heap := w.heap.push (.cells (Vs ++ rest).toArray e (0, 0)) } : World).shape? w.heap.size = some (e, newCap) := by
            simp only [World.shape?, Array.getElem?_push, if_true]
            rw [List.size_toArray, hlen]
          simp only [Conv.stringToBytes, Sem.run_bind, run_choose, hsz, hq, Bool.false_eq_true, if_false, hnc, Result.andThen_ok, harr, newRow, run_newObj, Sem.run_pure, markStringish, run_shape, hshape, run_freeze]
        · simp only [World.freeze]
          rw [if_neg (by omega)]
          rw [push_modify]
          simp
      obtain ⟨w', r1, r2, rE⟩ := hrun
      have F1 := F.more [(newCap : Int)]
      have hsp : SpareOk (σ.push [(newCap : Int)]) (some (.var st.nv, 1)) Vs rest := by
        refine ⟨by simp [IE.ok, Val.push, F.nn, Nat.blt_eq], ?_⟩
        rw [hlen]; simp [IE.ev, Val.push, F.nn]
      have hid' : ∀ i, id = some i → β i = none ∧ i < ({ st with nv := st.nv + 1 } : St).nb := hid
      have hw := went_alloc (Λ := Λ) (w' := w') (t := e) (fz := (newCap, newCap + 1)) (rest := rest) (l := l.map fun e => AV.int .u8 (mkByt e)) (Vs := Vs) F1 hid' (repL_le (σ.le_push _) (.refl β) _ _ hcells) hsp (.inr (by rw [hlen]; exact Nat.le_refl _)) (by rw [r2]) rE
      have hh := h (newCap : Int)
      refine wp_value (V := .slice (some ⟨w.heap.size, 0, none⟩) l.length newCap) (w' := w') ?_ (hn (σ.push [(newCap : Int)]) (β.upd (id.getD st.nb) w.heap.size) Λ _ _ _ w' ?_ ?_ hh)
      · simp only [execOp, ho, Sem.run_bind, convert, run_underlying hs, run_underlying hd, Result.andThen_ok, hX, run_underlying hu, r1, Sem.run_pure]
      · exact ⟨(On.push σ Λ _).trans hw.1.on, hw.1.ble, hw.1.keep, hw.1.nb, hw.1.fits⟩
      · refine ⟨rfl, by simp [IE.ok, Val.push, F.nn, Nat.blt_eq], l.length, newCap, _, rfl, rfl, by simp [IE.ev, Val.push, F.nn], hnc2, .inr ⟨w.heap.size, ?_, rfl⟩⟩
        rw [show ({ st with nv := st.nv + 1 } : St).new id (l.map fun e => AV.int .u8 (mkByt e)) e (some (.var st.nv, 1)) = _ from new_eq (st := { st with nv := st.nv + 1 }) (fun i hi => (hid i hi).2) _ _ _]
        simp [Bmap.upd]
    · exact h.elim
  · exact h.elim

theorem methodA_sound {t : TypeId} {v : AV} {V : Value} {name : String} {g : FuncId} {rv : AV} (h : methodA D t v name = some (g, rv)) (hv : v.rep D B σ β V) (w : World) :
    ∃ RV, rv.rep D B σ β RV ∧ (method (D.P.types.size + Made.depth) t V name).run D.P w = .ok (g, RV) w := by
  have hdep : 0 < Made.depth := by decide
  obtain ⟨fuel, hfuel⟩ : ∃ f, D.P.types.size + Made.depth = f + 1 := ⟨D.P.types.size + Made.depth - 1, by omega⟩
  unfold methodA at h
  split at h
  · cases h
  · rename_i i hi
    split at h
    · cases h
    · rename_i m hm
      have hm' : i.methods.find? (fun m => m.name == name) = some m := by rw [← Array.find?_toList]; exact hm
      split at h
      · rename_i hp
        have hpl : m.path.toList = [] := by simpa [Array.isEmpty_iff] using hp
        split at h
        · rename_i f el hf hu
          simp only [Option.some.injEq, Prod.mk.injEq] at h
          obtain ⟨rfl, rfl⟩ := h
          refine ⟨V, hv, ?_⟩
          rw [hfuel]
          simp [method, typeInfo, hi, hm', hpl, follow, hf, receiverAt, run_underlying hu, Place.get]
        · cases h
        · rename_i f d hne hf hu
          simp only [Option.some.injEq, Prod.mk.injEq] at h
          obtain ⟨rfl, rfl⟩ := h
          refine ⟨V, hv, ?_⟩
          rw [hfuel]
          simp only [method, Sem.run_bind, typeInfo, run_program, Result.andThen_ok, hi, Sem.run_pure, hm', hpl, follow, hf, receiverAt, run_underlying hu]
          simp [Place.get]
        · cases h
      · cases h

theorem viaA_sound {t : TypeId} {path : Array FieldStep} {ptr : Bool} {x r : AV} {X : Value} (h : viaA D t path ptr x = some r) (hx : x.rep D B σ β X) (w : World) : r.rep D B σ β X ∧ (receiverVia t X path ptr).run D.P w = .ok X w := by
  unfold viaA at h
  split at h
  · rename_i hp
    have hpl : path.toList = [] := by simpa [Array.isEmpty_iff] using hp
    split at h
    · rename_i el hu
      simp only [Option.some.injEq] at h; subst h
      exact ⟨hx, by simp [receiverVia, hpl, follow, receiverAt, run_underlying hu, Place.get]⟩
    · cases h
    · rename_i d hne hu
      simp only [Option.some.injEq] at h; subst h
      refine ⟨hx, ?_⟩
      simp only [receiverVia, hpl, follow, Sem.run_bind, Sem.run_pure, Result.andThen_ok, receiverAt, run_underlying hu]
      simp [Place.get]
    · cases h
  · cases h

theorem iop_call (E : EvOk D B σ β st a) (F : Fits D B σ β st a w) (R : RoOk D B σ) {call : CallH γ} (C : CallOk D B SP Φ call) (hid : ∀ i, id = some i → β i = none ∧ i < st.nb) {c : Call} (ho : ox.op = .call c)
    (h : (iop D call id (.call c) st k).holds SP Φ σ Λ) (hn : Tells D B SP Φ σ β Λ st a id k (Told D a ox next)) : ox.wp D.P a w next Q := by
  have told : ∀ σ' β' Λ' v V st' w', On σ Λ σ' Λ' → Ble β β' → (∀ b, b < st.nb → β' b = β b) → st.nb ≤ st'.nb → Fits D B σ' β' st' a w' → v.rep D B σ' β' V → (k v st').holds SP Φ σ' Λ' → next (a.put ox.dst V) w' :=
    fun σ' β' Λ' v V st' w' h1 h2 h3 h4 h5 h6 h7 => hn σ' β' Λ' v V st' w' ⟨h1, h2, fun b hb _ => h3 b hb, h4, h5⟩ h6 h7
  cases hcal : c.callee with
  | value f =>
    unfold iop at h
    simp only [hcal] at h
    have hf := E f
    split at h
    · rename_i g first cap hfv
      rw [hfv] at hf
      simp only [AV.rep] at hf
      obtain ⟨xs, ys, hf, hx, hy⟩ := hf
      have hargs := repL_append (repL_append hx (E.map c.args.toList)) hy
      have := C g _ st k σ β a w _ Λ F hargs R h ox next Q told
      unfold Oper.wp
      have e : (execOp a.eval ox).run D.P w = (callFunc g (xs ++ c.args.toList.map a.eval ++ ys).toArray).run D.P w := by
        have e2 : xs.toArray ++ c.args.map a.eval ++ ys.toArray = (xs ++ c.args.toList.map a.eval ++ ys).toArray := by apply Array.toList_inj.1; simp
        simp only [execOp, ho, resolve, hcal, hf, Deferred.ofValue, Sem.run_bind, Sem.run_pure, Result.andThen_ok, invoke, e2]
      rw [e]
      exact this
    · rename_i t path g ptr first cap hfv
      rw [hfv] at hf
      simp only [AV.rep] at hf
      obtain ⟨xs, ys, hf, hx, hy⟩ := hf
      split at h
      · rename_i x rest hxr
        split at h
        · rename_i r hr
          have hargs := repL_append hx (E.map c.args.toList)
          rw [hxr] at hargs
          obtain ⟨X, Rs, hXR, hX, hRs⟩ : ∃ X Rs, xs ++ c.args.toList.map a.eval = X :: Rs ∧ x.rep D B σ β X ∧ AV.repL D B σ β rest Rs := by
            cases hq : xs ++ c.args.toList.map a.eval with
            | nil => rw [hq] at hargs; simp [AV.repL] at hargs
            | cons X Rs => rw [hq] at hargs; simp only [AV.repL] at hargs; exact ⟨X, Rs, rfl, hargs.1, hargs.2⟩
          obtain ⟨hr1, hr2⟩ := viaA_sound hr hX w
          have hall : AV.repL D B σ β (r :: rest) (X :: Rs) := ⟨hr1, hRs⟩
          have := C g _ st k σ β a w _ Λ F hall R h ox next Q told
          unfold Oper.wp
          have e : (execOp a.eval ox).run D.P w = (callFunc g (X :: Rs).toArray).run D.P w := by
            have e2 : xs.toArray ++ c.args.map a.eval = (X :: Rs).toArray := by apply Array.toList_inj.1; simp [hXR]
            have e3 : #[X] ++ (X :: Rs).toArray.extract 1 (X :: Rs).toArray.size = (X :: Rs).toArray := by apply Array.toList_inj.1; simp
            simp only [execOp, ho, resolve, hcal, hf, Deferred.ofValue, Sem.run_bind, Sem.run_pure, Result.andThen_ok, invoke, e2]
            simp only [List.getElem?_toArray, List.getElem?_cons_zero, Sem.run_bind, hr2, Result.andThen_ok, e3]
          rw [e]
          exact this
        · exact h.elim
      · exact h.elim
    · exact h.elim
  | invoke r name =>
    unfold iop at h
    simp only [hcal] at h
    have hr := E r
    split at h
    · rename_i t v hrv
      rw [hrv] at hr
      simp only [AV.rep] at hr
      obtain ⟨V, hr, hV⟩ := hr
      split at h
      · rename_i g rv hm
        obtain ⟨RV, hRV, hrun⟩ := methodA_sound hm hV w
        have hargs : AV.repL D B σ β (rv :: c.args.toList.map st.ev) (RV :: c.args.toList.map a.eval) := ⟨hRV, E.map _⟩
        have := C g _ st k σ β a w _ Λ F hargs R h ox next Q told
        unfold Oper.wp
        have e : (execOp a.eval ox).run D.P w = (callFunc g (RV :: c.args.toList.map a.eval).toArray).run D.P w := by
          have e2 : #[RV] ++ (#[Value.iface t V] ++ c.args.map a.eval).extract 1 (#[Value.iface t V] ++ c.args.map a.eval).size = (RV :: c.args.toList.map a.eval).toArray := by
            apply Array.toList_inj.1; simp [List.take_of_length_le]
          have e1 : (#[Value.iface t V] ++ c.args.map a.eval)[0]? = some (Value.iface t V) := by
            rw [Array.getElem?_append_left (by simp)]; rfl
          simp only [execOp, ho, resolve, hcal, hr, Sem.run_bind, Sem.run_pure, Result.andThen_ok, invoke, e1, callMethod, run_program, hrun, e2]
        rw [e]
        exact this
      · exact h.elim
    · exact h.elim
  | builtin b =>
    cases b
    case append => exact iop_append E F R hid hcal ho h hn
    case copy => exact iop_copy E F hcal ho h hn
    all_goals (unfold iop at h; simp only [hcal] at h; exact h.elim)

theorem iop_sound (E : EvOk D B σ β st a) (F : Fits D B σ β st a w) (R : RoOk D B σ) {call : CallH γ} (C : CallOk D B SP Φ call) (hid : ∀ i, id = some i → β i = none ∧ i < st.nb)
    (h : (iop D call id ox.op st k).holds SP Φ σ Λ) (hn : Tells D B SP Φ σ β Λ st a id k (Told D a ox next)) : ox.wp D.P a w next Q := by
  cases ho : ox.op with
  | alloc t => rw [ho] at h; exact iop_alloc F hid ho h hn
  | box t x => rw [ho] at h; exact iop_box E F hid ho h hn
  | buildSlice t len parts => rw [ho] at h; exact iop_buildSlice E F hid ho h hn
  | store t p x => rw [ho] at h; exact iop_store E F ho h hn
  | call c => rw [ho] at h; exact iop_call E F R C hid ho h hn
  | convert src dst x => rw [ho] at h; exact iop_convert E F hid ho h hn
  | makeSlice t len cap => rw [ho] at h; exact iop_makeSlice E F hid ho h hn
  | _ => rw [ho] at h; exact h.elim

end
end Go.Proofs.Sx
