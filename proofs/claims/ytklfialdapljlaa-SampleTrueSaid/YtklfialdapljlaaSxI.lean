/- Memory: reading, new blocks, stores. -/
import Derived.Test.YtklfialdapljlaaSxH
import Derived.Laws.Cells
import Derived.Laws.World
import Derived.Laws.Tables
import Derived.Laws.BytesString
namespace Go.Proofs.Sx
open Go

section
variable {D : Ctx} {B : Base} {σ : Val} {β : Bmap}

/-- the blocks 'hp' lie in 'w' as they are said to -/
def HeapOk (D : Ctx) (B : Base) (σ : Val) (β : Bmap) (hp : List (Nat × AObj)) (w : World) : Prop :=
  ∀ b o, hget hp b = some o → ∃ rb, β b = some rb ∧ ObjRep D B σ β o w.heap[rb]?

/-- the lists that came in lie in 'w' as they are said to -/
def RoAt (D : Ctx) (B : Base) (σ : Val) (w : World) : Prop :=
  ∀ r j, j < (σ.r r).length → ∀ k, (D.ro r)[j % (D.ro r).length]? = some k → w.cell? ⟨(B.ra r).block, (B.ra r).off + j, none⟩ = some (ckVal k ((σ.r r).getD j 0))

theorem Fits.heapOk {st : St} {a : Act} {w : World} (F : Fits D B σ β st a w) : HeapOk D B σ β st.hp w := fun b o h => by
  obtain ⟨rb, h1, h2, _⟩ := F.hp b o h
  exact ⟨rb, h1, h2⟩

theorem cell?_congr {w w' : World} {x : Addr} (h : w.heap[x.block]? = w'.heap[x.block]?) : w.cell? x = w'.cell? x := by
  unfold World.cell?; rw [h]

theorem RoOk.at {st : St} {a : Act} {w : World} (R : RoOk D B σ) (F : Fits D B σ β st a w) : RoAt D B σ w := fun r j hj k hk => by
  obtain ⟨h1, h2⟩ := R.own r (fun e => by rw [e] at hk; simp at hk) (by omega)
  rw [cell?_congr (w' := B.w0) (x := ⟨(B.ra r).block, (B.ra r).off + j, none⟩) (F.fr _ h1 h2)]
  exact R.cell r j hj k hk

theorem RoAt.le {τ : Val} {w : World} (h : σ.le τ) (R : RoAt D B σ w) : RoAt D B τ w := fun r j hj k hk => by
  rw [h.r] at *; exact R r j hj k hk

theorem RoOk.le {τ : Val} (h : σ.le τ) (R : RoOk D B σ) : RoOk D B τ := ⟨fun r j hj k hk => by rw [h.r] at *; exact R.cell r j hj k hk, fun r hr0 hr => by rw [h.r] at hr; exact R.own r hr0 hr⟩

theorem cell_of_obj {w : World} {rb : Nat} {cs : List Value} {t : TypeId} {fz : Nat × Nat} (h : w.heap[rb]? = some (.cells cs.toArray t fz)) (off : Nat) : w.cell? ⟨rb, off, none⟩ = cs[off]? := by
  simp [World.cell?, h]

theorem ckA_rep {k : CK} {e : IE} (he : e.ok σ.n = true) : (ckA k e).rep D B σ β (ckVal k (e.ev σ)) := by
  cases k
  · exact ⟨he, rfl⟩
  · exact ⟨ok_mkNz _ he, by rw [ckVal, ev_mkNz]⟩
  · exact ⟨he, rfl⟩
  · exact ⟨rfl, rfl⟩

theorem roCells_rep {r m i : Nat} {a : IE} (ha : a.ok σ.n = true) (hi : a.ev σ = (i : Int)) : ∀ (ks : List CK) (j : Nat),
    AV.repL D B σ β (roCells r m a j ks) ((List.range' j ks.length).zip ks |>.map fun p => ckVal p.2 ((σ.r r).getD (i * m + p.1) 0)) := by
  intro ks
  induction ks with
  | nil => intro j; simp [roCells, AV.repL]
  | cons k ks ih =>
    intro j
    simp only [roCells, List.length_cons, List.range'_succ, List.zip_cons_cons, List.map_cons, AV.repL]
    refine ⟨?_, ih (j + 1)⟩
    have := ckA_rep (D := D) (B := B) (β := β) (σ := σ) (k := k) (e := .sel r m a j) ha
    simpa [IE.ev, hi] using this

theorem hgetc_some {h : List (Nat × AObj)} {b : Nat} {o : AObj} (e : hgetc h b = some o) : hget h b = some o ∧ o.lst = none := by
  unfold hgetc at e
  split at e
  · rename_i o' ho
    split at e
    · rename_i hl; simp only [Option.some.injEq] at e; subst e; exact ⟨ho, hl⟩
    · cases e
  · cases e

theorem hgetl_some {h : List (Nat × AObj)} {b : Nat} {o : AObj} {L : IE} {ks : List CK} (e : hgetl h b = some (o, L, ks)) : hget h b = some o ∧ o.lst = some (L, ks) := by
  unfold hgetl at e
  split at e
  · rename_i o' ho
    split at e
    · rename_i L' ks' hl
      simp only [Option.some.injEq, Prod.mk.injEq] at e
      obtain ⟨rfl, rfl, rfl⟩ := e
      exact ⟨ho, hl⟩
    · cases e
  · cases e

theorem Fits.lstOk {st : St} {a : Act} {w : World} (F : Fits D B σ β st a w) : LstOk σ st.hp := fun b o L ks h => by
  obtain ⟨h1, h2⟩ := hgetl_some h
  obtain ⟨rb, _, ⟨Vs, rest, fz, _, h3, _⟩, _⟩ := F.hp b o h1
  exact (h3.some h2).2.1

theorem lstVals_get (ks : List CK) (l : List Int) (q : Nat) : (lstVals ks l)[q]? = (l[q]?).map (ckVal (kAt ks q)) := by
  simp [lstVals]

theorem lstVals_length (ks : List CK) (l : List Int) : (lstVals ks l).length = l.length := by simp [lstVals]

theorem kAt_mul {ks : List CK} {i j : Nat} (hj : j < ks.length) : kAt ks (i * ks.length + j) = ks[j] := by
  have e : (i * ks.length + j) % ks.length = j := by rw [Nat.add_comm, Nat.add_mul_mod_self_right, Nat.mod_eq_of_lt hj]
  simp [kAt, e, hj]

theorem ltCells_rep {m i : Nat} {L a : IE} (hL : L.ok σ.n = true) (ha : a.ok σ.n = true) (hi : a.ev σ = (i : Int)) : ∀ (ks : List CK) (j : Nat),
    AV.repL D B σ β (ltCells L m a j ks) ((List.range' j ks.length).zip ks |>.map fun p => ckVal p.2 ((dec (L.ev σ)).getD (i * m + p.1) 0)) := by
  intro ks
  induction ks with
  | nil => intro j; simp [ltCells, AV.repL]
  | cons k ks ih =>
    intro j
    simp only [ltCells, List.length_cons, List.range'_succ, List.zip_cons_cons, List.map_cons, AV.repL]
    refine ⟨?_, ih (j + 1)⟩
    have := ckA_rep (D := D) (B := B) (β := β) (σ := σ) (k := k) (e := .lat L m a j) (by simp [IE.ok, hL, ha])
    simpa [IE.ev, hi] using this

theorem yes_iff {x : Option Bool} : yes x = true ↔ x = some true := by
  cases x with
  | none => simp [yes]
  | some b => cases b <;> simp [yes]

theorem zip_get {ks : List CK} {j q : Nat} (hq : q < ks.length) : ((List.range' j ks.length).zip ks)[q]? = some (j + q, ks[q]) := by
  rw [List.getElem?_zip_eq_some]
  exact ⟨by simp [hq], List.getElem?_eq_getElem hq⟩

/-- what is known of an address in a list -/
def PcFor (σ : Val) (st : St) (p : AV) : Prop :=
  ∀ b m a j o L ks, p = AV.lp b m a j → hgetl st.hp b = some (o, L, ks) → pcget st.pc (mkLt a (cntL L m)) = some true → (mkLt a (cntL L m)).ev σ = true

/-- reading 'n' cells at an address -/
theorem readA_sound {st : St} {hp : List (Nat × AObj)} {w : World} (H : HeapOk D B σ β hp w) (R : RoAt D B σ w) {p : AV} (hpc : PcFor σ st p) (hb : ∀ b, blockOf p = some b → hget hp b = hget st.hp b) {P : Value} {n : Nat} {l : List AV}
    (h : readA D st p n = some l) (hp' : p.rep D B σ β P) :
    ∃ (A : Addr) (Vs : List Value), P = .pointer (some A) ∧ AV.repL D B σ β l Vs ∧ Vs.length = n ∧ ∀ j v, Vs[j]? = some v → w.cell? (A.add j) = some v := by
  unfold readA at h
  split at h
  · rename_i b m a j
    split at h
    · rename_i o L ks hg0
      obtain ⟨hg, hlst⟩ := hgetl_some hg0
      split at h
      · rename_i hc
        simp only [Bool.and_eq_true, Nat.beq_eq, yes_iff] at hc
        obtain ⟨rfl, hlt⟩ := hc
        split at h
        · rename_i ks' hks
          simp only [Option.some.injEq] at h
          subst h
          simp only [AV.rep] at hp'
          obtain ⟨h1, rb, i, h2, h3, rfl⟩ := hp'
          obtain ⟨rb', h2', Vs, rest, fz, h4, h5, h6, h7⟩ := H b o (by rw [hb b rfl]; exact hg)
          rw [h2] at h2'; cases h2'
          obtain ⟨_, hLok, hm0, hdiv, rfl⟩ := h5.some hlst
          have hlt := hpc _ _ _ _ _ _ _ rfl hg0 hlt
          rw [ev_mkLt, cntL_ev, h3] at hlt
          have hlt := of_decide_eq_true hlt
          obtain ⟨g4, g5⟩ := lsub_eq hks
          have hkl : ks'.length = n := by rw [g4]; simp; omega
          have hmul : (i + 1) * ks.length ≤ (dec (L.ev σ)).length := by
            have h9 : i + 1 ≤ (dec (L.ev σ)).length / ks.length := by omega
            exact Nat.le_trans (Nat.mul_le_mul_right _ h9) (Nat.div_mul_le_self _ _)
          have hmul' : i * ks.length + ks.length ≤ (dec (L.ev σ)).length := by rw [Nat.add_mul, Nat.one_mul] at hmul; exact hmul
          refine ⟨_, _, rfl, ltCells_rep hLok h1 h3 ks' j, by simp [hkl], fun q v hv => ?_⟩
          rw [addr_add, cell_of_obj h4]
          rw [List.getElem?_map] at hv
          have hq : q < ks'.length := by
            by_cases hq : q < ks'.length
            · exact hq
            · rw [List.getElem?_eq_none (by simp; omega)] at hv; cases hv
          rw [zip_get hq] at hv
          simp only [Option.map_some, Option.some.injEq] at hv
          subst hv
          have hm : j + q < ks.length := by omega
          have hin : i * ks.length + j + q < (dec (L.ev σ)).length := by omega
          rw [List.getElem?_append_left (by rw [lstVals_length]; exact hin), lstVals_get, List.getElem?_eq_getElem hin, Option.map_some]
          have hk : kAt ks (i * ks.length + j + q) = ks'[q] := by
            rw [Nat.add_assoc, kAt_mul hm]
            have : ks'[q]? = ks[j + q]? := by rw [g4, List.getElem?_take, if_pos (by omega), List.getElem?_drop]
            rw [List.getElem?_eq_getElem hq, List.getElem?_eq_getElem hm, Option.some.injEq] at this
            exact this.symm
          have e9 : i * ks.length + (j + q) = i * ks.length + j + q := by omega
          rw [hk, e9, List.getD_eq_getElem?_getD, List.getElem?_eq_getElem hin]
          rfl
        · cases h
      · cases h
    · cases h
  · rename_i b off
    split at h
    · rename_i o ho
      obtain ⟨ho, hlst⟩ := hgetc_some ho
      simp only [AV.rep] at hp'
      obtain ⟨rb, h1, rfl⟩ := hp'
      obtain ⟨rb', h2, Vs, rest, fz, h3, h4, h5, h6⟩ := H b o (by rw [hb b rfl]; exact ho)
      have h4 := h4.none hlst
      rw [h1] at h2; cases h2
      have hs := repL_sub h4 h
      obtain ⟨h7, h8⟩ := lsub_eq h
      have hl := repL_length h4
      refine ⟨⟨rb, off, none⟩, _, rfl, hs, by simp; omega, fun j v hv => ?_⟩
      rw [addr_add, cell_of_obj h3]
      rw [List.getElem?_take, List.getElem?_drop] at hv
      split at hv
      · have hlt : off + j < Vs.length := (List.getElem?_eq_some_iff.1 hv).1
        rw [List.getElem?_append_left hlt]; exact hv
      · cases hv
    · cases h
  · rename_i r a j
    split at h
    · rename_i ks hks
      simp only [Option.some.injEq] at h
      subst h
      simp only [AV.rep] at hp'
      obtain ⟨h1, i, h2, h3, rfl⟩ := hp'
      obtain ⟨h4, h5⟩ := lsub_eq hks
      have hkl : ks.length = n := by rw [h4]; simp; omega
      refine ⟨_, _, rfl, roCells_rep h1 h2 ks j, by simp [hkl], fun q v hv => ?_⟩
      rw [addr_add]
      rw [List.getElem?_map] at hv
      have hq : q < ks.length := by
        by_cases hq : q < ks.length
        · exact hq
        · rw [List.getElem?_eq_none (by simp; omega)] at hv; cases hv
      have hz : ((List.range' j ks.length).zip ks)[q]? = some (j + q, ks[q]) := by
        rw [List.getElem?_zip_eq_some]
        exact ⟨by simp [hq], List.getElem?_eq_getElem hq⟩
      rw [hz] at hv
      simp only [Option.map_some, Option.some.injEq] at hv
      subst hv
      have hm : j + q < (D.ro r).length := by omega
      have hk : (D.ro r)[(i * (D.ro r).length + (j + q)) % (D.ro r).length]? = some ks[q] := by
        have e : (i * (D.ro r).length + (j + q)) % (D.ro r).length = j + q := by
          rw [Nat.add_comm, Nat.add_mul_mod_self_right, Nat.mod_eq_of_lt hm]
        rw [e]
        have : ks[q]? = (D.ro r)[j + q]? := by
          rw [h4, List.getElem?_take, if_pos (by omega), List.getElem?_drop]
        rw [← this, List.getElem?_eq_getElem hq]
      have hlt : i * (D.ro r).length + (j + q) < (σ.r r).length := by
        have : (i + 1) * (D.ro r).length = i * (D.ro r).length + (D.ro r).length := by rw [Nat.add_mul, Nat.one_mul]
        omega
      have := R r _ hlt _ hk
      rw [← this]
      congr 2
      omega
    · cases h
  · cases h

theorem loadA_sound {st : St} {hp : List (Nat × AObj)} {w : World} (H : HeapOk D B σ β hp w) (R : RoAt D B σ w) {p : AV} (hpc : PcFor σ st p) (hb : ∀ b, blockOf p = some b → hget hp b = hget st.hp b) {P : Value} {t : TypeId} {v : AV}
    (h : loadA D st t p = some v) (hp' : p.rep D B σ β P) : ∃ V A, P = .pointer (some A) ∧ v.rep D B σ β V ∧ (loadVar t A).run D.P w = .ok V w := by
  unfold loadA at h
  split at h
  · rename_i d n hu hn
    have hag : (isAgg t).run D.P w = .ok (isAggD d) w := by
      simp only [isAgg, Sem.run_bind, run_underlying hu, Result.andThen_ok]
      cases d <;> rfl
    split at h
    · rename_i hd
      simp only [Option.map_eq_some_iff] at h
      obtain ⟨l, hl, rfl⟩ := h
      obtain ⟨A, Vs, rfl, h1, h2, h3⟩ := readA_sound H R hpc hb hl hp'
      refine ⟨.agg Vs.toArray, A, rfl, ⟨Vs, rfl, h1⟩, ?_⟩
      have := run_loadCells_list (P := D.P) w A Vs h3
      simp only [loadVar, Sem.run_bind, hag, Result.andThen_ok, hd, if_true, run_sizeOf' hn, ← h2, this, Sem.run_pure]
    · rename_i hd
      split at h
      · rename_i u hu'
        simp only [Option.some.injEq] at h; subst h
        obtain ⟨A, Vs, rfl, h1, h2, h3⟩ := readA_sound H R hpc hb hu' hp'
        cases Vs with
        | nil => simp [AV.repL] at h1
        | cons V l =>
          simp only [AV.repL] at h1
          refine ⟨V, A, rfl, h1.1, ?_⟩
          have := h3 0 V rfl
          have e : A.add 0 = A := rfl
          rw [e] at this
          simp [loadVar, hag, hd, this]
      · cases h
  · cases h

theorem bytesA_rep : ∀ {l : List AV} {es : List IE} {Vs : List Value}, bytesA l = some es → AV.repL D B σ β l Vs → (∀ e ∈ es, IE.ok σ.n e = true) ∧ Vs = es.map fun e => .int .u8 (e.ev σ) := by
  intro l
  induction l with
  | nil => intro es Vs h hr; simp [bytesA] at h; subst h; cases Vs <;> simp_all [AV.repL]
  | cons v l ih =>
    intro es Vs h hr
    unfold bytesA at h
    split at h
    · rename_i hh; cases hh
    · rename_i e l' hh
      simp only [List.cons.injEq] at hh
      obtain ⟨rfl, rfl⟩ := hh
      simp only [Option.map_eq_some_iff] at h
      obtain ⟨a, h1, rfl⟩ := h
      cases Vs with
      | nil => simp [AV.repL] at hr
      | cons V Vs =>
        simp only [AV.repL] at hr
        obtain ⟨h2, h3⟩ := ih h1 hr.2
        have h4 := hr.1
        simp only [AV.rep] at h4
        exact ⟨by simpa using ⟨h4.1, h2⟩, by simp [h4.2, h3]⟩
    · cases h

theorem foldl_push (σ : Val) : ∀ (es : List IE) (s : List UInt8),
    (es.map fun e => e.ev σ).foldl (fun (r : ByteArray) n => r.push (UInt8.ofNat n.toNat)) ⟨s.toArray⟩ = ⟨(s ++ es.map fun e => UInt8.ofNat (e.ev σ).toNat).toArray⟩ := by
  intro es
  induction es with
  | nil => intro s; simp
  | cons e es ih =>
    intro s
    have h : (⟨s.toArray⟩ : ByteArray).push (UInt8.ofNat (e.ev σ).toNat) = ⟨(s ++ [UInt8.ofNat (e.ev σ).toNat]).toArray⟩ := by
      apply ByteArray.ext
      simp [ByteArray.push]
    simp only [List.map_cons, List.foldl_cons, h, ih]
    simp

theorem strOfA_sound {st : St} {hp : List (Nat × AObj)} {w : World} (H : HeapOk D B σ β hp w) {x : AV} (hb : ∀ b off len cap, x = AV.sl b off len cap → hget hp b = hget st.hp b) {X : Value} {v : AV}
    (h : strOfA st x = some v) (hx : x.rep D B σ β X) : ∃ V, v.rep D B σ β V ∧ (Conv.bytesToString X).run D.P w = .ok V w := by
  unfold strOfA at h
  split at h
  · rename_i b off len cap
    split at h
    · rename_i n o hn ho
      split at h
      · rename_i l hl
        simp only [Option.map_eq_some_iff] at h
        obtain ⟨es, hes, rfl⟩ := h
        have := litNat_some hn; subst this
        simp only [AV.rep] at hx
        obtain ⟨h1, h2, n', c, A, rfl, h3, h4, h5, h6⟩ := hx
        simp only [IE.ev] at h3
        have hnn : n' = n := by omega
        subst hnn
        have hcells : ∃ Vs : List Value, AV.repL D B σ β l Vs ∧ Vs.length = n' ∧ (n' ≠ 0 → ∃ A', A = some A' ∧ ∀ j v, Vs[j]? = some v → w.cell? (A'.add j) = some v) := by
          obtain ⟨ho, hlst⟩ := hgetc_some ho
          obtain ⟨rb', g2, Vs, rest, fz, g3, g4, g5, g6⟩ := H b o (by rw [hb b off _ _ rfl]; exact ho)
          have g4 := g4.none hlst
          have hs := repL_sub g4 hl
          obtain ⟨h7, h8⟩ := lsub_eq hl
          have hlen := repL_length g4
          refine ⟨_, hs, by simp; omega, fun hne => ?_⟩
          rcases h6 with h6 | ⟨rb, h6, rfl⟩
          · omega
          · rw [h6] at g2; cases g2
            refine ⟨_, rfl, fun j v hv => ?_⟩
            rw [addr_add, cell_of_obj g3]
            rw [List.getElem?_take, List.getElem?_drop] at hv
            split at hv
            · have hlt : off + j < Vs.length := (List.getElem?_eq_some_iff.1 hv).1
              rw [List.getElem?_append_left hlt]; exact hv
            · cases hv
        obtain ⟨Vs, k1, k2, k3⟩ := hcells
        obtain ⟨k4, rfl⟩ := bytesA_rep hes k1
        refine ⟨.string ⟨(es.map fun e => UInt8.ofNat (e.ev σ).toNat).toArray⟩, ⟨k4, rfl⟩, ?_⟩
        have hpush := foldl_push σ es []
        simp only [List.nil_append] at hpush
        by_cases hz : n' = 0
        · subst hz
          have hes0 : es = [] := by cases es with
            | nil => rfl
            | cons _ _ => simp at k2
          subst hes0
          cases A with
          | none => rfl
          | some A =>
            have := run_bytesToString (P := D.P) w A 0 c [] (by simp [loadCells, loadCellsFrom])
            rw [this]; rfl
        · obtain ⟨A', rfl, k5⟩ := k3 hz
          have hl := run_loadCells_list (P := D.P) w A' _ k5
          rw [k2] at hl
          have e : (es.map fun e => Value.int .u8 (e.ev σ)) = (es.map fun e => e.ev σ).map (Value.int .u8) := by simp
          rw [e] at hl
          rw [run_bytesToString (P := D.P) w A' n' c _ hl]
          congr 2
      · cases h
    · cases h
  · cases h

end
end Go.Proofs.Sx
