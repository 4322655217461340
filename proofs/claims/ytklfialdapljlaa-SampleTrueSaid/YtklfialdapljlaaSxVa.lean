/- Loops: lists that are carried. -/
import Derived.Test.YtklfialdapljlaaSxV
namespace Go.Proofs.Sx
open Go

section
variable {D : Ctx} {B : Base} {σ σs τ : Val} {β βs : Bmap}

/-- the value of a carried slice -/
def LocIs (h : LH) (a : Act) (w : World) (V : Value) : Prop :=
  match h.off with
  | none => a.tmps.getD h.slot undef = V
  | some o => ∃ rb p, a.tmps.getD h.slot undef = .pointer (some ⟨rb, p, none⟩) ∧ w.cell? ⟨rb, p + o, none⟩ = some V

theorem loc_val {h : LH} {s : St} {a : Act} {w : World} {v : AV} (F : Fits D B σ β s a w) (hl : locL h s = some v) : ∃ V, v.rep D B σ β V ∧ LocIs h a w V := by
  unfold locL at hl
  unfold LocIs
  split at hl
  · rename_i ho
    simp only [Option.some.injEq] at hl; subst hl
    exact ⟨_, F.tm h.slot, by simp only [ho]⟩
  · rename_i o ho
    split at hl
    · rename_i b p hb
      split at hl
      · rename_i ob hob
        obtain ⟨hob, hlst⟩ := hgetc_some hob
        have hp := F.tm h.slot
        rw [hb] at hp
        simp only [AV.rep] at hp
        obtain ⟨rb, hrb, hp⟩ := hp
        obtain ⟨rb', g1, ⟨Vs, rest, fz, g2, g3, _⟩, _⟩ := F.hp b ob hob
        rw [hrb] at g1; cases g1
        obtain ⟨V, hV, hr⟩ := repL_get (g3.none hlst) hl
        refine ⟨V, hr, ?_⟩
        simp only [ho]
        refine ⟨rb, p, hp, ?_⟩
        rw [cell_of_obj g2, List.getElem?_append_left (List.getElem?_eq_some_iff.1 hV).1, hV]
      · cases hl
    · cases hl

/-- a block's first cells said otherwise -/
theorem Fits.same {s : St} {a : Act} {w : World} (F : Fits D B σ β s a w) {b : Nat} {o o' : AObj} (hb : hget s.hp b = some o)
    (h : ∀ Vs rest : List Value, ContRep D B σ β o Vs → SpareOk σ o.spare Vs rest → ∀ rb fz, w.heap[rb]? = some (.cells (Vs ++ rest).toArray o.ty fz) → β b = some rb → ContRep D B σ β o' Vs ∧ SpareOk σ o'.spare Vs rest ∧ o'.ty = o.ty) :
    Fits D B σ β { s with hp := hset s.hp b o' } a w := by
  have key : ∀ c p, hget (hset s.hp b o') c = some p → ∃ q, hget s.hp c = some q := fun c p hh => by
    rw [hget_hset] at hh
    split at hh
    · rename_i hc; subst hc; exact ⟨o, hb⟩
    · exact ⟨p, hh⟩
  refine { nn := F.nn, df := F.df, sz := F.sz, tm := F.tm, hp := fun c p hp => ?_, inj := fun c c' p p' r h h' e e' => ?_, fresh := F.fresh, bnd := F.bnd, pc := F.pc, grow := F.grow, env := F.env, fr := F.fr }
  · dsimp only at hp
    rw [hget_hset] at hp
    split at hp
    · rename_i hc; subst hc
      rw [hb] at hp
      simp only [Option.map_some, Option.some.injEq] at hp; subst hp
      obtain ⟨rb, g1, ⟨Vs, rest, fz, g2, g3, g4, g5⟩, g6⟩ := F.hp c o hb
      obtain ⟨h1, h2, h3⟩ := h Vs rest g3 g4 rb fz g2 g1
      exact ⟨rb, g1, ⟨Vs, rest, fz, by rw [h3]; exact g2, h1, h2, g5⟩, g6⟩
    · exact F.hp c p hp
  · obtain ⟨q, hq⟩ := key _ _ h
    obtain ⟨q', hq'⟩ := key _ _ h'
    exact F.inj c c' q q' r hq hq' e e'

theorem put_fits {h : LH} {s s' : St} {a : Act} {w : World} {v : AV} {V : Value} (F : Fits D B σ β s a w) (hp : putL h v s = some s') (hl : LocIs h a w V) (hv : v.rep D B σ β V) :
    Fits D B σ β s' a w ∧ s'.nb = s.nb ∧ s'.nv = s.nv ∧ s'.nt = s.nt ∧ s'.pc = s.pc ∧ (∀ b o, hget s'.hp b = some o → ∃ o', hget s.hp b = some o') ∧ (∀ b, hget s.hp b = none → hget s'.hp b = none) := by
  unfold putL at hp
  unfold LocIs at hl
  split at hp
  · rename_i ho
    simp only [ho] at hl
    simp only [Option.some.injEq] at hp; subst hp
    refine ⟨{ nn := F.nn, df := F.df, sz := F.sz, tm := fun i => ?_, hp := F.hp, inj := F.inj, fresh := F.fresh, bnd := F.bnd, pc := F.pc, grow := F.grow, env := F.env, fr := F.fr }, rfl, rfl, rfl, rfl, fun b o ho => ⟨o, ho⟩, fun b hb => hb⟩
    dsimp only
    by_cases hi : i = h.slot
    · subst hi
      rcases Tm.get_set_self s.tm h.slot v with e | e
      · rw [e, hl]; exact hv
      · rw [e]; trivial
    · rw [set_get_ne hi]; exact F.tm i
  · rename_i o ho
    simp only [ho] at hl
    obtain ⟨rb, p, hA, hcell⟩ := hl
    split at hp
    · rename_i b p' hb
      split at hp
      · rename_i ob hob
        obtain ⟨hob, hlst⟩ := hgetc_some hob
        split at hp
        · rename_i hlt
          simp only [Nat.blt_eq] at hlt
          simp only [Option.some.injEq] at hp; subst hp
          have htm := F.tm h.slot
          rw [hb] at htm
          simp only [AV.rep] at htm
          obtain ⟨rb', hrb, hp'⟩ := htm
          rw [hA] at hp'
          cases hp'
          refine ⟨F.same hob fun Vs rest g1 g2 rb' fz g3 g4 => ?_, rfl, rfl, rfl, rfl, fun c o hc => ?_, fun c hc => ?_⟩
          · rw [hrb] at g4; cases g4
            have g1' := g1.none hlst
            refine ⟨?_, g2, rfl⟩
            unfold ContRep
            simp only [hlst, lset_eq]
            have hl := repL_length g1'
            rw [cell_of_obj g3, List.getElem?_append_left (by omega)] at hcell
            have : Vs = Vs.set (p + o) V := by
              rw [List.getElem?_eq_getElem (by omega), Option.some.injEq] at hcell
              rw [← hcell]; simp
            rw [this]
            exact repL_set _ g1' hv
          · dsimp only at hc
            rw [hget_hset] at hc
            split at hc
            · rename_i e; subst e; exact ⟨ob, hob⟩
            · exact ⟨o, hc⟩
          · dsimp only
            rw [hget_hset]
            split
            · rename_i e; subst e; rw [hob] at hc; cases hc
            · exact hc
        · cases hp
      · cases hp
    · cases hp

theorem blockL_sound {ks : List CK} {o : AObj} {L : IE} {Vs : List Value} (h : blockL ks o = some L) (hc : ContRep D B σ β o Vs) :
    L.ok σ.n = true ∧ 0 < ks.length ∧ (dec (L.ev σ)).length % ks.length = 0 ∧ Vs = lstVals ks (dec (L.ev σ)) := by
  unfold blockL at h
  split at h
  · rename_i L' ks' hl
    split at h
    · rename_i hk
      simp only [Option.some.injEq] at h; subst h
      have := cksbeq_eq hk; subst this
      obtain ⟨_, h2, h3, h4, h5⟩ := hc.some hl
      exact ⟨h2, h3, h4, h5⟩
    · cases h
  · rename_i hl
    split at h
    · rename_i hk
      simp only [Bool.and_eq_true, Nat.blt_eq, Nat.beq_eq] at hk
      simp only [Option.map_eq_some_iff] at h
      obtain ⟨es, h1, rfl⟩ := h
      have hc := hc.none hl
      obtain ⟨e1, e2, e3⟩ := numsA_sound _ _ _ _ h1 hc
      refine ⟨consL_ok e2, hk.1, ?_, ?_⟩
      · rw [consL_ev, List.length_map, e1]; exact hk.2
      · rw [consL_ev]; exact lstVals_of e3
    · cases h

theorem wholeA_sound {ks : List CK} {o : AObj} {L len cap : IE} {Vs rest : List Value} (hL : blockL ks o = some L) (h : wholeA ks o len cap = true) (hc : ContRep D B σ β o Vs) (hs : SpareOk σ o.spare Vs rest)
    {n c : Nat} (hn : len.ev σ = (n : Int)) (hcap : cap.ev σ = (c : Int)) : Vs.length = n * ks.length ∧ (Vs ++ rest).length = c * ks.length := by
  obtain ⟨_, _, hmod, hV⟩ := blockL_sound hL hc
  unfold wholeA at h
  simp only [Bool.and_eq_true] at h
  obtain ⟨h1, h2⟩ := h
  have e1 : Vs.length = n * ks.length := by
    split at h1
    · rename_i L' ks' hl
      have : L = L' := by
        unfold blockL at hL
        rw [hl] at hL
        simp only [] at hL
        split at hL
        · simp only [Option.some.injEq] at hL; exact hL.symm
        · cases hL
      subst this
      have := IE.beq_eq h1; subst this
      rw [cntL_ev] at hn
      rw [hV, lstVals_length]
      exact div_back hmod (by omega)
    · rename_i hl
      split at h1
      · rename_i m hm
        have := litNat_some hm; subst this
        simp only [IE.ev] at hn
        simp only [Nat.beq_eq] at h1
        have := repL_length (hc.none hl)
        have e : m = n := by omega
        rw [← this, h1, e]
      · cases h1
  refine ⟨e1, ?_⟩
  split at h2
  · rename_i e z hs'
    simp only [Bool.and_eq_true, Nat.beq_eq] at h2
    have := IE.beq_eq h2.1; subst this
    unfold SpareOk at hs
    rw [hs'] at hs
    rw [hs.2, hcap, h2.2]; simp
  · rename_i hs'
    unfold SpareOk at hs
    rw [hs'] at hs
    subst hs
    split at h2
    · rename_i c' hl hc'
      have := litNat_some hc'; subst this
      simp only [IE.ev] at hcap
      simp only [Nat.beq_eq] at h2
      have e : c' = c := by omega
      have := repL_length (hc.none hl)
      rw [List.append_nil, ← this, h2, e]
    · cases h2


/-- a list's block: where it lies, what it holds -/
structure LAt (B : Base) (w : World) (ks : List CK) (l : List Int) (ty : TypeId) (rb : Nat) (rest : List Value) (fz : Nat × Nat) : Prop where
  at_ : w.heap[rb]? = some (.cells (lstVals ks l ++ rest).toArray ty fz)
  pos : 0 < ks.length
  mod : l.length % ks.length = 0
  fz : fz.2 = 0 ∨ (lstVals ks l ++ rest).length ≤ fz.1
  own : B.w0.heap.size ≤ rb ∨ B.O rb

/-- what was taken: a list in a block of its own -/
def TookN (B : Base) (σ : Val) (β : Bmap) (h : LH) (s s1 : St) (a : Act) (w : World) (L cap : IE) : Prop :=
  ∃ V, LocIs h a w V ∧ ((∃ A, V = .slice A 0 0 ∧ dec (L.ev σ) = [] ∧ cap.ev σ = 0) ∨
    ∃ b o rb rest fz A n c, hget s.hp b = some o ∧ hget s1.hp b = none ∧ β b = some rb ∧ LAt B w h.ks (dec (L.ev σ)) h.ty rb rest fz ∧ (lstVals h.ks (dec (L.ev σ)) ++ rest).length = c * h.ks.length ∧
      cap.ev σ = (c : Int) ∧ V = .slice A n c ∧ (dec (L.ev σ)).length = n * h.ks.length ∧ n ≤ c ∧ (c ≠ 0 → A = some ⟨rb, 0, none⟩))

/-- what was taken: what a block holds -/
def TookS (B : Base) (σ : Val) (β : Bmap) (ks : List CK) (s s1 : St) (w : World) (L : IE) (b : Nat) (ty : TypeId) (sp : Option (IE × Nat)) : Prop :=
  ∃ o rb rest fz, hget s.hp b = some o ∧ hget s1.hp b = none ∧ β b = some rb ∧ LAt B w ks (dec (L.ev σ)) ty rb rest fz ∧ SpareOk σ sp (lstVals ks (dec (L.ev σ))) rest

def Took (B : Base) (σ : Val) (β : Bmap) (h : LH) (s s1 : St) (a : Act) (w : World) (es : List AE) : LInfo → Prop
  | none => h.new = true ∧ ∃ L cap, es = [.num L, .num cap] ∧ TookN B σ β h s s1 a w L cap
  | some (b, ty, sp) => h.new = false ∧ ∃ L, es = [.num L] ∧ TookS B σ β h.ks s s1 w L b ty sp


theorem nilA_some {len cap : IE} (h : nilA len cap = true) : len = .lit 0 ∧ cap = .lit 0 := by
  unfold nilA at h
  split at h
  · rename_i h1 h2; exact ⟨litNat_some h1, litNat_some h2⟩
  · cases h

theorem takeL1_sound {h : LH} {s s1 : St} {a : Act} {w : World} {es : List AE} {i : LInfo} (F : Fits D B σ β s a w) (ht : takeL1 h s = some (es, i, s1)) :
    Fits D B σ β s1 a w ∧ s1.nb = s.nb ∧ s1.nv = s.nv ∧ s1.nt = s.nt ∧ (∀ b o, hget s1.hp b = some o → ∃ o', hget s.hp b = some o') ∧ Took B σ β h s s1 a w es i := by
  unfold takeL1 at ht
  split at ht
  · rename_i b off len cap hloc
    obtain ⟨V, hV, hL⟩ := loc_val F hloc
    simp only [AV.rep] at hV
    obtain ⟨ol, oc, n, c, A, rfl, v1, v2, v3, v4⟩ := hV
    split at ht
    · rename_i hnew
      split at ht
      · rename_i hnil
        obtain ⟨rfl, rfl⟩ := nilA_some hnil
        simp only [IE.ev] at v1 v2
        have : n = 0 := by omega
        subst this
        have : c = 0 := by omega
        subst this
        split at ht
        · rename_i s' hp
          simp only [Option.some.injEq, Prod.mk.injEq] at ht
          obtain ⟨rfl, rfl, rfl⟩ := ht
          obtain ⟨p1, p2, p3, p4, p5, p6, p7⟩ := put_fits F hp hL (v := .junk) trivial
          exact ⟨p1, p2, p3, p4, p6, hnew, _, _, rfl, _, hL, .inl ⟨A, rfl, by simp [IE.ev], rfl⟩⟩
        · cases ht
      · split at ht
        · rename_i o ho
          split at ht
          · rename_i L hb
            split at ht
            · rename_i hc
              simp only [Bool.and_eq_true, Nat.beq_eq] at hc
              obtain ⟨⟨rfl, hty⟩, hw⟩ := hc
              split at ht
              · rename_i s' hp
                simp only [Option.some.injEq, Prod.mk.injEq] at ht
                obtain ⟨rfl, rfl, rfl⟩ := ht
                obtain ⟨p1, p2, p3, p4, p5, p6, p7⟩ := put_fits (F.del b) hp hL (v := .junk) trivial
                obtain ⟨rb, g1, ⟨Vs, rest, fz, g2, g3, g4, g5⟩, g6⟩ := F.hp b o ho
                obtain ⟨b1, b2, b3, rfl⟩ := blockL_sound hb g3
                obtain ⟨w1, w2⟩ := wholeA_sound hb hw g3 g4 v1 v2
                rw [lstVals_length] at w1
                refine ⟨p1, p2, p3, p4, fun c o' hc' => ?_, hnew, _, _, rfl, _, hL, .inr ⟨b, o, rb, rest, fz, A, n, c, ho, p7 b (by rw [hget_hdel, if_pos rfl]), g1, ⟨by rw [← hty]; exact g2, b2, b3, g5, g6⟩, w2, v2, rfl, w1, v3, fun hc' => ?_⟩⟩
                · obtain ⟨o'', h2⟩ := p6 c o' hc'
                  rw [hget_hdel] at h2
                  split at h2
                  · cases h2
                  · exact ⟨o'', h2⟩
                · rcases v4 with v4 | ⟨rb', v4, rfl⟩
                  · exact absurd v4 hc'
                  · rw [g1] at v4; cases v4; rfl
              · cases ht
            · cases ht
          · cases ht
        · cases ht
    · rename_i hnew
      split at ht
      · rename_i o ho
        split at ht
        · rename_i L hb
          simp only [Option.some.injEq, Prod.mk.injEq] at ht
          obtain ⟨rfl, rfl, rfl⟩ := ht
          obtain ⟨rb, g1, ⟨Vs, rest, fz, g2, g3, g4, g5⟩, g6⟩ := F.hp b o ho
          obtain ⟨b1, b2, b3, rfl⟩ := blockL_sound hb g3
          refine ⟨F.del b, rfl, rfl, rfl, fun c o' hc' => ?_, by simpa using hnew, L, rfl, o, rb, rest, fz, ho, by dsimp only; rw [hget_hdel, if_pos rfl], g1, ⟨g2, b2, b3, g5, g6⟩, g4⟩
          dsimp only at hc'
          rw [hget_hdel] at hc'
          split at hc'
          · cases hc'
          · exact ⟨o', hc'⟩
        · cases ht
      · cases ht
  · cases ht

/-! ### lists are given back -/

/-- a list is taken up again, as a variable -/
theorem adoptL {H : St} {a : Act} {w : World} {β0 : Bmap} (F : Fits D B τ β0 H a w) {ks : List CK} {l : List Int} {ty : TypeId} {rb : Nat} {rest : List Value} {fz : Nat × Nat} (A : LAt B w ks l ty rb rest fz) {v : Nat} (hv : v < τ.n) (hl : dec (τ.v v) = l)
    {sp : Option (IE × Nat)} (hs : SpareOk τ sp (lstVals ks l) rest) (hno : ∀ b o, hget H.hp b = some o → β0 b ≠ some rb) (hlt : rb < w.heap.size) {id : Nat} (hid : β0 id = none) (hnb : id ≤ H.nb) :
    Fits D B τ (β0.upd id rb) { H with hp := hins H.hp id { cs := [], ty := ty, spare := sp, lst := some (.var v, ks) }, nb := if id = H.nb then H.nb + 1 else H.nb } a w :=
  F.adopt (ob := { cs := [], ty := ty, spare := sp, lst := some (.var v, ks) }) (Vs := lstVals ks l) (rest := rest) (fz := fz) hid hnb A.own hlt hno
    ⟨rfl, by simpa [IE.ok, Nat.blt_eq] using hv, A.pos, by simp only [IE.ev, hl]; exact A.mod, by simp only [IE.ev, hl]⟩ hs A.fz ⟨rfl, A.at_, fun _ _ => rfl, rfl, rfl⟩


/-- a block is named again -/
theorem Fits.back {H : St} {a : Act} {w : World} (F : Fits D B σ β H a w) {b rb : Nat} (hb : β b = some rb) (hg : hget H.hp b = none) (hno : ∀ b' o, hget H.hp b' = some o → β b' ≠ some rb) {ob : AObj}
    (ho : ObjRep D B σ β ob w.heap[rb]?) (hO : B.w0.heap.size ≤ rb ∨ B.O rb) : Fits D B σ β { H with hp := hins H.hp b ob } a w := by
  refine { nn := F.nn, df := F.df, sz := F.sz, tm := F.tm, hp := fun c o h => ?_, inj := fun c c' o o' r h h' e e' => ?_, fresh := F.fresh, bnd := F.bnd, pc := F.pc, grow := F.grow, env := F.env, fr := F.fr }
  · dsimp only at h
    rw [hget_hins _ _ _ _ hg] at h
    split at h
    · rename_i hc; subst hc
      simp only [Option.some.injEq] at h; subst h
      exact ⟨rb, hb, ho, hO⟩
    · exact F.hp c o h
  · dsimp only at h h'
    rw [hget_hins _ _ _ _ hg] at h h'
    by_cases hc : c = b <;> by_cases hc' : c' = b
    · rw [hc, hc']
    · simp only [hc', if_false] at h'
      subst hc
      rw [hb] at e; cases e
      exact absurd e' (hno c' o' h')
    · simp only [hc, if_false] at h
      subst hc'
      rw [hb] at e'; cases e'
      exact absurd e (hno c o h)
    · simp only [hc, if_false] at h
      simp only [hc', if_false] at h'
      exact F.inj c c' o o' r h h' e e'

theorem Fits.higher {H : St} {a : Act} {w : World} (F : Fits D B σ β H a w) : Fits D B σ β { H with nb := H.nb + 1 } a w :=
  { nn := F.nn, df := F.df, sz := F.sz, tm := F.tm, hp := F.hp, inj := F.inj, fresh := fun b hb => F.fresh b (by simp only at hb; omega), bnd := F.bnd, pc := F.pc, grow := F.grow, env := F.env, fr := F.fr }

theorem spare_move {sp : Option (IE × Nat)} {Vs rest : List Value} (h1 : σ.le σs) (h2 : σ.le τ) (hok : ∀ e z, sp = some (e, z) → e.ok σ.n = true) (h : SpareOk σs sp Vs rest) : SpareOk τ sp Vs rest := by
  unfold SpareOk at *
  split
  · exact h
  · rename_i e z
    have ho := hok e z rfl
    refine ⟨IE.ok_le h2.n ho, ?_⟩
    rw [IE.ev_le h2 ho, ← IE.ev_le h1 ho]; exact h.2

variable {SP : Spec} {γ : Type} {Φ : Val → Again → γ → Prop}

theorem give_sound {a : Act} {w : World} {Λ : Again} {k : St → Tr γ} (hσs : σ.le σs) (hτ : σ.le τ) : ∀ (lists : List LH) (is : List LInfo) (v : Nat) (H : St) (β0 : Bmap) (s : St) (ls : List AE) (s0 : St),
    Fits D B σs βs s a w → takeL lists s = some (ls, is, s0) → Fits D B τ β0 H a w → (∀ q e, ls[q]? = some e → τ.v (v + q) = e.ev σs ∧ v + q < τ.n) →
    (∀ b o rb, hget H.hp b = some o → β0 b = some rb → ∀ b' o', hget s.hp b' = some o' → βs b' = some rb → ∃ o'', hget s0.hp b' = some o'') →
    (∀ b ty sp, some (b, ty, sp) ∈ is → (∀ rb, βs b = some rb → β0 b = some rb) ∧ ∀ e z, sp = some (e, z) → e.ok σ.n = true) →
    (giveL lists is v H k).holds SP Φ τ Λ →
    ∃ β' Hd, Fits D B τ β' Hd a w ∧ Ble β0 β' ∧ (∀ b, b < H.nb → β' b = β0 b) ∧ H.nb ≤ Hd.nb ∧ (k Hd).holds SP Φ τ Λ := by
  intro lists
  induction lists with
  | nil =>
    intro is v H β0 s ls s0 Fs ht F hv hd hsame h
    simp only [takeL, Option.some.injEq, Prod.mk.injEq] at ht
    obtain ⟨rfl, rfl, rfl⟩ := ht
    exact ⟨β0, H, F, .refl _, fun _ _ => rfl, Nat.le_refl _, h⟩
  | cons lh lists ih =>
    intro is v H β0 s ls s0 Fs ht F hv hd hsame h
    simp only [takeL] at ht
    split at ht
    · rename_i es i s1 ht1
      split at ht
      · rename_i fs is' s0' ht2
        simp only [Option.some.injEq, Prod.mk.injEq] at ht
        obtain ⟨rfl, rfl, rfl⟩ := ht
        obtain ⟨Fs1, t1, t2, t3, t4, t5⟩ := takeL1_sound Fs ht1
        -- what is left of 's' is in 's1'
        have sub0 : ∀ (l : List LH) (x : St) (fs : List AE) (is : List LInfo) (y : St), Fits D B σs βs x a w → takeL l x = some (fs, is, y) → ∀ b o, hget y.hp b = some o → ∃ o', hget x.hp b = some o' := by
          intro l
          induction l with
          | nil => intro x fs is y _ e b o hb; simp only [takeL, Option.some.injEq, Prod.mk.injEq] at e; obtain ⟨_, _, rfl⟩ := e; exact ⟨o, hb⟩
          | cons lh l ihl =>
            intro x fs is y Fx e b o hb
            simp only [takeL] at e
            split at e
            · rename_i es' i' x1 e1
              split at e
              · rename_i gs js y' e2
                simp only [Option.some.injEq, Prod.mk.injEq] at e
                obtain ⟨_, _, rfl⟩ := e
                obtain ⟨Fx1, _, _, _, u4, _⟩ := takeL1_sound Fx e1
                obtain ⟨o', h'⟩ := ihl _ _ _ _ Fx1 e2 b o hb
                exact u4 b o' h'
              · cases e
            · cases e
        have gone : ∀ b, hget s1.hp b = none → hget s0'.hp b = none := fun b hb => by
          cases hg : hget s0'.hp b with
          | none => rfl
          | some o => obtain ⟨o', h'⟩ := sub0 _ _ _ _ _ Fs1 ht2 b o hg; rw [hb] at h'; cases h'
        have hd1 : ∀ b o rb, hget H.hp b = some o → β0 b = some rb → ∀ b' o', hget s1.hp b' = some o' → βs b' = some rb → ∃ o'', hget s0'.hp b' = some o'' := fun b o rb h1 h2 b' o' h3 h4 => by
          obtain ⟨o'', h5⟩ := t4 b' o' h3
          exact hd b o rb h1 h2 b' o'' h5 h4
        have hsame1 : ∀ b ty sp, some (b, ty, sp) ∈ is' → (∀ rb, βs b = some rb → β0 b = some rb) ∧ ∀ e z, sp = some (e, z) → e.ok σ.n = true := fun b ty sp hm => hsame b ty sp (List.mem_cons_of_mem _ hm)
        -- a block that was taken is not among H's
        have nos : ∀ b o rb, hget s.hp b = some o → hget s1.hp b = none → βs b = some rb → ∀ c oc, hget H.hp c = some oc → β0 c ≠ some rb := fun b o rb h1 h2 h3 c oc h4 h5 => by
          obtain ⟨o'', h6⟩ := hd c oc rb h4 h5 b o h1 h3
          rw [gone b h2] at h6; cases h6
        cases i with
        | some p =>
          obtain ⟨b, ty, sp⟩ := p
          obtain ⟨hnew, L, rfl, o, rb, rest, fz, q1, q2, q3, q4, q5⟩ := t5
          simp only [giveL, hnew, Bool.false_eq_true, if_false] at h
          obtain ⟨hs1, hs2⟩ := hsame b ty sp List.mem_cons_self
          have hb0 := hs1 rb q3
          obtain ⟨hv1, hv2⟩ := hv 0 (.num L) rfl
          simp only [Nat.add_zero, AE.ev] at hv1 hv2
          have hno := nos b o rb q1 q2 q3
          have hg0 : hget H.hp b = none := by
            cases hg : hget H.hp b with
            | none => rfl
            | some oc => exact absurd hb0 (hno b oc hg)
          have F1 : Fits D B τ β0 { H with hp := hins H.hp b { cs := [], ty := ty, spare := sp, lst := some (.var v, lh.ks) } } a w :=
            F.back hb0 hg0 hno ⟨lstVals lh.ks (dec (L.ev σs)), rest, fz, q4.at_, ⟨rfl, by simpa [IE.ok, Nat.blt_eq] using hv2, q4.pos, by simp only [IE.ev, hv1]; exact q4.mod, by simp only [IE.ev, hv1]⟩, spare_move hσs hτ hs2 q5, q4.fz⟩ q4.own
          obtain ⟨β', Hd, r1, r2, r3, r4, r5⟩ := ih is' (v + 1) _ β0 s1 fs s0' Fs1 ht2 F1 (fun q e hq => by have := hv (1 + q) e (by rw [List.getElem?_append_right (by simp)]; simpa using hq); rw [← Nat.add_assoc] at this; exact this)
            (fun c oc rc h1 h2 b' o' h3 h4 => by
              dsimp only at h1
              rw [hget_hins _ _ _ _ hg0] at h1
              split at h1
              · rename_i hc; subst hc
                rw [hb0] at h2; cases h2
                obtain ⟨o'', h5⟩ := t4 b' o' h3
                have := Fs.inj b' c o'' o rb h5 q1 h4 q3
                subst this
                rw [q2] at h3; cases h3
              · exact hd1 c oc rc h1 h2 b' o' h3 h4) hsame1 h
          exact ⟨β', Hd, r1, r2, r3, r4, r5⟩
        | none =>
          obtain ⟨hnew, L, cap, rfl, V, hL, hcase⟩ := t5
          simp only [giveL, hnew, if_true] at h
          obtain ⟨hv1, hv2⟩ := hv 0 (.num L) rfl
          obtain ⟨hc1, hc2⟩ := hv 1 (.num cap) rfl
          simp only [Nat.add_zero, AE.ev] at hv1 hv2 hc1
          have okv : (IE.var v).ok τ.n = true := by simpa [IE.ok, Nat.blt_eq] using hv2
          have okc : (IE.var (v + 1)).ok τ.n = true := by simpa [IE.ok, Nat.blt_eq] using hc2
          have hvs : ∀ q e, fs[q]? = some e → τ.v (v + 2 + q) = e.ev σs ∧ v + 2 + q < τ.n := fun q e hq => by
            have := hv (2 + q) e (by rw [List.getElem?_append_right (by simp)]; simpa using hq)
            rw [← Nat.add_assoc] at this; exact this
          rcases split_sound h (c := .eq (.var (v + 1)) (.lit 0)) (by simp only [BE.ok, okc]; rfl) F with ⟨hz, pc, hpc, h⟩ | ⟨hz, pc, hpc, h⟩
          · -- it has no room: it is empty
            simp only [BE.ev, IE.ev, hc1, beq_iff_eq] at hz
            have hemp : dec (L.ev σs) = [] ∧ ∃ A, V = .slice A 0 0 := by
              rcases hcase with ⟨A, h1, h2, h3⟩ | ⟨b, o, rb, rest, fz, A, n, c, q1, q2, q3, q4, q5, q6, q7, q8, q9, q10⟩
              · exact ⟨h2, A, h1⟩
              · have hc0 : c = 0 := by omega
                subst hc0
                have hn0 : n = 0 := by omega
                subst hn0
                exact ⟨List.length_eq_zero_iff.1 (by rw [q8]; simp), A, q7⟩
            obtain ⟨he, A, rfl⟩ := hemp
            have h := h (by simp [BE.ev, IE.ev, hv1, he])
            split at h
            · rename_i H1 hp
              obtain ⟨p1, p2, p3, p4, p5, p6, p7⟩ := put_fits (F.withPc hpc).higher hp hL (v := .sl 0 0 (.lit 0) (.lit 0)) ⟨rfl, rfl, 0, 0, A, rfl, rfl, rfl, Nat.le_refl _, .inl rfl⟩
              obtain ⟨β', Hd, r1, r2, r3, r4, r5⟩ := ih is' (v + 2) H1 β0 s1 fs s0' Fs1 ht2 p1 hvs (fun c oc rc h1 h2 b' o' h3 h4 => by
                obtain ⟨oc', h5⟩ := p6 c oc h1
                exact hd1 c oc' rc h5 h2 b' o' h3 h4) hsame1 h
              exact ⟨β', Hd, r1, r2, fun b hb => r3 b (by rw [p2]; dsimp only; omega), by rw [p2] at r4; dsimp only at r4; omega, r5⟩
            · exact h.elim
          · simp only [BE.ev, IE.ev, hc1, beq_eq_false_iff_ne, ne_eq] at hz
            rcases hcase with ⟨A, h1, h2, h3⟩ | ⟨b, o, rb, rest, fz, A, n, c, q1, q2, q3, q4, q5, q6, q7, q8, q9, q10⟩
            · exact absurd h3 hz
            · subst q7
              have hc0 : c ≠ 0 := fun e => hz (by rw [q6, e]; rfl)
              have hA := q10 hc0
              have hfr := F.fresh H.nb (Nat.le_refl _)
              have F1 := adoptL (F.withPc hpc) (v := v) q4 hv2 (by rw [hv1]) (sp := some (.var (v + 1), lh.ks.length)) ⟨okc, by simp only [IE.ev, hc1, q6]; rw [q5]; simp⟩ (nos b o rb q1 q2 q3) (Fs.bnd _ _ q3) hfr (Nat.le_refl _)
              rw [if_pos rfl] at F1
              split at h
              · rename_i H1 hp
                have hrep : AV.rep D B τ (β0.upd H.nb rb) (.sl H.nb 0 (cntL (.var v) lh.ks.length) (.var (v + 1))) (.slice A n c) :=
                  ⟨cntL_ok okv, okc, n, c, A, rfl, by rw [cntL_ev]; simp only [IE.ev, hv1, q8]; rw [Nat.mul_div_cancel _ q4.pos], by simp only [IE.ev, hc1, q6], q9, .inr ⟨rb, by simp [Bmap.upd], hA⟩⟩
                obtain ⟨p1, p2, p3, p4, p5, p6, p7⟩ := put_fits F1 hp hL hrep
                have hg0 := F.hget_none hfr
                obtain ⟨β', Hd, r1, r2, r3, r4, r5⟩ := ih is' (v + 2) H1 (β0.upd H.nb rb) s1 fs s0' Fs1 ht2 p1 hvs (fun c' oc rc h1 h2 b' o' h3 h4 => by
                  obtain ⟨oc', h5⟩ := p6 c' oc h1
                  dsimp only at h5
                  rw [hget_hins _ _ _ _ hg0] at h5
                  split at h5
                  · rename_i hc'; subst hc'
                    simp only [Bmap.upd, if_true, Option.some.injEq] at h2; subst h2
                    obtain ⟨o'', h6⟩ := t4 b' o' h3
                    have := Fs.inj b' b o'' o rb h6 q1 h4 q3
                    subst this
                    rw [q2] at h3; cases h3
                  · rename_i hc'
                    simp only [Bmap.upd, hc', if_false] at h2
                    exact hd1 c' oc' rc h5 h2 b' o' h3 h4) (fun b' ty sp hm => by
                  obtain ⟨g1, g2⟩ := hsame1 b' ty sp hm
                  refine ⟨fun rb' hb' => ?_, g2⟩
                  have := g1 rb' hb'
                  exact Ble.upd hfr _ _ this) h
                refine ⟨β', Hd, r1, (Ble.upd hfr).trans r2, fun b' hb' => ?_, ?_, r5⟩
                · have := r3 b' (by rw [p2]; dsimp only; omega)
                  rw [this, Bmap.upd, if_neg (by omega)]
                · rw [p2] at r4; dsimp only at r4; omega
              · exact h.elim
      · cases ht
    · cases ht


theorem push_push (σ : Val) (xs ys : List Int) : (σ.push xs).push ys = σ.push (xs ++ ys) := by
  unfold Val.push
  simp only [Val.mk.injEq, List.length_append, Nat.add_assoc, and_true, true_and]
  funext i
  by_cases h1 : i < σ.n
  · simp only [h1, if_true, show i < σ.n + xs.length by omega]
  · simp only [h1, if_false]
    by_cases h2 : i < σ.n + xs.length
    · simp only [h2, if_true]
      rw [List.getD_eq_getElem?_getD, List.getD_eq_getElem?_getD, List.getElem?_append_left (by omega)]
    · simp only [h2, if_false]
      rw [List.getD_eq_getElem?_getD, List.getD_eq_getElem?_getD, List.getElem?_append_right (by omega)]
      congr 2; omega

theorem Fits.push2 {xs : List Int} {st : St} {a : Act} {w : World} (F : Fits D B (σ.push xs) β st a w) (ys : List Int) : Fits D B (σ.push (xs ++ ys)) β { st with nv := st.nv + ys.length } a w := by
  rw [← push_push]; exact F.more ys

theorem spbeq_eq {a b : Option (IE × Nat)} (h : spbeq a b = true) : a = b := by
  cases a <;> cases b <;> simp [spbeq, Nat.beq_eq] at h
  · rfl
  · rename_i p q
    obtain ⟨p1, p2⟩ := p
    obtain ⟨q1, q2⟩ := q
    simp [spbeq, Nat.beq_eq] at h
    rw [IE.beq_eq h.1, h.2]

theorem infosbeq_eq : ∀ {a b : List LInfo}, infosbeq a b = true → a = b := by
  intro a
  induction a with
  | nil => intro b h; cases b <;> simp [infosbeq] at h; rfl
  | cons x a ih =>
    intro b h
    cases b with
    | nil => simp [infosbeq] at h
    | cons y b =>
      simp only [infosbeq, Bool.and_eq_true] at h
      rw [ih h.2]
      have h1 := h.1
      cases x with
      | none => cases y with
        | none => rfl
        | some _ => simp [infobeq] at h1
      | some p => cases y with
        | none => simp [infobeq] at h1
        | some q =>
          obtain ⟨p1, p2, p3⟩ := p
          obtain ⟨q1, q2, q3⟩ := q
          simp only [infobeq, Bool.and_eq_true, Nat.beq_eq] at h1
          rw [h1.1.1, h1.1.2, spbeq_eq h1.2]

theorem takeL_fits {a : Act} {w : World} : ∀ {lists : List LH} {s s0 : St} {ls : List AE} {is : List LInfo}, Fits D B σ β s a w → takeL lists s = some (ls, is, s0) →
    Fits D B σ β s0 a w ∧ s0.nb = s.nb ∧ s0.nv = s.nv ∧ s0.nt = s.nt ∧ (∀ b o, hget s0.hp b = some o → ∃ o', hget s.hp b = some o') ∧
    ∀ b ty sp, some (b, ty, sp) ∈ is → (∃ rb, β b = some rb) ∧ ∀ e z, sp = some (e, z) → e.ok σ.n = true := by
  intro lists
  induction lists with
  | nil =>
    intro s s0 ls is F h
    simp only [takeL, Option.some.injEq, Prod.mk.injEq] at h
    obtain ⟨_, rfl, rfl⟩ := h
    exact ⟨F, rfl, rfl, rfl, fun b o h => ⟨o, h⟩, fun b ty sp hm => by cases hm⟩
  | cons lh lists ih =>
    intro s s0 ls is F h
    simp only [takeL] at h
    split at h
    · rename_i es i s1 h1
      split at h
      · rename_i fs is' s0' h2
        simp only [Option.some.injEq, Prod.mk.injEq] at h
        obtain ⟨_, rfl, rfl⟩ := h
        obtain ⟨F1, t1, t2, t3, t4, t5⟩ := takeL1_sound F h1
        obtain ⟨F0, u1, u2, u3, u4, u5⟩ := ih F1 h2
        refine ⟨F0, u1.trans t1, u2.trans t2, u3.trans t3, fun b o hb => ?_, fun b ty sp hm => ?_⟩
        · obtain ⟨o', h'⟩ := u4 b o hb
          exact t4 b o' h'
        · rcases List.mem_cons.1 hm with e | hm
          · subst e
            obtain ⟨_, L, _, o, rb, rest, fz, q1, q2, q3, q4, q5⟩ := t5
            refine ⟨⟨rb, q3⟩, fun e z hs => ?_⟩
            subst hs
            exact q5.1
          · exact u5 b ty sp hm
      · cases h
    · cases h

theorem head_ids {h : Hint} {body : Code} {st head : St} {ps : List (Nat × Nat)} {es : List AE} {a : Act} {w : World} (F : Fits D B σ β st a w) (hh : headA h body st = some (ps, es, head)) :
    head.nb = st.nb ∧ head.nv = st.nv + es.length ∧ ∀ b o, hget head.hp b = some o → ∃ o0, hget st.hp b = some o0 := by
  unfold headA at hh
  split at hh
  · rename_i ps' hps
    split at hh
    · rename_i es' s hc
      simp only [Option.some.injEq, Prod.mk.injEq] at hh
      obtain ⟨rfl, rfl, rfl⟩ := hh
      have C := carry_sound (τ := σ.push (es'.map (·.ev σ))) (β := β) (σs := σ) (βs := β) hc F.tm (fun q e hq => by
        rw [← F.nn]; exact push_at (by simp [hq])) rfl
      refine ⟨?_, rfl, fun b o ho => ?_⟩
      · unfold carry at hc
        split at hc
        · simp only [Option.some.injEq, Prod.mk.injEq] at hc; obtain ⟨_, rfl⟩ := hc; rfl
        · cases hc
      · cases hg : hget st.hp b with
        | none => rw [C.gone b hg] at ho; cases ho
        | some o0 => exact ⟨o0, rfl⟩
    · cases hh
  · cases hh

theorem again_ids {h : Hint} {ps : List (Nat × Nat)} {head s : St} {vs : List AE} {id : Nat} (ha : againA h ps head id s = some vs) : ∀ b o, hget head.hp b = some o → ∃ o', hget s.hp b = some o' := by
  intro b o ho
  unfold againA at ha
  split at ha
  · rename_i vs' s' hc
    split at ha
    · rename_i hcond
      simp only [Bool.and_eq_true] at hcond
      have h1 := subHp_get hcond.1.2 b o ho
      cases hg : hget s.hp b with
      | some o' => exact ⟨o', rfl⟩
      | none =>
        exfalso
        unfold carry at hc
        split at hc
        · rename_i cs ss hcs hss
          simp only [Option.some.injEq, Prod.mk.injEq] at hc
          obtain ⟨_, rfl⟩ := hc
          rw [(wrCells_get ps cs id s.hp b (rdCells_spec hcs).1.symm).1 hg] at h1
          cases h1
        · cases hc
    · cases ha
  · cases ha

end
end Go.Proofs.Sx
