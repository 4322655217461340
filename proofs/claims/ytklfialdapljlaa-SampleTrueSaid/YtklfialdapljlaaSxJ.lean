/- Memory: what reads; new blocks; stores; states that go on. -/
import Derived.Test.YtklfialdapljlaaSxI
namespace Go.Proofs.Sx
open Go

section
variable {D : Ctx} {B : Base} {σ : Val} {β : Bmap}

theorem rop_sound {st : St} {a : Act} (E : EvOk D B σ β st a) {hp : List (Nat × AObj)} {w : World} (H : HeapOk D B σ β hp w) (R : RoAt D B σ w) (hpc : ∀ p, PcFor σ st p) {o : Op} {v : AV} {blk : Option Nat}
    (h : rop D st o = some (some v, blk)) (hb : ∀ b, blk = some b → hget hp b = hget st.hp b) :
    ∃ V, v.rep D B σ β V ∧ ∀ ox : Oper, ox.op = o → (execOp a.eval ox).run D.P w = .ok (.value V) w := by
  unfold rop at h
  split at h
  · rename_i t x
    simp only [Option.some.injEq, Prod.mk.injEq] at h
    obtain ⟨h, rfl⟩ := h
    obtain ⟨V, A, h1, h2, h3⟩ := loadA_sound H R (hpc _) hb h (E x)
    exact ⟨V, h2, fun ox ho => by simp [execOp, ho, Instr.loadAt, h1, Instr.sureAddr, h3]⟩
  · rename_i src dst x
    split at h
    · rename_i e hs hd
      split at h
      · rename_i he
        simp only [Option.some.injEq, Prod.mk.injEq] at h
        obtain ⟨h, rfl⟩ := h
        obtain ⟨V, h2, h3⟩ := strOfA_sound H (fun b off len cap e' => hb b (by rw [e']; rfl)) h (E x)
        refine ⟨V, h2, fun ox ho => ?_⟩
        have hx : ∃ A n c, a.eval x = .slice A n c := by
          unfold strOfA at h
          split at h
          · rename_i b off len cap hxx
            have := E x
            rw [hxx] at this
            simp only [AV.rep] at this
            obtain ⟨_, _, n, c, A, h', _⟩ := this
            exact ⟨A, n, c, h'⟩
          · cases h
        obtain ⟨A, n, c, hx⟩ := hx
        simp only [execOp, ho, Sem.run_bind, convert, run_underlying hs, run_underlying hd, Result.andThen_ok, hx]
        rw [hx] at h3
        simp [run_underlying he, h3]
      · cases h
    · cases h
  · cases h

/-! ## Assoc lists -/

theorem hget_hset (h : List (Nat × AObj)) (b c : Nat) (o : AObj) : hget (hset h b o) c = if c = b then (hget h b).map (fun _ => o) else hget h c := by
  induction h with
  | nil => simp [hset, hget]
  | cons p h ih =>
    obtain ⟨d, x⟩ := p
    by_cases hdb : d = b
    · subst hdb
      have e : Nat.beq d d = true := by simp [Nat.beq_eq]
      simp only [hset, e, if_true, hget]
      by_cases hcd : c = d
      · subst hcd; simp [e]
      · have : Nat.beq d c = false := by rw [Bool.eq_false_iff]; simp [Nat.beq_eq]; omega
        simp [this, hcd]
    · have e : Nat.beq d b = false := by rw [Bool.eq_false_iff]; simp [Nat.beq_eq]; omega
      simp only [hset, e, Bool.false_eq_true, if_false, hget, ih]
      by_cases hcb : c = b
      · subst hcb; simp [e]
      · simp [hcb]

theorem hget_hins (h : List (Nat × AObj)) (b c : Nat) (o : AObj) (hb : hget h b = none) : hget (hins h b o) c = if c = b then some o else hget h c := by
  induction h with
  | nil =>
    simp only [hins, hget]
    by_cases hcb : c = b
    · subst hcb; simp [Nat.beq_eq]
    · have : Nat.beq b c = false := by rw [Bool.eq_false_iff]; simp [Nat.beq_eq]; omega
      simp [this, hcb]
  | cons p h ih =>
    obtain ⟨d, x⟩ := p
    simp only [hget] at hb
    by_cases hdb : Nat.beq d b = true
    · simp [hdb] at hb
    · simp only [hdb] at hb
      have hb' : hget h b = none := by simpa using hb
      have hne : d ≠ b := by simpa [Nat.beq_eq] using hdb
      simp only [hins]
      split
      · simp only [hget]
        by_cases hcb : c = b
        · subst hcb; simp [Nat.beq_eq]
        · have : Nat.beq b c = false := by rw [Bool.eq_false_iff]; simp [Nat.beq_eq]; omega
          simp [this, hcb]
      · simp only [hget, ih hb']
        by_cases hcb : c = b
        · subst hcb
          have : Nat.beq d c = false := by rw [Bool.eq_false_iff]; simp [Nat.beq_eq]; exact hne
          simp [this]
        · simp [hcb]

theorem hget_hdel (h : List (Nat × AObj)) (b c : Nat) : hget (hdel h b) c = if c = b then none else hget h c := by
  induction h with
  | nil => simp [hdel, hget]
  | cons p h ih =>
    obtain ⟨d, x⟩ := p
    simp only [hdel]
    by_cases hdb : d = b
    · subst hdb
      have e : Nat.beq d d = true := by simp [Nat.beq_eq]
      simp only [e, if_true, ih, hget]
      by_cases hcd : c = d
      · simp [hcd]
      · have : Nat.beq d c = false := by rw [Bool.eq_false_iff]; simp [Nat.beq_eq]; omega
        simp [hcd, this]
    · have e : Nat.beq d b = false := by rw [Bool.eq_false_iff]; simp [Nat.beq_eq]; omega
      simp only [e, Bool.false_eq_true, if_false, hget, ih]
      by_cases hcb : c = b
      · subst hcb; simp [e]
      · simp [hcb]

/-! ## States that go on -/

def Bmap.upd (β : Bmap) (b r : Nat) : Bmap := fun c => if c = b then some r else β c

theorem Ble.upd {b r : Nat} (h : β b = none) : Ble β (β.upd b r) := fun c rb hc => by
  unfold Bmap.upd
  split
  · subst c; rw [h] at hc; cases hc
  · exact hc

theorem ObjRep.le {τ : Val} {γ : Bmap} (hσ : σ.le τ) (hβ : Ble β γ) {o : AObj} {x : Option Obj} (h : ObjRep D B σ β o x) : ObjRep D B τ γ o x := by
  obtain ⟨Vs, rest, fz, h1, h2, h3, h4⟩ := h
  exact ⟨Vs, rest, fz, h1, h2.le hσ hβ, h3.le hσ, h4⟩

theorem Fits.hget_none {st : St} {a : Act} {w : World} (F : Fits D B σ β st a w) {b : Nat} (h : β b = none) : hget st.hp b = none := by
  cases hg : hget st.hp b with
  | none => rfl
  | some o => obtain ⟨rb, h1, _⟩ := F.hp b o hg; rw [h] at h1; cases h1

/-- more variables -/
theorem Fits.more {st : St} {a : Act} {w : World} (F : Fits D B σ β st a w) (rs : List Int) : Fits D B (σ.push rs) β { st with nv := st.nv + rs.length } a w where
  nn := by simp [Val.push, F.nn]
  df := F.df
  sz := F.sz
  tm := fun i => rep_le (σ.le_push rs) (Ble.refl β) _ _ (F.tm i)
  hp := fun b o h => by obtain ⟨rb, h1, h2, h3⟩ := F.hp b o h; exact ⟨rb, h1, h2.le (σ.le_push rs) (Ble.refl β), h3⟩
  inj := F.inj
  fresh := F.fresh
  bnd := F.bnd
  pc := fun c v h => by
    obtain ⟨h1, h2⟩ := F.pc c v h
    exact ⟨BE.ok_le (σ.le_push rs).n h1, by rw [BE.ev_le (σ.le_push rs) h1]; exact h2⟩
  grow := F.grow
  env := F.env
  fr := F.fr

/-- a world that differs in nothing that counts -/
theorem Fits.world {st : St} {a : Act} {w w' : World} (F : Fits D B σ β st a w) (h : w'.heap = w.heap) (he : w'.os = w.os ∧ w'.output = w.output := by exact ⟨rfl, rfl⟩) : Fits D B σ β st a w' :=
  { nn := F.nn, df := F.df, sz := F.sz, tm := F.tm, inj := F.inj, fresh := F.fresh, pc := F.pc,
    hp := fun b o hh => by rw [h]; exact F.hp b o hh, bnd := fun b rb hh => by rw [h]; exact F.bnd b rb hh, grow := by rw [h]; exact F.grow, env := by rw [he.1, he.2]; exact F.env, fr := fun r h1 h2 => by rw [h]; exact F.fr r h1 h2 }

/-- a slot is written -/
theorem Fits.put {st : St} {a : Act} {w : World} (F : Fits D B σ β st a w) (dst : Option Tmp) {v : AV} {V : Value} (hv : v.rep D B σ β V) : Fits D B σ β (st.put dst v) (a.put dst V) w := by
  cases dst with
  | none => exact F
  | some d =>
    have hsz := F.sz
    by_cases hd : d < st.nt
    · have e : st.put (some d) v = { st with tm := st.tm.set d v } := by simp [St.put, Nat.blt_eq, hd]
      rw [e]
      refine { nn := F.nn, df := F.df, sz := by simp [Act.put, hsz], tm := fun i => ?_, hp := F.hp, inj := F.inj, fresh := F.fresh, bnd := F.bnd, pc := F.pc, grow := F.grow, env := F.env, fr := F.fr }
      simp only [Act.put]
      by_cases hi : i = d
      · subst hi
        have : (a.tmps.setIfInBounds i V).getD i undef = V := by
          simp [Array.getD, Array.getElem_setIfInBounds, hsz, hd]
        rw [this]
        rcases st.tm.get_set_self i v with h | h
        · rw [h]; exact hv
        · rw [h]; trivial
      · have : (a.tmps.setIfInBounds d V).getD i undef = a.tmps.getD i undef := by
          simp only [Array.getD_eq_getD_getElem?, Array.getElem?_setIfInBounds_ne (Ne.symm hi)]
        rw [this]
        rcases st.tm.get_set d v i with h | ⟨h, _⟩
        · rw [h]; exact F.tm i
        · exact absurd h hi
    · have e : st.put (some d) v = st := by simp [St.put, Nat.blt_eq, hd]
      rw [e]
      have : a.put (some d) V = a := by
        simp only [Act.put]
        rw [Array.setIfInBounds_eq_of_size_le (by rw [hsz]; exact Nat.le_of_not_lt hd)]
      rw [this]
      exact F

/-- a new block -/
theorem Fits.alloc {st : St} {a : Act} {w w' : World} (F : Fits D B σ β st a w) {id : Nat} (hid : β id = none) (hnb : id ≤ st.nb) {ob : AObj} {Vs rest : List Value} {fz : Nat × Nat}
    (hl : ContRep D B σ β ob Vs) (hs : SpareOk σ ob.spare Vs rest) (hz : fz.2 = 0 ∨ (Vs ++ rest).length ≤ fz.1) (hw : w'.heap = w.heap.push (.cells (Vs ++ rest).toArray ob.ty fz)) (he : w'.os = w.os ∧ w'.output = w.output := by exact ⟨rfl, rfl⟩) :
    Fits D B σ (β.upd id w.heap.size) { st with hp := hins st.hp id ob, nb := if id = st.nb then st.nb + 1 else st.nb } a w' := by
  have hle := Ble.upd (r := w.heap.size) hid
  have hnone := F.hget_none hid
  have hold : ∀ r, r < w.heap.size → w'.heap[r]? = w.heap[r]? := fun r hr => by rw [hw, Array.getElem?_push, if_neg (by omega)]
  refine { nn := F.nn, df := F.df, sz := F.sz, tm := fun i => rep_le (.refl σ) hle _ _ (F.tm i), hp := fun b o h => ?_, inj := fun b b' o o' rb h h' e e' => ?_, fresh := fun b hb => ?_, bnd := fun b rb hb => ?_, pc := F.pc,
           grow := by rw [hw, Array.size_push]; have := F.grow; omega, env := by rw [he.1, he.2]; exact F.env, fr := fun r h1 h2 => by rw [hold r (by have := F.grow; omega)]; exact F.fr r h1 h2 }
  · dsimp only at h
    rw [hget_hins _ _ _ _ hnone] at h
    split at h
    · rename_i hb; subst hb
      simp only [Option.some.injEq] at h; subst h
      refine ⟨w.heap.size, by simp [Bmap.upd], ⟨Vs, rest, fz, ?_, hl.le (.refl σ) hle, hs, hz⟩, .inl F.grow⟩
      rw [hw]; simp
    · rename_i hb
      obtain ⟨rb, h1, h2, h3⟩ := F.hp b o h
      refine ⟨rb, hle _ _ h1, ?_, h3⟩
      rw [hold rb (F.bnd _ _ h1)]
      exact h2.le (.refl σ) hle
  · dsimp only at h h'
    rw [hget_hins _ _ _ _ hnone] at h h'
    by_cases hb : b = id <;> by_cases hb' : b' = id
    · rw [hb, hb']
    · subst hb
      simp only [Bmap.upd, if_true, Option.some.injEq] at e
      simp only [Bmap.upd, hb', if_false] at e'
      have := F.bnd _ _ e'
      omega
    · subst hb'
      simp only [Bmap.upd, if_true, Option.some.injEq] at e'
      simp only [Bmap.upd, hb, if_false] at e
      have := F.bnd _ _ e
      omega
    · simp only [hb, hb', if_false] at h h'
      simp only [Bmap.upd, hb, hb', if_false] at e e'
      exact F.inj b b' o o' rb h h' e e'
  · dsimp only at hb
    have hne : b ≠ id := by split at hb <;> omega
    simp only [Bmap.upd, hne, if_false]
    exact F.fresh b (by split at hb <;> omega)
  · rw [hw, Array.size_push]
    unfold Bmap.upd at hb
    split at hb
    · simp only [Option.some.injEq] at hb; omega
    · have := F.bnd _ _ hb; omega

/-- one block turned -/
structure HeapUpd (w w' : World) (rb : Nat) (x : Obj) : Prop where
  size : w'.heap.size = w.heap.size
  here : w'.heap[rb]? = some x
  there : ∀ r, r ≠ rb → w'.heap[r]? = w.heap[r]?
  env : w'.os = w.os ∧ w'.output = w.output

/-- a block is written -/
theorem Fits.upd {st : St} {a : Act} {w w' : World} (F : Fits D B σ β st a w) {b rb : Nat} {o o' : AObj} (hb : hget st.hp b = some o) (hr : β b = some rb) {Vs rest : List Value} {fz : Nat × Nat}
    (hl : ContRep D B σ β o' Vs) (hs : SpareOk σ o'.spare Vs rest) (hz : fz.2 = 0 ∨ (Vs ++ rest).length ≤ fz.1) (U : HeapUpd w w' rb (.cells (Vs ++ rest).toArray o'.ty fz)) :
    Fits D B σ β { st with hp := hset st.hp b o' } a w' := by
  obtain ⟨rb', h1, _, hO⟩ := F.hp b o hb
  rw [hr] at h1; cases h1
  refine { nn := F.nn, df := F.df, sz := F.sz, tm := F.tm, hp := fun c p h => ?_, inj := fun c c' p p' r h h' e e' => ?_, fresh := F.fresh, bnd := fun c r hc => by rw [U.size]; exact F.bnd c r hc, pc := F.pc,
           grow := by rw [U.size]; exact F.grow, env := by rw [U.env.1, U.env.2]; exact F.env, fr := fun r h1 h2 => ?_ }
  · dsimp only at h
    rw [hget_hset] at h
    split at h
    · rename_i hc; subst hc
      rw [hb] at h
      simp only [Option.map_some, Option.some.injEq] at h; subst h
      exact ⟨rb, hr, ⟨Vs, rest, fz, U.here, hl, hs, hz⟩, hO⟩
    · rename_i hc
      obtain ⟨r, k1, k2, k3⟩ := F.hp c p h
      refine ⟨r, k1, ?_, k3⟩
      rw [U.there r (fun e => hc (F.inj c b p o rb h hb (e ▸ k1) hr))]
      exact k2
  · dsimp only at h h'
    have key : ∀ c p, hget (hset st.hp b o') c = some p → ∃ q, hget st.hp c = some q := fun c p hh => by
      rw [hget_hset] at hh
      split at hh
      · rename_i hc; subst hc; exact ⟨o, hb⟩
      · exact ⟨p, hh⟩
    obtain ⟨q, hq⟩ := key _ _ h
    obtain ⟨q', hq'⟩ := key _ _ h'
    exact F.inj c c' q q' r hq hq' e e'
  · rw [U.there r (fun e => by
      subst e
      rcases hO with hO | hO
      · omega
      · exact h2 hO)]
    exact F.fr r h1 h2

/-- a block that nobody here names is taken up, turned -/
theorem Fits.adopt {st : St} {a : Act} {w w' : World} (F : Fits D B σ β st a w) {id rb : Nat} (hid : β id = none) (hnb : id ≤ st.nb) (hO : B.w0.heap.size ≤ rb ∨ B.O rb) (hlt : rb < w.heap.size)
    (hno : ∀ b o, hget st.hp b = some o → β b ≠ some rb) {ob : AObj} {Vs rest : List Value} {fz : Nat × Nat}
    (hl : ContRep D B σ β ob Vs) (hs : SpareOk σ ob.spare Vs rest) (hz : fz.2 = 0 ∨ (Vs ++ rest).length ≤ fz.1) (U : HeapUpd w w' rb (.cells (Vs ++ rest).toArray ob.ty fz)) :
    Fits D B σ (β.upd id rb) { st with hp := hins st.hp id ob, nb := if id = st.nb then st.nb + 1 else st.nb } a w' := by
  have hle := Ble.upd (r := rb) hid
  have hnone := F.hget_none hid
  refine { nn := F.nn, df := F.df, sz := F.sz, tm := fun i => rep_le (.refl σ) hle _ _ (F.tm i), hp := fun b o h => ?_, inj := fun b b' o o' r h h' e e' => ?_, fresh := fun b hb => ?_, bnd := fun b r hb => ?_, pc := F.pc,
           grow := by rw [U.size]; exact F.grow, env := by rw [U.env.1, U.env.2]; exact F.env, fr := fun r h1 h2 => ?_ }
  · dsimp only at h
    rw [hget_hins _ _ _ _ hnone] at h
    split at h
    · rename_i hb; subst hb
      simp only [Option.some.injEq] at h; subst h
      exact ⟨rb, by simp [Bmap.upd], ⟨Vs, rest, fz, U.here, hl.le (.refl σ) hle, hs, hz⟩, hO⟩
    · rename_i hb
      obtain ⟨r, h1, h2, h3⟩ := F.hp b o h
      refine ⟨r, hle _ _ h1, ?_, h3⟩
      rw [U.there r (fun e => hno b o h (e ▸ h1))]
      exact h2.le (.refl σ) hle
  · dsimp only at h h'
    rw [hget_hins _ _ _ _ hnone] at h h'
    by_cases hb : b = id <;> by_cases hb' : b' = id
    · rw [hb, hb']
    · subst hb
      simp only [hb', if_false] at h'
      simp only [Bmap.upd, if_true, Option.some.injEq] at e
      simp only [Bmap.upd, hb', if_false] at e'
      exact absurd (e ▸ e') (hno b' o' h')
    · subst hb'
      simp only [hb, if_false] at h
      simp only [Bmap.upd, if_true, Option.some.injEq] at e'
      simp only [Bmap.upd, hb, if_false] at e
      exact absurd (e' ▸ e) (hno b o h)
    · simp only [hb, hb', if_false] at h h'
      simp only [Bmap.upd, hb, hb', if_false] at e e'
      exact F.inj b b' o o' r h h' e e'
  · dsimp only at hb
    have hne : b ≠ id := by split at hb <;> omega
    simp only [Bmap.upd, hne, if_false]
    exact F.fresh b (by split at hb <;> omega)
  · rw [U.size]
    unfold Bmap.upd at hb
    split at hb
    · simp only [Option.some.injEq] at hb; omega
    · exact F.bnd _ _ hb
  · rw [U.there r (fun e => by
      subst e
      rcases hO with hO | hO
      · omega
      · exact h2 hO)]
    exact F.fr r h1 h2

/-- a block is forgotten -/
theorem Fits.del {st : St} {a : Act} {w : World} (F : Fits D B σ β st a w) (b : Nat) : Fits D B σ β { st with hp := hdel st.hp b } a w := by
  have key : ∀ c p, hget (hdel st.hp b) c = some p → hget st.hp c = some p := fun c p h => by
    rw [hget_hdel] at h; split at h
    · cases h
    · exact h
  exact { nn := F.nn, df := F.df, sz := F.sz, tm := F.tm, hp := fun c p h => F.hp c p (key c p h), inj := fun c c' p p' r h h' e e' => F.inj c c' p p' r (key _ _ h) (key _ _ h') e e', fresh := F.fresh, bnd := F.bnd, pc := F.pc, grow := F.grow, env := F.env, fr := F.fr }

/-! ## Stores -/

theorem flat_one {v : AV} {V : Value} (h : v.rep D B σ β V) (hf : flatA v = true) : V.oneCell' = true := by
  cases v <;> simp [flatA] at hf <;> simp only [AV.rep] at h
  case bool => obtain ⟨_, rfl⟩ := h; rfl
  case int => obtain ⟨_, rfl⟩ := h; rfl
  case flt => obtain ⟨_, rfl⟩ := h; rfl
  case str => obtain ⟨_, rfl⟩ := h; rfl
  case nilp => subst h; rfl
  case ptr => obtain ⟨_, _, rfl⟩ := h; rfl
  case sl => obtain ⟨_, _, _, _, _, rfl, _⟩ := h; rfl
  case rsl => obtain ⟨_, _, _, _, _, _, rfl, _⟩ := h; rfl
  case lp => obtain ⟨_, _, _, _, _, rfl⟩ := h; rfl
  case rp => obtain ⟨_, _, _, _, rfl⟩ := h; rfl
  case sst => obtain ⟨_, rfl, _⟩ := h; rfl
  case fn => obtain ⟨_, _, rfl, _⟩ := h; rfl
  case nilfn => subst h; rfl
  case ifc => obtain ⟨_, rfl, _⟩ := h; rfl
  case nilifc => subst h; rfl

theorem flatL_one : ∀ {l : List AV} {Vs : List Value}, AV.repL D B σ β l Vs → flatL l = true → ∀ V ∈ Vs, V.oneCell' = true := by
  intro l
  induction l with
  | nil => intro Vs h _ V hV; cases Vs <;> simp_all [AV.repL]
  | cons v l ih =>
    intro Vs h hf V hV
    cases Vs with
    | nil => cases hV
    | cons W Vs =>
      simp only [AV.repL] at h
      simp only [flatL, Bool.and_eq_true] at hf
      rcases List.mem_cons.1 hV with rfl | hV
      · exact flat_one h.1 hf.1
      · exact ih h.2 hf.2 V hV

theorem run_storeCells {P : Program} {rb off : Nat} {t : TypeId} {fz : Nat × Nat} : ∀ (vs : List Value) (i : Nat) (cur : List Value) (w : World), w.heap[rb]? = some (.cells cur.toArray t fz) →
    off + i + vs.length ≤ cur.length → (∀ v ∈ vs, v.oneCell' = true) → (fz.2 = 0 ∨ cur.length ≤ fz.1) →
    ∃ w', (storeCells ⟨rb, off, none⟩ vs i).run P w = .ok () w' ∧ HeapUpd w w' rb (.cells (lput cur (off + i) vs).toArray t fz) := by
  intro vs
  induction vs with
  | nil => intro i cur w h _ _ _; exact ⟨w, rfl, rfl, h, fun _ _ => rfl, rfl, rfl⟩
  | cons v vs ih =>
    intro i cur w h hlen hone hz
    simp only [List.length_cons] at hlen
    have hc : w.cell? ⟨rb, off + i, none⟩ = some (cur[off + i]'(by omega)) := by rw [cell_of_obj h, List.getElem?_eq_getElem]
    have hf : w.frozen? ⟨rb, off + i, none⟩ = false := by
      simp only [World.frozen?, h]
      obtain ⟨lo, hi⟩ := fz
      simp only at hz
      simp only [Bool.and_eq_false_iff, decide_eq_false_iff_not]
      rcases hz with hz | hz <;> omega
    have hw : (w.setCell ⟨rb, off + i, none⟩ v).heap[rb]? = some (.cells (cur.set (off + i) v).toArray t fz) := by
      simp [World.setCell, Array.getElem?_modify, h]
    have ht : ∀ r, r ≠ rb → (w.setCell ⟨rb, off + i, none⟩ v).heap[r]? = w.heap[r]? := fun r hr => by
      simp [World.setCell, Array.getElem?_modify, Ne.symm hr]
    have hsz : (w.setCell ⟨rb, off + i, none⟩ v).heap.size = w.heap.size := by simp
    obtain ⟨w', h1, h2⟩ := ih (i + 1) (cur.set (off + i) v) _ hw (by simp; omega) (fun u hu => hone u (List.mem_cons_of_mem _ hu)) (by simpa using hz)
    refine ⟨w', ?_, ?_⟩
    · simp only [storeCells, Sem.run_bind, addr_add, run_store _ _ _ _ _ (hone v List.mem_cons_self), hc, hf, Bool.false_eq_true, if_false, Result.andThen_ok]
      exact h1
    · simp only [lput, lset_eq]
      exact ⟨h2.size.trans hsz, by have := h2.here; rwa [← Nat.add_assoc] at this, fun r hr => (h2.there r hr).trans (ht r hr), h2.env⟩

end
end Go.Proofs.Sx
