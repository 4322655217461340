/- Loops: what they carry. -/
import Derived.Test.YtklfialdapljlaaSxT
namespace Go.Proofs.Sx
open Go

section
variable {D : Ctx} {B : Base} {σ τ σs : Val} {β βs : Bmap}

theorem repL_iff {σ : Val} {β : Bmap} : ∀ {l : List AV} {m : List Value}, AV.repL D B σ β l m ↔ l.length = m.length ∧ ∀ (j : Nat) (v : AV) (V : Value), l[j]? = some v → m[j]? = some V → v.rep D B σ β V := by
  intro l
  induction l with
  | nil => intro m; cases m <;> simp [AV.repL]
  | cons x l ih =>
    intro m
    cases m with
    | nil => simp [AV.repL]
    | cons y m =>
      simp only [AV.repL, ih, List.length_cons]
      constructor
      · rintro ⟨h1, h2, h3⟩
        refine ⟨by omega, fun j v V hv hV => ?_⟩
        cases j with
        | zero => simp at hv hV; subst hv; subst hV; exact h1
        | succ j => exact h3 j v V (by simpa using hv) (by simpa using hV)
      · rintro ⟨h1, h2⟩
        exact ⟨h2 0 x y rfl rfl, by omega, fun j v V hv hV => h2 (j + 1) v V (by simpa using hv) (by simpa using hV)⟩

/-- What stood for something before and stands for 'V' now, by the same words: it stood for 'V' in the words of before. -/
theorem low (hσ : σ.le σs) (hβ : Ble β βs) : ∀ (v : AV) (V V0 : Value), v.rep D B σ β V0 → v.rep D B σs βs V → v.rep D B σ β V := by
  intro v
  refine AV.rec (motive_1 := fun v => ∀ V V0, v.rep D B σ β V0 → v.rep D B σs βs V → v.rep D B σ β V) (motive_2 := fun l => ∀ m m0, AV.repL D B σ β l m0 → AV.repL D B σs βs l m → AV.repL D B σ β l m)
    ?_ ?_ ?_ ?_ ?_ ?_ ?_ ?_ ?_ ?_ ?_ ?_ ?_ ?_ ?_ ?_ ?_ ?_ ?_ ?_ v
  case _ => intro c V V0 h0 h; simp only [AV.rep] at *; exact ⟨h0.1, by rw [h.2, BE.ev_le hσ h0.1]⟩
  case _ => intro k e V V0 h0 h; simp only [AV.rep] at *; exact ⟨h0.1, by rw [h.2, IE.ev_le hσ h0.1]⟩
  case _ => intro k e V V0 h0 h; simp only [AV.rep] at *; exact ⟨h0.1, by rw [h.2, IE.ev_le hσ h0.1]⟩
  case _ =>
    intro l V V0 h0 h; simp only [AV.rep] at *
    refine ⟨h0.1, ?_⟩
    rw [h.2]
    congr 3
    exact List.map_congr_left (fun e he => by rw [IE.ev_le hσ (h0.1 e he)])
  case _ => intro V V0 _ h; exact h
  case _ =>
    intro b off V V0 h0 h; simp only [AV.rep] at *
    obtain ⟨rb0, h1, _⟩ := h0
    obtain ⟨rb, h2, h3⟩ := h
    have := hβ _ _ h1
    rw [h2, Option.some.injEq] at this; subst this
    exact ⟨_, h1, h3⟩
  case _ =>
    intro b off len cap V V0 h0 h; simp only [AV.rep] at *
    obtain ⟨g1, g2, n0, c0, A0, g3, g4, g5, g6, g7⟩ := h0
    obtain ⟨_, _, n, c, A, h3, h4, h5, h6, h7⟩ := h
    rw [IE.ev_le hσ g1] at h4
    rw [IE.ev_le hσ g2] at h5
    refine ⟨g1, g2, n, c, A, h3, h4, h5, h6, ?_⟩
    rcases h7 with h7 | ⟨rb, h7, h8⟩
    · exact .inl h7
    · rcases g7 with g7 | ⟨rb0, g7, g8⟩
      · left; omega
      · have := hβ _ _ g7
        rw [h7, Option.some.injEq] at this; subst this
        exact .inr ⟨_, g7, h8⟩
  case _ =>
    intro r off len cap V V0 h0 h; simp only [AV.rep] at *
    obtain ⟨g0, g1, _⟩ := h0
    obtain ⟨_, _, o, n, c, A, h3, h4, h5, h7, h8, h9⟩ := h
    rw [IE.ev_le hσ g0] at h4
    rw [IE.ev_le hσ g1] at h5
    exact ⟨g0, g1, o, n, c, A, h3, h4, h5, h7, by rw [← hσ.r]; exact h8, h9⟩
  case _ =>
    intro r a j V V0 h0 h; simp only [AV.rep] at *
    obtain ⟨_, i, h2, h3, h4⟩ := h
    rw [IE.ev_le hσ h0.1] at h2
    exact ⟨h0.1, i, h2, by rw [← hσ.r]; exact h3, h4⟩
  case _ =>
    intro b m a j V V0 h0 h; simp only [AV.rep] at *
    obtain ⟨g0, rb0, i0, g1, _, _⟩ := h0
    obtain ⟨_, rb, i, h1, h2, h3⟩ := h
    have := hβ _ _ g1
    rw [h1, Option.some.injEq] at this; subst this
    rw [IE.ev_le hσ g0] at h2
    exact ⟨g0, _, i, g1, h2, h3⟩
  case _ => intro r V V0 _ h; simp only [AV.rep] at *; rw [hσ.r] at h; exact h
  case _ =>
    intro f x y ihx ihy V V0 h0 h; simp only [AV.rep] at *
    obtain ⟨p0, q0, _, g1, g2⟩ := h0
    obtain ⟨p, q, h3, h1, h2⟩ := h
    exact ⟨p, q, h3, ihx _ _ g1 h1, ihy _ _ g2 h2⟩
  case _ => intro V V0 _ h; exact h
  case _ =>
    intro t v ih V V0 h0 h; simp only [AV.rep] at *
    obtain ⟨_, _, g⟩ := h0
    obtain ⟨x, h1, h2⟩ := h
    exact ⟨x, h1, ih _ _ g h2⟩
  case _ => intro V V0 _ h; exact h
  case _ =>
    intro l ih V V0 h0 h; simp only [AV.rep] at *
    obtain ⟨_, _, g⟩ := h0
    obtain ⟨x, h1, h2⟩ := h
    exact ⟨x, h1, ih _ _ g h2⟩
  case _ =>
    intro l ih V V0 h0 h; simp only [AV.rep] at *
    obtain ⟨_, _, g⟩ := h0
    obtain ⟨x, h1, h2⟩ := h
    exact ⟨x, h1, ih _ _ g h2⟩
  case _ => intro V V0 _ _; trivial
  case _ => intro m m0 _ h; cases m <;> simp_all [AV.repL]
  case _ =>
    intro a l iha ihl m m0 h0 h
    cases m with
    | nil => simp [AV.repL] at h
    | cons x m => cases m0 with
      | nil => simp [AV.repL] at h0
      | cons y n => simp only [AV.repL] at *; exact ⟨iha _ _ h0.1 h.1, ihl _ _ h0.2 h.2⟩

theorem lowL (hσ : σ.le σs) (hβ : Ble β βs) {l : List AV} {m m0 : List Value} (h0 : AV.repL D B σ β l m0) (h : AV.repL D B σs βs l m) : AV.repL D B σ β l m := by
  have := low (D := D) (B := B) hσ hβ (.agg l) (.agg m.toArray) (.agg m0.toArray) ⟨m0, rfl, h0⟩ ⟨m, rfl, h⟩
  simp only [AV.rep] at this
  obtain ⟨x, h1, h2⟩ := this
  simp at h1
  rw [h1]; exact h2

theorem var_rep {k : CK} {i : Nat} {x : Int} (hi : i < τ.n) (hx : τ.v i = x) : (ckA k (.var i)).rep D B τ β (ckVal k x) := by
  have := ckA_rep (D := D) (B := B) (σ := τ) (β := β) (k := k) (e := .var i) (by simpa [IE.ok, Nat.blt_eq] using hi)
  simp only [IE.ev, hx] at this
  exact this

/-- what is carried as a number stands, as a variable of that number, for the same -/
theorem scal_move {v : AV} {e : AE} {k : VK} {V : Value} {i : Nat} (h : scal v = some (e, k)) (hv : v.rep D B σs βs V) (hi : i < τ.n) (hx : τ.v i = e.ev σs) (hr : τ.r = σs.r) : (vkA k (.var i)).rep D B τ β V := by
  cases v <;> simp only [scal, Option.some.injEq, Prod.mk.injEq, reduceCtorEq] at h
  · obtain ⟨rfl, rfl⟩ := h
    simp only [AV.rep] at hv
    rename_i c
    have : V = ckVal .bool (AE.ev σs (.tru c)) := by
      rw [hv.2]
      cases hc : c.ev σs <;> simp [ckVal, AE.ev, hc]
    rw [this]; exact var_rep (k := .bool) hi hx
  · obtain ⟨rfl, rfl⟩ := h; simp only [AV.rep] at hv; rw [hv.2]; exact var_rep (k := .int _) hi hx
  · obtain ⟨rfl, rfl⟩ := h; simp only [AV.rep] at hv; rw [hv.2]; exact var_rep (k := .flt _) hi hx
  · rename_i r off len cap
    obtain ⟨rfl, rfl⟩ := h
    simp only [AV.rep] at hv
    obtain ⟨g0, g1, o, n, c, A, rfl, h4, h5, h7, h8, h9⟩ := hv
    have hx' : dec (τ.v i) = [off.ev σs, len.ev σs] := by rw [hx]; simp [AE.ev, IE.ev]
    have ok : ∀ j, (IE.lat (.var i) 1 (.lit 0) j).ok τ.n = true := fun j => by simpa [IE.ok, Nat.blt_eq] using hi
    refine ⟨ok 0, ok 1, o, n, c, A, rfl, by simp [IE.ev, hx', h4], by simp [IE.ev, hx', h5], h7, by rw [hr]; exact h8, h9⟩

theorem rdSlots_spec : ∀ {l : List Nat} {m : Tm} {r : List (AE × VK)}, rdSlots l m = some r → r.length = l.length ∧ ∀ (q : Nat) (e : AE) (k : VK), r[q]? = some (e, k) → ∃ t, l[q]? = some t ∧ scal (m.get t) = some (e, k) := by
  intro l
  induction l with
  | nil => intro m r h; simp [rdSlots] at h; subst h; simp
  | cons t l ih =>
    intro m r h
    simp only [rdSlots] at h
    split at h
    · rename_i x r' hx hr
      simp only [Option.some.injEq] at h; subst h
      obtain ⟨h1, h2⟩ := ih hr
      refine ⟨by simp [h1], fun q e k hq => ?_⟩
      cases q with
      | zero => simp at hq; subst hq; exact ⟨t, rfl, hx⟩
      | succ q => obtain ⟨u, h3, h4⟩ := h2 q e k (by simpa using hq); exact ⟨u, by simpa using h3, h4⟩
    · cases h

theorem rdCells_spec : ∀ {l : List (Nat × Nat)} {hp : List (Nat × AObj)} {r : List (AE × VK)}, rdCells l hp = some r → r.length = l.length ∧
    ∀ (q : Nat) (e : AE) (k : VK), r[q]? = some (e, k) → ∃ b o ob c, l[q]? = some (b, o) ∧ hget hp b = some ob ∧ ob.cs[o]? = some c ∧ scal c = some (e, k) := by
  intro l
  induction l with
  | nil => intro m r h; simp [rdCells] at h; subst h; simp
  | cons t l ih =>
    intro hp r h
    obtain ⟨b, o⟩ := t
    simp only [rdCells] at h
    split at h
    · rename_i ob hb
      split at h
      · rename_i c hc
        split at h
        · rename_i x r' hx hr
          simp only [Option.some.injEq] at h; subst h
          obtain ⟨h1, h2⟩ := ih hr
          refine ⟨by simp [h1], fun q e k hq => ?_⟩
          cases q with
          | zero => simp at hq; subst hq; exact ⟨b, o, ob, c, rfl, hb, hc, hx⟩
          | succ q => obtain ⟨b', o', ob', c', h3, h4⟩ := h2 q e k (by simpa using hq); exact ⟨b', o', ob', c', by simpa using h3, h4⟩
        · cases h
      · cases h
    · cases h

theorem set_get_ne {m : Tm} {t i : Nat} {x : AV} (h : i ≠ t) : (m.set t x).get i = m.get i := by
  rcases Tm.get_set m t x i with h' | ⟨h', _⟩
  · exact h'
  · exact absurd h' h

theorem wrSlots_get : ∀ (l : List Nat) (r : List (AE × VK)) (v : Nat) (m : Tm) (i : Nat), l.length = r.length →
    (i ∉ l → (wrSlots l r v m).get i = m.get i) ∧
    (i ∈ l → (wrSlots l r v m).get i = .junk ∨ ∃ q e k, l[q]? = some i ∧ r[q]? = some (e, k) ∧ (wrSlots l r v m).get i = vkA k (.var (v + q))) := by
  intro l
  induction l with
  | nil => intro r v m i _; simp [wrSlots]
  | cons t l ih =>
    intro r v m i hl
    cases r with
    | nil => simp at hl
    | cons x r =>
      obtain ⟨e, k⟩ := x
      simp only [wrSlots]
      obtain ⟨h1, h2⟩ := ih r (v + 1) (m.set t (vkA k (.var v))) i (by simpa using hl)
      refine ⟨fun hi => ?_, fun hi => ?_⟩
      · simp only [List.mem_cons, not_or] at hi
        rw [h1 hi.2, set_get_ne hi.1]
      · by_cases him : i ∈ l
        · rcases h2 him with h | ⟨q, e', k', h3, h4, h5⟩
          · exact .inl h
          · exact .inr ⟨q + 1, e', k', by simpa using h3, by simpa using h4, by rw [h5, Nat.add_assoc, Nat.add_comm 1 q]⟩
        · have hit : i = t := by simpa [him] using hi
          subst hit
          rw [h1 him]
          rcases Tm.get_set_self m i (vkA k (.var v)) with h | h
          · exact .inr ⟨0, e, k, rfl, rfl, h⟩
          · exact .inl h

/-- as 'o', but for carried cells -/
structure Like (l : List (Nat × Nat)) (r : List (AE × VK)) (v : Nat) (b : Nat) (o o' : AObj) : Prop where
  ty : o'.ty = o.ty
  spare : o'.spare = o.spare
  lst : o'.lst = o.lst
  len : o'.cs.length = o.cs.length
  out : ∀ j, (b, j) ∉ l → o'.cs[j]? = o.cs[j]?
  ins : ∀ j, (b, j) ∈ l → j < o.cs.length → ∃ q e k, l[q]? = some (b, j) ∧ r[q]? = some (e, k) ∧ o'.cs[j]? = some (vkA k (.var (v + q)))

theorem wrCells_get : ∀ (l : List (Nat × Nat)) (r : List (AE × VK)) (v : Nat) (hp : List (Nat × AObj)) (b : Nat), l.length = r.length →
    (hget hp b = none → hget (wrCells l r v hp) b = none) ∧ (∀ o, hget hp b = some o → ∃ o', hget (wrCells l r v hp) b = some o' ∧ Like l r v b o o') := by
  intro l
  induction l with
  | nil => intro r v hp b _; simp only [wrCells]; exact ⟨id, fun o ho => ⟨o, ho, rfl, rfl, rfl, rfl, fun _ _ => rfl, fun j h => by cases h⟩⟩
  | cons t l ih =>
    intro r v hp b hl
    obtain ⟨c, p⟩ := t
    cases r with
    | nil => simp at hl
    | cons x r =>
      obtain ⟨e, k⟩ := x
      simp only [wrCells]
      have hl' : l.length = r.length := by simpa using hl
      split
      · rename_i ob hob
        obtain ⟨h1, h2⟩ := ih r (v + 1) (hset hp c { ob with cs := lset ob.cs p (vkA k (.var v)) }) b hl'
        rw [hget_hset] at h1 h2
        refine ⟨fun hb => ?_, fun o ho => ?_⟩
        · have hbc : b ≠ c := fun e => by rw [e, hob] at hb; cases hb
          rw [if_neg hbc] at h1
          exact h1 hb
        · by_cases hbc : b = c
          · subst hbc
            rw [hob, Option.some.injEq] at ho; subst ho
            rw [if_pos rfl, hob] at h2
            obtain ⟨o', h3, h4⟩ := h2 _ rfl
            refine ⟨o', h3, h4.ty, h4.spare, h4.lst, by rw [h4.len, lset_eq]; simp, fun j hj => ?_, fun j hj hlt => ?_⟩
            · simp only [List.mem_cons, Prod.mk.injEq, true_and, not_or] at hj
              rw [h4.out j hj.2, lset_eq, List.getElem?_set_ne (fun e => hj.1 e.symm)]
            · by_cases hjm : (b, j) ∈ l
              · obtain ⟨q, e', k', g1, g2, g3⟩ := h4.ins j hjm (by simp only [lset_eq, List.length_set]; exact hlt)
                exact ⟨q + 1, e', k', by simpa using g1, by simpa using g2, by rw [g3, Nat.add_assoc, Nat.add_comm 1 q]⟩
              · have hjp : j = p := by simpa [hjm] using hj
                subst hjp
                refine ⟨0, e, k, rfl, rfl, ?_⟩
                rw [h4.out j hjm, lset_eq, List.getElem?_set_self hlt]; rfl
          · rw [if_neg hbc] at h2
            obtain ⟨o', h3, h4⟩ := h2 o ho
            refine ⟨o', h3, h4.ty, h4.spare, h4.lst, h4.len, fun j hj => h4.out j fun hm => hj (List.mem_cons_of_mem _ hm), fun j hj hlt => ?_⟩
            have hjm : (b, j) ∈ l := by simpa [hbc] using hj
            obtain ⟨q, e', k', g1, g2, g3⟩ := h4.ins j hjm hlt
            exact ⟨q + 1, e', k', by simpa using g1, by simpa using g2, by rw [g3, Nat.add_assoc, Nat.add_comm 1 q]⟩
      · rename_i hob
        obtain ⟨h1, h2⟩ := ih r (v + 1) hp b hl'
        refine ⟨h1, fun o ho => ?_⟩
        have hbc : b ≠ c := fun e => by rw [e, hob] at ho; cases ho
        obtain ⟨o', h3, h4⟩ := h2 o ho
        refine ⟨o', h3, h4.ty, h4.spare, h4.lst, h4.len, fun j hj => h4.out j fun hm => hj (List.mem_cons_of_mem _ hm), fun j hj hlt => ?_⟩
        have hjm : (b, j) ∈ l := by simpa [hbc] using hj
        obtain ⟨q, e', k', g1, g2, g3⟩ := h4.ins j hjm hlt
        exact ⟨q + 1, e', k', by simpa using g1, by simpa using g2, by rw [g3, Nat.add_assoc, Nat.add_comm 1 q]⟩

theorem fsts_length : ∀ (l : List (AE × VK)), (fsts l).length = l.length
  | [] => rfl
  | (e, k) :: l => by simp [fsts, fsts_length l]

theorem fsts_get : ∀ {l : List (AE × VK)} {q : Nat} {e : AE} {k : VK}, l[q]? = some (e, k) → (fsts l)[q]? = some e
  | [], q, e, k, h => by simp at h
  | (e', k') :: l, 0, e, k, h => by simp at h; simp [fsts, h.1]
  | (e', k') :: l, q + 1, e, k, h => by simp only [fsts, List.getElem?_cons_succ] at *; exact fsts_get h

theorem forget_get {keep : List Nat} {i : Nat} : ∀ {ws : List Nat} {m : Tm}, (forget keep m ws).get i = .junk ∨ (forget keep m ws).get i = m.get i := by
  intro ws
  induction ws with
  | nil => intro m; exact .inr rfl
  | cons t ws ih =>
    intro m
    simp only [forget]
    split
    · exact ih
    · rcases ih (m := m.set t .junk) with h | h
      · exact .inl h
      · rcases Tm.get_set m t .junk i with h' | ⟨_, h'⟩
        · exact .inr (h.trans h')
        · exact .inl (h.trans h')

theorem subTm_get : ∀ {x y : Tm}, subTm x y = true → ∀ i, x.get i = .junk ∨ x.get i = y.get i := by
  intro x
  induction x with
  | nil => intro y _ i; exact .inl rfl
  | nd v l r ihl ihr =>
    intro y h i
    cases y with
    | nil => simp [subTm] at h
    | nd w l' r' =>
      simp only [subTm, Bool.and_eq_true] at h
      cases i with
      | zero =>
        simp only [Tm.get]
        have := h.1.1
        unfold subA at this
        split at this
        · exact .inl rfl
        · exact .inr (AV.beq_eq this)
      | succ i =>
        simp only [Tm.get]
        split
        · exact ihl h.1.2 _
        · exact ihr h.2 _

theorem okPc_mem {n : Nat} : ∀ {l : List (BE × Bool)} {p}, p ∈ okPc n l → p ∈ l := by
  intro l
  induction l with
  | nil => intro p h; exact h
  | cons x l ih =>
    intro p h
    obtain ⟨c, b⟩ := x
    simp only [okPc] at h
    split at h
    · rcases List.mem_cons.1 h with rfl | h
      · exact List.mem_cons_self
      · exact List.mem_cons_of_mem _ (ih h)
    · exact List.mem_cons_of_mem _ (ih h)

/-- What 'carry' leaves: the carried things stand, in the words of 'τ', for what they are. -/
structure Carried (D : Ctx) (B : Base) (σs : Val) (βs : Bmap) (τ : Val) (β : Bmap) (h : Hint) (ps : List (Nat × Nat)) (s s' : St) (a : Act) : Prop where
  slot : ∀ i, i ∈ h.slots → (s'.tm.get i).rep D B τ β (a.tmps.getD i undef)
  other : ∀ i, i ∉ h.slots → s'.tm.get i = s.tm.get i
  gone : ∀ b, hget s.hp b = none → hget s'.hp b = none
  cell : ∀ b o, hget s.hp b = some o → ∃ o', hget s'.hp b = some o' ∧ o'.ty = o.ty ∧ o'.spare = o.spare ∧ o'.lst = o.lst ∧ o'.cs.length = o.cs.length ∧ (∀ j, (b, j) ∉ ps → o'.cs[j]? = o.cs[j]?) ∧
    ∀ Vs, AV.repL D B σs βs o.cs Vs → ∀ j V v, (b, j) ∈ ps → Vs[j]? = some V → o'.cs[j]? = some v → v.rep D B τ β V

theorem carry_sound {h : Hint} {ps : List (Nat × Nat)} {s s' : St} {id : Nat} {es : List AE} {a : Act} (hc : carry h ps s id = some (es, s'))
    (E : ∀ i, (s.tm.get i).rep D B σs βs (a.tmps.getD i undef)) (hτ : ∀ q e, es[q]? = some e → τ.v (id + q) = e.ev σs ∧ id + q < τ.n) (hr : τ.r = σs.r) : Carried D B σs βs τ β h ps s s' a := by
  unfold carry at hc
  split at hc
  · rename_i cs ss hcs hss
    simp only [Option.some.injEq, Prod.mk.injEq] at hc
    obtain ⟨rfl, rfl⟩ := hc
    obtain ⟨c1, c2⟩ := rdCells_spec hcs
    obtain ⟨s1, s2⟩ := rdSlots_spec hss
    refine ⟨fun i hi => ?_, fun i hi => (wrSlots_get h.slots ss (id + cs.length) s.tm i s1.symm).1 hi, fun b hb => (wrCells_get ps cs id s.hp b c1.symm).1 hb, fun b o ho => ?_⟩
    · rcases (wrSlots_get h.slots ss (id + cs.length) s.tm i s1.symm).2 hi with h' | ⟨q, e, k, h1, h2, h3⟩
      · rw [h']; trivial
      · rw [h3]
        obtain ⟨t, h4, h5⟩ := s2 q e k h2
        rw [h1] at h4; cases h4
        obtain ⟨g1, g2⟩ := hτ (cs.length + q) e (by rw [List.getElem?_append_right (by rw [fsts_length]; omega), fsts_length]; simpa using fsts_get h2)
        exact scal_move h5 (E i) (by omega) (by rw [Nat.add_assoc]; exact g1) hr
    · obtain ⟨o', h1, h2⟩ := (wrCells_get ps cs id s.hp b c1.symm).2 o ho
      refine ⟨o', h1, h2.ty, h2.spare, h2.lst, h2.len, h2.out, fun Vs hVs j V v hj hV hv => ?_⟩
      have hlt : j < o.cs.length := by rw [repL_length hVs]; exact (List.getElem?_eq_some_iff.1 hV).1
      obtain ⟨q, e, k, h3, h4, h5⟩ := h2.ins j hj hlt
      rw [h5, Option.some.injEq] at hv; subst hv
      obtain ⟨b', j', ob, c, g1, g2, g3, g4⟩ := c2 q e k h4
      rw [h3, Option.some.injEq, Prod.mk.injEq] at g1
      obtain ⟨rfl, rfl⟩ := g1
      rw [ho, Option.some.injEq] at g2; subst g2
      obtain ⟨k1, k2⟩ := hτ q e (by rw [List.getElem?_append_left (by rw [fsts_length]; exact (List.getElem?_eq_some_iff.1 h4).1)]; exact fsts_get h4)
      exact scal_move g4 ((repL_iff.1 hVs).2 j c V g3 hV) k2 k1 hr
  · cases hc

end
end Go.Proofs.Sx
