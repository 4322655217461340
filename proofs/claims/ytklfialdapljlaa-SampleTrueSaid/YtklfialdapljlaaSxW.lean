/- Calls: what is handed in, what comes back. -/
import Derived.Test.YtklfialdapljlaaSxVa
import Derived.Laws.Externs
import Derived.Laws.Sem
import Derived.Deep.LoopGhost
import Derived.LoopN
import Derived.Scope
namespace Go.Proofs.Sx
open Go

/-! ### shapes -/

def ckVals : List CK → List Int → List Value
  | [], _ => []
  | k :: ks, xs => ckVal k (xs.headD 0) :: ckVals ks xs.tail

/-- where a list that is handed in lies -/
def LIn (w : World) (ks : List CK) (x : Int) (V : Value) : Prop :=
  ∃ A n c, V = .slice A n c ∧ n ≤ c ∧ 0 < ks.length ∧ (dec x).length = n * ks.length ∧
    (n = 0 ∨ ∃ b off, A = some ⟨b, off, none⟩ ∧ ∀ j v, (lstVals ks (dec x))[j]? = some v → w.cell? ⟨b, off + j, none⟩ = some v)

/-- the values that numbers stand for, by their shapes -/
def ArgsIs (w : World) : List Sh → List Int → List Value → Prop
  | [], xs, Vs => xs = [] ∧ Vs = []
  | .cell k :: l, xs, Vs => ∃ x xs' Vs', xs = x :: xs' ∧ Vs = ckVal k x :: Vs' ∧ ArgsIs w l xs' Vs'
  | .agg ks :: l, xs, Vs => ∃ ys xs' Vs', xs = ys ++ xs' ∧ ys.length = ks.length ∧ Vs = .agg (ckVals ks ys).toArray :: Vs' ∧ ArgsIs w l xs' Vs'
  | .lst ks _ :: l, xs, Vs => ∃ x xs' V Vs', xs = x :: xs' ∧ Vs = V :: Vs' ∧ LIn w ks x V ∧ ArgsIs w l xs' Vs'

/-- where a list that comes back lies: in a block that was not there -/
def LOut (w w' : World) (ks : List CK) (ty : TypeId) (x cap : Int) (V : Value) : Prop :=
  ∃ A n c, V = .slice A n c ∧ cap = (c : Nat) ∧ n ≤ c ∧ 0 < ks.length ∧ (dec x).length = n * ks.length ∧
    (c ≠ 0 → ∃ rb rest fz, A = some ⟨rb, 0, none⟩ ∧ w.heap.size ≤ rb ∧ w'.heap[rb]? = some (.cells (lstVals ks (dec x) ++ rest).toArray ty fz) ∧ (lstVals ks (dec x) ++ rest).length = c * ks.length ∧
      (fz.2 = 0 ∨ (lstVals ks (dec x) ++ rest).length ≤ fz.1))

def ResIs (w w' : World) : List Sh → List Int → List Value → Prop
  | [], xs, Vs => xs = [] ∧ Vs = []
  | .cell k :: l, xs, Vs => ∃ x xs' Vs', xs = x :: xs' ∧ Vs = ckVal k x :: Vs' ∧ ResIs w w' l xs' Vs'
  | .agg ks :: l, xs, Vs => ∃ ys xs' Vs', xs = ys ++ xs' ∧ ys.length = ks.length ∧ Vs = .agg (ckVals ks ys).toArray :: Vs' ∧ ResIs w w' l xs' Vs'
  | .lst ks ty :: l, xs, Vs => ∃ x cap xs' V Vs', xs = x :: cap :: xs' ∧ Vs = V :: Vs' ∧ LOut w w' ks ty x cap V ∧ ResIs w w' l xs' Vs'

def oneOrTupV : List Value → Value
  | [v] => v
  | l => .tuple l.toArray

section
variable {D : Ctx} {B : Base} {σ : Val} {β : Bmap}

theorem oneOrTup_rep {l : List AV} {Vs : List Value} (h : AV.repL D B σ β l Vs) : (oneOrTup l).rep D B σ β (oneOrTupV Vs) := by
  cases l with
  | nil => cases Vs with
    | nil => exact ⟨[], rfl, trivial⟩
    | cons _ _ => simp [AV.repL] at h
  | cons x l => cases Vs with
    | nil => simp [AV.repL] at h
    | cons y Vs => cases l with
      | nil => cases Vs with
        | nil => simp only [AV.repL] at h; exact h.1
        | cons _ _ => simp [AV.repL] at h
      | cons x2 l => cases Vs with
        | nil => simp [AV.repL] at h
        | cons y2 Vs => exact ⟨_, rfl, h⟩

theorem ckArgs_vals : ∀ {ks : List CK} {vs : List AV} {es : List AE} {Vs : List Value}, ckArgs ks vs = some es → AV.repL D B σ β vs Vs → es.length = ks.length ∧ Vs = ckVals ks (es.map (·.ev σ)) := by
  intro ks
  induction ks with
  | nil =>
    intro vs es Vs h hv
    cases vs with
    | nil => simp [ckArgs] at h; subst h; cases Vs with
      | nil => exact ⟨rfl, rfl⟩
      | cons _ _ => simp [AV.repL] at hv
    | cons _ _ => simp [ckArgs] at h
  | cons k ks ih =>
    intro vs es Vs h hv
    cases vs with
    | nil => cases k <;> simp [ckArgs] at h
    | cons v vs =>
      cases Vs with
      | nil => simp [AV.repL] at hv
      | cons V Vs =>
        simp only [AV.repL] at hv
        by_cases hcon : ∃ k' n', k = .con k' n'
        · obtain ⟨k', n', rfl⟩ := hcon
          obtain ⟨k, m, rfl⟩ : ∃ k m, v = .int k (.lit m) := by
            cases v with
            | int k e => cases e with
              | lit m => exact ⟨k, m, rfl⟩
              | _ => simp [ckArgs] at h
            | _ => simp [ckArgs] at h
          simp only [ckArgs] at h
          split at h
          · rename_i hk
            simp only [Bool.and_eq_true, ibeq_iff] at hk
            simp only [Option.map_eq_some_iff] at h
            obtain ⟨es', h1, rfl⟩ := h
            obtain ⟨h2, h3⟩ := ih h1 hv.2
            have hk1 := (kbeq_iff _ _).1 hk.1
            have hk2 := hk.2
            subst hk1; subst hk2
            simp only [AV.rep, IE.ev] at hv
            refine ⟨by simp [h2], ?_⟩
            simp [ckVals, ckVal, hv.1.2, h3]
          · cases h
        cases k
        case con k' n' => exact absurd ⟨_, _, rfl⟩ hcon
        all_goals (clear hcon; cases v <;> simp only [ckArgs, reduceCtorEq] at h)
        · split at h
          · rename_i hk
            simp only [Option.map_eq_some_iff] at h
            obtain ⟨es', h1, rfl⟩ := h
            obtain ⟨h2, h3⟩ := ih h1 hv.2
            rw [kbeq_iff] at hk; subst hk
            simp only [AV.rep] at hv
            refine ⟨by simp [h2], ?_⟩
            simp [ckVals, ckVal, AE.ev, hv.1.2, h3]
          · cases h
        · simp only [Option.map_eq_some_iff] at h
          obtain ⟨es', h1, rfl⟩ := h
          obtain ⟨h2, h3⟩ := ih h1 hv.2
          simp only [AV.rep] at hv
          refine ⟨by simp [h2], ?_⟩
          rename_i c
          cases hc : c.ev σ <;> simp [ckVals, ckVal, AE.ev, hv.1.2, h3, hc]
        · split at h
          · rename_i hk
            simp only [Option.map_eq_some_iff] at h
            obtain ⟨es', h1, rfl⟩ := h
            obtain ⟨h2, h3⟩ := ih h1 hv.2
            rw [fbeq_iff] at hk; subst hk
            simp only [AV.rep] at hv
            refine ⟨by simp [h2], ?_⟩
            simp [ckVals, ckVal, AE.ev, hv.1.2, h3]
          · cases h
theorem one_of {l : List AE} (h : l.length = 1) : ∃ x, l = [x] := by
  cases l with
  | nil => simp at h
  | cons x l => cases l with
    | nil => exact ⟨x, rfl⟩
    | cons _ _ => simp at h

theorem shArgs_vals {st : St} {a : Act} {w : World} (F : Fits D B σ β st a w) (R : RoOk D B σ) : ∀ {ks : List Sh} {vs : List AV} {es : List AE} {Vs : List Value}, (∀ l t, Sh.lst l t ∈ ks → 0 < l.length) → shArgs D st ks vs = some es → AV.repL D B σ β vs Vs → ArgsIs w ks (es.map (·.ev σ)) Vs := by
  intro ks
  induction ks with
  | nil =>
    intro vs es Vs _ h hv
    cases vs with
    | nil => cases Vs with
      | nil => simp [shArgs] at h; subst h; exact ⟨rfl, rfl⟩
      | cons _ _ => simp [AV.repL] at hv
    | cons _ _ => simp [shArgs] at h
  | cons k ks ih =>
    intro vs es Vs hpos h hv
    have ih := fun {vs es Vs} => @ih vs es Vs (fun l t hm => hpos l t (List.mem_cons_of_mem _ hm))
    cases vs with
    | nil => cases k <;> simp [shArgs] at h
    | cons v vs =>
      cases Vs with
      | nil => simp [AV.repL] at hv
      | cons V Vs =>
        simp only [AV.repL] at hv
        cases k with
        | cell k =>
          simp only [shArgs] at h
          split at h
          · rename_i x y ha hb
            simp only [Option.some.injEq] at h; subst h
            obtain ⟨h1, h2⟩ := ckArgs_vals ha (Vs := [V]) ⟨hv.1, trivial⟩
            have h3 := ih hb hv.2
            obtain ⟨x, rfl⟩ := one_of h1
            simp [ckVals] at h2
            exact ⟨_, _, _, rfl, by rw [h2], h3⟩
          · cases h
        | agg l =>
          cases v <;> simp only [shArgs, reduceCtorEq] at h
          split at h
          · rename_i x y ha hb
            simp only [Option.some.injEq] at h; subst h
            simp only [AV.rep] at hv
            obtain ⟨⟨X, rfl, hx⟩, hv2⟩ := hv
            obtain ⟨h1, h2⟩ := ckArgs_vals ha hx
            exact ⟨x.map (·.ev σ), _, _, by simp, by simp [h1], by rw [h2], ih hb hv2⟩
          · cases h
        | lst l t =>
          simp only [shArgs] at h
          split at h
          · rename_i L y ha hb
            simp only [Option.some.injEq] at h; subst h
            obtain ⟨_, A, n, c, rfl, h2, h3, h4, h5⟩ := listOf_sound F R ha hv.1
            refine ⟨_, _, _, _, rfl, rfl, ⟨A, n, c, rfl, h3, hpos l t List.mem_cons_self, h2, ?_⟩, ih hb hv.2⟩
            by_cases hn : n = 0
            · exact .inl hn
            · obtain ⟨b, off, rfl, hcells⟩ := h5 hn
              refine .inr ⟨b, off, rfl, fun j v hv => ?_⟩
              rw [← addr_add]; exact hcells j v hv
          · cases h

theorem ckRes_rep : ∀ {ks : List CK} {i : Nat} {rs : List Int}, ks.length ≤ rs.length → i + ks.length ≤ σ.n → (∀ q x, q < ks.length → rs[q]? = some x → σ.v (i + q) = x) → AV.repL D B σ β (ckRes ks i) (ckVals ks rs) := by
  intro ks
  induction ks with
  | nil => intro i rs _ _ _; exact trivial
  | cons k ks ih =>
    intro i rs hl hn hv
    cases rs with
    | nil => simp at hl
    | cons x rs =>
      simp only [ckRes, ckVals, AV.repL, List.headD_cons, List.tail_cons]
      refine ⟨var_rep (by simp at hn; omega) (hv 0 x (by simp) rfl), ih (by simpa using hl) (by simp at hn; omega) fun q y hq hy => ?_⟩
      have := hv (q + 1) y (by simpa using hq) (by simpa using hy)
      rw [← this]; congr 1; omega

/-- the lists among results, with their values -/
def lstsV : List Sh → Nat → List Value → List (Nat × List CK × TypeId × Value)
  | .lst l t :: ks, i, V :: Vs => (i, l, t, V) :: lstsV ks (i + 2) Vs
  | .cell _ :: ks, i, _ :: Vs => lstsV ks (i + 1) Vs
  | .agg l :: ks, i, _ :: Vs => lstsV ks (i + l.length) Vs
  | _, _, _ => []

theorem lstsV_of {w0 w1 : World} : ∀ {ks : List Sh} {i : Nat} {rs : List Int} {Vs : List Value}, ResIs w0 w1 ks rs Vs → (lstsV ks i Vs).map (fun p => (p.1, p.2.1, p.2.2.1)) = lstsOf ks i := by
  intro ks
  induction ks with
  | nil => intro i rs Vs _; rfl
  | cons k ks ih =>
    intro i rs Vs h
    cases k with
    | cell k => obtain ⟨x, xs, Vs', rfl, rfl, h'⟩ := h; simp only [lstsV, lstsOf, Sh.rcount]; exact ih h'
    | agg l => obtain ⟨ys, xs, Vs', rfl, hy, rfl, h'⟩ := h; simp only [lstsV, lstsOf, Sh.rcount]; exact ih h'
    | lst l t => obtain ⟨x, cap, xs, V, Vs', rfl, rfl, hV, h'⟩ := h; simp only [lstsV, lstsOf, List.map_cons]; rw [ih h']

theorem resIs_lst {w0 w1 : World} : ∀ {ks : List Sh} {i : Nat} {rs : List Int} {Vs : List Value} {j : Nat} {l : List CK} {t : TypeId} {V : Value}, ResIs w0 w1 ks rs Vs → (j, l, t, V) ∈ lstsV ks i Vs →
    ∃ q x cap, j = i + q ∧ rs[q]? = some x ∧ rs[q + 1]? = some cap ∧ LOut w0 w1 l t x cap V := by
  intro ks
  induction ks with
  | nil => intro i rs Vs j l t V _ hm; simp [lstsV] at hm
  | cons k ks ih =>
    intro i rs Vs j l t V h hm
    cases k with
    | cell k =>
      obtain ⟨x, xs, Vs', rfl, rfl, h'⟩ := h
      obtain ⟨q, y, c, h1, h2, h3, h4⟩ := ih h' hm
      exact ⟨q + 1, y, c, by omega, by simpa using h2, by simpa using h3, h4⟩
    | agg m =>
      obtain ⟨ys, xs, Vs', rfl, hy, rfl, h'⟩ := h
      obtain ⟨q, y, c, h1, h2, h3, h4⟩ := ih h' hm
      refine ⟨ys.length + q, y, c, by omega, ?_, ?_, h4⟩
      · rw [List.getElem?_append_right (by omega)]; rw [← h2]; congr 1; omega
      · rw [List.getElem?_append_right (by omega)]; rw [← h3]; congr 1; omega
    | lst m u =>
      obtain ⟨x, cap, xs, V', Vs', rfl, rfl, hV, h'⟩ := h
      simp only [lstsV, List.mem_cons, Prod.mk.injEq] at hm
      rcases hm with ⟨rfl, rfl, rfl, rfl⟩ | hm
      · exact ⟨0, x, cap, rfl, rfl, rfl, hV⟩
      · obtain ⟨q, y, c, h1, h2, h3, h4⟩ := ih h' hm
        exact ⟨q + 2, y, c, by omega, by simpa using h2, by simpa using h3, h4⟩

/-- what a call of specified cells yields -/
theorem shRes_rep {w0 w1 : World} (ob : Option Nat) : ∀ {ks : List Sh} {i : Nat} {rs : List Int} {Vs : List Value}, ResIs w0 w1 ks rs Vs → i + shRCount ks ≤ σ.n → (∀ q x, rs[q]? = some x → σ.v (i + q) = x) →
    (∀ j l ty V, (j, l, ty, V) ∈ lstsV ks i Vs → (match ob with
      | none => AV.rep D B σ β (.sl 0 0 (.lit 0) (.lit 0)) V
      | some b => AV.rep D B σ β (.sl b 0 (cntL (.var j) l.length) (.var (j + 1))) V)) →
    AV.repL D B σ β (shRes ob ks i) Vs := by
  intro ks
  induction ks with
  | nil => intro i rs Vs h _ _ _; obtain ⟨_, rfl⟩ := h; exact trivial
  | cons k ks ih =>
    intro i rs Vs h hn hv hL
    cases k with
    | cell k =>
      obtain ⟨x, xs, Vs', rfl, rfl, h'⟩ := h
      simp only [shRes, AV.repL]
      simp only [shRCount, Sh.rcount] at hn
      refine ⟨var_rep (by omega) (hv 0 x rfl), ih h' (by omega) (fun q y hy => ?_) hL⟩
      have := hv (q + 1) y (by simpa using hy)
      rw [← this]; congr 1; omega
    | agg l =>
      obtain ⟨ys, xs, Vs', rfl, hy, rfl, h'⟩ := h
      simp only [shRes, AV.repL]
      simp only [shRCount, Sh.rcount] at hn
      refine ⟨⟨_, rfl, ckRes_rep (by omega) (by omega) fun q x hq hx => hv q x (by rw [List.getElem?_append_left (by omega)]; exact hx)⟩, ih h' (by omega) (fun q y hq => ?_) hL⟩
      have := hv (l.length + q) y (by rw [List.getElem?_append_right (by omega)]; rw [← hq]; congr 1; omega)
      rw [← this]; congr 1; omega
    | lst l t =>
      obtain ⟨x, cap, xs, V, Vs', rfl, rfl, hV, h'⟩ := h
      simp only [shRCount, Sh.rcount] at hn
      have hh := hL i l t V (by simp [lstsV])
      have ht := ih h' (i := i + 2) (by omega) (fun q y hy => by
        have := hv (q + 2) y (by simpa using hy)
        rw [← this]; congr 1; omega) fun j l' ty V' hm => hL j l' ty V' (by simp [lstsV, hm])
      cases ob with
      | none => exact ⟨hh, ht⟩
      | some b => exact ⟨hh, ht⟩

/-! ### the slots at the start of a call -/

theorem sets_get : ∀ (l : List AV) (j : Nat) (m : Tm) (i : Nat), (i < j ∨ j + l.length ≤ i → (m.sets j l).get i = m.get i) ∧
    (j ≤ i → i < j + l.length → (m.sets j l).get i = .junk ∨ l[i - j]? = some ((m.sets j l).get i)) := by
  intro l
  induction l with
  | nil => intro j m i; exact ⟨fun _ => rfl, fun h1 h2 => by simp at h2; omega⟩
  | cons x l ih =>
    intro j m i
    obtain ⟨h1, h2⟩ := ih (j + 1) (m.set j x) i
    simp only [Tm.sets, List.length_cons]
    refine ⟨fun h => ?_, fun g1 g2 => ?_⟩
    · rw [h1 (by omega), set_get_ne (by omega)]
    · by_cases hij : i = j
      · subst hij
        rw [h1 (by omega)]
        rcases Tm.get_set_self m i x with h | h
        · right; rw [h]; simp
        · exact .inl h
      · rcases h2 (by omega) (by omega) with h | h
        · exact .inl h
        · right
          have : i - j = (i - (j + 1)) + 1 := by omega
          rw [this, List.getElem?_cons_succ]; exact h

theorem enter_rep {n : Nat} {args : List AV} {Vs : List Value} (h : AV.repL D B σ β args Vs) (i : Nat) :
    ((Tm.enter n args).get i).rep D B σ β ((Vs.toArray ++ Array.replicate (n - Vs.toArray.size) undef).getD i undef) := by
  unfold Tm.enter
  obtain ⟨h1, h2⟩ := sets_get args 0 (Tm.full (Nat.log2 n + 1)) i
  have hl := repL_length h
  by_cases hi : i < args.length
  · rcases h2 (Nat.zero_le _) (by omega) with h' | h'
    · rw [h']; trivial
    · have hi' : i < Vs.length := by omega
      have e : ((Vs.toArray ++ Array.replicate (n - Vs.toArray.size) undef).getD i undef) = Vs[i] := by
        rw [Array.getD_eq_getD_getElem?, Array.getElem?_append_left (by simpa using hi')]
        simp [hi']
      rw [e]
      exact (repL_iff.1 h).2 i _ _ (by simpa using h') (List.getElem?_eq_getElem hi')
  · rw [h1 (by omega)]
    have e : ((Vs.toArray ++ Array.replicate (n - Vs.toArray.size) undef).getD i undef) = undef := by
      rw [Array.getD_eq_getD_getElem?, Array.getElem?_append_right (by simp; omega)]
      simp only [Array.getElem?_replicate]
      split <;> rfl
    rw [e]
    rcases Tm.get_full (Nat.log2 n + 1) i with h' | h'
    · rw [h']; exact undefA_rep
    · rw [h']; trivial

/-! ### worlds that only grew -/

theorem Fits.later {st : St} {a : Act} {w w' : World} (F : Fits D B σ β st a w) (h1 : w.heap.size ≤ w'.heap.size) (h2 : ∀ r, r < w.heap.size → w'.heap[r]? = w.heap[r]?) (he : w'.os = w.os ∧ w'.output = w.output) : Fits D B σ β st a w' :=
  { nn := F.nn, df := F.df, sz := F.sz, tm := F.tm
    hp := fun b o ho => by
      obtain ⟨rb, g1, g2, g3⟩ := F.hp b o ho
      exact ⟨rb, g1, by rw [h2 rb (F.bnd b rb g1)]; exact g2, g3⟩
    inj := F.inj, fresh := F.fresh
    bnd := fun b rb hb => Nat.lt_of_lt_of_le (F.bnd b rb hb) h1
    pc := F.pc
    grow := Nat.le_trans F.grow h1
    env := by rw [he.1, he.2]; exact F.env
    fr := fun r hr hO => by rw [h2 r (Nat.lt_of_lt_of_le hr F.grow)]; exact F.fr r hr hO }

theorem Fits.frame {st st' : St} {a a' : Act} {w : World} (F : Fits D B σ β st a w) (hn : st'.nv = st.nv) (hb : st'.nb = st.nb) (hh : st'.hp = st.hp) (hp : st'.pc = st.pc) (hd : a'.defers = []) (hs : a'.tmps.size = st'.nt)
    (ht : ∀ i, (st'.tm.get i).rep D B σ β (a'.tmps.getD i undef)) : Fits D B σ β st' a' w :=
  { nn := by rw [hn]; exact F.nn
    df := hd
    sz := hs
    tm := ht
    hp := by rw [hh]; exact F.hp
    inj := by rw [hh]; exact F.inj
    fresh := by rw [hb]; exact F.fresh
    bnd := F.bnd
    pc := by rw [hp]; exact F.pc
    grow := F.grow
    env := F.env
    fr := F.fr }

/-! ### results -/

theorem resultsA_sound {st : St} {a : Act} {w : World} (F : Fits D B σ β st a w) (R : RoOk D B σ) : ∀ {l : List ResultVar} {rs : List AV}, resultsA D st l = some rs →
    ∃ Vs, AV.repL D B σ β rs Vs ∧ (l.mapM (m := Sem) fun
      | .tmp t => pure (a.tmps.getD t undef)
      | .cell c t => do loadVar t (← asAddr (a.tmps.getD c undef))).run D.P w = .ok Vs w := by
  intro l
  induction l with
  | nil => intro rs h; simp [resultsA] at h; subst h; exact ⟨[], trivial, rfl⟩
  | cons x l ih =>
    intro rs h
    cases x with
    | tmp t =>
      simp only [resultsA, Option.map_eq_some_iff] at h
      obtain ⟨rs', h1, rfl⟩ := h
      obtain ⟨Vs, h2, h3⟩ := ih h1
      refine ⟨_ :: Vs, ⟨F.tm t, h2⟩, ?_⟩
      simp only [List.mapM_cons, Sem.run_bind, Sem.run_pure, Result.andThen_ok, h3]
    | cell c t =>
      simp only [resultsA] at h
      split at h
      · rename_i v vs hv hvs
        simp only [Option.some.injEq] at h; subst h
        obtain ⟨Vs, h2, h3⟩ := ih hvs
        obtain ⟨V, A, g1, g2, g3⟩ := loadA_sound F.heapOk (R.at F) (F.pcFor _) (fun _ _ => rfl) hv (F.tm c)
        refine ⟨V :: Vs, ⟨g2, h2⟩, ?_⟩
        have ea : (asAddr (a.tmps.getD c undef)).run D.P w = .ok A w := by rw [g1]; rfl
        simp only [List.mapM_cons, Sem.run_bind, Sem.run_pure, ea, Result.andThen_ok, g3, h3]
      · cases h

theorem results_run {fn : Func} {st : St} {a : Act} {w : World} (F : Fits D B σ β st a w) (R : RoOk D B σ) {rs : List AV} (h : resultsA D st fn.results.toList = some rs) :
    ∃ Vs, AV.repL D B σ β rs Vs ∧ (results fn a.tmps).run D.P w = .ok (oneOrTupV Vs) w := by
  obtain ⟨Vs, h1, h2⟩ := resultsA_sound F R h
  refine ⟨Vs, h1, ?_⟩
  unfold results
  rw [Array.mapM_eq_mapM_toList]
  simp only [Sem.run_bind, Sem.run_map]
  erw [h2]
  simp only [Result.andThen_ok, Sem.run_pure]
  cases Vs with
  | nil => rfl
  | cons x Vs => cases Vs with
    | nil => rfl
    | cons y Vs => simp [oneOrTupV]

end
end Go.Proofs.Sx
