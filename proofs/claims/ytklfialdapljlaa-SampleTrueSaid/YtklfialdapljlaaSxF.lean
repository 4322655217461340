/- Operations that only reckon: the executor's answer is the model's, in whatever world. -/
import Derived.Test.YtklfialdapljlaaSxE
import Derived.Laws.StructEq
namespace Go.Proofs.Sx
open Go

noncomputable def PT.pick {α : Type} (σ : Val) : PT α → Option α
  | .ret x => some x
  | .br c t e => if c.ev σ then t.pick σ else e.pick σ
  | .fail _ => none

def PT.okc {α : Type} (n : Nat) : PT α → Bool
  | .ret _ => true
  | .br c t e => c.ok n && t.okc n && e.okc n
  | .fail _ => true

section
variable {D : Ctx} {B : Base} {σ : Val} {β : Bmap}

theorem bytesOfL_rep : ∀ l : List UInt8, (∀ e ∈ bytesOfL l, IE.ok σ.n e = true) ∧ (bytesOfL l).map (fun e => UInt8.ofNat (e.ev σ).toNat) = l := by
  intro l
  induction l with
  | nil => simp [bytesOfL]
  | cons b l ih => simp only [bytesOfL, List.mem_cons, forall_eq_or_imp, List.map_cons]; exact ⟨⟨rfl, ih.1⟩, by rw [ih.2]; simp [IE.ev]⟩

theorem ofVal1_rep (V : Value) : (ofVal1 V).rep D B σ β V := by
  unfold ofVal1
  split
  · simp [AV.rep, BE.ok, BE.ev]
  · simp [AV.rep, IE.ok, IE.ev]
  · simp [AV.rep, IE.ok, IE.ev]
  · rename_i s
    simp only [AV.rep]
    have h := bytesOfL_rep (σ := σ) s.data.toList
    refine ⟨h.1, ?_⟩
    rw [h.2]
  · simp [AV.rep]
  · simp only [AV.rep]; exact ⟨rfl, rfl, 0, 0, none, rfl, rfl, rfl, Nat.le_refl _, .inl rfl⟩
  · simp [AV.rep]
  · simp [AV.rep]
  · simp [AV.rep]

theorem ofVal1s_rep : ∀ l : List Value, AV.repL D B σ β (ofVal1s l) l := by
  intro l
  induction l with
  | nil => simp [ofVal1s, AV.repL]
  | cons V l ih => simp only [ofVal1s, AV.repL]; exact ⟨ofVal1_rep V, ih⟩

theorem ofVal_rep (V : Value) : (ofVal V).rep D B σ β V := by
  unfold ofVal
  split
  · rename_i cs; simp only [AV.rep]; exact ⟨cs.toList, rfl, ofVal1s_rep _⟩
  · exact ofVal1_rep _

/-- the operands stand for what they hold -/
def EvOk (D : Ctx) (B : Base) (σ : Val) (β : Bmap) (st : St) (a : Act) : Prop := ∀ x : Operand, (st.ev x).rep D B σ β (a.eval x)

theorem Fits.ev {st : St} {a : Act} {w : World} (F : Fits D B σ β st a w) : EvOk D B σ β st a := by
  intro x
  cases x with
  | tmp t => exact F.tm t
  | const v => exact ofVal_rep v
  | global g => trivial
  | func f => simp only [St.ev, AV.rep, Act.eval]; exact ⟨[], [], rfl, trivial, trivial⟩

theorem EvOk.map {st : St} {a : Act} (h : EvOk D B σ β st a) (l : List Operand) : AV.repL D B σ β (l.map st.ev) (l.map a.eval) := by
  induction l with
  | nil => simp [AV.repL]
  | cons x l ih => simp only [List.map_cons, AV.repL]; exact ⟨h x, ih⟩

/-! ### 'nway' -/

theorem nway_go_pick {α : Type} {e : IE} {f : Nat → PT α} {x : α} : ∀ (m i : Nat), (nway.go f e m i).pick σ = some x → ∃ j, i ≤ j ∧ j < i + m ∧ e.ev σ = (j : Int) ∧ (f j).pick σ = some x := by
  intro m
  induction m with
  | zero => intro i h; simp [nway.go, PT.pick] at h
  | succ m ih =>
    intro i h
    simp only [nway.go, PT.pick] at h
    split at h
    · rename_i hc
      simp [BE.ev, IE.ev] at hc
      exact ⟨i, Nat.le_refl _, by omega, hc, h⟩
    · obtain ⟨j, h1, h2, h3, h4⟩ := ih _ h
      exact ⟨j, by omega, by omega, h3, h4⟩

theorem nway_pick {α : Type} {e : IE} {n : Nat} {f : Nat → PT α} {x : α} (h : (nway e n f).pick σ = some x) : ∃ i, i < n ∧ e.ev σ = (i : Int) ∧ (f i).pick σ = some x := by
  unfold nway at h
  split at h
  · split at h
    · split at h
      · rename_i i hi; exact ⟨i, by simpa [Nat.blt_eq] using hi, rfl, h⟩
      · simp [PT.pick] at h
    · simp [PT.pick] at h
  · obtain ⟨j, _, h2, h3, h4⟩ := nway_go_pick _ _ h
    exact ⟨j, by omega, h3, h4⟩

theorem nway_okc {α : Type} {k : Nat} {e : IE} {n : Nat} {f : Nat → PT α} (he : e.ok k = true) (hf : ∀ i, i < n → (f i).okc k = true) : (nway e n f).okc k = true := by
  unfold nway
  split
  · split
    · split
      · rename_i hi; exact hf _ (by simpa [Nat.blt_eq] using hi)
      · rfl
    · rfl
  · have : ∀ m i, i + m ≤ n → (nway.go f e m i).okc k = true := by
      intro m
      induction m with
      | zero => intro i _; rfl
      | succ m ih => intro i hi; simp [nway.go, PT.okc, BE.ok, IE.ok, he, hf i (by omega), ih (i + 1) (by omega)]
    exact this _ _ (by omega)

/-! ### integers -/

theorem ne_shift {op : BinOp} (h : isShift op = false) : op ≠ .shl ∧ op ≠ .shr := by cases op <;> simp_all [isShift]

theorem popInt_sound {op : BinOp} {k : IntKind} {a b : IE} (ha : a.ok σ.n = true) (hb : b.ok σ.n = true) (hs : isShift op = false) {t : TypeId} :
    (popInt op k a b).okc σ.n = true ∧ ∀ v, (popInt op k a b).pick σ = some v → ∃ V, v.rep D B σ β V ∧ ∀ w, (binOp op t (.int k (a.ev σ)) (.int k (b.ev σ))).run D.P w = .ok V w := by
  have h0 := @ev_mkEq σ b (.lit 0)
  cases op <;> simp [isShift] at hs <;>
    (refine ⟨by simp [popInt, PT.okc, ok_mkEq _ hb (show IE.ok σ.n (.lit 0) = true from rfl)], ?_⟩) <;>
    intro v hv <;> simp only [popInt, PT.pick] at hv
  case quo =>
    split at hv
    · simp at hv
    · rename_i hc
      simp [h0, IE.ev] at hc
      simp at hv; subst hv
      refine ⟨_, ⟨ok_mkOp _ ha hb, rfl⟩, fun w => ?_⟩
      simp [binOp, Op.intDiv, hc, ev_mkOp, F2.ev]
  case rem =>
    split at hv
    · simp at hv
    · rename_i hc
      simp [h0, IE.ev] at hc
      simp at hv; subst hv
      refine ⟨_, ⟨ok_mkOp _ ha hb, rfl⟩, fun w => ?_⟩
      simp [binOp, Op.intDiv, hc, ev_mkOp, F2.ev]
  all_goals (simp at hv; subst hv)
  case add => exact ⟨_, ⟨ok_mkOp _ ha hb, rfl⟩, fun w => by simp [binOp, Op.intArith, ev_mkOp, F2.ev]⟩
  case sub => exact ⟨_, ⟨ok_mkOp _ ha hb, rfl⟩, fun w => by simp [binOp, Op.intArith, ev_mkOp, F2.ev]⟩
  case mul => exact ⟨_, ⟨ok_mkOp _ ha hb, rfl⟩, fun w => by simp [binOp, Op.intArith, ev_mkOp, F2.ev]⟩
  case and => exact ⟨_, ⟨ok_mkOp _ ha hb, rfl⟩, fun w => by simp [binOp, Op.intBits, ev_mkOp, F2.ev]⟩
  case or => exact ⟨_, ⟨ok_mkOp _ ha hb, rfl⟩, fun w => by simp [binOp, Op.intBits, ev_mkOp, F2.ev]⟩
  case xor => exact ⟨_, ⟨ok_mkOp _ ha hb, rfl⟩, fun w => by simp [binOp, Op.intBits, ev_mkOp, F2.ev]⟩
  case andNot => exact ⟨_, ⟨ok_mkOp _ ha hb, rfl⟩, fun w => by simp [binOp, Op.intBits, ev_mkOp, F2.ev]⟩
  case eql => exact ⟨_, ⟨ok_mkEq _ ha hb, rfl⟩, fun w => by simp [binOp, Op.intCmp, ev_mkEq]⟩
  case neq => exact ⟨_, ⟨ok_mkNot _ (ok_mkEq _ ha hb), rfl⟩, fun w => by simp [binOp, Op.intCmp, ev_mkEq, ev_mkNot, bne]⟩
  case lss => exact ⟨_, ⟨ok_mkLt _ ha hb, rfl⟩, fun w => by simp [binOp, Op.intCmp, ev_mkLt]⟩
  case leq => exact ⟨_, ⟨ok_mkLe _ ha hb, rfl⟩, fun w => by simp [binOp, Op.intCmp, ev_mkLe]⟩
  case gtr => exact ⟨_, ⟨ok_mkLt _ hb ha, rfl⟩, fun w => by simp [binOp, Op.intCmp, ev_mkLt]⟩
  case geq => exact ⟨_, ⟨ok_mkLe _ hb ha, rfl⟩, fun w => by simp [binOp, Op.intCmp, ev_mkLe]⟩

theorem popShift_sound {op : BinOp} {k k' : IntKind} {a b : IE} (ha : a.ok σ.n = true) (hb : b.ok σ.n = true) (hs : isShift op = true) {t : TypeId} :
    (popShift op k a b).okc σ.n = true ∧ ∀ v, (popShift op k a b).pick σ = some v → ∃ V, v.rep D B σ β V ∧ ∀ w, (binOp op t (.int k (a.ev σ)) (.int k' (b.ev σ))).run D.P w = .ok V w := by
  have h0 := @ev_mkLt σ b (.lit 0)
  cases op <;> simp [isShift] at hs <;>
    (refine ⟨by simp [popShift, PT.okc, ok_mkLt _ hb (show IE.ok σ.n (.lit 0) = true from rfl)], ?_⟩) <;>
    intro v hv <;> simp only [popShift, PT.pick] at hv <;>
    (split at hv
     · simp at hv
     · rename_i hc
       simp [h0, IE.ev] at hc
       simp at hv; subst hv
       refine ⟨_, ⟨ok_mkOp _ ha hb, rfl⟩, fun w => ?_⟩
       have : ¬ b.ev σ < 0 := of_decide_eq_false hc
       simp [binOp, Op.shift, this, ev_mkOp, F2.ev] <;> rfl)

/-! ### parts of aggregates, '==' -/

theorem partA_sound {t : TypeId} {cs : List AV} {off : Nat} {v : AV} {xs : List Value} (h : partA D.P t cs off = some v) (hr : AV.repL D B σ β cs xs) :
    ∃ V, v.rep D B σ β V ∧ ∀ w, (part t xs.toArray off).run D.P w = .ok V w := by
  unfold partA at h
  cases hu : D.P.underlying t with
  | none => simp [hu] at h
  | some d =>
    simp only [hu] at h
    have hag : ∀ w, (isAgg t).run D.P w = .ok (isAggD d) w := fun w => by
      simp only [isAgg, Sem.run_bind, run_underlying hu, Result.andThen_ok]
      cases d <;> rfl
    split at h
    · rename_i hd
      cases hn : szOf D.P t with
      | none => simp [hn] at h
      | some n =>
        simp only [hn, Option.map_eq_some_iff] at h
        obtain ⟨r, hr', rfl⟩ := h
        obtain ⟨i, hi, rfl⟩ : ∃ i, D.P.info? t = some i ∧ i.size = n := by simpa [szOf] using hn
        refine ⟨.agg ((xs.drop off).take i.size).toArray, ⟨_, rfl, repL_sub hr hr'⟩, fun w => ?_⟩
        obtain ⟨rfl, hlen⟩ := lsub_eq hr'
        have hl := repL_length hr
        simp only [part, Sem.run_bind, hag, Result.andThen_ok, hd, if_true, sizeOf, typeInfo, run_program, hi, Sem.run_pure]
        simp
    · rename_i hd
      simp only [Option.map_eq_some_iff] at h
      obtain ⟨r, hr', hv⟩ := h
      obtain ⟨hr2, hlen⟩ := lsub_eq hr'
      have hrep := repL_sub hr hr'
      have hl := repL_length hr
      have h1 : off < xs.length := by omega
      have hx : (xs.drop off).take 1 = [xs[off]] := by rw [List.drop_eq_getElem_cons h1]; rfl
      rw [hx] at hrep
      cases r with
      | nil => simp [AV.repL] at hrep
      | cons c r =>
        cases r with
        | nil =>
          simp only at hv; subst hv
          simp only [AV.repL] at hrep
          refine ⟨_, hrep.1, fun w => ?_⟩
          simp [part, hag, hd, h1]
        | cons _ _ => simp [AV.repL] at hrep

theorem strEq_ok : ∀ {x y : List IE}, (∀ e ∈ x, IE.ok σ.n e = true) → (∀ e ∈ y, IE.ok σ.n e = true) → (strEq x y).ok σ.n = true := by
  intro x
  induction x with
  | nil => intro y _ _; cases y <;> rfl
  | cons a x ih =>
    intro y hx hy
    cases y with
    | nil => rfl
    | cons b y =>
      simp only [List.mem_cons, forall_eq_or_imp] at hx hy
      exact ok_mkAnd _ (ok_mkEq _ (ok_mkByt _ hx.1) (ok_mkByt _ hy.1)) (ih hx.2 hy.2)

theorem byte_eq (a b : Int) : (((a.toNat % 256 : Nat) : Int) == ((b.toNat % 256 : Nat) : Int)) = (UInt8.ofNat a.toNat == UInt8.ofNat b.toNat) := by
  rw [Bool.eq_iff_iff]
  simp only [beq_iff_eq]
  constructor
  · intro h
    apply UInt8.toNat_inj.1
    simp only [UInt8.toNat_ofNat']
    omega
  · intro h
    have := congrArg UInt8.toNat h
    simp only [UInt8.toNat_ofNat'] at this
    omega

theorem strEq_ev : ∀ {x y : List IE}, (strEq x y).ev σ = ((x.map fun e => UInt8.ofNat (e.ev σ).toNat) == (y.map fun e => UInt8.ofNat (e.ev σ).toNat)) := by
  intro x
  induction x with
  | nil => intro y; cases y <;> rfl
  | cons a x ih =>
    intro y
    cases y with
    | nil => rfl
    | cons b y =>
      simp only [strEq, ev_mkAnd, ev_mkEq, ev_mkByt, ih, byte_eq, List.map_cons]
      rfl

/-- 'eq' is '==' from depth 'd' on -/
def EqOk (D : Ctx) (B : Base) (σ : Val) (β : Bmap) (d : Nat) (eq : TypeId → AV → AV → Option BE) : Prop :=
  ∀ t x y c X Y, eq t x y = some c → x.rep D B σ β X → y.rep D B σ β Y → c.ok σ.n = true ∧ ∀ e w, (Op.equalIn (d + e) t X Y).run D.P w = .ok (c.ev σ) w

theorem eqFields_sound {d : Nat} {eq : TypeId → AV → AV → Option BE} (h : EqOk D B σ β d eq) {xs ys : List AV} {Xs Ys : List Value} (hx : AV.repL D B σ β xs Xs) (hy : AV.repL D B σ β ys Ys) :
    ∀ (fs : List Field) (c : BE), eqFields D.P eq xs ys fs = some c → c.ok σ.n = true ∧ ∀ e w, (Op.eqFields (d + e) Xs.toArray Ys.toArray fs).run D.P w = .ok (c.ev σ) w := by
  intro fs
  induction fs with
  | nil => intro c hc; simp [eqFields] at hc; subst hc; exact ⟨rfl, fun e w => rfl⟩
  | cons f fs ih =>
    intro c hc
    simp only [eqFields] at hc
    by_cases hn : f.name ≠ "_"
    · rw [if_pos hn] at hc
      split at hc
      · rename_i p q hp hq
        split at hc
        · rename_i c1 r h1 h2
          simp at hc; subst hc
          obtain ⟨V, hV, hVr⟩ := partA_sound hp hx
          obtain ⟨W, hW, hWr⟩ := partA_sound hq hy
          obtain ⟨ok1, e1⟩ := h _ _ _ _ _ _ h1 hV hW
          obtain ⟨ok2, e2⟩ := ih _ h2
          refine ⟨ok_mkAnd _ ok1 ok2, fun e w => ?_⟩
          simp only [Op.eqFields, if_pos hn, Sem.run_bind, hVr, hWr, Result.andThen_ok, e1, Sem.run_ite, e2, ev_mkAnd, Sem.run_pure]
          cases c1.ev σ <;> simp
        · simp at hc
      · simp at hc
    · rw [if_neg hn] at hc
      obtain ⟨ok2, e2⟩ := ih _ hc
      refine ⟨ok2, fun e w => ?_⟩
      simp only [Op.eqFields, if_neg hn, e2]

theorem run_equalIn_array {P : Program} {d : Nat} {t elem : TypeId} {len n : Nat} {xs ys : Array Value} (ht : P.underlying t = some (.array len elem)) (hn : szOf P elem = some n) (res : Nat → Bool)
    (h : ∀ i, i < len → ∀ w, ∃ p q, (part elem xs (i * n)).run P w = .ok p w ∧ (part elem ys (i * n)).run P w = .ok q w ∧ (Op.equalIn d elem p q).run P w = .ok (res i) w) (w : World) :
    (Op.equalIn (d + 1) t (.agg xs) (.agg ys)).run P w = .ok ((List.range len).all res) w := by
  obtain ⟨i0, hi0, hs⟩ : ∃ i, P.info? elem = some i ∧ i.size = n := by simpa [szOf] using hn
  simp only [Op.equalIn, Sem.run_bind, run_underlying ht, Result.andThen_ok, sizeOf, typeInfo, run_program, hi0, Sem.run_pure, hs, Std.Legacy.Range.forIn_eq_forIn_range', Std.Legacy.Range.size]
  have key : ∀ (m i : Nat), i + m = len → ∀ w,
      ((forIn (List.range' i m) ((none, ()) : Option Bool × Unit) fun i (_ : Option Bool × Unit) => do
        let a ← part elem xs (i * n)
        let b ← part elem ys (i * n)
        let r ← Op.equalIn d elem a b
        if (!r) = true then pure (ForInStep.done (some false, ())) else pure (ForInStep.yield (none, ()))) : Sem (Option Bool × Unit)).run P w =
          .ok (if (List.range' i m).all res then (none, ()) else (some false, ())) w := by
    intro m
    induction m with
    | zero => intro i _ w; simp
    | succ m ih =>
      intro i hi w
      obtain ⟨p, q, h1, h2, h3⟩ := h i (by omega) w
      simp only [List.range'_succ, List.forIn_cons, Sem.run_bind, h1, h2, h3, Result.andThen_ok, Sem.run_ite, Sem.run_pure, List.all_cons]
      cases res i
      · simp
      · simp only [Bool.not_true, Bool.false_eq_true, if_false, Result.andThen_ok, Bool.true_and]
        exact ih (i + 1) (by omega) w
  have h0 := key len 0 (by omega) w
  simp only [Nat.sub_zero, Nat.add_sub_cancel, Nat.div_one]
  rw [h0, List.range_eq_range']
  by_cases hr : (List.range' 0 len).all res = true <;> simp [hr]

theorem eqElems_sound {d : Nat} {eq : TypeId → AV → AV → Option BE} (h : EqOk D B σ β d eq) {xs ys : List AV} {Xs Ys : List Value} (hx : AV.repL D B σ β xs Xs) (hy : AV.repL D B σ β ys Ys) {elem : TypeId} {n : Nat} :
    ∀ (m i : Nat) (c : BE), eqElems D.P eq xs ys elem n m i = some c → c.ok σ.n = true ∧ ∃ res : Nat → Bool, c.ev σ = (List.range' i m).all res ∧ ∀ e j, i ≤ j → j < i + m → ∀ w, ∃ p q,
      (part elem Xs.toArray (j * n)).run D.P w = .ok p w ∧ (part elem Ys.toArray (j * n)).run D.P w = .ok q w ∧ (Op.equalIn (d + e) elem p q).run D.P w = .ok (res j) w := by
  intro m
  induction m with
  | zero => intro i c hc; simp [eqElems] at hc; subst hc; exact ⟨rfl, fun _ => true, rfl, fun e j h1 h2 => by omega⟩
  | succ m ih =>
    intro i c hc
    simp only [eqElems] at hc
    split at hc
    · rename_i p q hp hq
      split at hc
      · rename_i c1 r h1 h2
        simp at hc; subst hc
        obtain ⟨V, hV, hVr⟩ := partA_sound hp hx
        obtain ⟨W, hW, hWr⟩ := partA_sound hq hy
        obtain ⟨ok1, e1⟩ := h _ _ _ _ _ _ h1 hV hW
        obtain ⟨ok2, res, e2, e3⟩ := ih _ _ h2
        refine ⟨ok_mkAnd _ ok1 ok2, fun j => if j = i then c1.ev σ else res j, ?_, ?_⟩
        · rw [ev_mkAnd, e2, List.range'_succ, List.all_cons, if_pos rfl]
          congr 1
          rw [Bool.eq_iff_iff, List.all_eq_true, List.all_eq_true]
          constructor
          · intro hh j hj; have := List.mem_range'.1 hj; obtain ⟨k, _, hk⟩ := this; rw [if_neg (by omega)]; exact hh j hj
          · intro hh j hj; have := hh j hj; have hm := List.mem_range'.1 hj; obtain ⟨k, _, hk⟩ := hm; rw [if_neg (by omega)] at this; exact this
        · intro e j hj1 hj2 w
          by_cases hji : j = i
          · subst hji; simp only [if_true]; exact ⟨V, W, hVr w, hWr w, e1 e w⟩
          · simp only [if_neg hji]; exact e3 e j (by omega) (by omega) w
      · simp at hc
    · simp at hc

theorem eqv_sound : ∀ d, EqOk D B σ β d (eqv D.P d) := by
  intro d
  induction d with
  | zero => intro t x y c X Y h; simp [eqv] at h
  | succ d ih =>
    intro t x y c X Y h hx hy
    simp only [eqv] at h
    split at h
    · simp at h
    · rename_i td hu
      split at h
      · simp at h; subst h
        simp only [AV.rep] at hx hy
        refine ⟨ok_beqB _ hx.1 hy.1, fun e w => ?_⟩
        rw [hx.2, hy.2, show d + 1 + e = (d + e) + 1 from by omega, run_equalIn_bool _ _ _ _ _ hu, ev_beqB]
      · split at h
        · rename_i hk
          rw [kbeq_iff] at hk; subst hk
          simp at h; subst h
          simp only [AV.rep] at hx hy
          refine ⟨ok_mkEq _ hx.1 hy.1, fun e w => ?_⟩
          rw [hx.2, hy.2, show d + 1 + e = (d + e) + 1 from by omega, run_equalIn_int _ _ _ _ _ _ _ hu, ev_mkEq]
        · simp at h
      · split at h
        · rename_i hk
          rw [fbeq_iff] at hk; subst hk
          simp at h; subst h
          simp only [AV.rep] at hx hy
          refine ⟨ok_mkFlt _ hx.1 hy.1, fun e w => ?_⟩
          rw [hx.2, hy.2, show d + 1 + e = (d + e) + 1 from by omega]
          simp [Op.equalIn, run_underlying hu, ev_mkFlt, fcmp, Op.floatEq]
        · simp at h
      · split at h
        · simp at h
        · rename_i hst
          simp only [AV.rep] at hx hy
          obtain ⟨xs, rfl, hx⟩ := hx
          obtain ⟨ys, rfl, hy⟩ := hy
          obtain ⟨h1, h2⟩ := eqFields_sound ih hx hy _ _ h
          refine ⟨h1, fun e w => ?_⟩
          have hf : D.P.underlying t = some (.struct (D.P.fieldsOf t)) := by simp [Program.fieldsOf, hu]
          rw [show d + 1 + e = (d + e) + 1 from by omega, run_equalIn_struct w _ _ _ _ hf (by simpa using hst)]
          simp only [Program.fieldsOf, hu]
          exact h2 e w
      · split at h
        · simp at h
        · rename_i n hn
          simp only [AV.rep] at hx hy
          obtain ⟨xs, rfl, hx⟩ := hx
          obtain ⟨ys, rfl, hy⟩ := hy
          obtain ⟨h1, res, h2, h3⟩ := eqElems_sound ih hx hy _ _ _ h
          refine ⟨h1, fun e w => ?_⟩
          rw [show d + 1 + e = (d + e) + 1 from by omega, run_equalIn_array hu hn res (fun i hi w => h3 e i (by omega) (by omega) w) w, h2, List.range_eq_range']
      · simp at h

end
end Go.Proofs.Sx
