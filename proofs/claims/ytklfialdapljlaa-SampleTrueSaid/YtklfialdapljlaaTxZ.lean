/- The frame of a law: what a contract says of any input that the statement lets in. -/
import Derived.Test.YtklfialdapljlaaTxB
import Derived.ProofKit
import Derived.OpenShut
import Derived.WideKeyArgs
import Derived.ChangeBears
import Derived.JoinedOf
import Derived.JoinedCond
namespace Go.Proofs.Tx
open Go Go.Proofs.Sx Go.ChangeShapes Go.WideShapes
set_option maxRecDepth 100000

/-! ## What numbers come in -/

/-- a number that a cell of a kind may hold -/
def ckIn : CK → Int → Prop
  | .int k, x => (Lit.int k x).wf = true
  | .bool, x => x = 0 ∨ x = 1
  | .flt k, x => 0 ≤ x ∧ (Lit.float k x.toNat).wf = true
  | .con _ _, _ => False

def cksIn : List CK → List Int → Prop
  | [], ys => ys = []
  | k :: ks, ys => ∃ y ys', ys = y :: ys' ∧ ckIn k y ∧ cksIn ks ys'

/-- a list of cells of kinds over and over -/
def lstIn (ks : List CK) (zs : List Int) : Prop := ∀ (j : Nat) y, zs[j]? = some y → ckIn (kAt ks j) y

/-- the numbers of arguments of given shapes; lists have at most so many elements -/
def argIn (m : Nat) : List Sh → List Int → Prop
  | [], xs => xs = []
  | .cell k :: l, xs => ∃ x xs', xs = x :: xs' ∧ ckIn k x ∧ argIn m l xs'
  | .agg ks :: l, xs => ∃ ys xs', xs = ys ++ xs' ∧ cksIn ks ys ∧ argIn m l xs'
  | .lst ks _ :: l, xs => ∃ x n xs', xs = x :: xs' ∧ lstIn ks (dec x) ∧ (dec x).length = n * ks.length ∧ n ≤ m ∧ argIn m l xs'

/-- the same, for numbers that are named -/
def cksAre : List CK → List Int → Prop
  | [], [] => True
  | k :: ks, y :: ys => ckIn k y ∧ cksAre ks ys
  | _, _ => False
def argsAre (m : Nat) : List Sh → List Int → Prop
  | [], [] => True
  | .cell k :: l, x :: xs => ckIn k x ∧ argsAre m l xs
  | .agg ks :: l, xs => cksAre ks (xs.take ks.length) ∧ argsAre m l (xs.drop ks.length)
  | .lst ks _ :: l, x :: xs => (lstIn ks (dec x) ∧ ∃ n, (dec x).length = n * ks.length ∧ n ≤ m) ∧ argsAre m l xs
  | _, _ => False

theorem cksAre_of : ∀ {ks : List CK} {ys : List Int}, cksIn ks ys → cksAre ks ys ∧ ys.length = ks.length
  | [], _, h => by cases h; exact ⟨trivial, rfl⟩
  | k :: ks, _, h => by obtain ⟨y, ys', rfl, h1, h2⟩ := h; obtain ⟨a, b⟩ := cksAre_of h2; exact ⟨⟨h1, a⟩, by simp [b]⟩

theorem argsAre_of {m : Nat} : ∀ {l : List Sh} {xs : List Int}, argIn m l xs → argsAre m l xs
  | [], _, h => by cases h; trivial
  | .cell k :: l, _, h => by obtain ⟨x, xs', rfl, h1, h2⟩ := h; exact ⟨h1, argsAre_of h2⟩
  | .agg ks :: l, _, h => by
    obtain ⟨ys, xs', rfl, h1, h2⟩ := h
    obtain ⟨a, b⟩ := cksAre_of h1
    exact ⟨by rw [← b, List.take_left]; exact a, by rw [← b, List.drop_left]; exact argsAre_of h2⟩
  | .lst ks _ :: l, _, h => by obtain ⟨x, n, xs', rfl, h1, h2, h3, h4⟩ := h; exact ⟨⟨h1, n, h2, h3⟩, argsAre_of h4⟩

theorem in_i64 {x : Int} (h : ckIn (.int .i64) x) : I64 x := by
  simpa [ckIn, Lit.wf, IntKind.min, IntKind.max, IntKind.signed, IntKind.bits, I64] using h
theorem in_i32 {x : Int} (h : ckIn (.int .i32) x) : -2147483648 ≤ x ∧ x ≤ 2147483647 := by
  simpa [ckIn, Lit.wf, IntKind.min, IntKind.max, IntKind.signed, IntKind.bits, I64] using h
theorem in_i8 {x : Int} (h : ckIn (.int .i8) x) : -128 ≤ x ∧ x ≤ 127 := by
  simpa [ckIn, Lit.wf, IntKind.min, IntKind.max, IntKind.signed, IntKind.bits, I64] using h
theorem in_u64 {x : Int} (h : ckIn (.int .u64) x) : U64 x := by
  have : 0 ≤ x ∧ x ≤ 18446744073709551615 := by simpa [ckIn, Lit.wf, IntKind.min, IntKind.max, IntKind.signed, IntKind.bits] using h
  exact ⟨this.1, by omega⟩
theorem in_u32 {x : Int} (h : ckIn (.int .u32) x) : U32 x := by
  have : 0 ≤ x ∧ x ≤ 4294967295 := by simpa [ckIn, Lit.wf, IntKind.min, IntKind.max, IntKind.signed, IntKind.bits] using h
  exact ⟨this.1, by omega⟩
theorem in_u16 {x : Int} (h : ckIn (.int .u16) x) : 0 ≤ x ∧ x ≤ 65535 := by
  simpa [ckIn, Lit.wf, IntKind.min, IntKind.max, IntKind.signed, IntKind.bits] using h
theorem in_u8 {x : Int} (h : ckIn (.int .u8) x) : U8 x := by
  have : 0 ≤ x ∧ x ≤ 255 := by simpa [ckIn, Lit.wf, IntKind.min, IntKind.max, IntKind.signed, IntKind.bits] using h
  exact ⟨this.1, by omega⟩
theorem in_bool {x : Int} (h : ckIn .bool x) : x = 0 ∨ x = 1 := h

theorem cksIn_length : ∀ {ks : List CK} {ys : List Int}, cksIn ks ys → ys.length = ks.length
  | [], _, h => by cases h; rfl
  | k :: ks, _, h => by obtain ⟨y, ys', rfl, _, h2⟩ := h; simp [cksIn_length h2]

theorem cksIn_append : ∀ {ks ls : List CK} {ys zs : List Int}, cksIn ks ys → cksIn ls zs → cksIn (ks ++ ls) (ys ++ zs)
  | [], _, _, _, h, h' => by cases h; exact h'
  | k :: ks, _, _, _, h, h' => by obtain ⟨y, ys', rfl, h1, h2⟩ := h; exact ⟨y, ys' ++ _, rfl, h1, cksIn_append h2 h'⟩

theorem ckVals_append : ∀ {ks ls : List CK} {ys zs : List Int}, ys.length = ks.length → ckVals (ks ++ ls) (ys ++ zs) = ckVals ks ys ++ ckVals ls zs
  | [], _, ys, _, h => by cases ys <;> simp_all [ckVals]
  | k :: ks, _, ys, _, h => by
    cases ys with
    | nil => simp at h
    | cons y ys => simp only [List.length_cons, Nat.add_right_cancel_iff] at h; simp [ckVals, ckVals_append h]

theorem ckVals_length : ∀ (ks : List CK) (ys : List Int), (ckVals ks ys).length = ks.length
  | [], _ => rfl
  | k :: ks, ys => by simp [ckVals, ckVals_length ks]

/-- the kinds of the cells of a flat type -/
def flat (P : Program) : Nat → TypeId → Option (List CK)
  | 0, _ => none
  | n + 1, t => match P.underlying t with
    | some .bool => some [.bool]
    | some (.int k) => some [.int k]
    | some (.float k) => some [.flt k]
    | some (.struct fs) => (fs.toList.mapM fun f => flat P n f.type).map List.flatten
    | _ => none

section
variable {H : Type} {enc : TypeId × Value → H} {P : Program} {w : World} {base : Nat} {sp : Nat → Bool} {held : Bool}

theorem trod_flt {t : TypeId} {k : FloatKind} {fuel : Nat} {cs : List Value} {x : DataW H × List MemPlace} (hu : P.underlying t = some (.float k)) (h : DataW.trod enc P w base sp held fuel t cs = some x) :
    ∃ b, cs = [.float k b] ∧ (Lit.float k b).wf = true := by
  cases fuel with
  | zero => simp [DataW.trod] at h
  | succ n =>
    unfold DataW.trod at h
    rw [hu] at h
    split at h <;> simp_all
    all_goals first | (rename_i e; obtain ⟨rfl, e2⟩ := h; simp_all) | simp_all

/-- the chunks of a row, one behind the other -/
theorem chunks (size : Field → Nat) (Q : List CK → List Value → Prop) (hQ : ∀ ks cs, Q ks cs → ∃ ys, cksIn ks ys ∧ cs = ckVals ks ys) : ∀ (fs : List Field) (kss : List (List CK)) (cs : List Value), cs.length = (fs.map size).sum →
    kss.length = fs.length → (∀ (j : Nat) f ks, fs[j]? = some f → kss[j]? = some ks → Q ks ((cs.drop ((fs.take j).map size).sum).take (size f))) → ∃ ys, cksIn kss.flatten ys ∧ cs = ckVals kss.flatten ys := by
  intro fs
  induction fs with
  | nil => intro kss cs hl hk _; cases kss <;> simp at hk; cases cs <;> simp at hl; exact ⟨[], rfl, rfl⟩
  | cons f fs ih =>
    intro kss cs hl hk h
    cases kss with
    | nil => simp at hk
    | cons ks kss =>
      simp only [List.length_cons, Nat.add_right_cancel_iff] at hk
      simp only [List.map_cons, List.sum_cons] at hl
      obtain ⟨ys, h1, h2⟩ := hQ _ _ (h 0 f ks rfl rfl)
      simp only [List.take_zero, List.map_nil, List.sum_nil, List.drop_zero] at h2
      obtain ⟨zs, h3, h4⟩ := ih kss (cs.drop (size f)) (by rw [List.length_drop]; omega) hk (fun j g ls hg hls => by
        have := h (j + 1) g ls (by simpa using hg) (by simpa using hls)
        simpa [List.drop_drop, Nat.add_comm] using this)
      refine ⟨ys ++ zs, by simpa using cksIn_append h1 h3, ?_⟩
      rw [List.flatten_cons, ckVals_append (cksIn_length h1), ← h2, ← h4, List.take_append_drop]

theorem mapM_get {α β : Type} {f : α → Option β} : ∀ {l : List α} {r : List β}, l.mapM f = some r → r.length = l.length ∧ ∀ (j : Nat) x y, l[j]? = some x → r[j]? = some y → f x = some y := by
  intro l
  induction l with
  | nil => intro r h; simp at h; subst h; simp
  | cons a l ih =>
    intro r h
    simp only [List.mapM_cons, Option.pure_def, Option.bind_eq_bind, Option.bind_eq_some_iff] at h
    obtain ⟨b, h1, r', h2, h3⟩ := h
    simp only [Option.some.injEq] at h3
    subst h3
    obtain ⟨i1, i2⟩ := ih h2
    refine ⟨by simp [i1], fun j x y hx hy => ?_⟩
    cases j with
    | zero => simp at hx hy; subst hx; subst hy; exact h1
    | succ j => exact i2 j x y (by simpa using hx) (by simpa using hy)

theorem flat_sound {T : TypeId → Prop} (K : Kids P T) : ∀ (n : Nat) (t : TypeId) (ks : List CK), flat P n t = some ks → T t → ∀ (fuel : Nat) (cs : List Value) (x : DataW H × List MemPlace), DataW.trod enc P w base sp held fuel t cs = some x →
    ∃ ys, cksIn ks ys ∧ cs = ckVals ks ys := by
  intro n
  induction n with
  | zero => intro t ks h; simp [flat] at h
  | succ n ih =>
    intro t ks h ht fuel cs x hx
    unfold flat at h
    split at h
    · rename_i hu
      simp only [Option.some.injEq] at h; subst h
      obtain ⟨b, rfl, _⟩ := DataW.trod_bool hu hx
      exact ⟨[if b then 1 else 0], ⟨_, [], rfl, by cases b <;> simp [ckIn], rfl⟩, by cases b <;> simp [ckVals, ckVal]⟩
    · rename_i k hu
      simp only [Option.some.injEq] at h; subst h
      obtain ⟨m, rfl, _, hw⟩ := DataW.trod_int hu hx
      exact ⟨[m], ⟨_, [], rfl, hw, rfl⟩, by simp [ckVals, ckVal]⟩
    · rename_i k hu
      simp only [Option.some.injEq] at h; subst h
      obtain ⟨b, rfl, hw⟩ := trod_flt hu hx
      exact ⟨[(b : Int)], ⟨_, [], rfl, ⟨by omega, by simpa using hw⟩, rfl⟩, by simp [ckVals, ckVal]⟩
    · rename_i fs hu
      simp only [Option.map_eq_some_iff] at h
      obtain ⟨kss, hk, rfl⟩ := h
      obtain ⟨hkl, hkg⟩ := mapM_get hk
      obtain ⟨xs, m, _, _, hl, hlen, hf⟩ := DataW.trod_struct hu hx
      obtain ⟨k1, k2, k3⟩ := K.struct ht hu
      refine chunks (fun f => P.cellsOf f.type) (fun ks cs => ∃ ys, cksIn ks ys ∧ cs = ckVals ks ys) (fun _ _ h => h) fs.toList kss cs (by rw [hl, k2]) hkl fun j f ls hj hls => ?_
      have hj' : fs[j]? = some f := by simpa using hj
      have hjs : j < xs.length := by rw [hlen]; exact (Array.getElem?_eq_some_iff.1 hj').1
      have hh := hf j f hj'
      rw [List.getElem?_eq_getElem hjs, k3 j f hj] at hh
      exact ih f.type ls (hkg j f ls hj hls) (k1 f (List.mem_of_getElem? hj)) m _ _ hh
    · cases h

/-! ## Shapes -/

def primB : CK → TypeDesc → Bool
  | .int k, .int k' => decide (k = k')
  | .bool, .bool => true
  | .flt k, .float k' => decide (k = k')
  | _, _ => false

def ckEq : CK → CK → Bool
  | .int k, .int k' => decide (k = k')
  | .bool, .bool => true
  | .flt k, .flt k' => decide (k = k')
  | _, _ => false
theorem ckEq_eq {a b : CK} (h : ckEq a b = true) : a = b := by cases a <;> cases b <;> simp_all [ckEq]
def cksEq : List CK → List CK → Bool
  | [], [] => true
  | a :: l, b :: m => ckEq a b && cksEq l m
  | _, _ => false
theorem cksEq_eq : ∀ {a b : List CK}, cksEq a b = true → a = b
  | [], [], _ => rfl
  | a :: l, b :: m, h => by simp only [cksEq, Bool.and_eq_true] at h; rw [ckEq_eq h.1, cksEq_eq h.2]
  | [], _ :: _, h => by simp [cksEq] at h
  | _ :: _, [], h => by simp [cksEq] at h

def shFits (P : Program) (t : TypeId) : Sh → Bool
  | .cell k => match P.underlying t with
    | some d => primB k d
    | none => false
  | .agg ks => match P.underlying t with
    | some (.struct _) => match flat P 8 t with
      | some ls => cksEq ks ls
      | none => false
    | _ => false
  | .lst ks _ => match P.underlying t with
    | some (.slice e) => !ks.isEmpty && match flat P 8 e with
      | some ls => cksEq ks ls
      | none => false
    | _ => false

def shsFit (P : Program) : List TypeId → List Sh → Bool
  | [], [] => true
  | t :: ts, s :: l => shFits P t s && shsFit P ts l
  | _, _ => false

theorem lstIn_nil (ks : List CK) : lstIn ks [] := fun j y h => by simp at h

theorem cksIn_get : ∀ {ks : List CK} {ys : List Int}, cksIn ks ys → ∀ (j : Nat) y, ys[j]? = some y → ∃ k, ks[j]? = some k ∧ ckIn k y ∧ (ckVals ks ys)[j]? = some (ckVal k y)
  | [], _, h, j, y, hy => by cases h; simp at hy
  | k :: ks, _, h, j, y, hy => by
    obtain ⟨z, ys', rfl, h1, h2⟩ := h
    cases j with
    | zero => simp at hy; subst hy; exact ⟨k, rfl, h1, rfl⟩
    | succ j => obtain ⟨k', a, b, c⟩ := cksIn_get h2 j y (by simpa using hy); exact ⟨k', by simpa using a, b, by simpa [ckVals] using c⟩

theorem lstVals_one {ks : List CK} {ys : List Int} (h : cksIn ks ys) : lstVals ks ys = ckVals ks ys := by
  apply List.ext_getElem?
  intro j
  have hl := cksIn_length h
  by_cases hj : j < ys.length
  · obtain ⟨k, a, b, c⟩ := cksIn_get h j ys[j] (List.getElem?_eq_getElem hj)
    rw [c, lstVals_get, List.getElem?_eq_getElem hj]
    simp [kAt, Nat.mod_eq_of_lt (show j < ks.length by omega), a]
  · rw [List.getElem?_eq_none (by rw [lstVals_length]; omega), List.getElem?_eq_none (by rw [ckVals_length]; omega)]

theorem lstIn_append {ks : List CK} {zs ys : List Int} {n : Nat} (h : lstIn ks zs) (hn : zs.length = n * ks.length) (hy : cksIn ks ys) : lstIn ks (zs ++ ys) := by
  intro j y hj
  by_cases hc : j < zs.length
  · rw [List.getElem?_append_left hc] at hj; exact h j y hj
  · rw [List.getElem?_append_right (by omega)] at hj
    obtain ⟨k, a, b, _⟩ := cksIn_get hy _ y hj
    have hlt : j - zs.length < ks.length := by
      have := (List.getElem?_eq_some_iff.1 hj).1; rw [cksIn_length hy] at this; exact this
    have e : j % ks.length = j - zs.length := by
      have : j = (j - zs.length) + n * ks.length := by omega
      conv => lhs; rw [this]
      rw [Nat.add_mul_mod_self_right, Nat.mod_eq_of_lt hlt]
    simp [kAt, e, a, b]

theorem cells_get {a : Addr} {n : Nat} {cs : List Value} (h : w.cells? base a n = some cs) : cs.length = n ∧ ∀ j v, cs[j]? = some v → w.cell? (a.add j) = some v := by
  unfold World.cells? at h
  split at h
  · obtain ⟨h1, h2⟩ := mapM_get h
    refine ⟨by simpa using h1, fun j v hv => ?_⟩
    have hj : j < cs.length := (List.getElem?_eq_some_iff.1 hv).1
    refine h2 j j v ?_ hv
    rw [List.getElem?_range (by rw [h1] at hj; simpa using hj)]
  · cases h

theorem elems_sound {T : TypeId → Prop} (K : Kids P T) {e : TypeId} {ks : List CK} (hf : flat P 8 e = some ks) (hT : T e) {a : Addr} (hs : a.spot = none) {fuel : Nat} : ∀ (n : Nat),
    (∀ i, i < n → ∃ cs y, w.cells? base (a.add (i * P.cellsOf e)) (P.cellsOf e) = some cs ∧ DataW.trod enc P w base sp held fuel e cs = some y) →
    ∃ zs : List Int, lstIn ks zs ∧ zs.length = n * ks.length ∧ ∀ (j : Nat) v, (lstVals ks zs)[j]? = some v → w.cell? ⟨a.block, a.off + j, none⟩ = some v := by
  intro n
  induction n with
  | zero => intro _; exact ⟨[], lstIn_nil ks, by simp, fun j v h => by simp [lstVals] at h⟩
  | succ n ih =>
    intro h
    obtain ⟨zs, h1, h2, h3⟩ := ih (fun i hi => h i (by omega))
    obtain ⟨cs, y, hc, hy⟩ := h n (by omega)
    obtain ⟨ys, q1, q2⟩ := flat_sound K 8 e ks hf hT fuel cs y hy
    obtain ⟨c1, c2⟩ := cells_get hc
    have hsz : P.cellsOf e = ks.length := by rw [← c1, q2, ckVals_length]
    refine ⟨zs ++ ys, lstIn_append h1 h2 q1, by rw [List.length_append, h2, cksIn_length q1, Nat.add_mul, Nat.one_mul], fun j v hv => ?_⟩
    rw [lstVals_append (by rw [h2]; exact Nat.mul_mod_left _ _), lstVals_one q1] at hv
    by_cases hj : j < zs.length
    · rw [List.getElem?_append_left (by rw [lstVals_length]; exact hj)] at hv; exact h3 j v hv
    · rw [List.getElem?_append_right (by rw [lstVals_length]; omega), lstVals_length, ← q2] at hv
      have := c2 _ v hv
      rw [hsz, h2] at *
      have e1 : (a.add (n * ks.length)).add (j - n * ks.length) = ⟨a.block, a.off + j, none⟩ := by
        obtain ⟨b, o, s⟩ := a
        simp only at hs; subst hs
        simp only [addr_add]
        congr 1; omega
      rw [e1] at this
      exact this

theorem spot_of {a : Addr} {n : Nat} {cs : List Value} (hn : 0 < n) (h : w.cells? base a n = some cs) : a.spot = none := by
  obtain ⟨c1, c2⟩ := cells_get h
  have := c2 0 cs[0] (List.getElem?_eq_getElem (by omega))
  have e : a.add 0 = a := by simp [Addr.add]
  rw [e] at this
  cases hs : a.spot with
  | none => rfl
  | some s =>
    unfold World.cell? at this
    split at this
    · simp [hs] at this
    · cases this

theorem trod_slice_nil {t e : TypeId} {n c : Nat} {fuel : Nat} {x : DataW H × List MemPlace} (hu : P.underlying t = some (.slice e)) (h : DataW.trod enc P w base sp held (fuel + 1) t (Value.slice none n c).cells.toList = some x) : n = 0 ∧ c = 0 := by
  unfold DataW.trod at h
  rw [hu] at h
  simp only [Value.cells] at h
  split at h <;> simp_all

theorem trod_slice_some {t e : TypeId} {a : Addr} {n c : Nat} {fuel : Nat} {x : DataW H × List MemPlace} (hu : P.underlying t = some (.slice e)) (h : DataW.trod enc P w base sp held (fuel + 1) t (Value.slice (some a) n c).cells.toList = some x) :
    n ≤ c ∧ n ≤ maxLen ∧ ∃ elems, ((List.range n).mapM fun i => (w.cells? base (a.add (i * P.cellsOf e)) (P.cellsOf e)).bind (DataW.trod enc P w base sp held fuel e)) = some elems := by
  unfold DataW.trod at h
  rw [hu] at h
  simp only [Value.cells] at h
  split at h
  · rename_i hc
    simp only [Option.bind_eq_some_iff] at h
    obtain ⟨elems, hel, _⟩ := h
    exact ⟨hc.2.1, Nat.le_trans hc.2.1 hc.2.2, elems, hel⟩
  · cases h

/-- an argument's shape, by what is read of it -/
theorem arg_sound {T : TypeId → Prop} (K : Kids P T) {t : TypeId} {s : Sh} (hs : shFits P t s = true) (hT : T t) {v : Value} {r : Reach} {b0 : Nat} (hval : Value.okWide P w r b0 t v) {d : DataW H} {ps : List MemPlace}
    (hsz : ∀ {t e : TypeId}, T t → P.underlying t = some (.slice e) → 0 < P.cellsOf e)
    (h : DataW.Trod enc P w base sp held t v d ps) {l : List Sh} {xs : List Int} {Vs : List Value} (hA : ArgsIs w l xs Vs) (m : Nat) (hI : argIn m l xs) (hm : ∀ a n c, v = .slice a n c → n ≤ maxLen → n ≤ m) :
    ∃ ys, ArgsIs w (s :: l) (ys ++ xs) (v :: Vs) ∧ argIn m (s :: l) (ys ++ xs) := by
  obtain ⟨fuel, h⟩ := h
  cases s with
  | cell k =>
    simp only [shFits] at hs
    split at hs
    · rename_i dd hu
      have key : ∃ y, v = ckVal k y ∧ ckIn k y := by
        cases k with
        | int k =>
          cases dd <;> simp [primB] at hs
          rename_i k'; subst hs
          obtain ⟨n, rfl⟩ := okWide_int hu hval
          obtain ⟨n', e, _, hw⟩ := DataW.trod_int hu h
          simp [Value.cells] at e; subst e
          exact ⟨_, rfl, hw⟩
        | bool =>
          cases dd <;> simp [primB] at hs
          obtain ⟨b, rfl⟩ := okWide_bool hu hval
          exact ⟨if b then 1 else 0, by cases b <;> rfl, by cases b <;> simp [ckIn]⟩
        | flt k =>
          cases dd <;> simp [primB] at hs
          rename_i k'; subst hs
          have hv : ∃ b, v = .float k b := by
            simp only [Value.okWide, hu, Cell.okWide] at hval
            cases v <;> simp_all [Cell.ok]
          obtain ⟨b, rfl⟩ := hv
          obtain ⟨b', e, hw⟩ := trod_flt hu h
          simp [Value.cells] at e; subst e
          exact ⟨(b : Int), by simp [ckVal], by omega, by simpa using hw⟩
        | con _ _ => cases dd <;> simp [primB] at hs
      obtain ⟨y, rfl, hy⟩ := key
      exact ⟨[y], ⟨y, xs, Vs, rfl, rfl, hA⟩, ⟨y, xs, rfl, hy, hI⟩⟩
    · cases hs
  | agg ks =>
    simp only [shFits] at hs
    split at hs
    · rename_i fs hu
      split at hs
      · rename_i ls hf
        have := cksEq_eq hs; subst this
        obtain ⟨cs, rfl, _⟩ := okWide_struct hu hval
        obtain ⟨ys, q1, q2⟩ := flat_sound K 8 t ks hf hT fuel _ _ h
        refine ⟨ys, ⟨ys, xs, Vs, rfl, cksIn_length q1, ?_, hA⟩, ⟨ys, xs, rfl, q1, hI⟩⟩
        rw [← q2]
        simp [Value.cells]
      · cases hs
    · cases hs
  | lst ks ty =>
    simp only [shFits] at hs
    split at hs
    · rename_i e hu
      simp only [Bool.and_eq_true, Bool.not_eq_true'] at hs
      obtain ⟨hne, hs⟩ := hs
      split at hs
      · rename_i ls hf
        have := cksEq_eq hs; subst this
        have hpos : 0 < ks.length := by cases ks <;> simp_all
        obtain ⟨A, n, c, rfl⟩ := okWide_slice hu hval
        have hnm' := hm A n c rfl
        cases fuel with
        | zero => simp [DataW.trod] at h
        | succ fuel =>
          cases A with
          | none =>
            have hnc := trod_slice_nil hu h
            obtain ⟨rfl, rfl⟩ := hnc
            have hnm := hnm' (Nat.zero_le _)
            exact ⟨[lst []], ⟨lst [], xs, _, Vs, rfl, rfl, ⟨none, 0, 0, rfl, Nat.le_refl _, hpos, by simp, .inl rfl⟩, hA⟩, ⟨lst [], 0, xs, rfl, by simpa using lstIn_nil ks, by simp, hnm, hI⟩⟩
          | some a =>
            · obtain ⟨hcnd, hmx, elems, hel⟩ := trod_slice_some hu h
              have hnm := hnm' hmx
              obtain ⟨l1, l2⟩ := mapM_get hel
              have hT' := K.slice hT hu
              have hel2 : ∀ i, i < n → ∃ cs y, w.cells? base (a.add (i * P.cellsOf e)) (P.cellsOf e) = some cs ∧ DataW.trod enc P w base sp held fuel e cs = some y := fun i hi => by
                have hir : i < elems.length := by rw [l1]; simpa using hi
                have := l2 i i elems[i] (by rw [List.getElem?_range hi]) (List.getElem?_eq_getElem hir)
                simp only [Option.bind_eq_some_iff] at this
                obtain ⟨cs, h1, h2⟩ := this
                exact ⟨cs, _, h1, h2⟩
              by_cases hn0 : n = 0
              · subst hn0
                exact ⟨[lst []], ⟨lst [], xs, _, Vs, rfl, rfl, ⟨some a, 0, c, rfl, by omega, hpos, by simp, .inl rfl⟩, hA⟩, ⟨lst [], 0, xs, rfl, by simpa using lstIn_nil ks, by simp, hnm, hI⟩⟩
              · obtain ⟨cs0, y0, hc0, _⟩ := hel2 0 (by omega)
                have hspot : a.spot = none := by
                  have := spot_of (hsz hT hu) hc0
                  simpa [Addr.add] using this
                obtain ⟨zs, z1, z2, z3⟩ := elems_sound K hf hT' hspot n hel2
                have ha : some a = some (⟨a.block, a.off, none⟩ : Addr) := by obtain ⟨b, o, s⟩ := a; simp only at hspot; subst hspot; rfl
                exact ⟨[lst zs], ⟨lst zs, xs, _, Vs, rfl, rfl, ⟨some a, n, c, rfl, by omega, hpos, by simpa using z2, .inr ⟨a.block, a.off, ha, fun j v hv => z3 j v (by simpa using hv)⟩⟩, hA⟩, ⟨lst zs, n, xs, rfl, by simpa using z1, by simpa using z2, hnm, hI⟩⟩
      · simp at hs
    · cases hs

theorem args_sound (hl : laidOutB P = true) {r : Reach} {b0 m : Nat} : ∀ (ts : List TypeId) (ss : List Sh), shsFit P ts ss = true → (∀ t ∈ ts, P.readableRec t = true ∧ t < P.types.size) → ∀ (vs : List Value) (ds : List (DataW H)) (ps : List MemPlace),
    DataW.TrodAll enc P w base sp held ts vs ds ps → (∀ (j : Nat) t v, ts[j]? = some t → vs[j]? = some v → Value.okWide P w r b0 t v) → (∀ v ∈ vs, ∀ a n c, v = .slice a n c → n ≤ maxLen → n ≤ m) →
    ds.length = ts.length ∧ ∃ xs, ArgsIs w ss xs vs ∧ argIn m ss xs := by
  intro ts
  induction ts with
  | nil =>
    intro ss hs _ vs ds ps h _ _
    obtain ⟨rfl, rfl, _⟩ := trodAll_nil h
    cases ss with
    | nil => exact ⟨rfl, [], ⟨rfl, rfl⟩, rfl⟩
    | cons _ _ => simp [shsFit] at hs
  | cons t ts ih =>
    intro ss hs hg vs ds ps h hv hm
    obtain ⟨v, vs', d, ds', p, q, rfl, rfl, rfl, h1, h2⟩ := trodAll_cons h
    cases ss with
    | nil => simp [shsFit] at hs
    | cons s ss =>
      simp only [shsFit, Bool.and_eq_true] at hs
      obtain ⟨hlen, xs, a1, a2⟩ := ih ss hs.2 (fun t ht => hg t (List.mem_cons_of_mem _ ht)) vs' ds' q h2 (fun j t v ht hv' => hv (j + 1) t v (by simpa using ht) (by simpa using hv')) (fun v hv' => hm v (List.mem_cons_of_mem _ hv'))
      obtain ⟨g1, g2⟩ := hg t List.mem_cons_self
      obtain ⟨ys, b1, b2⟩ := arg_sound (kids_book hl g1) hs.1 ⟨g2, book_self t⟩ (hv 0 t v rfl rfl) (fun ht hu => book_sized g1 ht hu) h1 a1 m a2 (hm v List.mem_cons_self)
      exact ⟨by simp [hlen], ys ++ xs, b1, b2⟩

theorem args_stay (hl : laidOutB P = true) {W W' : World} {sp' : Nat → Bool} : ∀ (ts : List TypeId), (∀ t ∈ ts, P.readableRec t = true ∧ t < P.types.size) → ∀ (vs : List Value) (ds : List (DataW H)) (ps : List MemPlace),
    DataW.TrodAll enc P W base (fun _ => true) true ts vs ds ps → (∀ p ∈ ps, W.sameAt W' p) → (∀ p ∈ ps, sp' p.block = true) → DataW.TrodAll enc P W' base sp' true ts vs ds ps := by
  intro ts
  induction ts with
  | nil => intro _ vs ds ps h _ _; obtain ⟨rfl, rfl, rfl⟩ := trodAll_nil h; exact trodAll_mk0
  | cons t ts ih =>
    intro hg vs ds ps h hsame hs
    obtain ⟨v, vs', d, ds', p, q, rfl, rfl, rfl, h1, h2⟩ := trodAll_cons h
    obtain ⟨g1, g2⟩ := hg t List.mem_cons_self
    exact trodAll_cons_mk (WideElems.Trod_stays hl g1 g2 h1 (fun x hx => hsame x (List.mem_append_left _ hx)) (fun x hx => hs x (List.mem_append_left _ hx)))
      (ih (fun t ht => hg t (List.mem_cons_of_mem _ ht)) vs' ds' q h2 (fun x hx => hsame x (List.mem_append_right _ hx)) (fun x hx => hs x (List.mem_append_right _ hx)))

end

/-! ## From a contract to what a statement asks -/

theorem kept_same {W W' : World} (h : Kept W W') {p : MemPlace} (hp : p.block < W.heap.size) : W.sameAt W' p := by
  have e := h.2.1 p.block hp
  cases p with
  | cell b off => simp only [World.sameAt, World.cell?]; simp only [MemPlace.block] at e; rw [e]
  | map b => simp only [World.sameAt]; exact e

theorem kept_but {W W' : World} (h : Kept W W') (may : MemPlace → Prop) : W.keptBut W' may := by
  refine ⟨h.2.2.1, h.2.2.2, fun i hi => ?_⟩
  rw [h.2.1 i hi]
  cases W.heap[i]? with
  | none => rfl
  | some o => cases o with
    | cells c t fr => obtain ⟨lo, hi⟩ := fr; exact ⟨rfl, rfl, rfl, fun _ _ => rfl⟩
    | map es cl => exact .inr ⟨rfl, rfl⟩
    | _ => rfl

theorem laidOut : laidOutB Try.prog = true := by kernel_rfl
theorem boolAt : Try.prog.underlying 4 = some .bool := by kernel_rfl
theorem ownNone : ownKnob Try.prog.godebug = none := by kernel_rfl

/-- **What a law's contract says of any input.** -/
theorem law_post {f : FuncId} {fn : Func} {s : ChangeSpec} {m : Nat} (c : Con) (hc : c.met) (hg : c.g = f) (hrow : c.row.res = [.cell .bool])
    (hfit : shsFit Try.prog fn.params.toList c.row.args = true) (hgood : (fn.params.toList.all fun t => Try.prog.readableRec t && decide (t < Try.prog.types.size)) = true)
    (hres : fn.resultTypes = #[4]) (hvars : s.vars = [])
    (hsp : ∀ (H : Type) (ds : List (DataW H)), ds.length = fn.params.toList.length → s.fn H ds = { results := [.lit (.bool true)], args := ds })
    (hpre : ∀ xs, argsAre m c.row.args xs → c.pre xs) (hpost : ∀ xs rs, c.post xs rs → rs = [1])
    {H : Type} {enc : TypeId × Value → H} {W : World} {base : Nat} {args : Array Value} {ds gs : List (DataW H)} {before : List MemPlace}
    (hval : ∀ (j : Nat) t v, fn.params[j]? = some t → args[j]? = some v → Value.okWide Try.prog W .any base t v)
    (hW : DataW.Whole enc Try.prog fn.params.toList s.vars false W args.toList ds gs before)
    (hm : ∀ v ∈ args.toList, ∀ a n c, v = .slice a n c → n ≤ maxLen → n ≤ m) :
    Calls Try.prog f args W fun e W' => ∃ v, e = .returned v ∧ s.post enc Try.prog fn false true false false W args v W' := by
  have hlt := hW.lt
  have hWw := hW
  obtain ⟨p, q, hA, hV, rfl, hfz, hnd⟩ := hW
  rw [hvars] at hV
  obtain ⟨rfl, rfl⟩ := trodVars_none hV
  have hgood' : ∀ t ∈ fn.params.toList, Try.prog.readableRec t = true ∧ t < Try.prog.types.size := fun t ht => by
    have := List.all_eq_true.1 hgood t ht
    simpa using this
  obtain ⟨hlen, xs, a1, a2⟩ := args_sound laidOut fn.params.toList c.row.args hfit hgood' args.toList ds p hA (fun j t v ht hv => hval j t v (by simpa using ht) (by simpa using hv)) hm
  subst hg
  have hcall := hc.2.2 xs args.toList W (hpre xs (argsAre_of a2)) a1
  rw [show args.toList.toArray = args by simp] at hcall
  refine hcall.mono ?_
  rintro e W' ⟨rs, Rs, r1, r2, r3, rfl, hk⟩
  rw [hpost xs rs r2, hrow] at r3
  obtain ⟨x, xs', Vs', e1, rfl, r4⟩ := r3
  simp only [List.cons.injEq] at e1
  obtain ⟨rfl, rfl⟩ := e1
  obtain ⟨_, rfl⟩ := r4
  refine ⟨_, rfl, ?_⟩
  have hv : oneOrTupV [ckVal .bool 1] = .bool true := rfl
  rw [hv]
  have hfnds := hsp H ds hlen
  refine ⟨ds, [], p, [], p, [], by simpa using hWw, ?_, ?_, ?_, kept_but hk _, fun h => by cases h⟩
  · rw [hres, List.append_nil, hfnds]
    exact trodAll_cons_mk (RowKit.shut_bool boolAt true) trodAll_mk0
  · rw [List.append_nil, hfnds]
    exact args_stay laidOut fn.params.toList hgood' args.toList ds p hA (fun x hx => kept_same hk (hlt x (by simpa using hx))) (fun x hx => by simpa using hlt x (by simpa using hx))
  · rw [hvars]
    rw [List.append_nil, hfnds]
    rfl

end Go.Proofs.Tx
