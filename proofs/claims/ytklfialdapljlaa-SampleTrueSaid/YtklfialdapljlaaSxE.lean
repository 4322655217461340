/- What abstract values and states stand for in the model's worlds; what a tree promises. -/
import Derived.Test.YtklfialdapljlaaSxD
namespace Go.Proofs.Sx
open Go

abbrev Bmap := Nat → Option Nat

/-- What is fixed during a run: the world at its start; which of its blocks may be written; where the lists that came in lie. -/
structure Base where
  w0 : World
  O : Nat → Prop
  ra : Nat → Addr

def ckVal (k : CK) (x : Int) : Value :=
  match k with
  | .int k => .int k x
  | .bool => .bool (x != 0)
  | .flt k => .float k x.toNat
  | .con k n => .int k n

/-- the kind of cell 'i' of a list -/
def kAt (ks : List CK) (i : Nat) : CK := (ks[i % ks.length]?).getD .bool
/-- the cells of a list -/
def lstVals (ks : List CK) (l : List Int) : List Value := l.mapIdx fun i x => ckVal (kAt ks i) x

section
variable (D : Ctx) (B : Base)

mutual
def AV.rep (σ : Val) (β : Bmap) : AV → Value → Prop
  | .bool c, V => c.ok σ.n = true ∧ V = .bool (c.ev σ)
  | .int k e, V => e.ok σ.n = true ∧ V = .int k (e.ev σ)
  | .flt k e, V => e.ok σ.n = true ∧ V = .float k (e.ev σ).toNat
  | .str l, V => (∀ e ∈ l, IE.ok σ.n e = true) ∧ V = .string ⟨(l.map fun e => UInt8.ofNat (e.ev σ).toNat).toArray⟩
  | .nilp, V => V = .pointer none
  | .ptr b off, V => ∃ rb, β b = some rb ∧ V = .pointer (some ⟨rb, off, none⟩)
  | .sl b off len cap, V => len.ok σ.n = true ∧ cap.ok σ.n = true ∧ ∃ (n c : Nat) (A : Option Addr), V = .slice A n c ∧ len.ev σ = n ∧ cap.ev σ = c ∧ n ≤ c ∧
      (c = 0 ∨ ∃ rb, β b = some rb ∧ A = some ⟨rb, off, none⟩)
  | .rsl r off len _, V => off.ok σ.n = true ∧ len.ok σ.n = true ∧ ∃ (o n c : Nat) (A : Option Addr), V = .slice A n c ∧ off.ev σ = o ∧ len.ev σ = n ∧ n ≤ c ∧
      (o + n) * (D.ro r).length ≤ (σ.r r).length ∧ (n = 0 ∨ A = some ⟨(B.ra r).block, (B.ra r).off + o * (D.ro r).length, none⟩)
  | .rp r a j, V => a.ok σ.n = true ∧ ∃ i : Nat, a.ev σ = i ∧ (i + 1) * (D.ro r).length ≤ (σ.r r).length ∧
      V = .pointer (some ⟨(B.ra r).block, (B.ra r).off + i * (D.ro r).length + j, none⟩)
  | .lp b m a j, V => a.ok σ.n = true ∧ ∃ (rb i : Nat), β b = some rb ∧ a.ev σ = i ∧ V = .pointer (some ⟨rb, i * m + j, none⟩)
  | .sst r, V => ∃ s : ByteArray, V = .string s ∧ σ.r r = s.data.toList.map fun b => (b.toNat : Int)
  | .fn f a b, V => ∃ x y : List Value, V = .func f x.toArray y.toArray ∧ AV.repL σ β a x ∧ AV.repL σ β b y
  | .nilfn, V => V = .nilFunc
  | .ifc t v, V => ∃ x, V = .iface t x ∧ v.rep σ β x
  | .nilifc, V => V = .nilIface
  | .agg l, V => ∃ x : List Value, V = .agg x.toArray ∧ AV.repL σ β l x
  | .tup l, V => ∃ x : List Value, V = .tuple x.toArray ∧ AV.repL σ β l x
  | .junk, _ => True
def AV.repL (σ : Val) (β : Bmap) : List AV → List Value → Prop
  | [], [] => True
  | a :: l, V :: m => a.rep σ β V ∧ AV.repL σ β l m
  | _, _ => False
end

end

def Ble (β γ : Bmap) : Prop := ∀ b rb, β b = some rb → γ b = some rb

theorem Ble.refl (β : Bmap) : Ble β β := fun _ _ h => h
theorem Ble.trans {a b c : Bmap} (h : Ble a b) (h' : Ble b c) : Ble a c := fun _ _ e => h' _ _ (h _ _ e)

section
variable {D : Ctx} {B : Base}

theorem rep_le {σ τ : Val} {β γ : Bmap} (hσ : σ.le τ) (hβ : Ble β γ) : ∀ (v : AV) (V : Value), v.rep D B σ β V → v.rep D B τ γ V := by
  intro v
  refine AV.rec (motive_1 := fun v => ∀ V, v.rep D B σ β V → v.rep D B τ γ V) (motive_2 := fun l => ∀ m, AV.repL D B σ β l m → AV.repL D B τ γ l m)
    ?_ ?_ ?_ ?_ ?_ ?_ ?_ ?_ ?_ ?_ ?_ ?_ ?_ ?_ ?_ ?_ ?_ ?_ ?_ ?_ v
  case _ => intro c V h; simp only [AV.rep] at *; exact ⟨BE.ok_le hσ.n h.1, by rw [BE.ev_le hσ h.1]; exact h.2⟩
  case _ => intro k e V h; simp only [AV.rep] at *; exact ⟨IE.ok_le hσ.n h.1, by rw [IE.ev_le hσ h.1]; exact h.2⟩
  case _ => intro k e V h; simp only [AV.rep] at *; exact ⟨IE.ok_le hσ.n h.1, by rw [IE.ev_le hσ h.1]; exact h.2⟩
  case _ =>
    intro l V h; simp only [AV.rep] at *
    refine ⟨fun e he => IE.ok_le hσ.n (h.1 e he), ?_⟩
    rw [h.2]
    congr 3
    exact List.map_congr_left (fun e he => by rw [IE.ev_le hσ (h.1 e he)])
  case _ => intro V h; exact h
  case _ => intro b off V h; simp only [AV.rep] at *; obtain ⟨rb, h1, h2⟩ := h; exact ⟨rb, hβ _ _ h1, h2⟩
  case _ =>
    intro b off len cap V h; simp only [AV.rep] at *
    obtain ⟨h1, h2, n, c, A, h3, h4, h5, h6, h7⟩ := h
    refine ⟨IE.ok_le hσ.n h1, IE.ok_le hσ.n h2, n, c, A, h3, by rw [IE.ev_le hσ h1]; exact h4, by rw [IE.ev_le hσ h2]; exact h5, h6, ?_⟩
    rcases h7 with h7 | ⟨rb, h7, h8⟩
    · exact .inl h7
    · exact .inr ⟨rb, hβ _ _ h7, h8⟩
  case _ =>
    intro r off len cap V h; simp only [AV.rep] at *
    obtain ⟨h0, h1, o, n, c, A, h3, h4, h5, h7, h8, h9⟩ := h
    exact ⟨IE.ok_le hσ.n h0, IE.ok_le hσ.n h1, o, n, c, A, h3, by rw [IE.ev_le hσ h0]; exact h4, by rw [IE.ev_le hσ h1]; exact h5, h7, by rw [hσ.r]; exact h8, h9⟩
  case _ =>
    intro r a j V h; simp only [AV.rep] at *
    obtain ⟨h1, i, h2, h3, h4⟩ := h
    exact ⟨IE.ok_le hσ.n h1, i, by rw [IE.ev_le hσ h1]; exact h2, by rw [hσ.r]; exact h3, h4⟩
  case _ =>
    intro b m a j V h; simp only [AV.rep] at *
    obtain ⟨h1, rb, i, h2, h3, h4⟩ := h
    exact ⟨IE.ok_le hσ.n h1, rb, i, hβ _ _ h2, by rw [IE.ev_le hσ h1]; exact h3, h4⟩
  case _ => intro r V h; simp only [AV.rep] at *; rw [hσ.r]; exact h
  case _ =>
    intro f a b iha ihb V h; simp only [AV.rep] at *
    obtain ⟨x, y, h1, h2, h3⟩ := h
    exact ⟨x, y, h1, iha _ h2, ihb _ h3⟩
  case _ => intro V h; exact h
  case _ => intro t v ih V h; simp only [AV.rep] at *; obtain ⟨x, h1, h2⟩ := h; exact ⟨x, h1, ih _ h2⟩
  case _ => intro V h; exact h
  case _ => intro l ih V h; simp only [AV.rep] at *; obtain ⟨x, h1, h2⟩ := h; exact ⟨x, h1, ih _ h2⟩
  case _ => intro l ih V h; simp only [AV.rep] at *; obtain ⟨x, h1, h2⟩ := h; exact ⟨x, h1, ih _ h2⟩
  case _ => intro V h; trivial
  case _ => intro m h; cases m <;> simp_all [AV.repL]
  case _ =>
    intro a l iha ihl m h
    cases m with
    | nil => simp [AV.repL] at h
    | cons V m => simp only [AV.repL] at *; exact ⟨iha _ h.1, ihl _ h.2⟩

theorem repL_le {σ τ : Val} {β γ : Bmap} (hσ : σ.le τ) (hβ : Ble β γ) : ∀ (l : List AV) (m : List Value), AV.repL D B σ β l m → AV.repL D B τ γ l m := by
  intro l
  induction l with
  | nil => intro m h; cases m <;> simp_all [AV.repL]
  | cons a l ih =>
    intro m h
    cases m with
    | nil => simp [AV.repL] at h
    | cons V m => simp only [AV.repL] at *; exact ⟨rep_le hσ hβ _ _ h.1, ih _ h.2⟩

theorem repL_length {σ : Val} {β : Bmap} : ∀ {l : List AV} {m : List Value}, AV.repL D B σ β l m → l.length = m.length := by
  intro l
  induction l with
  | nil => intro m h; cases m <;> simp_all [AV.repL]
  | cons a l ih =>
    intro m h
    cases m with
    | nil => simp [AV.repL] at h
    | cons V m => simp only [AV.repL] at h; simp [ih h.2]

theorem repL_append {σ : Val} {β : Bmap} : ∀ {l l' : List AV} {m m' : List Value}, AV.repL D B σ β l m → AV.repL D B σ β l' m' → AV.repL D B σ β (l ++ l') (m ++ m') := by
  intro l
  induction l with
  | nil => intro l' m m' h h'; cases m <;> simp_all [AV.repL]
  | cons a l ih =>
    intro l' m m' h h'
    cases m with
    | nil => simp [AV.repL] at h
    | cons V m => simp only [AV.repL, List.cons_append] at *; exact ⟨h.1, ih h.2 h'⟩

theorem repL_get {σ : Val} {β : Bmap} : ∀ {l : List AV} {m : List Value} {i : Nat} {v : AV}, AV.repL D B σ β l m → l[i]? = some v → ∃ V, m[i]? = some V ∧ v.rep D B σ β V := by
  intro l
  induction l with
  | nil => intro m i v h hi; simp at hi
  | cons a l ih =>
    intro m i v h hi
    cases m with
    | nil => simp [AV.repL] at h
    | cons V m =>
      simp only [AV.repL] at h
      cases i with
      | zero => simp at hi; subst hi; exact ⟨V, rfl, h.1⟩
      | succ i => simp at hi; simpa using ih h.2 hi

theorem repL_of {σ : Val} {β : Bmap} {α : Type} (f : α → AV) (g : α → Value) (h : ∀ x, (f x).rep D B σ β (g x)) : ∀ l : List α, AV.repL D B σ β (l.map f) (l.map g) := by
  intro l
  induction l with
  | nil => simp [AV.repL]
  | cons a l ih => simp only [List.map_cons, AV.repL]; exact ⟨h a, ih⟩

/-! lists: ltake, ldrop, lsub, lset, lput -/

theorem ltake_eq {α : Type} : ∀ (n : Nat) (l r : List α), ltake n l = some r ↔ (r = l.take n ∧ n ≤ l.length) := by
  intro n
  induction n with
  | zero => intro l r; simp [ltake, eq_comm]
  | succ n ih =>
    intro l r
    cases l with
    | nil => simp [ltake]
    | cons x l =>
      simp only [ltake, Option.map_eq_some_iff, ih, List.take_succ_cons, List.length_cons]
      constructor
      · rintro ⟨a, ⟨rfl, h⟩, rfl⟩; exact ⟨rfl, by omega⟩
      · rintro ⟨rfl, h⟩; exact ⟨_, ⟨rfl, by omega⟩, rfl⟩

theorem ldrop_eq {α : Type} : ∀ (n : Nat) (l : List α), ldrop n l = l.drop n := by
  intro n
  induction n with
  | zero => intro l; cases l <;> rfl
  | succ n ih => intro l; cases l <;> simp [ldrop, ih]

theorem lsub_eq {α : Type} {l r : List α} {off n : Nat} (h : lsub l off n = some r) : r = (l.drop off).take n ∧ n ≤ l.length - off := by
  unfold lsub at h
  rw [ltake_eq, ldrop_eq] at h
  simpa using h

theorem lset_eq {α : Type} : ∀ (l : List α) (i : Nat) (v : α), lset l i v = l.set i v := by
  intro l
  induction l with
  | nil => intro i v; cases i <;> rfl
  | cons x l ih => intro i v; cases i <;> simp [lset, ih]

theorem lput_length {α : Type} : ∀ (new l : List α) (off : Nat), (lput l off new).length = l.length := by
  intro new
  induction new with
  | nil => intro l off; rfl
  | cons x new ih => intro l off; simp [lput, ih, lset_eq]

theorem repL_set {σ : Val} {β : Bmap} : ∀ {l : List AV} {m : List Value} (i : Nat) {v : AV} {V : Value}, AV.repL D B σ β l m → v.rep D B σ β V → AV.repL D B σ β (l.set i v) (m.set i V) := by
  intro l
  induction l with
  | nil => intro m i v V h hv; cases m <;> simp_all [AV.repL]
  | cons a l ih =>
    intro m i v V h hv
    cases m with
    | nil => simp [AV.repL] at h
    | cons W m =>
      simp only [AV.repL] at h
      cases i with
      | zero => simp only [List.set_cons_zero, AV.repL]; exact ⟨hv, h.2⟩
      | succ i => simp only [List.set_cons_succ, AV.repL]; exact ⟨h.1, ih i h.2 hv⟩

theorem repL_put {σ : Val} {β : Bmap} : ∀ {new : List AV} {news : List Value} {l : List AV} {m : List Value} (off : Nat), AV.repL D B σ β l m → AV.repL D B σ β new news →
    AV.repL D B σ β (lput l off new) (lput m off news) := by
  intro new
  induction new with
  | nil => intro news l m off h hn; cases news <;> simp_all [AV.repL, lput]
  | cons a new ih =>
    intro news l m off h hn
    cases news with
    | nil => simp [AV.repL] at hn
    | cons V news =>
      simp only [AV.repL] at hn
      simp only [lput, lset_eq]
      exact ih (off + 1) (repL_set off h hn.1) hn.2

theorem repL_take {σ : Val} {β : Bmap} : ∀ {l : List AV} {m : List Value} (n : Nat), AV.repL D B σ β l m → AV.repL D B σ β (l.take n) (m.take n) := by
  intro l
  induction l with
  | nil => intro m n h; cases m <;> simp_all [AV.repL]
  | cons a l ih =>
    intro m n h
    cases m with
    | nil => simp [AV.repL] at h
    | cons W m =>
      simp only [AV.repL] at h
      cases n with
      | zero => simp [AV.repL]
      | succ n => simp only [List.take_succ_cons, AV.repL]; exact ⟨h.1, ih n h.2⟩

theorem repL_drop {σ : Val} {β : Bmap} : ∀ {l : List AV} {m : List Value} (n : Nat), AV.repL D B σ β l m → AV.repL D B σ β (l.drop n) (m.drop n) := by
  intro l
  induction l with
  | nil => intro m n h; cases m <;> simp_all [AV.repL]
  | cons a l ih =>
    intro m n h
    cases m with
    | nil => simp [AV.repL] at h
    | cons W m =>
      cases n with
      | zero => exact h
      | succ n => simp only [AV.repL] at h; simp only [List.drop_succ_cons]; exact ih n h.2

theorem repL_sub {σ : Val} {β : Bmap} {l r : List AV} {m : List Value} {off n : Nat} (h : AV.repL D B σ β l m) (hr : lsub l off n = some r) :
    AV.repL D B σ β r ((m.drop off).take n) := by
  obtain ⟨rfl, _⟩ := lsub_eq hr
  exact repL_take _ (repL_drop _ h)

/-! ## Slots -/

theorem Tm.get_set (m : Tm) : ∀ (i : Nat) (w : AV) (j : Nat), (m.set i w).get j = m.get j ∨ (j = i ∧ (m.set i w).get j = w) := by
  induction m with
  | nil => intro i w j; exact .inl rfl
  | nd v l r ihl ihr =>
    intro i w j
    cases i with
    | zero => cases j with
      | zero => exact .inr ⟨rfl, rfl⟩
      | succ j => exact .inl rfl
    | succ i =>
      cases j with
      | zero => left; simp only [Tm.set]; split <;> rfl
      | succ j =>
        by_cases hi : i % 2 = 0 <;> by_cases hj : j % 2 = 0 <;> simp [Tm.set, Tm.get, Nat.beq_eq, hi, hj]
        · rcases ihl (i / 2) w (j / 2) with h | ⟨h1, h2⟩
          · exact .inl h
          · exact .inr ⟨by omega, h2⟩
        · rcases ihr (i / 2) w (j / 2) with h | ⟨h1, h2⟩
          · exact .inl h
          · exact .inr ⟨by omega, h2⟩

theorem Tm.get_set_self (m : Tm) : ∀ (i : Nat) (w : AV), (m.set i w).get i = w ∨ (m.set i w).get i = .junk := by
  induction m with
  | nil => intro i w; exact .inr rfl
  | nd v l r ihl ihr =>
    intro i w
    cases i with
    | zero => exact .inl rfl
    | succ i =>
      by_cases hi : i % 2 = 0 <;> simp [Tm.set, Tm.get, Nat.beq_eq, hi]
      · exact ihl _ _
      · exact ihr _ _

theorem Tm.get_full (d : Nat) : ∀ i, (Tm.full d).get i = undefA ∨ (Tm.full d).get i = .junk := by
  induction d with
  | zero => intro i; exact .inr rfl
  | succ d ih =>
    intro i
    cases i with
    | zero => exact .inl rfl
    | succ i => simp only [Tm.full, Tm.get]; split <;> exact ih _

/-! ## States -/

def SpareOk (σ : Val) (s : Option (IE × Nat)) (Vs rest : List Value) : Prop :=
  match s with
  | none => rest = []
  | some (e, z) => e.ok σ.n = true ∧ (Vs ++ rest).length = (e.ev σ).toNat * z

theorem SpareOk.le {σ τ : Val} (h : σ.le τ) {s : Option (IE × Nat)} {Vs rest : List Value} (hs : SpareOk σ s Vs rest) : SpareOk τ s Vs rest := by
  unfold SpareOk at *
  split
  · exact hs
  · exact ⟨IE.ok_le h.n hs.1, by rw [IE.ev_le h hs.1]; exact hs.2⟩

/-- what is known of a block's first cells -/
def ContRep (D : Ctx) (B : Base) (σ : Val) (β : Bmap) (o : AObj) (Vs : List Value) : Prop :=
  match o.lst with
  | none => AV.repL D B σ β o.cs Vs
  | some (L, ks) => o.cs = [] ∧ L.ok σ.n = true ∧ 0 < ks.length ∧ (dec (L.ev σ)).length % ks.length = 0 ∧ Vs = lstVals ks (dec (L.ev σ))

theorem ContRep.none {D : Ctx} {B : Base} {σ : Val} {β : Bmap} {o : AObj} {Vs : List Value} (h : ContRep D B σ β o Vs) (hl : o.lst = Option.none) : AV.repL D B σ β o.cs Vs := by
  unfold ContRep at h; rw [hl] at h; exact h
theorem ContRep.some {D : Ctx} {B : Base} {σ : Val} {β : Bmap} {o : AObj} {Vs : List Value} {L : IE} {ks : List CK} (h : ContRep D B σ β o Vs) (hl : o.lst = Option.some (L, ks)) :
    o.cs = [] ∧ L.ok σ.n = true ∧ 0 < ks.length ∧ (dec (L.ev σ)).length % ks.length = 0 ∧ Vs = lstVals ks (dec (L.ev σ)) := by
  unfold ContRep at h; rw [hl] at h; exact h

theorem ContRep.le {D : Ctx} {B : Base} {σ τ : Val} {β γ : Bmap} (hσ : σ.le τ) (hβ : Ble β γ) {o : AObj} {Vs : List Value} (h : ContRep D B σ β o Vs) : ContRep D B τ γ o Vs := by
  unfold ContRep at *
  split
  · rename_i e; rw [e] at h; exact repL_le hσ hβ _ _ h
  · rename_i L ks e
    rw [e] at h
    obtain ⟨h1, h2, h3, h4, h5⟩ := h
    exact ⟨h1, IE.ok_le hσ.n h2, h3, by rw [IE.ev_le hσ h2]; exact h4, by rw [IE.ev_le hσ h2]; exact h5⟩

/-- a block's cells, of which the first are known -/
def ObjRep (D : Ctx) (B : Base) (σ : Val) (β : Bmap) (o : AObj) (x : Option Obj) : Prop :=
  ∃ (Vs : List Value) (rest : List Value) (fz : Nat × Nat), x = some (.cells (Vs ++ rest).toArray o.ty fz) ∧ ContRep D B σ β o Vs ∧ SpareOk σ o.spare Vs rest ∧
    (fz.2 = 0 ∨ (Vs ++ rest).length ≤ fz.1)

structure Fits (D : Ctx) (B : Base) (σ : Val) (β : Bmap) (st : St) (a : Act) (w : World) : Prop where
  nn : σ.n = st.nv
  df : a.defers = []
  sz : a.tmps.size = st.nt
  tm : ∀ i, (st.tm.get i).rep D B σ β (a.tmps.getD i undef)
  hp : ∀ b o, hget st.hp b = some o → ∃ rb, β b = some rb ∧ ObjRep D B σ β o w.heap[rb]? ∧ (B.w0.heap.size ≤ rb ∨ B.O rb)
  inj : ∀ b b' o o' rb, hget st.hp b = some o → hget st.hp b' = some o' → β b = some rb → β b' = some rb → b = b'
  fresh : ∀ b, st.nb ≤ b → β b = none
  bnd : ∀ b rb, β b = some rb → rb < w.heap.size
  pc : ∀ c v, (c, v) ∈ st.pc → c.ok σ.n = true ∧ c.ev σ = v
  grow : B.w0.heap.size ≤ w.heap.size
  env : w.os = B.w0.os ∧ w.output = B.w0.output
  fr : ∀ r, r < B.w0.heap.size → ¬ B.O r → w.heap[r]? = B.w0.heap[r]?

/-- The lists that came in lie where they are said to lie. -/
structure RoOk (D : Ctx) (B : Base) (σ : Val) : Prop where
  cell : ∀ r j, j < (σ.r r).length → ∀ k, (D.ro r)[j % (D.ro r).length]? = some k →
    B.w0.cell? ⟨(B.ra r).block, (B.ra r).off + j, none⟩ = some (ckVal k ((σ.r r).getD j 0))
  own : ∀ r, D.ro r ≠ [] → 0 < (σ.r r).length → (B.ra r).block < B.w0.heap.size ∧ ¬ B.O (B.ra r).block

end

/-! ## Trees -/

def Val.push (σ : Val) (rs : List Int) : Val :=
  { σ with n := σ.n + rs.length, v := fun i => if i < σ.n then σ.v i else rs.getD (i - σ.n) 0 }

theorem Val.le_push (σ : Val) (rs : List Int) : σ.le (σ.push rs) :=
  ⟨by simp [Val.push], fun i hi => by simp [Val.push, hi], rfl⟩

/-- what functions ask for and what they promise -/
structure Spec where
  pre : Nat → List Int → Prop
  post : Nat → List Int → List Int → Prop
abbrev Again := Nat → List Int → Prop

def Tr.holds {α : Type} (SP : Spec) (Φ : Val → Again → α → Prop) : Tr α → Val → Again → Prop
  | .ret x, σ, Λ => Φ σ Λ x
  | .br c t e, σ, Λ => (c.ev σ = true → t.holds SP Φ σ Λ) ∧ (c.ev σ = false → e.holds SP Φ σ Λ)
  | .call f es n k, σ, Λ => SP.pre f (es.map (·.ev σ)) ∧ ∀ rs : List Int, rs.length = n → SP.post f (es.map (·.ev σ)) rs → k.holds SP Φ (σ.push rs) Λ
  | .any k, σ, Λ => ∀ x : Int, k.holds SP Φ (σ.push [x]) Λ
  | .asm c k, σ, Λ => c.ev σ = true → k.holds SP Φ σ Λ
  | .loop id init n b, σ, Λ => ∃ (I : List Int → Prop) (m : List Int → Nat), I (init.map (·.ev σ)) ∧
      ∀ vs, vs.length = n → I vs → b.holds SP Φ (σ.push vs) (fun j us => if j = id then I us ∧ m us < m vs else Λ j us)
  | .again id vs, σ, Λ => Λ id (vs.map (·.ev σ))
  | .join id n b k, σ, Λ => ∃ J : List Int → Prop, b.holds SP Φ (σ.push [0]) (fun j us => if j = id then us.length = n ∧ J us else Λ j us) ∧ ∀ vs, vs.length = n → J vs → k.holds SP Φ (σ.push vs) Λ
  | .fail _, _, _ => False

theorem Tr.holds_bind {α β : Type} {SP : Spec} {Φ : Val → Again → β → Prop} {k : α → Tr β} : ∀ {t : Tr α} {σ : Val} {Λ : Again},
    (t.bind k).holds SP Φ σ Λ → t.holds SP (fun τ M x => (k x).holds SP Φ τ M) σ Λ := by
  intro t
  induction t with
  | ret x => intro σ Λ h; exact h
  | br c t e iht ihe => intro σ Λ h; exact ⟨fun hc => iht (h.1 hc), fun hc => ihe (h.2 hc)⟩
  | call f es n t ih => intro σ Λ h; exact ⟨h.1, fun rs hl hs => ih (h.2 rs hl hs)⟩
  | any t ih => intro σ Λ h x; exact ih (h x)
  | asm c t ih => intro σ Λ h x; exact ih (h x)
  | loop id init n b ih => intro σ Λ h; obtain ⟨I, m, h0, h1⟩ := h; exact ⟨I, m, h0, fun vs hl hI => ih (h1 vs hl hI)⟩
  | again id vs => intro σ Λ h; exact h
  | join id n b k' ih1 ih2 => intro σ Λ h; obtain ⟨J, h0, h1⟩ := h; exact ⟨J, ih1 h0, fun vs hl hJ => ih2 (h1 vs hl hJ)⟩
  | fail n => intro σ Λ h; exact h

/-- further on the way: more variables, the loops around the same -/
structure On (σ : Val) (Λ : Again) (τ : Val) (M : Again) : Prop where
  le : σ.le τ
  ag : ∀ j, j < σ.n → M j = Λ j

theorem On.refl (σ : Val) (Λ : Again) : On σ Λ σ Λ := ⟨.refl σ, fun _ _ => rfl⟩
theorem On.trans {σ τ υ : Val} {Λ M N : Again} (h : On σ Λ τ M) (h' : On τ M υ N) : On σ Λ υ N :=
  ⟨h.le.trans h'.le, fun j hj => (h'.ag j (Nat.lt_of_lt_of_le hj h.le.n)).trans (h.ag j hj)⟩
theorem On.push (σ : Val) (Λ : Again) (rs : List Int) : On σ Λ (σ.push rs) Λ := ⟨σ.le_push rs, fun _ _ => rfl⟩

end Go.Proofs.Sx
