/- Operations that only reckon, the rest, and all together: 'pop_sound'. -/
import Derived.Test.YtklfialdapljlaaSxG
namespace Go.Proofs.Sx
open Go

section
variable {D : Ctx} {B : Base} {σ : Val} {β : Bmap}

theorem cells_rep {v : AV} {V : Value} (h : v.rep D B σ β V) (hk : known v = true) : AV.repL D B σ β v.cells V.cells.toList := by
  cases v <;> simp [known] at hk
  case agg l => simp only [AV.cells]; simp only [AV.rep] at h; obtain ⟨x, rfl, hx⟩ := h; simpa [Value.cells] using hx
  all_goals (
    have h' := h
    simp only [AV.rep] at h'
    have hc : V.cells = #[V] := by
      first
        | (obtain ⟨_, rfl⟩ := h'; rfl)
        | (obtain ⟨_, _, rfl⟩ := h'; rfl)
        | (subst h'; rfl)
        | (obtain ⟨_, rfl, _⟩ := h'; rfl)
        | (obtain ⟨_, _, rfl, _⟩ := h'; rfl)
        | (obtain ⟨_, _, _, _, _, rfl, _⟩ := h'; rfl)
        | (obtain ⟨_, _, _, _, _, _, rfl, _⟩ := h'; rfl)
        | (obtain ⟨_, _, _, _, rfl⟩ := h'; rfl)
        | (obtain ⟨_, _, _, _, _, rfl⟩ := h'; rfl)
    rw [hc]
    simp only [AV.cells, AV.repL, and_true]
    exact h)

theorem ofVal_cells (V : Value) : AV.repL D B σ β (ofVal V).cells V.cells.toList := by
  unfold ofVal
  split
  · rename_i cs; simp only [AV.cells, Value.cells]; exact ofVal1s_rep _
  · rename_i h
    have hc : V.cells = #[V] := by cases V <;> first | rfl | exact absurd rfl (h _)
    have ha : (ofVal1 V).cells = [ofVal1 V] := by unfold ofVal1; split <;> rfl
    rw [hc, ha]
    simp only [AV.repL, and_true]
    exact ofVal1_rep V

theorem zeroA_some {t : TypeId} {z : AV} (h : zeroA D.P t = some z) : ∃ V, z = ofVal V ∧ ∀ w, (zeroValue t).run D.P w = .ok V w := by
  unfold zeroA at h
  cases hi : D.P.info? t with
  | none => simp [hi] at h
  | some i =>
    simp only [hi, Option.bind_some, Option.map_eq_some_iff] at h
    obtain ⟨V, hV, rfl⟩ := h
    exact ⟨V, rfl, fun w => by simp [zeroValue, typeInfo, hi, hV]⟩

theorem fold_put : ∀ (new : List Value) (cells : Array Value) (off j : Nat),
    ((new.zipIdx j).foldl (fun (cs : Array Value) (p : Value × Nat) => cs.setIfInBounds (off + p.2) p.1) cells).toList = lput cells.toList (off + j) new := by
  intro new
  induction new with
  | nil => intro cells off j; rfl
  | cons x new ih =>
    intro cells off j
    simp only [List.zipIdx_cons, List.foldl_cons, ih, lput, lset_eq, Array.toList_setIfInBounds, Nat.add_assoc]

/-- parts that stand for parts -/
def PartsRep (D : Ctx) (B : Base) (σ : Val) (β : Bmap) : List (Nat × AV) → List (Nat × Value) → Prop
  | [], [] => True
  | (i, v) :: l, (j, V) :: m => i = j ∧ v.rep D B σ β V ∧ PartsRep D B σ β l m
  | _, _ => False

theorem fillA_sound {placeA : Nat → Option (Nat × Nat)} {place : Nat → Option (Nat × Nat)} (hp : ∀ i x, placeA i = some x → place i = some x) :
    ∀ (parts : List (Nat × AV)) (Parts : List (Nat × Value)) (cells r : List AV) (Cells : Array Value), PartsRep D B σ β parts Parts → AV.repL D B σ β cells Cells.toList → fillA placeA cells parts = some r →
      ∃ R : Array Value, Instr.fill place Cells Parts = some R ∧ AV.repL D B σ β r R.toList := by
  intro parts
  induction parts with
  | nil =>
    intro Parts cells r Cells hP hc h
    cases Parts with
    | nil => simp [fillA] at h; subst h; exact ⟨Cells, rfl, hc⟩
    | cons p l => simp [PartsRep] at hP
  | cons p parts ih =>
    intro Parts cells r Cells hP hc h
    cases Parts with
    | nil => simp [PartsRep] at hP
    | cons q Parts =>
      obtain ⟨i, v⟩ := p
      obtain ⟨j, V⟩ := q
      simp only [PartsRep] at hP
      obtain ⟨rfl, hv, hP⟩ := hP
      simp only [fillA] at h
      split at h
      · simp at h
      · rename_i off size hpl
        split at h
        · simp at h
        · rename_i hcond
          simp only [Bool.or_eq_true, decide_eq_true_eq, not_or, Bool.not_eq_true', Bool.not_eq_false] at hcond
          obtain ⟨⟨h1, h2⟩, h3⟩ := hcond
          have hcr := cells_rep hv h3
          have hl1 := repL_length hcr
          have hl2 := repL_length hc
          have hput : AV.repL D B σ β (lput cells off v.cells) (V.cells.zipIdx.foldl (fun (cs : Array Value) (p : Value × Nat) => cs.setIfInBounds (off + p.2) p.1) Cells).toList := by
            have := fold_put V.cells.toList Cells off 0
            rw [← Array.foldl_toList, Array.toList_zipIdx, this]
            exact repL_put off hc hcr
          obtain ⟨R, hR, hRr⟩ := ih _ _ _ _ hP hput h
          refine ⟨R, ?_, hRr⟩
          have e1 : V.cells.size = v.cells.length := by rw [hl1]; simp
          have e2 : Cells.size = cells.length := by rw [hl2]; simp
          simp only [Instr.fill, hp _ _ hpl]
          rw [if_neg]
          · exact hR
          · simp only [e1, e2, Bool.or_eq_true, decide_eq_true_eq, not_or]
            exact ⟨h1, h2⟩

theorem placesA_sound {P : Program} : ∀ (fs : List Field) (l : List (Nat × Nat)), placesA P fs = some l →
    ∀ w, (fs.mapM (m := Sem) fun f => do pure (f.offset, ← sizeOf f.type)).run P w = .ok l w := by
  intro fs
  induction fs with
  | nil => intro l h w; simp [placesA] at h; subst h; rfl
  | cons f fs ih =>
    intro l h w
    simp only [placesA] at h
    split at h
    · rename_i n r hn hr
      simp at h; subst h
      simp only [List.mapM_cons, Sem.run_bind, run_sizeOf' hn, Result.andThen_ok, Sem.run_pure, ih _ hr]
    · simp at h

theorem nth2_eq : ∀ (l : List (Nat × Nat)) (i : Nat) (x : Nat × Nat), nth2 l i = some x → l.toArray[i]? = some x := by
  intro l
  induction l with
  | nil => intro i x h; simp [nth2] at h
  | cons y l ih =>
    intro i x h
    cases i with
    | zero => simpa [nth2] using h
    | succ i => simp only [nth2] at h; have := ih i x h; simpa using this

theorem buildA_sound {t : TypeId} {parts : List (Nat × AV)} {Parts : List (Nat × Value)} {v : AV} (hP : PartsRep D B σ β parts Parts) (h : buildA D.P t parts = some v) :
    ∃ V, v.rep D B σ β V ∧ ∀ w, (Instr.build t Parts.toArray).run D.P w = .ok V w := by
  unfold buildA at h
  split at h
  · rename_i z fields hz hu
    obtain ⟨Z, rfl, hZ⟩ := zeroA_some hz
    split at h
    · rename_i places hpl
      simp only [Option.map_eq_some_iff] at h
      obtain ⟨r, hr, rfl⟩ := h
      obtain ⟨R, hR, hRr⟩ := fillA_sound (place := (places.toArray[·]?)) (nth2_eq places) _ _ _ _ Z.cells hP (ofVal_cells Z) hr
      refine ⟨.agg R, ⟨R.toList, by simp, hRr⟩, fun w => ?_⟩
      have hm : (fields.mapM (m := Sem) fun f => do pure (f.offset, ← sizeOf f.type)).run D.P w = .ok places.toArray w := by
        rw [Array.mapM_eq_mapM_toList]
        simp only [Sem.run_map, placesA_sound _ _ hpl, Result.andThen_ok]
      simp only [Instr.build, Sem.run_bind, hZ, Result.andThen_ok, run_underlying hu, hm, hR, Sem.run_pure]
    · simp at h
  · rename_i z len elem hz hu
    obtain ⟨Z, rfl, hZ⟩ := zeroA_some hz
    split at h
    · rename_i n hn
      simp only [Option.map_eq_some_iff] at h
      obtain ⟨r, hr, rfl⟩ := h
      obtain ⟨R, hR, hRr⟩ := fillA_sound (place := fun i => some (i * n, n)) (fun i x hx => hx) _ _ _ _ Z.cells hP (ofVal_cells Z) hr
      refine ⟨.agg R, ⟨R.toList, by simp, hRr⟩, fun w => ?_⟩
      simp only [Instr.build, Sem.run_bind, hZ, Result.andThen_ok, run_underlying hu, run_sizeOf' hn, hR, Sem.run_pure]
    · simp at h
  · simp at h

theorem popExtract_sound {x : AV} {X : Value} {i : Nat} (hx : x.rep D B σ β X) : Reck D B σ β (popExtract x i) (Instr.extract X i) := by
  unfold popExtract
  split
  · rename_i l
    simp only [AV.rep] at hx
    obtain ⟨xs, rfl, hx⟩ := hx
    split
    · rename_i v hv
      obtain ⟨h1, h2⟩ := lsub_eq hv
      have hi : i < l.length := by omega
      have hd : l.drop i = l[i] :: l.drop (i + 1) := List.drop_eq_getElem_cons hi
      rw [hd] at h1
      simp only [List.take_succ_cons, List.take_zero, List.cons.injEq, and_true] at h1
      obtain ⟨V, hV, hr⟩ := repL_get hx (show l[i]? = some v by rw [List.getElem?_eq_getElem hi, h1])
      refine .ret hr fun w => ?_
      simp [Instr.extract, hV]
    · exact .fail
  · exact .fail

theorem popConvert_sound {src dst : TypeId} {x : AV} {X : Value} {p : PT AV} (hx : x.rep D B σ β X) (h : popConvert D.P src dst x = some p) : Reck D B σ β p (convert src dst X) := by
  unfold popConvert at h
  split at h
  · rename_i sd dd hs hd
    split at h
    · simp at h; subst h
      simp only [AV.rep] at hx
      obtain ⟨he, rfl⟩ := hx
      refine .ret ⟨ok_mkWrap _ he, rfl⟩ fun w => ?_
      simp only [convert, Sem.run_bind, run_underlying hs, run_underlying hd, Result.andThen_ok]
      cases sd <;> simp [Conv.intToInt, ev_mkWrap]
    · split at h
      · simp at h; subst h
        have hx' := hx
        simp only [AV.rep] at hx'
        obtain ⟨he, rfl⟩ := hx'
        exact .ret hx fun w => by simp [convert, run_underlying hs, run_underlying hd]
      · simp at h
    · simp at h
  · simp at h

theorem popMM_sound (mx : Bool) : ∀ (l : List AV) (L : List Value) (v : AV) (V : Value), v.rep D B σ β V → AV.repL D B σ β l L →
    Reck D B σ β (popMM (if mx then .max else .min) v l) (L.foldlM (if mx then Builtin.max2 else Builtin.min2) V) := by
  intro l
  induction l with
  | nil =>
    intro L v V hv hl
    cases L with
    | nil => exact .ret hv fun w => by simp
    | cons _ _ => simp [AV.repL] at hl
  | cons a l ih =>
    intro L v V hv hl
    cases L with
    | nil => simp [AV.repL] at hl
    | cons A L =>
      simp only [AV.repL] at hl
      obtain ⟨hA, hl⟩ := hl
      cases v <;> cases a <;> (try exact Reck.fail)
      case int.int k a' k' b =>
        simp only [popMM]
        simp only [AV.rep] at hv
        obtain ⟨ha, rfl⟩ := hv
        simp only [AV.rep] at hA
        obtain ⟨hb, rfl⟩ := hA
        have := ih L (.int k (mkOp (if mx then .max else .min) k a' b)) (.int k ((mkOp (if mx then .max else .min) k a' b).ev σ)) ⟨ok_mkOp _ ha hb, rfl⟩ hl
        refine ⟨this.1, fun u hu => ?_⟩
        obtain ⟨U, hU, hr⟩ := this.2 u hu
        refine ⟨U, hU, fun w => ?_⟩
        rw [List.foldlM_cons, Sem.run_bind]
        have e : ((if mx then Builtin.max2 else Builtin.min2) (.int k (a'.ev σ)) (.int k' (b.ev σ))).run D.P w = .ok (.int k ((mkOp (if mx then .max else .min) k a' b).ev σ)) w := by
          cases mx <;> simp [Builtin.max2, Builtin.min2, ev_mkOp, F2.ev]
        rw [e]
        exact hr w

theorem popLen_sound {ts : List TypeId} {xs : List AV} {Xs : List Value} (ty : TypeId) (hx0 : AV.repL D B σ β xs Xs) : Reck D B σ β (popLen D ts xs) (Builtin.len_ ts.toArray ty Xs.toArray) := by
  match ts, xs, Xs, hx0 with
  | [t], [x], [X], hx0 =>
    have hx : x.rep D B σ β X := by simp only [AV.repL, and_true] at hx0; exact hx0
    clear hx0
    cases hu : D.P.underlying t with
    | none => simp only [popLen, hu]; exact .fail
    | some d =>
      cases d with
      | array n elem =>
        simp only [popLen, hu]
        refine .ret (V := .int .i64 n) ⟨rfl, rfl⟩ fun w => ?_
        simp [Builtin.len_, run_underlying hu, goInt]
      | string =>
        cases x <;> simp only [popLen, hu] <;> (try exact Reck.fail)
        case str l =>
          simp only [AV.rep] at hx
          obtain ⟨hok, rfl⟩ := hx
          refine .ret (V := .int .i64 l.length) ⟨rfl, rfl⟩ fun w => ?_
          have hsz : (⟨(l.map fun e => UInt8.ofNat (e.ev σ).toNat).toArray⟩ : ByteArray).size = l.length := by simp [ByteArray.size]
          simp [Builtin.len_, run_underlying hu, goInt, hsz]
        case sst r =>
          simp only [AV.rep] at hx
          obtain ⟨s, rfl, hs⟩ := hx
          refine .ret (V := .int .i64 (σ.r r).length) ⟨rfl, rfl⟩ fun w => ?_
          have hsz : s.size = (σ.r r).length := by rw [hs, List.length_map, Array.length_toList]; rfl
          simp [Builtin.len_, run_underlying hu, goInt, hsz]
      | slice elem =>
        cases x <;> simp only [popLen, hu] <;> (try exact Reck.fail)
        case sl b off len cap =>
          simp only [AV.rep] at hx
          obtain ⟨h1, h2, n, c, A, rfl, h3, h4, h5⟩ := hx
          refine .ret (V := .int .i64 n) ⟨h1, by rw [h3]⟩ fun w => ?_
          simp [Builtin.len_, run_underlying hu, goInt]
        case rsl r off len cap =>
          simp only [AV.rep] at hx
          obtain ⟨h0, h1, o, n, c, A, rfl, h3, h4, h6⟩ := hx
          refine .ret (V := .int .i64 n) ⟨h1, by rw [h4]⟩ fun w => ?_
          simp [Builtin.len_, run_underlying hu, goInt]
      | _ => simp only [popLen, hu]; exact .fail
  | [], _, _, _ => exact .fail
  | _ :: _ :: _, _, _, _ => exact .fail
  | [_], [], _, _ => exact .fail
  | [_], _ :: _ :: _, _, _ => exact .fail
  | [_], [_], [], h => simp [AV.repL] at h
  | [_], [_], _ :: _ :: _, h => simp [AV.repL] at h

/-- what an operation that only reckons does -/
def Does (D : Ctx) (a : Act) (o : Op) (V : Value) : Prop := ∀ (ox : Oper) (w : World), ox.op = o → (execOp a.eval ox).run D.P w = .ok (.value V) w

theorem map_arr {α γ : Type} (f : α → γ) (l : Array α) : Array.map f l = (List.map f l.toList).toArray := by
  apply Array.toList_inj.1; simp

theorem OptRep.of {st : St} {a : Act} (E : EvOk D B σ β st a) (x : Option Operand) : OptRep D B σ β (x.map st.ev) (x.map a.eval) := by
  cases x with
  | none => exact ⟨fun v h => (by cases h), fun _ => rfl⟩
  | some x => exact ⟨fun v h => (by cases h; exact ⟨_, rfl, E x⟩), fun h => (by cases h)⟩

theorem PartsRep.of {st : St} {a : Act} (E : EvOk D B σ β st a) : ∀ l : List (Nat × Operand), PartsRep D B σ β (l.map fun (i, x) => (i, st.ev x)) (l.map fun (i, x) => (i, a.eval x)) := by
  intro l
  induction l with
  | nil => trivial
  | cons p l ih => obtain ⟨i, x⟩ := p; simp only [List.map_cons, PartsRep]; exact ⟨trivial, E x, ih⟩

theorem Reck.does {a : Act} {o : Op} {p : PT AV} {s : Sem Value} (h : Reck D B σ β p s) (hs : ∀ ox : Oper, ox.op = o → execOp a.eval ox = (do pure (.value (← s)))) :
    p.okc σ.n = true ∧ ∀ v, p.pick σ = some v → ∃ V, v.rep D B σ β V ∧ Does D a o V :=
  ⟨h.1, fun v hv => by
    obtain ⟨V, hV, hr⟩ := h.2 v hv
    exact ⟨V, hV, fun ox w ho => by rw [hs ox ho]; simp [hr]⟩⟩

theorem pop_sound {st : St} {a : Act} (E : EvOk D B σ β st a) (HL : LstOk σ st.hp) {o : Op} {p : PT AV} (h : pop D st o = some p) :
    p.okc σ.n = true ∧ ∀ v, p.pick σ = some v → ∃ V, v.rep D B σ β V ∧ Does D a o V := by
  unfold pop at h
  split at h
  · rename_i x; simp at h; subst h
    exact (Reck.ret (E x) (s := pure (a.eval x)) fun w => rfl).does fun ox ho => by simp [execOp, ho]
  · rename_i x; simp at h; subst h
    exact (Reck.ret (E x) (s := pure (a.eval x)) fun w => rfl).does fun ox ho => by simp [execOp, ho]
  · rename_i c x y
    have hc := E c
    split at h
    · rename_i b hb
      simp at h; subst h
      rw [hb] at hc
      simp only [AV.rep] at hc
      refine ⟨by simp [PT.okc, hc.1], fun v hv => ?_⟩
      simp only [PT.pick] at hv
      split at hv
      · rename_i hcond; simp at hv; subst hv
        exact ⟨_, E x, fun ox w ho => by simp [execOp, ho, hc.2, asBool, hcond]⟩
      · rename_i hcond; simp at hv; subst hv
        exact ⟨_, E y, fun ox w ho => by simp [execOp, ho, hc.2, asBool, hcond]⟩
    · simp at h; subst h; exact ⟨rfl, fun v hv => by simp [PT.pick] at hv⟩
  · rename_i op t x y yt; simp at h; subst h
    exact (popBin_sound (E x) (E y) x y).does fun ox ho => by simp [execOp, ho]
  · rename_i op t x; simp at h; subst h
    exact (popUn_sound (E x)).does fun ox ho => by simp [execOp, ho]
  · rename_i src dst x
    exact (popConvert_sound (E x) h).does fun ox ho => by simp [execOp, ho]
  · rename_i t x
    split at h
    · simp at h; subst h; exact ⟨rfl, fun v hv => by simp [PT.pick] at hv⟩
    · rename_i d hni hd
      simp at h; subst h
      have hrep : AV.rep D B σ β (.ifc t (st.ev x)) (.iface t (a.eval x)) := ⟨_, rfl, E x⟩
      refine (Reck.ret hrep (s := Instr.makeInterface t (a.eval x)) fun w => ?_).does fun ox ho => by simp [execOp, ho]
      simp only [Instr.makeInterface, Sem.run_bind, run_underlying hd, Result.andThen_ok]
      rfl
    · simp at h; subst h; exact ⟨rfl, fun v hv => by simp [PT.pick] at hv⟩
  · rename_i fn first cap; simp at h; subst h
    have hrep : AV.rep D B σ β (.fn fn (first.toList.map st.ev) (cap.toList.map st.ev)) (.func fn (first.map a.eval) (cap.map a.eval)) :=
      ⟨first.toList.map a.eval, cap.toList.map a.eval, by rw [map_arr, map_arr], E.map _, E.map _⟩
    refine (Reck.ret hrep (s := Instr.makeFunc fn (first.map a.eval) (cap.map a.eval)) fun w => rfl).does fun ox ho => by simp [execOp, ho]
  · rename_i s x f
    split at h
    · rename_i fields hu
      split at h
      · rename_i fd hf
        split at h
        · rename_i m hsz
          have hx := E x
          have hplace : ∀ (A : Addr) w, (fieldPlace A fd).run D.P w = .ok (A.add fd.offset) w := fun A w => by
            simp [fieldPlace, run_sizeOf' hsz]
          split at h
          · rename_i b off hb
            simp at h; subst h
            rw [hb] at hx
            simp only [AV.rep] at hx
            obtain ⟨rb, hrb, hx⟩ := hx
            have hrep : AV.rep D B σ β (.ptr b (off + fd.offset)) (.pointer (some ⟨rb, off + fd.offset, none⟩)) := ⟨rb, hrb, rfl⟩
            refine (Reck.ret hrep (s := Instr.fieldAt s (a.eval x) f) fun w => ?_).does fun ox ho => by simp [execOp, ho]
            rw [hx]
            simp [Instr.fieldAt, run_underlying hu, hf, Instr.sureAddr, hplace, addr_add]
          · rename_i r e j hb
            simp at h; subst h
            rw [hb] at hx
            simp only [AV.rep] at hx
            obtain ⟨h1, i, h2, h3, hx⟩ := hx
            have hrep : AV.rep D B σ β (.rp r e (j + fd.offset)) (.pointer (some ⟨(B.ra r).block, (B.ra r).off + i * (D.ro r).length + (j + fd.offset), none⟩)) := ⟨h1, i, h2, h3, rfl⟩
            refine (Reck.ret hrep (s := Instr.fieldAt s (a.eval x) f) fun w => ?_).does fun ox ho => by simp [execOp, ho]
            rw [hx]
            simp [Instr.fieldAt, run_underlying hu, hf, Instr.sureAddr, hplace, addr_add, Nat.add_assoc]
          · rename_i b q e j hb
            simp at h; subst h
            rw [hb] at hx
            simp only [AV.rep] at hx
            obtain ⟨h1, rb, i, h2, h3, hx⟩ := hx
            have hrep : AV.rep D B σ β (.lp b q e (j + fd.offset)) (.pointer (some ⟨rb, i * q + (j + fd.offset), none⟩)) := ⟨h1, rb, i, h2, h3, rfl⟩
            refine (Reck.ret hrep (s := Instr.fieldAt s (a.eval x) f) fun w => ?_).does fun ox ho => by simp [execOp, ho]
            rw [hx]
            simp [Instr.fieldAt, run_underlying hu, hf, Instr.sureAddr, hplace, addr_add, Nat.add_assoc]
          · simp at h; subst h; exact ⟨rfl, fun v hv => by simp [PT.pick] at hv⟩
        · simp at h; subst h; exact ⟨rfl, fun v hv => by simp [PT.pick] at hv⟩
      · simp at h; subst h; exact ⟨rfl, fun v hv => by simp [PT.pick] at hv⟩
    · simp at h; subst h; exact ⟨rfl, fun v hv => by simp [PT.pick] at hv⟩
  · rename_i t x f
    have hx := E x
    split at h
    · rename_i fields cs hu hcs
      split at h
      · rename_i fd hf
        split at h
        · rename_i v hv
          simp at h; subst h
          rw [hcs] at hx
          simp only [AV.rep] at hx
          obtain ⟨xs, hx1, hx⟩ := hx
          obtain ⟨V, hV, hr⟩ := partA_sound hv hx
          refine (Reck.ret hV (s := Instr.field t (a.eval x) f) fun w => ?_).does fun ox ho => by simp [execOp, ho]
          rw [hx1]
          simp [Instr.field, run_underlying hu, hf, asAgg, hr]
        · simp at h; subst h; exact ⟨rfl, fun v hv => by simp [PT.pick] at hv⟩
      · simp at h; subst h; exact ⟨rfl, fun v hv => by simp [PT.pick] at hv⟩
    · simp at h; subst h; exact ⟨rfl, fun v hv => by simp [PT.pick] at hv⟩
  · rename_i t x i; simp at h; subst h
    exact (popIndexAddr_sound HL (E x) (E i)).does fun ox ho => by simp [execOp, ho]
  · rename_i t x i; simp at h; subst h
    exact (popIndex_sound (E x) (E i)).does fun ox ho => by simp [execOp, ho]
  · rename_i t x lo hi mx; simp at h; subst h
    exact (popSlice_sound (E x) (.of E lo) (.of E hi) (.of E mx)).does fun ox ho => by simp [execOp, ho]
  · rename_i x i; simp at h; subst h
    exact (popExtract_sound (E x)).does fun ox ho => by simp [execOp, ho]
  · rename_i t parts
    split at h
    · rename_i v hv
      simp at h; subst h
      obtain ⟨V, hV, hr⟩ := buildA_sound (PartsRep.of E parts.toList) hv
      refine (Reck.ret hV (s := Instr.build t (parts.map fun (i, x) => (i, a.eval x))) fun w => ?_).does fun ox ho => by simp [execOp, ho]
      rw [← hr w]
      congr 2
      apply Array.toList_inj.1
      simp
    · simp at h; subst h; exact ⟨rfl, fun v hv => by simp [PT.pick] at hv⟩
  · rename_i x
    have hx := E x
    split at h
    · rename_i b off hb
      simp at h; subst h
      rw [hb] at hx
      refine ⟨rfl, fun v hv => ?_⟩
      simp [PT.pick] at hv; subst hv
      refine ⟨_, hx, fun ox w ho => ?_⟩
      simp only [AV.rep] at hx
      obtain ⟨rb, _, hx⟩ := hx
      simp [execOp, ho, hx]
    · rename_i r e j hb
      simp at h; subst h
      rw [hb] at hx
      refine ⟨rfl, fun v hv => ?_⟩
      simp [PT.pick] at hv; subst hv
      refine ⟨_, hx, fun ox w ho => ?_⟩
      simp only [AV.rep] at hx
      obtain ⟨_, _, _, _, hx⟩ := hx
      simp [execOp, ho, hx]
    · rename_i b q e j hb
      simp at h; subst h
      rw [hb] at hx
      refine ⟨rfl, fun v hv => ?_⟩
      simp [PT.pick] at hv; subst hv
      refine ⟨_, hx, fun ox w ho => ?_⟩
      simp only [AV.rep] at hx
      obtain ⟨_, _, _, _, _, hx⟩ := hx
      simp [execOp, ho, hx]
    · rename_i f p q hb
      simp at h; subst h
      rw [hb] at hx
      refine ⟨rfl, fun v hv => ?_⟩
      simp [PT.pick] at hv; subst hv
      refine ⟨_, hx, fun ox w ho => ?_⟩
      simp only [AV.rep] at hx
      obtain ⟨x', y', hx, _, _⟩ := hx
      simp [execOp, ho, hx]
    · rename_i t v' hb
      simp at h; subst h
      rw [hb] at hx
      refine ⟨rfl, fun v hv => ?_⟩
      simp [PT.pick] at hv; subst hv
      refine ⟨_, hx, fun ox w ho => ?_⟩
      simp only [AV.rep] at hx
      obtain ⟨x', hx, _⟩ := hx
      simp [execOp, ho, hx]
    · simp at h; subst h; exact ⟨rfl, fun v hv => by simp [PT.pick] at hv⟩
  · rename_i c
    have hargs : (c.args.map a.eval) = (c.args.toList.map a.eval).toArray := map_arr _ _
    split at h
    · rename_i hc
      simp at h; subst h
      have key : ∀ ty, Reck D B σ β (popLen D c.argTypes.toList (c.args.toList.map st.ev)) (Builtin.len_ c.argTypes ty (c.args.map a.eval)) := fun ty => by
        have := popLen_sound (D := D) (B := B) (σ := σ) (β := β) (ts := c.argTypes.toList) ty (E.map c.args.toList)
        rw [hargs]; simpa using this
      refine ⟨(key 0).1, fun v hv => ?_⟩
      obtain ⟨V, hV, hr⟩ := (key 0).2 v hv
      exact ⟨V, hV, fun ox w ho => by
        have := hr w
        have e : Builtin.len_ c.argTypes ox.type (c.args.map a.eval) = Builtin.len_ c.argTypes 0 (c.args.map a.eval) := rfl
        simp only [execOp, ho, resolve, hc, invoke, builtin, Sem.run_bind, Sem.run_pure, Result.andThen_ok, e, this]⟩
    · rename_i hc
      split at h
      · rename_i v l hl
        simp at h; subst h
        have hm := E.map c.args.toList
        rw [hl] at hm
        obtain ⟨V0, L, hVL, h1, h2⟩ : ∃ V0 L, c.args.toList.map a.eval = V0 :: L ∧ v.rep D B σ β V0 ∧ AV.repL D B σ β l L := by
          cases hq : c.args.toList.map a.eval with
          | nil => rw [hq] at hm; simp [AV.repL] at hm
          | cons V0 L => rw [hq] at hm; simp only [AV.repL] at hm; exact ⟨V0, L, rfl, hm.1, hm.2⟩
        have key := popMM_sound true l L v V0 h1 h2
        simp only [if_true] at key
        refine ⟨key.1, fun u hu => ?_⟩
        obtain ⟨V, hV, hr⟩ := key.2 u hu
        exact ⟨V, hV, fun ox w ho => by
          simp only [execOp, ho, resolve, hc, invoke, builtin, Sem.run_bind, Sem.run_pure, Result.andThen_ok, Builtin.max_, hargs, hVL, hr w]⟩
      · simp at h; subst h; exact ⟨rfl, fun v hv => by simp [PT.pick] at hv⟩
    · rename_i hc
      split at h
      · rename_i v l hl
        simp at h; subst h
        have hm := E.map c.args.toList
        rw [hl] at hm
        obtain ⟨V0, L, hVL, h1, h2⟩ : ∃ V0 L, c.args.toList.map a.eval = V0 :: L ∧ v.rep D B σ β V0 ∧ AV.repL D B σ β l L := by
          cases hq : c.args.toList.map a.eval with
          | nil => rw [hq] at hm; simp [AV.repL] at hm
          | cons V0 L => rw [hq] at hm; simp only [AV.repL] at hm; exact ⟨V0, L, rfl, hm.1, hm.2⟩
        have key := popMM_sound false l L v V0 h1 h2
        simp only [Bool.false_eq_true, if_false] at key
        refine ⟨key.1, fun u hu => ?_⟩
        obtain ⟨V, hV, hr⟩ := key.2 u hu
        exact ⟨V, hV, fun ox w ho => by
          simp only [execOp, ho, resolve, hc, invoke, builtin, Sem.run_bind, Sem.run_pure, Result.andThen_ok, Builtin.min_, hargs, hVL, hr w]⟩
      · simp at h; subst h; exact ⟨rfl, fun v hv => by simp [PT.pick] at hv⟩
    · simp at h
  · simp at h

end
end Go.Proofs.Sx
