/- Operations that only reckon, all of them: 'pop_sound'. -/
import Derived.Test.YtklfialdapljlaaSxF
namespace Go.Proofs.Sx
open Go

section
variable {D : Ctx} {B : Base} {σ : Val} {β : Bmap}

/-- what a reckoning of values comes to in the model -/
def Reck (D : Ctx) (B : Base) (σ : Val) (β : Bmap) (p : PT AV) (s : Sem Value) : Prop :=
  p.okc σ.n = true ∧ ∀ v, p.pick σ = some v → ∃ V, v.rep D B σ β V ∧ ∀ w, s.run D.P w = .ok V w

theorem Reck.fail {n : Nat} {s : Sem Value} : Reck D B σ β (.fail n) s := ⟨rfl, fun v h => by simp [PT.pick] at h⟩
theorem Reck.ret {v : AV} {V : Value} {s : Sem Value} (h : v.rep D B σ β V) (hs : ∀ w, s.run D.P w = .ok V w) : Reck D B σ β (.ret v) s :=
  ⟨rfl, fun u hu => by simp [PT.pick] at hu; subst hu; exact ⟨V, h, hs⟩⟩

theorem bool_or_neg (neg : Bool) (c : BE) : (if neg then mkNot c else c).ev σ = (if neg then !(c.ev σ) else c.ev σ) := by
  cases neg <;> simp [ev_mkNot]
theorem ok_or_neg (neg : Bool) {c : BE} (h : c.ok σ.n = true) : (if neg then mkNot c else c).ok σ.n = true := by
  cases neg
  · exact h
  · exact ok_mkNot _ h

theorem equal_of_eqv {t : TypeId} {x y : AV} {c : BE} {X Y : Value} (h : eqv D.P 40 t x y = some c) (hx : x.rep D B σ β X) (hy : y.rep D B σ β Y) :
    c.ok σ.n = true ∧ ∀ w, (Op.equalIn 10000 t X Y).run D.P w = .ok (c.ev σ) w := by
  obtain ⟨h1, h2⟩ := eqv_sound 40 t x y c X Y h hx hy
  exact ⟨h1, fun w => h2 9960 w⟩

theorem popEq_sound {neg : Bool} {t : TypeId} {x y : AV} {X Y : Value} (hx : x.rep D B σ β X) (hy : y.rep D B σ β Y) (ox oy : Operand) :
    Reck D B σ β (popEq D.P neg t x y) (do eqGuard (if neg then .neq else .eql) t ox oy X Y; binOp (if neg then .neq else .eql) t X Y) := by
  have agg : ∀ (l m : List AV), x = .agg l → y = .agg m → D.P.eqGuardType D.P.depth t = false → ∀ c, eqv D.P 40 t x y = some c →
      Reck D B σ β (.ret (.bool (if neg then mkNot c else c))) (do eqGuard (if neg then .neq else .eql) t ox oy X Y; binOp (if neg then .neq else .eql) t X Y) := by
    intro l m hl hm hg c hc
    obtain ⟨h1, h2⟩ := equal_of_eqv hc hx hy
    subst hl; subst hm
    simp only [AV.rep] at hx hy
    obtain ⟨xs, rfl, hx⟩ := hx
    obtain ⟨ys, rfl, hy⟩ := hy
    refine .ret (V := .bool (if neg then !(c.ev σ) else c.ev σ)) ⟨ok_or_neg _ h1, by rw [bool_or_neg]⟩ fun w => ?_
    rw [Sem.run_bind, run_eqGuard_agg _ _ _ _ _ _ _ hg, Result.andThen_ok]
    cases neg
    · simp only [Bool.false_eq_true, if_false]; rw [run_eql_struct, h2]; rfl
    · simp only [if_true]; rw [run_neq_struct, h2]; rfl
  have bl : ∀ (l m : BE), x = .bool l → y = .bool m → ∀ c, eqv D.P 40 t x y = some c →
      Reck D B σ β (.ret (.bool (if neg then mkNot c else c))) (do eqGuard (if neg then .neq else .eql) t ox oy X Y; binOp (if neg then .neq else .eql) t X Y) := by
    intro l m hl hm c hc
    obtain ⟨h1, h2⟩ := equal_of_eqv hc hx hy
    subst hl; subst hm
    simp only [AV.rep] at hx hy
    obtain ⟨_, rfl⟩ := hx
    obtain ⟨_, rfl⟩ := hy
    refine .ret (V := .bool (if neg then !(c.ev σ) else c.ev σ)) ⟨ok_or_neg _ h1, by rw [bool_or_neg]⟩ fun w => ?_
    cases neg
    · simp only [Bool.false_eq_true, if_false]; simp [eqGuard, binOp, Op.equal, Op.maxDepth, h2]
    · simp only [if_true]; simp [eqGuard, binOp, Op.equal, Op.maxDepth, h2]
  cases x <;> cases y <;> simp only [popEq] <;> (try exact Reck.fail)
  case bool.bool l m =>
    cases hc : eqv D.P 40 t (.bool l) (.bool m) with
    | some c => exact bl _ _ rfl rfl _ hc
    | none => exact .fail
  case agg.agg l m =>
    cases hg : D.P.eqGuardType D.P.depth t with
    | true => simp only [if_true]; exact .fail
    | false =>
      simp only [Bool.false_eq_true, if_false]
      cases hc : eqv D.P 40 t (.agg l) (.agg m) with
      | some c => exact agg _ _ rfl rfl hg _ hc
      | none => exact .fail

theorem fcmp_run {op : BinOp} {k : FloatKind} {x y : Nat} {P : Program} {t : TypeId} {ox oy : Operand} (h : op = .eql ∨ op = .neq ∨ op = .lss ∨ op = .leq ∨ op = .gtr ∨ op = .geq) (w : World) :
    ((do eqGuard op t ox oy (.float k x) (.float k y); binOp op t (.float k x) (.float k y)) : Sem Value).run P w = .ok (.bool (fcmp op k x y)) w := by
  rcases h with rfl | rfl | rfl | rfl | rfl | rfl <;> simp [eqGuard, binOp, Op.floatCmp, fcmp]

theorem popBin_sound {op : BinOp} {t : TypeId} {x y : AV} {X Y : Value} (hx : x.rep D B σ β X) (hy : y.rep D B σ β Y) (ox oy : Operand) :
    Reck D B σ β (popBin D.P op t x y) (do eqGuard op t ox oy X Y; binOp op t X Y) := by
  unfold popBin
  split
  · simp only [AV.rep] at hx hy
    obtain ⟨ha, rfl⟩ := hx
    obtain ⟨hb, rfl⟩ := hy
    have hg : ∀ (k : IntKind) (a : Int) (k' : IntKind) (b : Int) (s : Sem Value) w, ((do eqGuard op t ox oy (.int k a) (.int k' b); s) : Sem Value).run D.P w = s.run D.P w := by
      intro k a k' b s w; cases op <;> simp [eqGuard]
    split
    · rename_i hs
      obtain ⟨h1, h2⟩ := popShift_sound (D := D) (B := B) (β := β) ha hb hs (t := t)
      refine ⟨h1, fun v hv => ?_⟩
      obtain ⟨V, hV, hr⟩ := h2 v hv
      exact ⟨V, hV, fun w => by rw [hg]; exact hr w⟩
    · rename_i hs
      split
      · rename_i hk
        rw [kbeq_iff] at hk; subst hk
        obtain ⟨h1, h2⟩ := popInt_sound (D := D) (B := B) (β := β) ha hb (by simpa using hs) (t := t)
        refine ⟨h1, fun v hv => ?_⟩
        obtain ⟨V, hV, hr⟩ := h2 v hv
        exact ⟨V, hV, fun w => by rw [hg]; exact hr w⟩
      · exact .fail
  · simp only [AV.rep] at hx hy
    obtain ⟨ha, rfl⟩ := hx
    obtain ⟨hb, rfl⟩ := hy
    split
    · rename_i hk
      rw [fbeq_iff] at hk; subst hk
      split
      all_goals first
        | exact .fail
        | exact .ret ⟨ok_mkFlt _ ha hb, by rw [ev_mkFlt]⟩ (fun w => fcmp_run (by simp) w)
    · exact .fail
  · rename_i a b
    simp only [AV.rep] at hx hy
    obtain ⟨ha, rfl⟩ := hx
    obtain ⟨hb, rfl⟩ := hy
    split
    · split
      · rename_i hl
        have hl' : a.length + b.length ≤ 1000000 := by simpa [Nat.ble_eq] using hl
        refine .ret (V := .string (⟨(a.map fun e => UInt8.ofNat (e.ev σ).toNat).toArray⟩ ++ ⟨(b.map fun e => UInt8.ofNat (e.ev σ).toNat).toArray⟩)) ⟨?_, ?_⟩ fun w => ?_
        · intro e he; rcases List.mem_append.1 he with h | h
          · exact ha e h
          · exact hb e h
        · congr 1
          apply ByteArray.ext
          simp [ByteArray.data_append]
        · have e1 : (⟨(a.map fun e => UInt8.ofNat (e.ev σ).toNat).toArray⟩ : ByteArray).size = a.length := by simp [ByteArray.size]
          have e2 : (⟨(b.map fun e => UInt8.ofNat (e.ev σ).toNat).toArray⟩ : ByteArray).size = b.length := by simp [ByteArray.size]
          simp [eqGuard, binOp, Op.stringOp]
          rw [e1, e2]; omega
      · exact .fail
    · refine .ret (V := .bool ((strEq a b).ev σ)) ⟨strEq_ok ha hb, rfl⟩ fun w => ?_
      simp [eqGuard, binOp, Op.stringOp, strEq_ev]
    · refine .ret (V := .bool (!(strEq a b).ev σ)) ⟨ok_mkNot _ (strEq_ok ha hb), by rw [ev_mkNot]⟩ fun w => ?_
      simp [eqGuard, binOp, Op.stringOp, strEq_ev]
    · exact .fail
  · split
    · exact popEq_sound (neg := false) hx hy ox oy
    · exact popEq_sound (neg := true) hx hy ox oy
    · exact .fail

theorem popUn_sound {op : UnOp} {x : AV} {X : Value} (hx : x.rep D B σ β X) : Reck D B σ β (popUn op x) (Op.unary op X) := by
  unfold popUn
  split
  · simp only [AV.rep] at hx; obtain ⟨ha, rfl⟩ := hx
    exact .ret ⟨ok_mkOp _ rfl ha, rfl⟩ fun w => by simp [Op.unary, Op.intArith, ev_mkOp, F2.ev, IE.ev]
  · simp only [AV.rep] at hx; obtain ⟨ha, rfl⟩ := hx
    exact .ret ⟨ok_mkOp _ rfl ha, rfl⟩ fun w => by simp [Op.unary, Op.intBits, ev_mkOp, F2.ev, IE.ev]
  · simp only [AV.rep] at hx; obtain ⟨ha, rfl⟩ := hx
    exact .ret ⟨ok_mkNot _ ha, rfl⟩ fun w => by simp [Op.unary, ev_mkNot]
  · exact .fail

theorem szOf_some {P : Program} {t : TypeId} {n : Nat} (h : szOf P t = some n) : ∃ i, P.info? t = some i ∧ i.size = n := by simpa [szOf] using h

theorem run_sizeOf' {P : Program} {t : TypeId} {n : Nat} (h : szOf P t = some n) (w : World) : (sizeOf t).run P w = .ok n w := by
  obtain ⟨i, hi, rfl⟩ := szOf_some h
  simp [sizeOf, typeInfo, hi]

theorem addr_add (b off n : Nat) : (⟨b, off, none⟩ : Addr).add n = ⟨b, off + n, none⟩ := by
  unfold Addr.add
  split
  · subst n; rfl
  · rfl

theorem nway_reck {e : IE} {n : Nat} {f : Nat → PT AV} {s : Sem Value} (he : e.ok σ.n = true) (h : ∀ i, i < n → (f i).okc σ.n = true)
    (h' : ∀ i, i < n → e.ev σ = (i : Int) → ∀ v, (f i).pick σ = some v → ∃ V, v.rep D B σ β V ∧ ∀ w, s.run D.P w = .ok V w) : Reck D B σ β (nway e n f) s :=
  ⟨nway_okc he h, fun v hv => by obtain ⟨i, h1, h2, h3⟩ := nway_pick hv; exact h' i h1 h2 v h3⟩

theorem litNat_some {e : IE} {n : Nat} (h : litNat e = some n) : e = .lit (n : Int) := by
  unfold litNat at h
  split at h
  · simp at h; subst h; rfl
  · simp at h

/-- the lists of a state's blocks are known -/
def LstOk (σ : Val) (hp : List (Nat × AObj)) : Prop := ∀ b o L ks, hgetl hp b = some (o, L, ks) → L.ok σ.n = true

theorem rootL_ok {n : Nat} : ∀ {L : IE}, L.ok n = true → (rootL L).ok n = true := by
  intro L
  induction L with
  | lset a m i j e ih1 _ _ => intro h; simp only [IE.ok, Bool.and_eq_true] at h; simp only [rootL]; exact ih1 h.1.1
  | _ => intro h; exact h

theorem rootL_len {σ : Val} : ∀ {L : IE}, (dec ((rootL L).ev σ)).length = (dec (L.ev σ)).length := by
  intro L
  induction L with
  | lset a m i j e ih1 _ _ => simp only [rootL, IE.ev, dec_lst, List.length_set]; exact ih1
  | _ => rfl

theorem cntL_ok {n m : Nat} {L : IE} (h : L.ok n = true) : (cntL L m).ok n = true := rootL_ok h
theorem cntL_ev {σ : Val} {L : IE} {m : Nat} : (cntL L m).ev σ = (((dec (L.ev σ)).length / m : Nat) : Int) := by
  simp only [cntL, IE.ev, rootL_len]

theorem popIndexAddr_sound {hp : List (Nat × AObj)} (HL : LstOk σ hp) {t : TypeId} {x i : AV} {X I : Value} (hx : x.rep D B σ β X) (hi : i.rep D B σ β I) :
    Reck D B σ β (popIndexAddr D hp t x i) (Instr.indexAt t X I) := by
  unfold popIndexAddr
  split
  · rename_i k e
    simp only [AV.rep] at hi
    obtain ⟨he, rfl⟩ := hi
    split
    · rename_i len elem b off hu
      simp only [AV.rep] at hx
      obtain ⟨rb, hb, rfl⟩ := hx
      split
      · rename_i n hn
        split
        · rename_i hlen
          split
          · rename_i h0
            have := litNat_some h0; subst this
            split
            · rename_i h1
              simp [Nat.beq_eq] at h1; subst h1
              refine .ret (V := .pointer (some ⟨rb, off, none⟩)) ⟨rb, hb, rfl⟩ fun w => ?_
              simp [Instr.indexAt, asIntOf, IE.ev, run_underlying hu, Instr.sureAddr, run_sizeOf' hn, addr_add]
            · exact .fail
          · exact .fail
        · rename_i hlen
          have hlen : ¬ len ≤ 1 := by simpa [Nat.ble_eq] using hlen
          refine nway_reck he (fun _ _ => rfl) fun j hj hev v hv => ?_
          simp [PT.pick] at hv; subst hv
          refine ⟨.pointer (some ⟨rb, off + j * n, none⟩), ⟨rb, hb, rfl⟩, fun w => ?_⟩
          simp [Instr.indexAt, asIntOf, hev, run_underlying hu, Instr.sureAddr, run_sizeOf' hn, addr_add, hj]
      · exact .fail
    · rename_i elem b off len cap hu
      simp only [AV.rep] at hx
      obtain ⟨h1, h2, n, c, A, rfl, h3, h4, h5, h6⟩ := hx
      split
      · rename_i o L ks hg
        have hL := HL _ _ _ _ hg
        split
        · rename_i sz hn
          split
          · rename_i hm
            simp only [Bool.and_eq_true, Nat.beq_eq] at hm
            obtain ⟨rfl, rfl⟩ := hm
            refine ⟨by simp [PT.okc, ok_mkAnd _ (ok_mkAnd _ (ok_mkLe _ (show IE.ok σ.n (.lit 0) = true from rfl) he) (ok_mkLt _ he h1)) (ok_mkLt _ he (cntL_ok hL))], fun v hv => ?_⟩
            simp only [PT.pick] at hv
            split at hv
            · rename_i hc
              simp only [ev_mkAnd, ev_mkLe, ev_mkLt, IE.ev, Bool.and_eq_true, decide_eq_true_eq] at hc
              simp at hv; subst hv
              have hc1 := of_decide_eq_true hc.1.1
              have hc2 := hc.1.2
              obtain ⟨j, hj⟩ : ∃ j : Nat, e.ev σ = j := ⟨(e.ev σ).toNat, by omega⟩
              have hjn : j < n := by omega
              rcases h6 with h6 | ⟨rb, hb, rfl⟩
              · omega
              · refine ⟨.pointer (some ⟨rb, j * ks.length + 0, none⟩), ⟨he, rb, j, hb, hj, rfl⟩, fun w => ?_⟩
                simp [Instr.indexAt, asIntOf, hj, run_underlying hu, run_sizeOf' hn, addr_add, hjn]
            · simp at hv
          · exact .fail
        · exact .fail
      · split
        · rename_i sz m hn hm
          have := litNat_some hm; subst this
          simp only [IE.ev] at h3
          have hnm : m = n := by omega
          subst hnm
          refine nway_reck he (fun _ _ => rfl) fun j hj hev v hv => ?_
          simp [PT.pick] at hv; subst hv
          rcases h6 with h6 | ⟨rb, hb, rfl⟩
          · omega
          · refine ⟨.pointer (some ⟨rb, off + j * sz, none⟩), ⟨rb, hb, rfl⟩, fun w => ?_⟩
            simp [Instr.indexAt, asIntOf, hev, run_underlying hu, run_sizeOf' hn, addr_add, hj]
        · exact .fail
    · rename_i elem r off len cap hu
      simp only [AV.rep] at hx
      obtain ⟨h0, h1, o, n, c, A, rfl, h3, h4, h6, h7, h8⟩ := hx
      split
      · rename_i sz hn
        split
        · rename_i hm
          simp [Nat.beq_eq] at hm; subst hm
          refine ⟨by simp [PT.okc, ok_mkAnd _ (ok_mkLe _ (show IE.ok σ.n (.lit 0) = true from rfl) he) (ok_mkLt _ he h1)], fun v hv => ?_⟩
          simp only [PT.pick] at hv
          split at hv
          · rename_i hc
            simp only [ev_mkAnd, ev_mkLe, ev_mkLt, IE.ev, Bool.and_eq_true, decide_eq_true_eq] at hc
            simp at hv; subst hv
            have hc1 := of_decide_eq_true hc.1
            have hc2 := hc.2
            obtain ⟨j, hj⟩ : ∃ j : Nat, e.ev σ = j := ⟨(e.ev σ).toNat, by omega⟩
            have hjn : j < n := by omega
            rcases h8 with h8 | rfl
            · omega
            · refine ⟨.pointer (some ⟨(B.ra r).block, (B.ra r).off + (o + j) * (D.ro r).length + 0, none⟩), ⟨ok_mkPl _ h0 he, o + j, by rw [ev_mkPl, h3, hj]; omega, ?_, rfl⟩, fun w => ?_⟩
              · have : (o + j + 1) * (D.ro r).length ≤ (o + n) * (D.ro r).length := Nat.mul_le_mul_right _ (by omega)
                omega
              · simp [Instr.indexAt, asIntOf, hj, run_underlying hu, run_sizeOf' hn, addr_add, hjn, Nat.add_mul]
                omega
          · simp at hv
        · exact .fail
      · exact .fail
    · exact .fail
  · exact .fail

theorem ba_get (l : List UInt8) (i : Nat) : (⟨l.toArray⟩ : ByteArray)[i]? = l[i]? := by
  by_cases h : i < l.length
  · rw [List.getElem?_eq_getElem h]
    have hs : i < (⟨l.toArray⟩ : ByteArray).size := by simpa [ByteArray.size] using h
    rw [getElem?_pos (⟨l.toArray⟩ : ByteArray) i hs]
    rfl
  · rw [List.getElem?_eq_none (by omega)]
    have hs : ¬ i < (⟨l.toArray⟩ : ByteArray).size := by simpa [ByteArray.size] using h
    rw [getElem?_neg (⟨l.toArray⟩ : ByteArray) i hs]

theorem popIndex_sound {t : TypeId} {x i : AV} {X I : Value} (hx : x.rep D B σ β X) (hi : i.rep D B σ β I) :
    Reck D B σ β (popIndex D.P t x i) (Instr.index t X I) := by
  unfold popIndex
  split
  · rename_i k e
    simp only [AV.rep] at hi
    obtain ⟨he, rfl⟩ := hi
    split
    · rename_i len elem cs hu
      simp only [AV.rep] at hx
      obtain ⟨xs, rfl, hx⟩ := hx
      split
      · rename_i n hn
        refine nway_reck he (fun j _ => by split <;> rfl) fun j hj hev v hv => ?_
        split at hv
        · rename_i u hu'
          simp [PT.pick] at hv; subst hv
          obtain ⟨V, hV, hr⟩ := partA_sound hu' hx
          refine ⟨V, hV, fun w => ?_⟩
          simp [Instr.index, asIntOf, hev, run_underlying hu, run_sizeOf' hn, hj, hr]
        · simp [PT.pick] at hv
      · exact .fail
    · rename_i l hu
      simp only [AV.rep] at hx
      obtain ⟨hok, rfl⟩ := hx
      refine nway_reck he (fun j _ => by split <;> rfl) fun j hj hev v hv => ?_
      split at hv
      · rename_i b hb
        simp [PT.pick] at hv; subst hv
        obtain ⟨h1, h2⟩ := lsub_eq hb
        have hjb : l[j]? = some b := by
          have hd : l.drop j = l[j] :: l.drop (j + 1) := List.drop_eq_getElem_cons hj
          rw [hd] at h1
          simp only [List.take_succ_cons, List.take_zero, List.cons.injEq, and_true] at h1
          rw [List.getElem?_eq_getElem hj, h1]
        have hbm : b ∈ l := List.mem_of_getElem? hjb
        refine ⟨.int .u8 (UInt8.ofNat (b.ev σ).toNat).toNat, ⟨ok_mkByt _ (hok b hbm), by rw [ev_mkByt]; simp⟩, fun w => ?_⟩
        have hg : (⟨(l.map fun e => UInt8.ofNat (e.ev σ).toNat).toArray⟩ : ByteArray)[j]? = some (UInt8.ofNat (b.ev σ).toNat) := by
          rw [ba_get, List.getElem?_map, hjb]; rfl
        simp [Instr.index, asIntOf, hev, run_underlying hu, hg]
      · simp [PT.pick] at hv
    · exact .fail
  · exact .fail

theorem boundA_reck {x : Option AV} {X : Option Value} {d y : Nat} {f : Nat → PT AV} (s : Sem Value)
    (hx : ∀ v, x = some v → ∃ V, X = some V ∧ v.rep D B σ β V) (hn : x = none → X = none) (hd : d ≤ y)
    (hf : ∀ i, i ≤ y → (f i).okc σ.n = true)
    (h : ∀ i, i ≤ y → (X = none → i = d) → (∀ V, X = some V → ∀ (code : BoundsCode) w, (Instr.sliceBound V y code).run D.P w = .ok i w) → ∀ v, (f i).pick σ = some v → ∃ V, v.rep D B σ β V ∧ ∀ w, s.run D.P w = .ok V w) :
    Reck D B σ β (boundA x d y f) s := by
  unfold boundA
  split
  · refine ⟨hf d hd, fun v hv => h d hd (fun _ => rfl) (fun V hV => ?_) v hv⟩
    rw [hn rfl] at hV; cases hV
  · rename_i k e
    obtain ⟨V, hV, hr⟩ := hx _ rfl
    simp only [AV.rep] at hr
    obtain ⟨he, rfl⟩ := hr
    refine nway_reck he (fun i hi => hf i (by omega)) fun i hi hev v hv => h i (by omega) (fun hX => by rw [hX] at hV; cases hV) (fun V' hV' code w => ?_) v hv
    rw [hV] at hV'; cases hV'
    have : i ≤ y := by omega
    simp [Instr.sliceBound, asIntOf, hev, this]
  · exact .fail

theorem run_bounds {P : Program} {isS : Bool} {len cap h l : Nat} {Lo Hi : Option Value} (h1 : Hi = none → h = len) (h2 : ∀ V, Hi = some V → ∀ (code : BoundsCode) w, (Instr.sliceBound V cap code).run P w = .ok h w)
    (h3 : Lo = none → l = 0) (h4 : ∀ V, Lo = some V → ∀ (code : BoundsCode) w, (Instr.sliceBound V h code).run P w = .ok l w) (w : World) :
    (Instr.sliceBounds isS len cap Lo Hi none).run P w = .ok (l, h, cap) w := by
  unfold Instr.sliceBounds
  cases Hi with
  | none =>
    have := h1 rfl; subst this
    cases Lo with
    | none => have := h3 rfl; subst this; simp
    | some V => simp [h4 V rfl]
  | some U =>
    cases Lo with
    | none => have := h3 rfl; subst this; simp [h2 U rfl]
    | some V => simp [h2 U rfl, h4 V rfl]

def OptRep (D : Ctx) (B : Base) (σ : Val) (β : Bmap) (x : Option AV) (X : Option Value) : Prop :=
  (∀ v, x = some v → ∃ V, X = some V ∧ v.rep D B σ β V) ∧ (x = none → X = none)

theorem ba_extract (l : List UInt8) (a b : Nat) : (⟨l.toArray⟩ : ByteArray).extract a b = ⟨((l.drop a).take (b - a)).toArray⟩ := by
  apply ByteArray.ext
  rw [ByteArray.data_extract]
  simp

theorem boundA_okc {k : Nat} {x : Option AV} {d y : Nat} {f : Nat → PT AV} (hx : ∀ k' e, x = some (.int k' e) → e.ok k = true) (hd : d ≤ y) (hf : ∀ i, i ≤ y → (f i).okc k = true) : (boundA x d y f).okc k = true := by
  unfold boundA
  split
  · exact hf d hd
  · rename_i k' e; exact nway_okc (hx _ _ rfl) fun i hi => hf i (by omega)
  · rfl

theorem OptRep.ok {x : Option AV} {X : Option Value} (h : OptRep D B σ β x X) : ∀ k e, x = some (.int k e) → e.ok σ.n = true := by
  intro k e he
  obtain ⟨V, _, hV⟩ := h.1 _ he
  simp only [AV.rep] at hV
  exact hV.1

theorem popSlice_sound {t : TypeId} {x : AV} {X : Value} {lo hi mx : Option AV} {Lo Hi Mx : Option Value} (hx : x.rep D B σ β X)
    (hlo : OptRep D B σ β lo Lo) (hhi : OptRep D B σ β hi Hi) (hmx : OptRep D B σ β mx Mx) : Reck D B σ β (popSlice D t x lo hi mx) (Instr.sliceAt t X Lo Hi Mx) := by
  unfold popSlice
  split
  · exact .fail
  · have := hmx.2 rfl; subst this
    split
    · rename_i n elem b off hu
      simp only [AV.rep] at hx
      obtain ⟨rb, hb, rfl⟩ := hx
      split
      · rename_i size hn
        refine boundA_reck _ hhi.1 hhi.2 (Nat.le_refl _) (fun h _ => boundA_okc hlo.ok (Nat.zero_le _) fun _ _ => rfl) fun h hle h1 h2 => ?_
        refine (boundA_reck _ hlo.1 hlo.2 (Nat.zero_le _) (fun _ _ => rfl) fun l hl h3 h4 v hv => ?_).2
        simp [PT.pick] at hv; subst hv
        refine ⟨.slice (some (if n = l then ⟨rb, off, none⟩ else ⟨rb, off + l * size, none⟩)) (h - l) (n - l), ⟨rfl, rfl, h - l, n - l, _, rfl, rfl, rfl, by omega, ?_⟩, fun w => ?_⟩
        · by_cases e : n = l
          · exact .inl (by omega)
          · exact .inr ⟨rb, hb, by rw [if_neg e]⟩
        · simp [Instr.sliceAt, run_underlying hu, Instr.sureAddr, run_bounds h1 h2 h3 h4, run_sizeOf' hn, addr_add]
      · exact .fail
    · rename_i s hu
      simp only [AV.rep] at hx
      obtain ⟨hok, rfl⟩ := hx
      refine boundA_reck _ hhi.1 hhi.2 (Nat.le_refl _) (fun h _ => boundA_okc hlo.ok (Nat.zero_le _) fun _ _ => by split <;> rfl) fun h hle h1 h2 => ?_
      refine (boundA_reck _ hlo.1 hlo.2 (Nat.zero_le _) (fun _ _ => by split <;> rfl) fun l hl h3 h4 v hv => ?_).2
      split at hv
      · rename_i r hr
        simp [PT.pick] at hv; subst hv
        obtain ⟨rfl, _⟩ := lsub_eq hr
        refine ⟨.string ⟨(((s.drop l).take (h - l)).map fun e => UInt8.ofNat (e.ev σ).toNat).toArray⟩, ⟨fun e he => hok e (List.mem_of_mem_drop (List.mem_of_mem_take he)), rfl⟩, fun w => ?_⟩
        have hsz : (⟨(s.map fun e => UInt8.ofNat (e.ev σ).toNat).toArray⟩ : ByteArray).size = s.length := by simp [ByteArray.size]
        have hb := run_bounds (P := D.P) (isS := false) (len := s.length) (cap := s.length) h1 h2 h3 h4 w
        simp [Instr.sliceAt, run_underlying hu, Instr.slice, hsz, hb, ba_extract]
      · simp [PT.pick] at hv
    · rename_i elem b off len cap hu
      simp only [AV.rep] at hx
      obtain ⟨k1, k2, n, c, A, rfl, k3, k4, k5, k6⟩ := hx
      split
      · rename_i size m hn hm
        have := litNat_some hm; subst this
        simp only [IE.ev] at k3
        have hnm : m = n := by omega
        subst hnm
        split
        · have h0 := hhi.2 rfl
          subst h0
          refine boundA_reck _ hlo.1 hlo.2 (Nat.zero_le _) (fun _ _ => rfl) fun l hl h3 h4 v hv => ?_
          simp [PT.pick] at hv; subst hv
          refine ⟨.slice (if c = l then A else A.map (·.add (l * size))) (m - l) (c - l), ⟨rfl, ok_mkMi _ k2 rfl, m - l, c - l, _, rfl, rfl, ?_, by omega, ?_⟩, fun w => ?_⟩
          · rw [ev_mkMi, k4]; simp only [IE.ev]; have : l ≤ c := by omega
            show (c : Int) - (l : Int) = _; omega
          · by_cases e : c = l
            · exact .inl (by omega)
            · rcases k6 with k6 | ⟨rb, hb, rfl⟩
              · omega
              · exact .inr ⟨rb, hb, by rw [if_neg e]; simp [addr_add]⟩
          · have hb := run_bounds (P := D.P) (isS := true) (len := m) (cap := c) (Hi := none) (fun _ => rfl) (fun V hV => by cases hV) h3 h4 w
            simp [Instr.sliceAt, run_underlying hu, Instr.slice, hb, run_sizeOf' hn]
        · split
          · rename_i c' hc
            have := litNat_some hc; subst this
            simp only [IE.ev] at k4
            have hcc : c' = c := by omega
            subst hcc
            refine boundA_reck _ hhi.1 (fun h => by cases h) k5 (fun h _ => by exact boundA_okc hlo.ok (Nat.zero_le _) fun _ _ => rfl) fun h hle _ h2 => ?_
            refine (boundA_reck _ hlo.1 hlo.2 (Nat.zero_le _) (fun _ _ => rfl) fun l hl h3 h4 v hv => ?_).2
            simp [PT.pick] at hv; subst hv
            refine ⟨.slice (if c' = l then A else A.map (·.add (l * size))) (h - l) (c' - l), ⟨rfl, rfl, h - l, c' - l, _, rfl, rfl, rfl, by omega, ?_⟩, fun w => ?_⟩
            · by_cases e : c' = l
              · exact .inl (by omega)
              · rcases k6 with k6 | ⟨rb, hb, rfl⟩
                · omega
                · exact .inr ⟨rb, hb, by rw [if_neg e]; simp [addr_add]⟩
            · obtain ⟨V, hV, _⟩ := hhi.1 _ rfl
              have hb := run_bounds (P := D.P) (isS := true) (len := m) (cap := c') (Hi := Hi) (fun e => by rw [e] at hV; cases hV) h2 h3 h4 w
              simp [Instr.sliceAt, run_underlying hu, Instr.slice, hb, run_sizeOf' hn]
          · exact .fail
      · exact .fail
    · rename_i elem r off len cap hu
      simp only [AV.rep] at hx
      obtain ⟨k0, k1, o, n, c, A, rfl, k3, k4, k6, k7, k8⟩ := hx
      split
      · rename_i size hn
        split
        · rename_i hm
          simp [Nat.beq_eq] at hm; subst hm
          split
          · rename_i k l
            obtain ⟨V, hV, hr⟩ := hlo.1 _ rfl
            have h0 := hhi.2 rfl
            subst h0
            subst hV
            simp only [AV.rep] at hr
            obtain ⟨hl, rfl⟩ := hr
            refine ⟨by simp [PT.okc, ok_mkAnd _ (ok_mkLe _ (show IE.ok σ.n (.lit 0) = true from rfl) hl) (ok_mkLe _ hl k1)], fun v hv => ?_⟩
            simp only [PT.pick] at hv
            split at hv
            · rename_i hc
              simp only [ev_mkAnd, ev_mkLe, IE.ev, Bool.and_eq_true] at hc
              have hc1 := of_decide_eq_true hc.1
              have hc2 := of_decide_eq_true hc.2
              simp at hv; subst hv
              obtain ⟨j, hj⟩ : ∃ j : Nat, l.ev σ = j := ⟨(l.ev σ).toNat, by omega⟩
              have hjn : j ≤ n := by omega
              refine ⟨.slice (if c = j then A else A.map (·.add (j * (D.ro r).length))) (n - j) (c - j), ⟨ok_mkPl _ k0 hl, ok_mkMi _ k1 hl, o + j, n - j, c - j, _, rfl, by rw [ev_mkPl]; omega, by rw [ev_mkMi]; omega, by omega, ?_, ?_⟩, fun w => ?_⟩
              · have : o + j + (n - j) = o + n := by omega
                rw [this]; exact k7
              · by_cases e : n = j
                · exact .inl (by omega)
                · rcases k8 with k8 | rfl
                  · omega
                  · refine .inr ?_
                    rw [if_neg (by omega)]
                    simp only [Option.map_some, addr_add, Nat.add_mul]
                    congr 2; omega
              · have hb := run_bounds (P := D.P) (isS := true) (len := n) (cap := c) (h := n) (l := j) (Lo := some (.int k (l.ev σ))) (Hi := none) (fun _ => rfl) (fun V hV => by cases hV) (fun h => by cases h)
                  (fun V hV code w => by cases hV; simp [Instr.sliceBound, asIntOf, hj, hjn]) w
                simp [Instr.sliceAt, run_underlying hu, Instr.slice, hb, run_sizeOf' hn]
            · simp at hv
          · exact .fail
        · exact .fail
      · exact .fail
    · exact .fail

end
end Go.Proofs.Sx
