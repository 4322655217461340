/- Code and calls: what the executor says holds. -/
import Derived.Test.YtklfialdapljlaaSxW
namespace Go.Proofs.Sx
open Go

/-- the world kept what it had -/
def Kept (w w' : World) : Prop := w.heap.size ≤ w'.heap.size ∧ (∀ r, r < w.heap.size → w'.heap[r]? = w.heap[r]?) ∧ w'.os = w.os ∧ w'.output = w.output

def rowOk (row : Row) : Bool := row.args.all fun s => match s with
  | .lst l _ => Nat.blt 0 l.length
  | _ => true

theorem rowOk_pos {row : Row} (h : rowOk row = true) : ∀ l t, Sh.lst l t ∈ row.args → 0 < l.length := fun l t hm => by
  have := List.all_eq_true.1 h _ hm
  simpa [Nat.blt_eq] using this

/-- a function does as its row says -/
def Meets (D : Ctx) (SP : Spec) (g : FuncId) (row : Row) : Prop :=
  rowOk row = true ∧ ∀ (as : List Int) (Vs : List Value) (w : World), SP.pre g as → ArgsIs w row.args as Vs → Calls D.P g Vs.toArray w fun e w' =>
    ∃ rs Rs, rs.length = shRCount row.res ∧ SP.post g as rs ∧ ResIs w w' row.res rs Rs ∧ e = .returned (oneOrTupV Rs) ∧ Kept w w'

structure Fine (D : Ctx) (SP : Spec) : Prop where
  mixed : D.P.follows .mixedOrders = true
  names : ∀ (f : FuncId) (fn : Func), D.P.funcs[f]? = some fn → (fn.name == "runtime.NumGoroutine") = false
  bits : ∀ (f : FuncId) (fn : Func), D.P.funcs[f]? = some fn → fn.body = none → fn.name = "math.Float64bits" → Extern.findNext fn = none ∧ Extern.find fn = some Extern.MathFloatBits.float64bits
  frombits : ∀ (f : FuncId) (fn : Func), D.P.funcs[f]? = some fn → fn.body = none → fn.name = "math.Float64frombits" → Extern.findNext fn = none ∧ Extern.find fn = some Extern.MathFloatBits.float64frombits
  specs : ∀ g row, D.sp g = some row → (∃ fn c, D.P.funcs[g]? = some fn ∧ fn.body = some c) ∧ Meets D SP g row

def QOf (hit : Ex → Act → World → Prop) : Exit → Act → World → Prop
  | .normal, a, w => hit .nrm a w
  | .exit i, a, w => hit (.exit i) a w
  | .ret, a, w => hit .ret a w
  | _, _, _ => False

section
variable {D : Ctx} {B : Base} {SP : Spec}

def Tell {γ : Type} (D : Ctx) (B : Base) (SP : Spec) (Φ : Val → Again → γ → Prop) (σ : Val) (β : Bmap) (Λ : Again) (st : St) (k : Ex → St → Tr γ) (hit : Ex → Act → World → Prop) : Prop :=
  ∀ ex σ' β' Λ' st' a' w', On σ Λ σ' Λ' → Ble β β' → (∀ b, b < st.nb → β' b = β b) → st.nb ≤ st'.nb → Fits D B σ' β' st' a' w' → (k ex st').holds SP Φ σ' Λ' → hit ex a' w'

def XOk (D : Ctx) (B : Base) (SP : Spec) (n : Nat) : Prop :=
  ∀ {γ : Type} {Φ : Val → Again → γ → Prop} (f : FuncId) (c : Code) (st : St) (k : Ex → St → Tr γ) (σ : Val) (β : Bmap) (Λ : Again) (a : Act) (w : World),
    Fits D B σ β st a w → RoOk D B σ → (xc D n f c st k).holds SP Φ σ Λ → ∀ hit, Tell D B SP Φ σ β Λ st k hit → c.wp D.P (QOf hit) a w

theorem run_enter {P : Program} {f : FuncId} {fn : Func} {c : Code} (hf : P.funcs[f]? = some fn) (hname : (fn.name == "runtime.NumGoroutine") = false) (hb : fn.body = some c) (args : Array Value) (w : World) :
    (callFunc f args).run P w = .ok (.enter f args) w := by
  have h1 : fn.name ≠ "runtime.NumGoroutine" := by simpa using hname
  simp [callFunc, hf, h1, hb]

theorem callA_sound (H : Fine D SP) {n : Nat} (ih : XOk D B SP n) {γ : Type} {Φ : Val → Again → γ → Prop} : CallOk D B SP Φ (callA D (xc D n)) := by
  intro g args st k σ β a w Vs Λ F hargs R h o next Q hn
  unfold callA at h
  split at h
  · -- as its row says
    rename_i row hrow
    obtain ⟨⟨fn, c, hf, hb⟩, hok, hM⟩ := H.specs g row hrow
    split at h
    · rename_i es hes
      obtain ⟨hpre, hpost⟩ := h
      have hVs := shArgs_vals F R (rowOk_pos hok) hes hargs
      rw [run_enter hf (H.names g fn hf) hb, Oper.upon_enter]
      refine Calls.mono (hM _ _ w hpre hVs) ?_
      rintro e w' ⟨rs, Rs, h1, h2, hRs, rfl, h3, h4, hE⟩
      simp only []
      have hh := hpost rs h1 h2
      have F1 := (F.more rs).later (w' := w') h3 h4 hE
      rw [h1] at F1
      have hv : ∀ q x, rs[q]? = some x → (σ.push rs).v (st.nv + q) = x := fun q x hx => by rw [← F.nn]; exact (push_at hx).1
      have hn' : st.nv + shRCount row.res ≤ (σ.push rs).n := by simp [Val.push, F.nn, h1]
      have hlsts := lstsV_of (i := st.nv) hRs
      split at hh
      · rename_i hl
        rw [hl] at hlsts
        have hnil : lstsV row.res st.nv Rs = [] := by simpa using hlsts
        exact hn (σ.push rs) β Λ _ _ { st with nv := st.nv + shRCount row.res } w' (.push _ _ _) (.refl _) (fun _ _ => rfl) (Nat.le_refl _) F1 (oneOrTup_rep (shRes_rep none hRs hn' hv fun j l ty V hm => by rw [hnil] at hm; cases hm)) hh
      · rename_i i ks ty hl
        rw [hl] at hlsts
        obtain ⟨V, hone⟩ : ∃ V, lstsV row.res st.nv Rs = [(i, ks, ty, V)] := by
          cases hq : lstsV row.res st.nv Rs with
          | nil => rw [hq] at hlsts; simp at hlsts
          | cons p l =>
            cases l with
            | cons _ _ => rw [hq] at hlsts; simp at hlsts
            | nil =>
              obtain ⟨p1, p2, p3, p4⟩ := p
              rw [hq] at hlsts
              simp only [List.map_cons, List.map_nil, List.cons.injEq, Prod.mk.injEq, and_true] at hlsts
              obtain ⟨rfl, rfl, rfl⟩ := hlsts
              exact ⟨p4, rfl⟩
        obtain ⟨q, x, cap, rfl, hx, hcap, A, n, c, rfl, rfl, hnc, hpos, hlen, hblk⟩ := resIs_lst hRs (i := st.nv) (by rw [hone]; exact List.mem_cons_self)
        have hvx := hv q x hx
        have hvc := hv (q + 1) _ hcap
        have hlt1 : st.nv + q < (σ.push rs).n := by rw [← F.nn]; exact (push_at hx).2
        have hlt2 : st.nv + (q + 1) < (σ.push rs).n := by rw [← F.nn]; exact (push_at hcap).2
        have okv : (IE.var (st.nv + q)).ok (σ.push rs).n = true := by simpa [IE.ok, Nat.blt_eq] using hlt1
        have okc : (IE.var (st.nv + q + 1)).ok (σ.push rs).n = true := by simpa [IE.ok, Nat.blt_eq, Nat.add_assoc] using hlt2
        have evc : (IE.var (st.nv + q + 1)).ev (σ.push rs) = (c : Int) := by simp only [IE.ev]; rw [Nat.add_assoc]; exact hvc
        rcases split_sound hh (c := .eq (.var (st.nv + q + 1)) (.lit 0)) (by simp only [BE.ok, okc]; rfl) F1 with ⟨hz, pc, hpc, hh⟩ | ⟨hz, pc, hpc, hh⟩
        · simp only [BE.ev] at hz
          rw [evc] at hz
          simp only [IE.ev, beq_iff_eq] at hz
          have hc0 : c = 0 := by omega
          subst hc0
          have hn0 : n = 0 := by omega
          subst hn0
          have hemp : dec x = [] := List.length_eq_zero_iff.1 (by rw [hlen]; simp)
          have hh := hh (by simp only [BE.ev, IE.ev, hvx, hemp]; rfl)
          exact hn (σ.push rs) β Λ _ _ { st with nv := st.nv + shRCount row.res, pc := pc } w' (.push _ _ _) (.refl _) (fun _ _ => rfl) (Nat.le_refl _) (F1.withPc hpc) (oneOrTup_rep (shRes_rep none hRs hn' hv fun j l ty' V hm => by
            rw [hone] at hm
            simp only [List.mem_cons, Prod.mk.injEq, List.not_mem_nil, or_false] at hm
            obtain ⟨rfl, rfl, rfl, rfl⟩ := hm
            exact ⟨rfl, rfl, 0, 0, A, rfl, rfl, rfl, Nat.le_refl _, .inl rfl⟩)) hh
        · simp only [BE.ev] at hz
          rw [evc] at hz
          simp only [IE.ev, beq_eq_false_iff_ne, ne_eq] at hz
          have hc0 : c ≠ 0 := fun e => hz (by rw [e]; rfl)
          obtain ⟨rb, rest, fz, rfl, g1, g2, g3, g4⟩ := hblk hc0
          have hfr := F1.fresh st.nb (Nat.le_refl _)
          have hlt : rb < w'.heap.size := (Array.getElem?_eq_some_iff.1 g2).1
          have hno : ∀ b o, hget st.hp b = some o → β b ≠ some rb := fun b o _ hb => by have := F.bnd b rb hb; omega
          have FF := (F1.withPc hpc).adopt (ob := { cs := [], ty := ty, spare := some (.var (st.nv + q + 1), ks.length), lst := some (.var (st.nv + q), ks) }) (rest := rest) (fz := fz) (Vs := lstVals ks (dec x)) hfr (Nat.le_refl _) (.inl (by have := F.grow; omega)) hlt hno
            ⟨rfl, okv, hpos, by simp only [IE.ev, hvx, hlen]; exact Nat.mul_mod_left _ _, by simp only [IE.ev, hvx]⟩ ⟨okc, by rw [evc, g3]; simp⟩ g4 ⟨rfl, g2, fun _ _ => rfl, rfl, rfl⟩
          rw [if_pos rfl] at FF
          refine hn (σ.push rs) (β.upd st.nb rb) Λ _ _ _ w' (.push _ _ _) (Ble.upd hfr) (fun b hb => by rw [Bmap.upd, if_neg (by omega)]) (by dsimp only; omega) FF (oneOrTup_rep (shRes_rep (some st.nb) hRs hn' hv fun j l ty' V hm => ?_)) hh
          rw [hone] at hm
          simp only [List.mem_cons, Prod.mk.injEq, List.not_mem_nil, or_false] at hm
          obtain ⟨rfl, rfl, rfl, rfl⟩ := hm
          exact ⟨cntL_ok okv, okc, n, c, _, rfl, by rw [cntL_ev]; simp only [IE.ev, hvx, hlen]; rw [Nat.mul_div_cancel _ hpos], evc, hnc, .inr ⟨rb, by simp [Bmap.upd], rfl⟩⟩
      · exact hh.elim
    · exact h.elim
  · split at h
    · rename_i fn hf
      split at h
      · -- its own code
        rename_i c hb
        rw [run_enter hf (H.names g fn hf) hb, Oper.upon_enter]
        refine calls_of_wp hf hb ?_
        have hl := repL_length hargs
        have F1 : Fits D B σ β { st with tm := Tm.enter fn.ntmps args, nt := Nat.max fn.ntmps args.length } { tmps := Vs.toArray ++ Array.replicate (fn.ntmps - Vs.toArray.size) undef, defers := [] } w :=
          F.frame rfl rfl rfl rfl rfl (by simp only [Array.size_append, Array.size_replicate, List.size_toArray, ← hl]; show _ = max fn.ntmps args.length; omega) (enter_rep hargs)
        refine Code.wp_mono ?_ (ih g c _ _ σ β Λ _ w F1 R h (fun ex a' w' => match ex with
            | .exit _ => False
            | _ => a'.defers = [] ∧ ∃ V, (results fn a'.tmps).run D.P w' = .ok V w' ∧ next (a.put o.dst V) w') ?_)
        · intro e a' w' hq
          cases e <;> simp only [QOf] at hq
          · exact hq
          · exact hq
        · intro ex σ' β' Λ' st' a' w' hon hble hkeep hnb F' hh
          have main : (match resultsA D st' fn.results.toList with
              | some rs => k (oneOrTup rs) { st' with tm := st.tm, nt := st.nt }
              | none => .fail 72).holds SP Φ σ' Λ' → a'.defers = [] ∧ ∃ V, (results fn a'.tmps).run D.P w' = .ok V w' ∧ next (a.put o.dst V) w' := by
            intro hh
            split at hh
            · rename_i rs hrs
              obtain ⟨Us, g1, g2⟩ := results_run F' (R.le hon.le) hrs
              refine ⟨F'.df, _, g2, hn σ' β' Λ' _ _ { st' with tm := st.tm, nt := st.nt } w' hon hble hkeep hnb (F'.frame rfl rfl rfl rfl F.df F.sz fun i => rep_le hon.le hble _ _ (F.tm i)) (oneOrTup_rep g1) hh⟩
            · exact hh.elim
          cases ex with
          | nrm => exact main hh
          | exit i => exact hh.elim
          | ret => exact main hh
      · -- a function of the library
        rename_i hb
        have hb' : fn.body = none := hb
        split at h
        · rename_i c v hv
          have hs : ∃ b, c = b ∧ v = v := ⟨c, rfl, rfl⟩
          unfold extA at hv
          split at hv
          · rename_i hname
            obtain ⟨h1, h2⟩ := H.bits g fn hf hb' hname
            split at hv
            · rename_i e
              simp only [Option.some.injEq, Prod.mk.injEq] at hv
              obtain ⟨rfl, rfl⟩ := hv
              cases Vs with
              | nil => simp [AV.repL] at hargs
              | cons V Vs => cases Vs with
                | cons _ _ => simp [AV.repL] at hargs
                | nil =>
                  simp only [AV.repL, AV.rep, and_true] at hargs
                  obtain ⟨ho, rfl⟩ := hargs
                  rw [run_callFunc_extern hf (H.names g fn hf) (by simp [hb']) h1 h2]
                  rcases split_sound h (ok_mkLt _ ho (b := .lit 0) rfl) F with ⟨_, pc, hpc, h'⟩ | ⟨hc, pc, hpc, h'⟩
                  · exact h'.elim
                  · rw [ev_mkLt] at hc
                    have hc := of_decide_eq_false hc
                    simp only [IE.ev] at hc
                    have : ((e.ev σ).toNat : Int) = e.ev σ := by omega
                    have er : (Extern.MathFloatBits.float64bits [Value.float .f64 (e.ev σ).toNat].toArray) = pure (.int .u64 ((e.ev σ).toNat : Int)) := rfl
                    rw [er, this]
                    exact hn σ β Λ (.int .u64 e) (.int .u64 (e.ev σ)) { st with pc := pc } w (.refl _ _) (.refl _) (fun _ _ => rfl) (Nat.le_refl _) (F.withPc hpc) ⟨ho, rfl⟩ h'
            · cases hv
          · split at hv
            · rename_i hname
              obtain ⟨h1, h2⟩ := H.frombits g fn hf hb' hname
              split at hv
              · rename_i e
                simp only [Option.some.injEq, Prod.mk.injEq] at hv
                obtain ⟨rfl, rfl⟩ := hv
                cases Vs with
                | nil => simp [AV.repL] at hargs
                | cons V Vs => cases Vs with
                  | cons _ _ => simp [AV.repL] at hargs
                  | nil =>
                    simp only [AV.repL, AV.rep, and_true] at hargs
                    obtain ⟨ho, rfl⟩ := hargs
                    rw [run_callFunc_extern hf (H.names g fn hf) (by simp [hb']) h1 h2]
                    rcases split_sound (c := .lit false) h rfl F with ⟨_, pc, hpc, h'⟩ | ⟨hc, pc, hpc, h'⟩
                    · exact h'.elim
                    · exact hn σ β Λ (.flt .f64 e) (.float .f64 (e.ev σ).toNat) { st with pc := pc } w (.refl _ _) (.refl _) (fun _ _ => rfl) (Nat.le_refl _) (F.withPc hpc) ⟨ho, rfl⟩ h'
              · cases hv
            · cases hv
        · exact h.elim
    · exact h.elim

theorem loop_rounds {n : Nat} (ih : ∀ m, m < n → XOk D B SP m) {γ : Type} {Φ : Val → Again → γ → Prop} (f : FuncId) (b : Code) (k : Ex → St → Tr γ) :
    ∀ m, m ≤ n → ∀ (st : St) (σ : Val) (β : Bmap) (Λ : Again) (a : Act) (w : World),
    Fits D B σ β st a w → RoOk D B σ → (xc D m f (.loop b) st k).holds SP Φ σ Λ → ∀ hit, Tell D B SP Φ σ β Λ st k hit → Code.rounds D.P b (QOf hit) m a w := by
  intro m
  induction m with
  | zero => intro _ st σ β Λ a w _ _ h; exact h.elim
  | succ m ihm =>
    intro hm st σ β Λ a w F R h hit ht
    rw [rounds_succ]
    unfold xc at h
    refine Code.wp_mono ?_ (ih m (by omega) f b st _ σ β Λ a w F R h (fun ex a' w' => match ex with
      | .nrm => Code.rounds D.P b (QOf hit) m a' w'
      | ex => hit ex a' w') ?_)
    · intro e a' w' hq
      cases e <;> simp only [QOf] at hq <;> exact hq
    · intro ex σ' β' Λ' st' a' w' hon hble hkeep hnb F' hh
      cases ex with
      | nrm =>
        exact ihm (by omega) st' σ' β' Λ' a' w' F' (R.le hon.le) hh hit fun ex2 σ2 β2 Λ2 st2 a2 w2 hon2 hble2 hkeep2 hnb2 F2 hh2 =>
          ht ex2 _ _ _ _ _ _ (hon.trans hon2) (hble.trans hble2) (fun b hb => (hkeep2 b (Nat.lt_of_lt_of_le hb hnb)).trans (hkeep b hb)) (Nat.le_trans hnb hnb2) F2 hh2
      | exit i => exact ht _ _ _ _ _ _ _ hon hble hkeep hnb F' hh
      | ret => exact ht _ _ _ _ _ _ _ hon hble hkeep hnb F' hh

/-- Whatever goes on from a head, goes on from a state that fits. -/
def HeadOk (D : Ctx) (B : Base) (SP : Spec) {γ : Type} (Φ : Val → Again → γ → Prop) (σ : Val) (β : Bmap) (nb : Nat) (lists : List LH) (is : List LInfo) (v : Nat) (H : St) (vs : List Int) (a : Act) (w : World) : Prop :=
  ∀ (Λ' : Again) (k' : St → Tr γ), (giveL lists is v H k').holds SP Φ (σ.push vs) Λ' →
    ∃ β' Hd, Fits D B (σ.push vs) β' Hd a w ∧ Ble β β' ∧ (∀ b, b < nb → β' b = β b) ∧ nb ≤ Hd.nb ∧ (k' Hd).holds SP Φ (σ.push vs) Λ'

section heads
variable {γ : Type} {Φ : Val → Again → γ → Prop} {σ : Val} {β : Bmap} {st st0 head : St} {a0 : Act} {w0 : World} {hh : Hint} {body : Code} {ls es : List AE} {is : List LInfo} {ps : List (Nat × Nat)}

theorem head_of (F : Fits D B σ β st a0 w0) (htk : takeL hh.lists st = some (ls, is, st0)) (hhd : headA hh body st0 = some (ps, es, head)) {σ' : Val} {β' : Bmap} {s s0 : St} {vs ls' : List AE} {a1 : Act} {w1 : World}
    (hσ' : σ.le σ') (hβ' : Ble β β') (Fs : Fits D B σ' β' s a1 w1) (hs : takeL hh.lists s = some (ls', is, s0)) (hvl : es.length = vs.length)
    (Fh : Fits D B (σ.push (vs.map (·.ev σ'))) β head a1 w1) (hids : ∀ b o, hget head.hp b = some o → ∃ o', hget s0.hp b = some o') (hll : ls.length = ls'.length) :
    HeadOk D B SP Φ σ β st.nb hh.lists is (st.nv + es.length) { head with nv := st.nv + (es ++ ls).length } ((vs ++ ls').map (·.ev σ')) a1 w1 := by
  obtain ⟨F0, t1, t2, t3, t4, t5⟩ := takeL_fits F htk
  obtain ⟨i1, i2, i3⟩ := head_ids F0 hhd
  intro Λ' k' hgive
  have Fp := Fh.push2 (ls'.map (·.ev σ'))
  rw [← List.map_append] at Fp
  have hnv : ({ head with nv := head.nv + (ls'.map (·.ev σ')).length } : St) = { head with nv := st.nv + (es ++ ls).length } := by
    have : head.nv + (ls'.map (·.ev σ')).length = st.nv + (es ++ ls).length := by simp; omega
    rw [this]
  rw [hnv] at Fp
  obtain ⟨_, _, _, _, hs4, _⟩ := takeL_fits Fs hs
  obtain ⟨β1, Hd, g1, g2, g3, g4, g5⟩ := give_sound hσ' (σ.le_push _) hh.lists is (st.nv + es.length) _ β s ls' s0 Fs hs Fp (fun q e hq => by
    have := push_at (σ := σ) (vs := (vs ++ ls').map (·.ev σ')) (q := vs.length + q) (x := e.ev σ') (by rw [List.getElem?_map, List.getElem?_append_right (by omega)]; simp [hq])
    rw [← F.nn, Nat.add_assoc, hvl]; exact this) (fun b o rb h1 h2 b' o' h3 h4 => by
    obtain ⟨o0, h5⟩ := hids b o h1
    obtain ⟨o1, h6⟩ := hs4 b o0 h5
    have := Fs.inj b' b o' o1 rb h3 h6 h4 (hβ' _ _ h2)
    subst this
    exact ⟨o0, h5⟩) (fun b ty sp hm => by
    obtain ⟨⟨rb0, h1⟩, h2⟩ := t5 b ty sp hm
    refine ⟨fun rb hb => ?_, h2⟩
    have := hβ' _ _ h1
    rw [hb] at this; cases this
    exact h1) hgive
  exact ⟨β1, Hd, g1, g2, fun b hb => g3 b (by show b < head.nb; omega), by have : head.nb ≤ Hd.nb := g4; omega, g5⟩

theorem first_head (F : Fits D B σ β st a0 w0) (htk : takeL hh.lists st = some (ls, is, st0)) (hhd : headA hh body st0 = some (ps, es, head)) :
    HeadOk D B SP Φ σ β st.nb hh.lists is (st.nv + es.length) { head with nv := st.nv + (es ++ ls).length } ((es ++ ls).map (·.ev σ)) a0 w0 := by
  obtain ⟨F0, _⟩ := takeL_fits F htk
  exact head_of F htk hhd (.refl _) (.refl _) F htk rfl (F0.head hhd) (head_ids F0 hhd).2.2 rfl

theorem takeL_length : ∀ (lists : List LH) (s s1 : St) (x : List AE) (y : List LInfo), takeL lists s = some (x, y, s1) → x.length = (lists.map fun h => if h.new then 2 else 1).sum := by
  intro lists
  induction lists with
  | nil => intro s s1 x y e; simp only [takeL, Option.some.injEq, Prod.mk.injEq] at e; obtain ⟨rfl, _⟩ := e; rfl
  | cons lh lists ihl =>
    intro s s1 x y e
    simp only [takeL] at e
    split at e
    · rename_i es1 i1 s2 e1
      split at e
      · rename_i fs js s3 e2
        simp only [Option.some.injEq, Prod.mk.injEq] at e
        obtain ⟨rfl, _⟩ := e
        have h1 := ihl _ _ _ _ e2
        have h2 : es1.length = if lh.new then 2 else 1 := by
          unfold takeL1 at e1
          split at e1
          · split at e1
            · rename_i hn
              rw [if_pos hn]
              split at e1
              · split at e1
                · simp only [Option.some.injEq, Prod.mk.injEq] at e1; obtain ⟨rfl, _⟩ := e1; rfl
                · cases e1
              · split at e1
                · split at e1
                  · split at e1
                    · split at e1
                      · simp only [Option.some.injEq, Prod.mk.injEq] at e1; obtain ⟨rfl, _⟩ := e1; rfl
                      · cases e1
                    · cases e1
                  · cases e1
                · cases e1
            · rename_i hn
              rw [if_neg hn]
              split at e1
              · split at e1
                · simp only [Option.some.injEq, Prod.mk.injEq] at e1; obtain ⟨rfl, _⟩ := e1; rfl
                · cases e1
              · cases e1
          · cases e1
        simp [h1, h2]
      · cases e
    · cases e

theorem joinA_head (F : Fits D B σ β st a0 w0) (htk : takeL hh.lists st = some (ls, is, st0)) (hhd : headA hh body st0 = some (ps, es, head)) {σ' : Val} {β' : Bmap} {s : St} {a1 : Act} {w1 : World} {Λ' : Again}
    (hσ' : σ.le σ') (hβ' : Ble β β') (Fs : Fits D B σ' β' s a1 w1) (h : (joinA hh ps is head st.nv s : Tr γ).holds SP Φ σ' Λ') :
    ∃ us : List Int, us.length = (es ++ ls).length ∧ Λ' st.nv us ∧ HeadOk D B SP Φ σ β st.nb hh.lists is (st.nv + es.length) { head with nv := st.nv + (es ++ ls).length } us a1 w1 := by
  obtain ⟨F0, t1, t2, t3, t4, t5⟩ := takeL_fits F htk
  unfold joinA at h
  split at h
  · rename_i ls' is' s0 hs
    split at h
    · rename_i us hus
      split at h
      · rename_i hinf
        have := infosbeq_eq hinf; subst this
        obtain ⟨Fs0, _⟩ := takeL_fits Fs hs
        obtain ⟨hul, F2⟩ := F0.again hhd hσ' hβ' Fs0 (by rw [t2]; exact hus)
        have hll : ls.length = ls'.length := by rw [takeL_length _ _ _ _ _ htk, takeL_length _ _ _ _ _ hs]
        exact ⟨_, by simp; omega, h, head_of F htk hhd hσ' hβ' Fs hs hul F2 (again_ids hus) hll⟩
      · exact h.elim
    · exact h.elim
  · exact h.elim
end heads

theorem xc_sound (H : Fine D SP) : ∀ n, XOk D B SP n := by
  intro n
  induction n using Nat.strongRecOn with
  | _ n ih =>
  intro γ Φ f c st k σ β Λ a w F R h hit ht
  cases n with
  | zero => exact h.elim
  | succ n =>
  have ihn : XOk D B SP n := ih n (Nat.lt_succ_self n)
  have here : ∀ ex, (k ex st).holds SP Φ σ Λ → hit ex a w := fun ex hh => ht ex _ _ _ _ _ _ (.refl _ _) (.refl _) (fun _ _ => rfl) (Nat.le_refl _) F hh
  cases c with
  | skip => unfold xc at h; exact Go.wp_skip (here _ h)
  | ret => unfold xc at h; exact wp_ret (here _ h)
  | exit i => unfold xc at h; exact wp_exit (here _ h)
  | label l => unfold xc at h; exact wp_label (here _ h)
  | seq x y =>
    unfold xc at h
    refine wp_seq (Code.wp_mono ?_ (ihn f x st _ σ β Λ a w F R h (fun ex a' w' => match ex with
      | .nrm => y.wp D.P (QOf hit) a' w'
      | ex => hit ex a' w') ?_))
    · intro e a' w' hq
      cases e <;> simp only [QOf] at hq <;> exact hq
    · intro ex σ' β' Λ' st' a' w' hon hble hkeep hnb F' hh
      cases ex with
      | nrm =>
        exact ihn f y st' k σ' β' Λ' a' w' F' (R.le hon.le) hh hit fun ex2 σ2 β2 Λ2 st2 a2 w2 hon2 hble2 hkeep2 hnb2 F2 hh2 =>
          ht ex2 _ _ _ _ _ _ (hon.trans hon2) (hble.trans hble2) (fun b hb => (hkeep2 b (Nat.lt_of_lt_of_le hb hnb)).trans (hkeep b hb)) (Nat.le_trans hnb hnb2) F2 hh2
      | exit i => exact ht _ _ _ _ _ _ _ hon hble hkeep hnb F' hh
      | ret => exact ht _ _ _ _ _ _ _ hon hble hkeep hnb F' hh
  | cond c x y =>
    unfold xc at h
    simp only [] at h
    split at h
    · rename_i b hb
      have hr := F.ev c
      rw [hb] at hr
      simp only [AV.rep] at hr
      obtain ⟨ho, he⟩ := hr
      rcases split_sound h ho F with ⟨hc, pc, hpc, h'⟩ | ⟨hc, pc, hpc, h'⟩
      · rw [hc] at he
        exact wp_cond_true he (ihn f x _ k σ β Λ a w (F.withPc hpc) R h' hit ht)
      · rw [hc] at he
        exact wp_cond_false he (ihn f y _ k σ β Λ a w (F.withPc hpc) R h' hit ht)
    · exact h.elim
  | scope b =>
    unfold xc at h
    refine wp_scope_straight (Code.wp_mono ?_ (ihn f b st k σ β Λ a w F R h hit ht))
    intro e a' w' hq
    cases e <;> simp only [QOf] at hq <;> exact hq
  | loop b => exact wp_loop_rounds (n + 1) (loop_rounds ih f b k (n + 1) (Nat.le_refl _) st σ β Λ a w F R h hit ht)
  | region id ops draw =>
    unfold xc at h
    exact xregion_sound H.mixed (callA_sound H ihn) (callA_sound H ihn) F R h fun σ' β' Λ' st' a' w' hon hble hkeep hnb F' hh => ht .nrm _ _ _ _ _ _ hon hble hkeep hnb F' hh
  | block id b =>
    have plain : ∀ (h : (xc D n f b st fun ex s => match ex with
          | .exit i => if Nat.beq i id then k .nrm s else k (.exit i) s
          | ex => k ex s).holds SP Φ σ Λ), (Code.block id b).wp D.P (QOf hit) a w := by
      intro h
      refine wp_block (Code.wp_mono ?_ (ihn f b st _ σ β Λ a w F R h (fun ex a' w' => match ex with
        | .exit i => if i = id then hit .nrm a' w' else hit (.exit i) a' w'
        | ex => hit ex a' w') ?_))
      · intro e a' w' hq
        cases e <;> simp only [QOf] at hq <;> exact hq
      · intro ex σ' β' Λ' st' a' w' hon hble hkeep hnb F' hh
        cases ex with
        | nrm => exact ht _ _ _ _ _ _ _ hon hble hkeep hnb F' hh
        | ret => exact ht _ _ _ _ _ _ _ hon hble hkeep hnb F' hh
        | exit i =>
          simp only [Nat.beq_eq] at hh ⊢
          split at hh
          · rename_i hi; rw [if_pos hi]; exact ht _ _ _ _ _ _ _ hon hble hkeep hnb F' hh
          · rename_i hi; rw [if_neg hi]; exact ht _ _ _ _ _ _ _ hon hble hkeep hnb F' hh
    unfold xc at h
    simp only [] at h
    split at h
    · rename_i hh _
      split at h
      · -- a block whose ways out come together
        split at h
        · rename_i ls is st0 htk
          split at h
          · rename_i ps es head hhd
            obtain ⟨J, hbody, hthen⟩ := h
            have F1 : Fits D B (σ.push [0]) β { st with nv := st.nv + 1 } a w := F.more [0]
            have hle := σ.le_push [0]
            have onOut : ∀ {σ' : Val} {Λ' : Again}, On (σ.push [0]) (fun j us => if j = st.nv then us.length = (es ++ ls).length ∧ J us else Λ j us) σ' Λ' → On σ Λ σ' Λ' := fun hon =>
              ⟨hle.trans hon.le, fun j hj => by
                rw [hon.ag j (by simp [Val.push]; omega)]
                funext us
                simp only [if_neg (show j ≠ st.nv by have := F.nn; omega)]⟩
            have fin : ∀ {σ' : Val} {β' : Bmap} {Λ' : Again} {st' : St} {a' : Act} {w' : World}, On (σ.push [0]) (fun j us => if j = st.nv then us.length = (es ++ ls).length ∧ J us else Λ j us) σ' Λ' → Ble β β' → Fits D B σ' β' st' a' w' →
                (joinA hh ps is head st.nv st').holds SP Φ σ' Λ' → hit .nrm a' w' := by
              intro σ' β' Λ' st' a' w' hon hble F' hj
              obtain ⟨us, hl, hA, hH⟩ := joinA_head F htk hhd (hle.trans hon.le) hble F' hj
              rw [hon.ag st.nv (by simp [Val.push, F.nn])] at hA
              simp only [if_true] at hA
              obtain ⟨β1, Hd, g1, g2, g3, g4, g5⟩ := hH Λ _ (hthen us hA.1 hA.2)
              exact ht .nrm _ _ _ _ _ _ (.push _ _ _) g2 g3 g4 g1 g5
            refine wp_block (Code.wp_mono ?_ (ihn f b _ _ (σ.push [0]) β _ a w F1 (R.le hle) hbody (fun ex a' w' => match ex with
              | .exit i => if i = id then hit .nrm a' w' else hit (.exit i) a' w'
              | ex => hit ex a' w') ?_))
            · intro e a' w' hq
              cases e <;> simp only [QOf] at hq <;> exact hq
            · intro ex σ' β' Λ' st' a' w' hon hble hkeep hnb F' hh'
              cases ex with
              | nrm => exact fin hon hble F' hh'
              | ret => exact ht _ _ _ _ _ _ _ (onOut hon) hble hkeep hnb F' hh'
              | exit i =>
                simp only [Nat.beq_eq] at hh' ⊢
                split at hh'
                · rename_i hi; rw [if_pos hi]; exact fin hon hble F' hh'
                · rename_i hi; rw [if_neg hi]; exact ht _ _ _ _ _ _ _ (onOut hon) hble hkeep hnb F' hh'
          · exact h.elim
        · exact h.elim
      · split at h
        · -- a loop that carries
          rename_i body
          split at h
          · rename_i ls is st0 htk
            split at h
            · rename_i ps es head hhd
              split at h
              · rename_i hpos
                rw [Nat.blt_eq] at hpos
                obtain ⟨I, m, hI0, hround⟩ := h
                refine wp_block (wp_loop_ghost (fun N a w => ∃ vs : List Int, vs.length = (es ++ ls).length ∧ I vs ∧ m vs = N ∧ HeadOk D B SP Φ σ β st.nb hh.lists is (st.nv + es.length) { head with nv := st.nv + (es ++ ls).length } vs a w) (m ((es ++ ls).map (·.ev σ)))
                  ⟨_, by simp, hI0, rfl, first_head F htk hhd⟩ ?_)
                rintro N a1 w1 ⟨vs, hvl, hIv, hmv, hHead⟩
                have hle := σ.le_push vs
                have hid : st.nv = σ.n := F.nn.symm
                have hvpos : 0 < vs.length := by omega
                obtain ⟨βh, Hd, F1, k1, k2, k3, hbody⟩ := hHead _ _ (hround vs hvl hIv)
                have onOut : ∀ {σ' : Val} {Λ' : Again}, On (σ.push vs) (fun j us => if j = st.nv then I us ∧ m us < m vs else Λ j us) σ' Λ' → On σ Λ σ' Λ' := fun hon =>
                  ⟨hle.trans hon.le, fun j hj => by
                    rw [hon.ag j (by simp [Val.push]; omega)]
                    funext us
                    simp only [if_neg (show j ≠ st.nv by omega)]⟩
                refine Code.wp_mono ?_ (ihn f body Hd _ (σ.push vs) βh _ a1 w1 F1 (R.le hle) hbody (fun ex a' w' => match ex with
                  | .nrm => ∃ N', N' < N ∧ ∃ vs : List Int, vs.length = (es ++ ls).length ∧ I vs ∧ m vs = N' ∧ HeadOk D B SP Φ σ β st.nb hh.lists is (st.nv + es.length) { head with nv := st.nv + (es ++ ls).length } vs a' w'
                  | .exit i => if i = id then hit .nrm a' w' else hit (.exit i) a' w'
                  | .ret => hit .ret a' w') ?_)
                · intro e a' w' hq
                  cases e <;> simp only [QOf] at hq <;> exact hq
                · intro ex σ' β' Λ' st' a' w' hon hble hkeep hnb F' hh'
                  have hble' := k1.trans hble
                  have hkeep' : ∀ b, b < st.nb → β' b = β b := fun b hb => (hkeep b (by omega)).trans (k2 b hb)
                  have hnb' : st.nb ≤ st'.nb := Nat.le_trans k3 hnb
                  cases ex with
                  | nrm =>
                    obtain ⟨us, hl, hA, hH⟩ := joinA_head F htk hhd (hle.trans hon.le) hble' F' hh'
                    rw [hon.ag st.nv (by simp [Val.push]; omega)] at hA
                    simp only [if_true] at hA
                    exact ⟨_, by rw [← hmv]; exact hA.2, us, hl, hA.1, rfl, hH⟩
                  | ret => exact ht _ _ _ _ _ _ _ (onOut hon) hble' hkeep' hnb' F' hh'
                  | exit i =>
                    simp only [Nat.beq_eq] at hh' ⊢
                    split at hh'
                    · rename_i hi; rw [if_pos hi]; exact ht _ _ _ _ _ _ _ (onOut hon) hble' hkeep' hnb' F' hh'
                    · rename_i hi; rw [if_neg hi]; exact ht _ _ _ _ _ _ _ (onOut hon) hble' hkeep' hnb' F' hh'
              · exact h.elim
            · exact h.elim
          · exact h.elim
        · exact plain h
    · exact plain h
  | rangeFunc f ps x y => unfold xc at h; exact h.elim
  | goto l => unfold xc at h; exact h.elim
  | refuse why => unfold xc at h; exact h.elim

end
end Go.Proofs.Sx
