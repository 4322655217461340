/- The program at hand: what the executor asks of it. -/
import Derived.Test.YtklfialdapljlaaSxY
import Derived.Test.YtklfialdapljlaaProg
import Derived.KernelRfl
namespace Go.Proofs.Tx
open Go Go.Proofs.Sx
set_option maxRecDepth 100000

def nameOk (fn : Func) : Bool := fn.name != "runtime.NumGoroutine" &&
  (fn.body.isSome || (fn.origin == fn.name || fn.origin == ""))

theorem allNames : (Try.prog.funcs.toList.all nameOk) = true := by kernel_rfl
theorem mixed : Try.prog.follows .mixedOrders = true := by kernel_rfl

theorem nameOk_of {f : FuncId} {fn : Func} (h : Try.prog.funcs[f]? = some fn) : nameOk fn = true :=
  List.all_eq_true.1 allNames fn (by simpa using Array.mem_of_getElem? h)

theorem next0 : Extern.allNextRows.lookup "" = none := by kernel_rfl
theorem next1 : Extern.allNextRows.lookup "math.Float64bits" = none := by kernel_rfl
theorem next2 : Extern.allNextRows.lookup "math.Float64frombits" = none := by kernel_rfl
theorem gen1 : Extern.allGenericRows.lookup "math.Float64bits" = none := by kernel_rfl
theorem gen2 : Extern.allGenericRows.lookup "math.Float64frombits" = none := by kernel_rfl
theorem typ1 : Extern.allTypedRows.lookup "math.Float64bits" = none := by kernel_rfl
theorem typ2 : Extern.allTypedRows.lookup "math.Float64frombits" = none := by kernel_rfl
theorem row1 : Extern.allRows.lookup "math.Float64bits" = some Extern.MathFloatBits.float64bits := by kernel_rfl
theorem row2 : Extern.allRows.lookup "math.Float64frombits" = some Extern.MathFloatBits.float64frombits := by kernel_rfl

theorem extern_of {fn : Func} {n : String} {e : Array Value → Sem Value} (hn : fn.name = n) (ho : fn.origin = n ∨ fn.origin = "") (h1 : Extern.allNextRows.lookup n = none) (h2 : Extern.allGenericRows.lookup n = none)
    (h3 : Extern.allTypedRows.lookup n = none) (h4 : Extern.allRows.lookup n = some e) : Extern.findNext fn = none ∧ Extern.find fn = some e := by
  constructor
  · unfold Extern.findNext
    rcases ho with ho | ho <;> simp [hn, ho, h1, next0]
  · unfold Extern.find
    simp [hn, h2, h3, h4]

theorem fine {D : Ctx} {SP : Spec} (hP : D.P = Try.prog) (hs : ∀ g row, D.sp g = some row → (∃ fn c, D.P.funcs[g]? = some fn ∧ fn.body = some c) ∧ Meets D SP g row) : Fine D SP where
  mixed := by rw [hP]; exact mixed
  names := fun f fn h => by
    rw [hP] at h
    have := nameOk_of h
    simp only [nameOk, Bool.and_eq_true, bne_iff_ne] at this
    simpa using this.1
  bits := fun f fn h hb hn => by
    rw [hP] at h
    have := nameOk_of h
    simp only [nameOk, Bool.and_eq_true, Bool.or_eq_true, beq_iff_eq, hb, Option.isSome_none, Bool.false_eq_true, false_or] at this
    exact extern_of hn (by rw [← hn]; exact this.2) next1 gen1 typ1 row1
  frombits := fun f fn h hb hn => by
    rw [hP] at h
    have := nameOk_of h
    simp only [nameOk, Bool.and_eq_true, Bool.or_eq_true, beq_iff_eq, hb, Option.isSome_none, Bool.false_eq_true, false_or] at this
    exact extern_of hn (by rw [← hn]; exact this.2) next2 gen2 typ2 row2
  specs := hs

/-! ## Contracts -/

/-- what a function asks for and what it yields -/
structure Con where
  g : Nat
  row : Row
  pre : List Int → Prop
  post : List Int → List Int → Prop

def findC (l : List Con) (g : Nat) : Option Con :=
  match l with
  | [] => none
  | c :: l => if Nat.beq c.g g then some c else findC l g

def specOf (l : List Con) : Spec where
  pre g xs := match findC l g with
    | some c => c.pre xs
    | none => False
  post g xs rs := match findC l g with
    | some c => c.post xs rs
    | none => False

noncomputable def hasBody (g : Nat) : Bool := match Try.prog.funcs[g]? with | some fn => fn.body.isSome | none => false

theorem hasBody_spec {g : Nat} (h : hasBody g = true) : ∃ fn c, Try.prog.funcs[g]? = some fn ∧ fn.body = some c := by
  unfold hasBody at h
  split at h
  · rename_i fn hf; obtain ⟨c, hc⟩ := Option.isSome_iff_exists.1 h; exact ⟨fn, c, hf, hc⟩
  · cases h

/-- the function does so -/
def Con.met (c : Con) : Prop := hasBody c.g = true ∧ rowOk c.row = true ∧ ∀ (xs : List Int) (Vs : List Value) (w : World), c.pre xs → ArgsIs w c.row.args xs Vs → Calls Try.prog c.g Vs.toArray w fun e w' =>
    ∃ rs Rs, rs.length = shRCount c.row.res ∧ c.post xs rs ∧ ResIs w w' c.row.res rs Rs ∧ e = .returned (oneOrTupV Rs) ∧ Kept w w'

noncomputable def ctx (l : List Con) (hint : FuncId → Nat → Option Hint) (ro : Nat → List CK) : Ctx := { P := Try.prog, sp := fun g => (findC l g).map (·.row), hint := hint, ro := ro }

def AllMet : List Con → Prop
  | [] => True
  | c :: l => c.met ∧ AllMet l

theorem AllMet.get : ∀ {l : List Con} {g : Nat} {c : Con}, AllMet l → findC l g = some c → c.met ∧ c.g = g := by
  intro l
  induction l with
  | nil => intro g c _ h; simp [findC] at h
  | cons d l ih =>
    intro g c h hf
    simp only [findC] at hf
    split at hf
    · rename_i e; rw [Nat.beq_eq] at e; simp only [Option.some.injEq] at hf; subst hf; exact ⟨h.1, e⟩
    · exact ih h.2 hf

theorem fineOf {l : List Con} {hint : FuncId → Nat → Option Hint} {ro : Nat → List CK} (h : AllMet l) : Fine (ctx l hint ro) (specOf l) := fine rfl fun g row hg => by
  simp only [ctx, Option.map_eq_some_iff] at hg
  obtain ⟨c, hc, rfl⟩ := hg
  obtain ⟨⟨h1, h2, h3⟩, rfl⟩ := h.get hc
  refine ⟨hasBody_spec h1, h2, fun xs Vs w hp hA => ?_⟩
  have hp' : c.pre xs := by simpa [specOf, hc] using hp
  refine Calls.mono (h3 xs Vs w hp' hA) ?_
  rintro e w' ⟨rs, Rs, k1, k2, k3⟩
  exact ⟨rs, Rs, k1, by simpa [specOf, hc] using k2, k3⟩

def noHint : FuncId → Nat → Option Hint := fun _ _ => none

/-- **A contract, from its tree.** -/
theorem met_of {l : List Con} (hl : AllMet l) (c : Con) {hint : FuncId → Nat → Option Hint} {n : Nat} {T : Tr (List AE)} (hb : hasBody c.g = true) (hok : rowOk c.row = true)
    (hr : runRow (ctx l hint (roIn c.row.args 0)) n c.g c.row = T)
    (h : ∀ xs, xs.length = shCount c.row.args → c.pre xs → T.holds (specOf l) (fun σ _ es => c.post xs (es.map (·.ev σ))) (valOf c.row xs) (fun _ _ => False)) : c.met := by
  obtain ⟨fn, co, hf, hc⟩ := hasBody_spec hb
  refine ⟨hb, hok, fun xs Vs w hp hA => ?_⟩
  obtain ⟨hlen, ra, hs, hh⟩ := argsIs_rep c.row.args 0 xs Vs hA
  obtain ⟨h1, h2⟩ := hh (ctx l hint (roIn c.row.args 0)) (base w ra) (valOf c.row xs) (fun _ => none) (fun _ _ => rfl) (fun r _ => rfl) (fun q x hq => by simp [valOf, hq]) (by simp [valOf, hlen]) (fun r _ hne => by
    simp only [valOf]
    rw [if_neg]
    intro e
    exact hne (List.length_eq_zero_iff.1 e))
  have R : RoOk (ctx l hint (roIn c.row.args 0)) (base w ra) (valOf c.row xs) := roOk_of h2
  have := runRow_sound (fineOf hl) hf hc R (by simp [valOf, hlen]) h1 (by rw [hr]; exact h xs hlen hp)
  exact this

end Go.Proofs.Tx
