/- copy, conversions, calls: 'iop_sound', 'gop_sound'. -/
import Derived.Test.YtklfialdapljlaaSxN
namespace Go.Proofs.Sx
open Go

theorem lput_append {α : Type} : ∀ (x y l : List α) (o : Nat), lput l o (x ++ y) = lput (lput l o x) (o + x.length) y := by
  intro x
  induction x with
  | nil => intro y l o; rfl
  | cons a x ih => intro y l o; simp only [List.cons_append, lput, ih, List.length_cons]; congr 1; omega

theorem lput_same {α : Type} : ∀ (y l : List α) (o : Nat), y = (l.drop o).take y.length → lput l o y = l := by
  intro y
  induction y with
  | nil => intro l o _; rfl
  | cons a y ih =>
    intro l o h
    have ho : o < l.length := by
      by_cases ho : o < l.length
      · exact ho
      · rw [List.drop_eq_nil_of_le (by omega)] at h; simp at h
    rw [List.drop_eq_getElem_cons ho] at h
    simp only [List.length_cons, List.take_succ_cons, List.cons.injEq] at h
    have e : lset l o a = l := by rw [lset_eq, h.1]; simp
    simp only [lput, e]
    exact ih l (o + 1) h.2

theorem push_modify {α : Type} (a : Array α) (x : α) (f : α → α) : (a.push x).modify a.size f = a.push (f x) := by
  apply Array.ext_getElem?
  intro i
  rw [Array.getElem?_modify, Array.getElem?_push, Array.getElem?_push]
  by_cases h : a.size = i
  · subst h; simp
  · rw [if_neg h]
    by_cases h2 : i = a.size
    · omega
    · rw [if_neg h2, if_neg h2]

section
variable {D : Ctx} {B : Base} {SP : Spec} {γ : Type} {Φ : Val → Again → γ → Prop}
variable {σ : Val} {β : Bmap} {Λ : Again} {st : St} {a : Act} {w : World} {id : Option Nat} {k : AV → St → Tr γ} {ox : Oper} {next : Act → World → Prop} {Q : Exit → Act → World → Prop}

/-- copy into a block of ours -/
theorem copy_run {P : Program} {t1 t2 ty e : TypeId} {sz : Nat} (hu1 : P.underlying t1 = some (.slice e)) (hsz : szOf P e = some sz) {A : Option Addr} {n c L : Nat} {X : Value} {cells : List Value}
    (hL : ∀ w, (Builtin.lenOf X).run P w = .ok L w) (hcells : (Builtin.firstCells sz (Nat.min L n) X).run P w = .ok cells.toArray w) (hone : ∀ v ∈ cells, v.oneCell' = true)
    {rb off : Nat} {ty' : TypeId} {fz : Nat × Nat} {Vs rest : List Value} (hA : cells ≠ [] → A = some ⟨rb, off, none⟩) (hh : w.heap[rb]? = some (.cells (Vs ++ rest).toArray ty' fz)) (hfit : off + cells.length ≤ Vs.length)
    (hz : fz.2 = 0 ∨ (Vs ++ rest).length ≤ fz.1) :
    ∃ w', (Builtin.copy_ #[t1, t2] ty #[.slice A n c, X]).run P w = .ok (.int .i64 (Nat.min L n)) w' ∧ HeapUpd w w' rb (.cells (lput Vs off cells ++ rest).toArray ty' fz) := by
  by_cases hc : cells = []
  · subst hc
    refine ⟨w, ?_, rfl, hh, fun _ _ => rfl, rfl, rfl⟩
    cases A <;> simp [Builtin.copy_, run_underlying hu1, hL, run_sizeOf' hsz, hcells, storeCells, goInt]
  · have := hA hc; subst this
    obtain ⟨w', r1, r2⟩ := run_storeCells (P := P) (rb := rb) (off := off) (t := ty') (fz := fz) cells 0 (Vs ++ rest) w hh (by simp only [List.length_append]; omega) hone hz
    rw [Nat.add_zero, lput_left _ _ _ _ hfit] at r2
    exact ⟨w', by simp [Builtin.copy_, run_underlying hu1, hL, run_sizeOf' hsz, hcells, r1, goInt], r2⟩

theorem sel_all {r n : Nat} : AV.repL D B σ β ((List.range n).map fun i => AV.int .u8 (.sel r 1 (.lit (Int.ofNat i)) 0)) ((List.range n).map fun i => .int .u8 ((σ.r r).getD i 0)) := by
  refine repL_of _ _ (fun i => ?_) _
  refine ⟨rfl, ?_⟩
  simp [IE.ev]

theorem str_cells (s : ByteArray) (m : Nat) : (Builtin.firstCells 1 m (.string s)) = (pure ((s.data.toList.take m).map fun b => Value.int .u8 b.toNat).toArray : Sem (Array Value)) := by
  simp only [Builtin.firstCells]
  congr 1
  apply Array.toList_inj.1
  simp [ByteArray.data_extract]

theorem allZero_rep : ∀ {l : List AV} {Vs : List Value}, allZero l = true → AV.repL D B σ β l Vs → Vs = List.replicate Vs.length (.int .u8 0) := by
  intro l
  induction l with
  | nil => intro Vs _ h; cases Vs <;> simp_all [AV.repL]
  | cons v l ih =>
    intro Vs hz h
    unfold allZero at hz
    split at hz
    · rename_i e; cases e
    · rename_i l' e
      simp only [List.cons.injEq] at e
      obtain ⟨rfl, rfl⟩ := e
      cases Vs with
      | nil => simp [AV.repL] at h
      | cons V Vs =>
        simp only [AV.repL] at h
        obtain ⟨h1, h2⟩ := h
        simp only [AV.rep, IE.ev] at h1
        have := ih hz h2
        rw [h1.2, List.length_cons, List.replicate_succ, ← this]
        rfl
    · cases hz

/-- what 'copyA' tells is what copy reads -/
theorem copyA_sound {o : AObj} {off n sz : Nat} {ue : TypeDesc} {e : TypeId} {src : AV} {X : Value} {v : AV} {new : List AV} (F : Fits D B σ β st a w) (_hue : D.P.underlying e = some ue) (h : copyA st o off n sz ue src = some (v, new)) (hX : src.rep D B σ β X)
    {Vs : List Value} (hVs : AV.repL D B σ β o.cs Vs) (hn : 0 < n) (hfit : off + new.length ≤ o.cs.length) :
    ∃ (L : Nat) (cells news : List Value), (∀ w, (Builtin.lenOf X).run D.P w = .ok L w) ∧ (Builtin.firstCells sz (Nat.min L n) X).run D.P w = .ok cells.toArray w ∧ v.rep D B σ β (.int .i64 (Nat.min L n)) ∧
      AV.repL D B σ β new news ∧ lput Vs off cells = lput Vs off news ∧ off + cells.length ≤ Vs.length ∧ (flatL new = true → ∀ u ∈ cells, u.oneCell' = true) := by
  have hvl := repL_length hVs
  unfold copyA at h
  split at h
  · rename_i r
    split at h
    · rename_i hu
      simp only [Bool.and_eq_true, Nat.beq_eq] at hu
      obtain ⟨_, rfl⟩ := hu
      split at h
      · rename_i old hold
        split at h
        · rename_i hz
          simp only [Option.some.injEq, Prod.mk.injEq] at h
          obtain ⟨rfl, rfl⟩ := h
          simp only [AV.rep] at hX
          obtain ⟨s, rfl, hs⟩ := hX
          have hss : s.size = s.data.toList.length := by rw [Array.length_toList]; rfl
          have hmn : Nat.min s.size n ≤ n := Nat.min_le_right _ _
          have hms : Nat.min s.size n ≤ s.size := Nat.min_le_left _ _
          have hcl : ((s.data.toList.take (Nat.min s.size n)).map fun b => Value.int .u8 b.toNat).length = Nat.min s.size n := by
            simp only [List.length_map, List.length_take]
            rw [← hss]; exact Nat.min_eq_left hms
          have hfit' : off + n ≤ Vs.length := by simpa [hvl] using hfit
          refine ⟨s.size, (s.data.toList.take (Nat.min s.size n)).map fun b => Value.int .u8 b.toNat, (List.range n).map fun i => .int .u8 ((σ.r r).getD i 0), fun _ => rfl, by rw [str_cells]; rfl, ⟨rfl, ?_⟩, sel_all, ?_, by omega, fun _ u hu => ?_⟩
          · simp only [IE.ev, F2.ev, hs, List.length_map, ← hss]
            congr 1
            show ((Nat.min s.size n : Nat) : Int) = _
            have e1 : (Int.ofNat n : Int) = (n : Int) := rfl
            rw [e1]
            split <;> rename_i hlt
            · have : Nat.min s.size n = n := Nat.min_eq_right (by omega)
              rw [this]
            · have : Nat.min s.size n = s.size := Nat.min_eq_left (by omega)
              rw [this]
          · apply List.ext_getElem?
            intro i
            rw [lput_get, lput_get, hcl]
            simp only [List.length_map, List.length_range]
            by_cases h1 : off ≤ i ∧ i < off + n ∧ i < Vs.length
            · rw [if_pos h1]
              have hr : ((List.range n).map fun i => Value.int .u8 ((σ.r r).getD i 0))[i - off]? = some (.int .u8 ((σ.r r).getD (i - off) 0)) := by
                rw [List.getElem?_map, List.getElem?_range (by omega)]; rfl
              rw [hr]
              by_cases h2 : off ≤ i ∧ i < off + Nat.min s.size n ∧ i < Vs.length
              · rw [if_pos h2, List.getElem?_map, List.getElem?_take, if_pos (by omega)]
                have hlt : i - off < s.data.toList.length := by omega
                rw [List.getElem?_eq_getElem hlt, Option.map_some]
                congr 2
                rw [hs, List.getD_eq_getElem?_getD, List.getElem?_map, List.getElem?_eq_getElem hlt]
                rfl
              · rw [if_neg h2]
                have hge : s.data.toList.length ≤ i - off := by
                  rcases Nat.le_total s.size n with hle | hle
                  · have : Nat.min s.size n = s.size := Nat.min_eq_left hle
                    omega
                  · have : Nat.min s.size n = n := Nat.min_eq_right hle
                    omega
                have hg : (σ.r r).getD (i - off) 0 = 0 := by
                  rw [hs, List.getD_eq_getElem?_getD, List.getElem?_eq_none (by simpa using hge)]; rfl
                rw [hg]
                have hrep := repL_sub hVs hold
                have hzz := allZero_rep hz hrep
                have hi : ((Vs.drop off).take n)[i - off]? = Vs[i]? := by
                  rw [List.getElem?_take, if_pos (by omega), List.getElem?_drop]
                  congr 1; omega
                rw [← hi, hzz, List.getElem?_replicate, if_pos]
                simp; omega
            · rw [if_neg h1, if_neg (by omega)]
          · obtain ⟨b, _, rfl⟩ := List.mem_map.1 hu; rfl
        · cases h
      · cases h
    · cases h
  · rename_i l
    split at h
    · rename_i hu
      simp only [Bool.and_eq_true, Nat.beq_eq] at hu
      obtain ⟨_, rfl⟩ := hu
      split at h
      · rename_i nl hnl
        simp only [Option.some.injEq, Prod.mk.injEq] at h
        obtain ⟨rfl, rfl⟩ := h
        rw [ltake_eq] at hnl
        obtain ⟨rfl, hle⟩ := hnl
        simp only [AV.rep] at hX
        obtain ⟨hok, rfl⟩ := hX
        have hss : (⟨(l.map fun e => UInt8.ofNat (e.ev σ).toNat).toArray⟩ : ByteArray).size = l.length := by simp [ByteArray.size]
        have hrep : AV.repL D B σ β ((l.take (Nat.min l.length n)).map fun e => AV.int .u8 (mkByt e)) ((l.take (Nat.min l.length n)).map fun e => Value.int .u8 ((UInt8.ofNat (e.ev σ).toNat).toNat : Int)) := by
          have : ∀ (l : List IE), (∀ e ∈ l, IE.ok σ.n e = true) → AV.repL D B σ β (l.map fun e => AV.int .u8 (mkByt e)) (l.map fun e => Value.int .u8 ((UInt8.ofNat (e.ev σ).toNat).toNat : Int)) := by
            intro l
            induction l with
            | nil => intro _; trivial
            | cons e l ih =>
              intro hl
              simp only [List.mem_cons, forall_eq_or_imp] at hl
              simp only [List.map_cons, AV.repL]
              exact ⟨⟨ok_mkByt _ hl.1, by rw [ev_mkByt]; simp⟩, ih hl.2⟩
          exact this _ fun e he => hok e (List.mem_of_mem_take he)
        refine ⟨l.length, _, _, fun w => by rw [← hss]; rfl, ?_, ⟨rfl, rfl⟩, hrep, rfl, ?_, fun _ u hu => ?_⟩
        · rw [str_cells]
          show Result.ok _ w = _
          congr 2
          show ((l.map fun e => UInt8.ofNat (e.ev σ).toNat).take (Nat.min l.length n)).map _ = _
          rw [← List.map_take, List.map_map]
          rfl
        · simp only [List.length_map, List.length_take] at hfit ⊢; omega
        · obtain ⟨b, _, rfl⟩ := List.mem_map.1 hu; rfl
      · cases h
    · cases h
  · rename_i b2 off2 len2 cap2
    split at h
    · rename_i n2 o2 hl2 ho2
      split at h
      · rename_i nl hnl
        simp only [Option.some.injEq, Prod.mk.injEq] at h
        obtain ⟨rfl, rfl⟩ := h
        have := litNat_some hl2; subst this
        simp only [AV.rep, IE.ev] at hX
        obtain ⟨_, _, n', cv, A, rfl, x3, x4, x5, x6⟩ := hX
        have hnn : n' = n2 + 1 := by omega
        subst hnn
        obtain ⟨ho2, hlst2⟩ := hgetc_some ho2
        obtain ⟨rb2, g1, ⟨Vs2, rest2, fz2, g2, g3, _⟩, _⟩ := F.hp b2 o2 ho2
        have g3 := g3.none hlst2
        obtain ⟨Ns, k1, k2, k3⟩ := sub_cells (w := w) g2 g3 hnl
        have hA : A = some ⟨rb2, off2, none⟩ := by
          rcases x6 with x6 | ⟨rb', x6, rfl⟩
          · omega
          · rw [g1] at x6; cases x6; rfl
        subst hA
        have hNl := repL_length k1
        refine ⟨n2 + 1, Ns, Ns, fun w => rfl, ?_, ⟨rfl, rfl⟩, k1, rfl, by omega, fun hf => flatL_one k1 hf⟩
        exact run_firstCells (c := cv) k2 (fun _ => ⟨_, rfl, k3⟩)
      · cases h
    · cases h
  · cases h

theorem iop_copy (E : EvOk D B σ β st a) (F : Fits D B σ β st a w) {c : Call} (hc : c.callee = .builtin .copy) (ho : ox.op = .call c) {call : CallH γ}
    (h : (iop D call id (.call c) st k).holds SP Φ σ Λ) (hn : Tells D B SP Φ σ β Λ st a id k (Told D a ox next)) : ox.wp D.P a w next Q := by
  unfold iop at h
  simp only [hc] at h
  split at h
  · rename_i t1 t2 b off len cap src hts hxs
    obtain ⟨X, Y, hXY, hX, hY⟩ := two_reps E hxs
    have hargs : c.args.map a.eval = #[X, Y] := by rw [map_arr, hXY]
    have htypes : c.argTypes = #[t1, t2] := by rw [← Array.toArray_toList (xs := c.argTypes), hts]
    split at h
    · rename_i e n o hu1 hln hg
      have := litNat_some hln; subst this
      split at h
      · rename_i ue sz hue hsz
        split at h
        · rename_i v new hcp
          split at h
          · rename_i hcond
            simp only [Bool.and_eq_true, Nat.ble_eq] at hcond
            simp only [AV.rep, IE.ev] at hX
            obtain ⟨_, _, n', cv, A, rfl, x3, x4, x5, x6⟩ := hX
            have hnn : n' = n + 1 := by omega
            subst hnn
            obtain ⟨hg, hlst⟩ := hgetc_some hg
            obtain ⟨rb, g1, ⟨Vs, rest, fz, g2, g3, g4, g5⟩, g6⟩ := F.hp b o hg
            have g3 := g3.none hlst
            have hvl := repL_length g3
            have hA : A = some ⟨rb, off, none⟩ := by
              rcases x6 with x6 | ⟨rb', x6, rfl⟩
              · omega
              · rw [g1] at x6; cases x6; rfl
            obtain ⟨L, cells, news, c1, c2, c3, c4, c5, c6, c7⟩ := copyA_sound F hue hcp hY g3 (by omega) hcond.1
            obtain ⟨w', r1, r2⟩ := copy_run (w := w) (P := D.P) (ty := ox.type) (t2 := t2) (c := cv) (A := A) (n := n + 1) hu1 hsz c1 c2 (c7 hcond.2) (fun _ => hA) g2 c6 g5
            rw [c5] at r2
            have hs2 : SpareOk σ o.spare (lput Vs off news) rest := by
              unfold SpareOk at *
              split
              · rename_i e'; rw [e'] at g4; exact g4
              · rename_i e' z e''; rw [e''] at g4; exact ⟨g4.1, by simp only [List.length_append, lput_length] at *; exact g4.2⟩
            have F' := F.upd (o' := { o with cs := lput o.cs off new }) hg g1 (by unfold ContRep; simp only [hlst]; exact repL_put off g3 c4) hs2 (by simp only [List.length_append, lput_length] at *; exact g5) r2
            exact wp_value (run_builtin_copy hc ho (by rw [hargs, htypes]; exact r1)) (hn _ _ _ _ _ _ _ (Went.same F' rfl) c3 h)
          · exact h.elim
        · exact h.elim
      · exact h.elim
    · exact h.elim
  · exact h.elim

end
end Go.Proofs.Sx
