/- append. -/
import Derived.Test.YtklfialdapljlaaSxL
namespace Go.Proofs.Sx
open Go

theorem growBy_le (L : Nat) : ∀ (r c : Nat), Builtin.growBy L r c ≤ Nat.max c (L + (L + 768) / 4) := by
  intro r
  induction r with
  | zero => intro c; simp only [Builtin.growBy]; exact Nat.le_max_left _ _
  | succ r ih =>
    intro c
    simp only [Builtin.growBy]
    split
    · exact Nat.le_max_left _ _
    · have h := ih (c + (c + 768) / 4)
      refine Nat.le_trans h ?_
      have : c + (c + 768) / 4 ≤ L + (L + 768) / 4 := by omega
      have e1 := Nat.le_max_right c (L + (L + 768) / 4)
      exact Nat.max_le.2 ⟨Nat.le_trans this e1, e1⟩

theorem nextcap_le {L c : Nat} (h : c < L) : Builtin.nextslicecap L c ≤ 2 * L + 1000 := by
  unfold Builtin.nextslicecap
  split
  · omega
  · split
    · omega
    · have := growBy_le L 4 c
      have e : Nat.max c (L + (L + 768) / 4) ≤ 2 * L + 1000 := Nat.max_le.2 ⟨by omega, by omega⟩
      omega

section
variable {P : Program}

/-- the cells of a slice's first elements -/
theorem run_firstCells {w : World} {A : Option Addr} {n c sz : Nat} {Vs : List Value} (hlen : Vs.length = n * sz) (h : n ≠ 0 → ∃ A', A = some A' ∧ ∀ j v, Vs[j]? = some v → w.cell? (A'.add j) = some v) :
    (Builtin.firstCells sz n (.slice A n c)).run P w = .ok Vs.toArray w := by
  by_cases hn : n = 0
  · subst hn
    have : Vs = [] := by cases Vs <;> simp_all
    subst this
    cases A <;> simp [Builtin.firstCells, loadCells, loadCellsFrom]
  · obtain ⟨A', rfl, h'⟩ := h hn
    have := run_loadCells_list (P := P) w A' Vs h'
    rw [hlen] at this
    simp [Builtin.firstCells, this]

theorem append_run {w : World} {t1 t2 ty e e2 : TypeId} {ie : TypeInfo} {Z : Value} (hu1 : P.underlying t1 = some (.slice e)) (hu2 : P.underlying t2 = some (.slice e2)) (hi : P.info? e = some ie) (hz : ie.zero = some Z)
    (hzs : Z.cells.size = ie.size) (hb : ie.bytes ≤ 100000) {A A2 : Option Addr} {n m c c2 : Nat} {Vs New : List Value} (hm : 0 < m) (hnm : n + m ≤ 1000000)
    (hVs : Vs.length = n * ie.size) (hNew : New.length = m * ie.size) (hone : ∀ v ∈ New, v.oneCell' = true)
    (hold : c ≠ 0 → ∃ rb rest ty' fz, A = some ⟨rb, 0, none⟩ ∧ w.heap[rb]? = some (.cells (Vs ++ rest).toArray ty' fz) ∧ (Vs ++ rest).length = c * ie.size ∧ (fz.2 = 0 ∨ (Vs ++ rest).length ≤ fz.1))
    (h0 : c = 0 → n = 0)
    (hnew : ∃ A', A2 = some A' ∧ ∀ j v, New[j]? = some v → w.cell? (A'.add j) = some v) :
    (∃ rb rest ty' fz w', c ≠ 0 ∧ n + m ≤ c ∧ A = some ⟨rb, 0, none⟩ ∧ w.heap[rb]? = some (.cells (Vs ++ rest).toArray ty' fz) ∧ (Vs ++ rest).length = c * ie.size ∧ (fz.2 = 0 ∨ (Vs ++ rest).length ≤ fz.1) ∧
        (Builtin.append_ #[t1, t2] ty #[.slice A n c, .slice A2 m c2]).run P w = .ok (.slice A (n + m) c) w' ∧
        HeapUpd w w' rb (.cells (Vs ++ New ++ rest.drop New.length).toArray ty' fz)) ∨
    (∃ newCap rest w', n + m ≤ newCap ∧ (Vs ++ New ++ rest).length = newCap * ie.size ∧
        (Builtin.append_ #[t1, t2] ty #[.slice A n c, .slice A2 m c2]).run P w = .ok (.slice (some ⟨w.heap.size, 0, none⟩) (n + m) newCap) w' ∧
        w'.heap = w.heap.push (.cells (Vs ++ New ++ rest).toArray e (0, 0)) ∧ w'.os = w.os ∧ w'.output = w.output) := by
  have hsz : ∀ w, (sizeOf e).run P w = .ok ie.size w := fun w => by simp [sizeOf, typeInfo, hi]
  have hty : ∀ w, (typeInfo e).run P w = .ok ie w := fun w => by simp [typeInfo, hi]
  obtain ⟨A2', rfl, hnew⟩ := hnew
  have hfn : ∀ w' : World, w'.heap = w.heap → (Builtin.firstCells ie.size m (.slice (some A2') m c2)).run P w' = .ok New.toArray w' := fun w' hw' =>
    run_firstCells hNew (fun _ => ⟨A2', rfl, fun j v hv => by rw [← hnew j v hv]; exact cell?_congr (by rw [hw'])⟩)
  by_cases hc : n + m ≤ c
  · left
    have hn : c ≠ 0 := by omega
    obtain ⟨rb, rest, ty', fz, rfl, g1, g2, g3⟩ := hold hn
    have hfit : n * ie.size + m * ie.size ≤ c * ie.size := by rw [← Nat.add_mul]; exact Nat.mul_le_mul_right _ hc
    obtain ⟨w', r1, r2⟩ := run_storeCells (P := P) (rb := rb) (off := n * ie.size) (t := ty') (fz := fz) New 0 (Vs ++ rest) w g1 (by omega) hone g3
    have hput : lput (Vs ++ rest) (n * ie.size + 0) New = Vs ++ New ++ rest.drop New.length := by
      have key : ∀ (new l r : List Value), new.length ≤ r.length → lput (l ++ r) l.length new = l ++ new ++ r.drop new.length := by
        intro new
        induction new with
        | nil => intro l r _; simp [lput]
        | cons y new ih =>
          intro l r hlen
          cases r with
          | nil => simp at hlen
          | cons x r =>
            simp only [List.length_cons] at hlen
            have e : lset (l ++ x :: r) l.length y = (l ++ [y]) ++ r := by rw [lset_eq]; simp
            simp only [lput, e]
            have := ih (l ++ [y]) r (by omega)
            simp only [List.length_append, List.length_cons, List.length_nil, Nat.zero_add] at this
            rw [this]
            simp
      rw [Nat.add_zero, ← hVs]
      refine key New Vs rest ?_
      simp only [List.length_append] at g2
      omega
    rw [hput] at r2
    refine ⟨rb, rest, ty', fz, w', hn, hc, rfl, g1, g2, g3, ?_, r2⟩
    have hcl := hfn w rfl
    simp [Builtin.append_, run_underlying hu1, run_underlying hu2, hsz, Builtin.lenOf, hc, hcl, addr_add, r1]
  · right
    have hlt : c < n + m := by omega
    have hcap := nextcap_le hlt
    have c2' : ¬ (Builtin.nextslicecap (n + m) c * ie.bytes > 2 ^ 48) := by
      have := Nat.mul_le_mul hcap hb
      have e : (2 * (n + m) + 1000) * 100000 ≤ 2001000 * 100000 := Nat.mul_le_mul_right _ (by omega)
      omega
    have hfo : ∀ w' : World, w'.heap = w.heap → (Builtin.firstCells ie.size n (.slice A n c)).run P w' = .ok Vs.toArray w' := fun w' hw' => by
      refine run_firstCells hVs fun hn => ?_
      obtain ⟨rb, rest, ty', fz, rfl, g1, g2, g3⟩ := hold (fun hc => hn (h0 hc))
      refine ⟨_, rfl, fun j v hv => ?_⟩
      rw [addr_add, cell_of_obj (cs := Vs ++ rest) (by rw [hw']; exact g1), Nat.zero_add, List.getElem?_append_left (List.getElem?_eq_some_iff.1 hv).1, hv]
    have hq : (Question.appendCap (n + m) c e).forced = false := rfl
    obtain ⟨newCap, hnc, hnc2⟩ : ∃ newCap, (Question.appendCap (n + m) c e).cut (w.tape w.drawn (.appendCap (n + m) c e)) = newCap ∧ n + m ≤ newCap := ⟨_, rfl, by simp [Question.cut]⟩
    refine ⟨newCap, (Builtin.zeroCells Z.cells (newCap - (n + m))).toList, { w with drawn := w.drawn + 1, heap := w.heap.push (.cells (Vs ++ New ++ (Builtin.zeroCells Z.cells (newCap - (n + m))).toList).toArray e (0, 0)) }, hnc2, ?_, ?_, rfl, rfl, rfl⟩
    · simp only [List.length_append, hVs, hNew, Builtin.zeroCells, Array.length_toList, Array.size_map, Array.size_range, hzs]
      rw [← Nat.add_mul, ← Nat.add_mul]
      congr 1; omega
    · have hzv : ∀ w, (zeroValue e).run P w = .ok Z w := fun w => by simp [zeroValue, typeInfo, hi, hz]
      simp only [Builtin.append_, List.getElem?_toArray, List.getElem?_cons_zero, List.getElem?_cons_succ, Sem.run_bind, run_underlying hu1, run_underlying hu2, Result.andThen_ok, hsz, Sem.run_pure]
      have k1 := hfo w.drew rfl
      have k2 := hfn w.drew rfl
      have c1' : ¬ (9223372036854775807 < (n : Int) + (m : Int) ∧ ie.bytes = 0) := by omega
      simp [Builtin.lenOf, hc, hty, c2', hq, hnc, hzv, newRow]
      rw [if_neg c1', k1, Result.andThen_ok, k2, Result.andThen_ok]
      have e : (Vs.toArray ++ (New.toArray ++ Builtin.zeroCells Z.cells (newCap - (n + m)))) = (Vs ++ (New ++ (Builtin.zeroCells Z.cells (newCap - (n + m))).toList)).toArray := by
        apply Array.toList_inj.1; simp
      rw [e]
      rfl

end
end Go.Proofs.Sx
