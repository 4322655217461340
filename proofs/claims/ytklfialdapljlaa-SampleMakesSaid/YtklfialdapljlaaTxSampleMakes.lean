/- What any four times tell, whatever is set, is the document's sample, or its error: for every input. -/
import Derived.Test.YtklfialdapljlaaRows
import Derived.Test.YtklfialdapljlaaTxP
import Derived.Test.YtklfialdapljlaaTxY
import Derived.ProofKit
namespace Go.Proofs.Ytklfialdapljlaa
open Go Go.ChangeShapes Go.WideShapes Go.ChangeAt Go.RowKit Go.Proofs.Tx

set_option maxRecDepth 100000 in
theorem sampleMakesLifted (os : Os) (started : os.Started) (H : Type) (enc : TypeId × Value → H) :
    ReturnsInHanded {} Try.checked os 18 .any (Rows.sampleMakesSpec.pre6 enc Try.prog Try.f18 Rows.sampleMakesRow.domain false) (Rows.sampleMakesSpec.post enc Try.prog Try.f18 false true false false) := by
  refine returnsInHanded_of_change (C := Try.checked) ownNone started (by kernel_rfl) Try.func18
    (ChangeSpec.witness6 (enc := enc) (C := Try.checked) false ⟨#[], #[.agg #[.int .i64 0, .int .i64 0, .int .i64 0, .int .i64 0, .int .i64 0, .int .i64 0, .int .i64 0, .int .i64 0, .int .i64 0, .int .i64 0, .int .i64 0, .int .i64 0], .int .i64 0, .agg #[.int .i64 0, .int .i64 0, .int .i64 0, .int .i64 0, .int .i64 0, .int .i64 0, .int .u32 0, .int .u32 0, .int .u32 0, .int .u64 0, .int .u64 0, .int .u64 0, .int .u64 0], .int .u64 0, .int .i64 0, .int .i64 0], []⟩ 8 (by kernel_rfl) (by kernel_rfl) (by kernel_rfl) (by kernel_rfl)) ?_
  intro W base args ds gs before hval hW _ _
  exact law_post (m := maxLen) c18 met18 rfl rfl (by kernel_rfl) (by kernel_rfl) (by kernel_rfl) rfl
    (fun H ds hl => by
      have hl : ds.length = 6 := hl.trans (by kernel_rfl)
      match ds, hl with
      | [_, _, _, _, _, _], _ => rfl)
    (fun _ h => h) (fun _ _ h => h) hval hW (fun _ _ _ _ _ _ h => h)

theorem sampleMakesInPlace : (Rows.sampleMakesRow.inPlace == Try.prog.inPlace 18) = true := by kernel_rfl
theorem sampleMakesUnfollowed : (Rows.sampleMakesRow.unfollowed == Try.prog.unfollowed 18) = true := by kernel_rfl
theorem sampleMakesRecurses : (Rows.sampleMakesRow.recurses == Try.prog.recurses 18) = true := by kernel_rfl
theorem sampleMakesNamed : (Rows.sampleMakesRow.named == Try.prog.varsNamed 18) = true := by kernel_rfl
theorem sampleMakesClosed : joinedFacts Try.prog 18 Try.f18 Rows.sampleMakesSpec Rows.sampleMakesRow = true := by
  simp only [joinedFacts, Bool.and_eq_true]
  exact ⟨⟨⟨⟨⟨⟨⟨⟨⟨⟨⟨⟨⟨⟨⟨⟨⟨⟨⟨⟨⟨⟨⟨⟨⟨⟨⟨⟨⟨⟨⟨(by kernel_rfl), laidOut⟩, mapsIn⟩, (by kernel_rfl)⟩, (by kernel_rfl)⟩, (by kernel_rfl)⟩, noStops⟩, (by kernel_rfl)⟩, noKnobs⟩, sampleMakesInPlace⟩, sampleMakesUnfollowed⟩, sampleMakesRecurses⟩, sampleMakesNamed⟩, (by kernel_rfl)⟩, (by kernel_rfl)⟩, (by kernel_rfl)⟩, (by kernel_rfl)⟩, (by kernel_rfl)⟩, (by kernel_rfl)⟩, (by kernel_rfl)⟩, (by kernel_rfl)⟩, (by kernel_rfl)⟩, (by rw [keysPlain]; rfl)⟩, (by kernel_rfl)⟩, heard⟩, enters⟩, (by rw [liftsNot]; rfl)⟩, (by rw [makeCut]; rfl)⟩, (by kernel_rfl)⟩, (by kernel_rfl)⟩, (by kernel_rfl)⟩, (by kernel_rfl)⟩

theorem sampleMakesOver : Rows.sampleMakesRow.holds Try.pinned (OpenSpec.ofChange Rows.sampleMakesSpec) :=
  OpenClaim.holds_of_wide 18 Try.f18 rfl rfl rfl rfl rfl rfl rfl ⟨rfl, rfl, rfl, rfl, rfl⟩ rfl rfl rfl rfl rfl (by kernel_rfl) Try.func18 sampleMakesClosed
    (of_decide_eq_true (by kernel_rfl)) (by unfold Func.isWrapper; first | (rw [if_pos (by decide +kernel)]; kernel_rfl) | (rw [if_neg (by decide +kernel)]; exact ⟨rfl, rfl⟩))
    (fun os started H enc _ => sampleMakesLifted os started H enc)

theorem sampleMakesHolds : Rows.SampleMakesSaid := sampleMakesOver
#print axioms sampleMakesHolds
end Go.Proofs.Ytklfialdapljlaa
