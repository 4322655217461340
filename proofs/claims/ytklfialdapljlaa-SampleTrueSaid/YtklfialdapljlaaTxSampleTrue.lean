/- Whatever the ways there and back take, and however long the server stays, its true offset is no further from what is told than half of the delay that is told, and lies in the span: for every input. -/
import Derived.Test.YtklfialdapljlaaRows
import Derived.Test.YtklfialdapljlaaTxW
import Derived.Test.YtklfialdapljlaaTxY
import Derived.ProofKit
namespace Go.Proofs.Ytklfialdapljlaa
open Go Go.ChangeShapes Go.WideShapes Go.ChangeAt Go.RowKit Go.Proofs.Tx

set_option maxRecDepth 100000 in
theorem sampleTrueLifted (os : Os) (started : os.Started) (H : Type) (enc : TypeId × Value → H) :
    ReturnsInHanded {} Try.checked os 19 .any (Rows.sampleTrueSpec.pre6 enc Try.prog Try.f19 Rows.sampleTrueRow.domain false) (Rows.sampleTrueSpec.post enc Try.prog Try.f19 false true false false) := by
  refine returnsInHanded_of_change (C := Try.checked) ownNone started (by kernel_rfl) Try.func19
    (ChangeSpec.witness6 (enc := enc) (C := Try.checked) false ⟨#[], #[.int .u64 0, .int .i32 0, .int .u32 0, .int .u32 0, .int .u32 0, .int .i8 0], []⟩ 8 (by kernel_rfl) (by kernel_rfl) (by kernel_rfl) (by kernel_rfl)) ?_
  intro W base args ds gs before hval hW _ _
  exact law_post (m := maxLen) c19 met19 rfl rfl (by kernel_rfl) (by kernel_rfl) (by kernel_rfl) rfl
    (fun H ds hl => by
      have hl : ds.length = 6 := hl.trans (by kernel_rfl)
      match ds, hl with
      | [_, _, _, _, _, _], _ => rfl)
    (fun _ h => h) (fun _ _ h => h) hval hW (fun _ _ _ _ _ _ h => h)

theorem sampleTrueInPlace : (Rows.sampleTrueRow.inPlace == Try.prog.inPlace 19) = true := by kernel_rfl
theorem sampleTrueUnfollowed : (Rows.sampleTrueRow.unfollowed == Try.prog.unfollowed 19) = true := by kernel_rfl
theorem sampleTrueRecurses : (Rows.sampleTrueRow.recurses == Try.prog.recurses 19) = true := by kernel_rfl
theorem sampleTrueNamed : (Rows.sampleTrueRow.named == Try.prog.varsNamed 19) = true := by kernel_rfl
theorem sampleTrueClosed : joinedFacts Try.prog 19 Try.f19 Rows.sampleTrueSpec Rows.sampleTrueRow = true := by
  simp only [joinedFacts, Bool.and_eq_true]
  exact ⟨⟨⟨⟨⟨⟨⟨⟨⟨⟨⟨⟨⟨⟨⟨⟨⟨⟨⟨⟨⟨⟨⟨⟨⟨⟨⟨⟨⟨⟨⟨(by kernel_rfl), laidOut⟩, mapsIn⟩, (by kernel_rfl)⟩, (by kernel_rfl)⟩, (by kernel_rfl)⟩, noStops⟩, (by kernel_rfl)⟩, noKnobs⟩, sampleTrueInPlace⟩, sampleTrueUnfollowed⟩, sampleTrueRecurses⟩, sampleTrueNamed⟩, (by kernel_rfl)⟩, (by kernel_rfl)⟩, (by kernel_rfl)⟩, (by kernel_rfl)⟩, (by kernel_rfl)⟩, (by kernel_rfl)⟩, (by kernel_rfl)⟩, (by kernel_rfl)⟩, (by kernel_rfl)⟩, (by rw [keysPlain]; rfl)⟩, (by kernel_rfl)⟩, heard⟩, enters⟩, (by rw [liftsNot]; rfl)⟩, (by rw [makeCut]; rfl)⟩, (by kernel_rfl)⟩, (by kernel_rfl)⟩, (by kernel_rfl)⟩, (by kernel_rfl)⟩

theorem sampleTrueOver : Rows.sampleTrueRow.holds Try.pinned (OpenSpec.ofChange Rows.sampleTrueSpec) :=
  OpenClaim.holds_of_wide 19 Try.f19 rfl rfl rfl rfl rfl rfl rfl ⟨rfl, rfl, rfl, rfl, rfl⟩ rfl rfl rfl rfl rfl (by kernel_rfl) Try.func19 sampleTrueClosed
    (of_decide_eq_true (by kernel_rfl)) (by unfold Func.isWrapper; first | (rw [if_pos (by decide +kernel)]; kernel_rfl) | (rw [if_neg (by decide +kernel)]; exact ⟨rfl, rfl⟩))
    (fun os started H enc _ => sampleTrueLifted os started H enc)

theorem sampleTrueHolds : Rows.SampleTrueSaid := sampleTrueOver
#print axioms sampleTrueHolds
end Go.Proofs.Ytklfialdapljlaa
