/- How far any server is, its span, its metric, and whether it is fit, whatever is set, is the document's: for every input. -/
import Derived.Test.YtklfialdapljlaaRows
import Derived.Test.YtklfialdapljlaaTxU
import Derived.Test.YtklfialdapljlaaTxY
import Derived.ProofKit
namespace Go.Proofs.Ytklfialdapljlaa
open Go Go.ChangeShapes Go.WideShapes Go.ChangeAt Go.RowKit Go.Proofs.Tx

set_option maxRecDepth 100000 in
theorem rootdTellsLifted (os : Os) (started : os.Started) (H : Type) (enc : TypeId × Value → H) :
    ReturnsInHanded {} Try.checked os 17 .any (Rows.rootdTellsSpec.pre6 enc Try.prog Try.f17 Rows.rootdTellsRow.domain false) (Rows.rootdTellsSpec.post enc Try.prog Try.f17 false true false false) := by
  refine returnsInHanded_of_change (C := Try.checked) ownNone started (by kernel_rfl) Try.func17
    (ChangeSpec.witness6 (enc := enc) (C := Try.checked) false ⟨#[], #[.agg #[.int .i64 0, .int .i64 0, .int .i64 0, .int .i64 0, .int .i64 0, .int .i64 0, .int .i64 0, .int .i64 0, .int .i64 0, .int .i64 0, .int .i64 0, .int .i64 0], .agg #[.int .i64 0, .int .i64 0, .int .u32 0, .int .i64 0, .int .i64 0, .int .i64 0, .int .i64 0, .int .i64 0, .int .i64 0, .int .i64 0, .int .u8 0], .int .u32 0, .int .i64 0, .int .i64 0], []⟩ 8 (by kernel_rfl) (by kernel_rfl) (by kernel_rfl) (by kernel_rfl)) ?_
  intro W base args ds gs before hval hW _ _
  exact law_post (m := maxLen) c17 met17 rfl rfl (by kernel_rfl) (by kernel_rfl) (by kernel_rfl) rfl
    (fun H ds hl => by
      have hl : ds.length = 5 := hl.trans (by kernel_rfl)
      match ds, hl with
      | [_, _, _, _, _], _ => rfl)
    (fun _ h => h) (fun _ _ h => h) hval hW (fun _ _ _ _ _ _ h => h)

theorem rootdTellsInPlace : (Rows.rootdTellsRow.inPlace == Try.prog.inPlace 17) = true := by kernel_rfl
theorem rootdTellsUnfollowed : (Rows.rootdTellsRow.unfollowed == Try.prog.unfollowed 17) = true := by kernel_rfl
theorem rootdTellsRecurses : (Rows.rootdTellsRow.recurses == Try.prog.recurses 17) = true := by kernel_rfl
theorem rootdTellsNamed : (Rows.rootdTellsRow.named == Try.prog.varsNamed 17) = true := by kernel_rfl
theorem rootdTellsClosed : joinedFacts Try.prog 17 Try.f17 Rows.rootdTellsSpec Rows.rootdTellsRow = true := by
  simp only [joinedFacts, Bool.and_eq_true]
  exact ⟨⟨⟨⟨⟨⟨⟨⟨⟨⟨⟨⟨⟨⟨⟨⟨⟨⟨⟨⟨⟨⟨⟨⟨⟨⟨⟨⟨⟨⟨⟨(by kernel_rfl), laidOut⟩, mapsIn⟩, (by kernel_rfl)⟩, (by kernel_rfl)⟩, (by kernel_rfl)⟩, noStops⟩, (by kernel_rfl)⟩, noKnobs⟩, rootdTellsInPlace⟩, rootdTellsUnfollowed⟩, rootdTellsRecurses⟩, rootdTellsNamed⟩, (by kernel_rfl)⟩, (by kernel_rfl)⟩, (by kernel_rfl)⟩, (by kernel_rfl)⟩, (by kernel_rfl)⟩, (by kernel_rfl)⟩, (by kernel_rfl)⟩, (by kernel_rfl)⟩, (by kernel_rfl)⟩, (by rw [keysPlain]; rfl)⟩, (by kernel_rfl)⟩, heard⟩, enters⟩, (by rw [liftsNot]; rfl)⟩, (by rw [makeCut]; rfl)⟩, (by kernel_rfl)⟩, (by kernel_rfl)⟩, (by kernel_rfl)⟩, (by kernel_rfl)⟩

theorem rootdTellsOver : Rows.rootdTellsRow.holds Try.pinned (OpenSpec.ofChange Rows.rootdTellsSpec) :=
  OpenClaim.holds_of_wide 17 Try.f17 rfl rfl rfl rfl rfl rfl rfl ⟨rfl, rfl, rfl, rfl, rfl⟩ rfl rfl rfl rfl rfl (by kernel_rfl) Try.func17 rootdTellsClosed
    (of_decide_eq_true (by kernel_rfl)) (by unfold Func.isWrapper; first | (rw [if_pos (by decide +kernel)]; kernel_rfl) | (rw [if_neg (by decide +kernel)]; exact ⟨rfl, rfl⟩))
    (fun os started H enc _ => rootdTellsLifted os started H enc)

theorem rootdTellsHolds : Rows.RootdTellsSaid := rootdTellsOver
#print axioms rootdTellsHolds
end Go.Proofs.Ytklfialdapljlaa
