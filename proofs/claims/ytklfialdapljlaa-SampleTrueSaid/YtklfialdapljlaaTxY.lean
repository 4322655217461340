/- The program's head, by words. -/
import Derived.Test.YtklfialdapljlaaProg
import Derived.KernelRfl
import Derived.JoinedOf
namespace Go.Proofs.Tx
open Go
set_option maxRecDepth 100000

def chars (l : List Nat) : List Char := l.map Char.ofNat
def sp : Char := Char.ofNat 32
def headA : List Char := chars [104, 97, 114, 110, 101, 115, 115]
def headB : List Char := chars [50, 52, 54, 48, 49, 101, 55, 97, 52, 50, 54, 54, 98, 57, 102, 97, 98, 100, 101, 50, 50, 102, 49, 54, 53, 51, 100, 56, 55, 97, 57, 56, 101, 102, 55, 54, 50, 100, 99, 57, 102, 52, 53, 52, 100, 54, 52, 54, 100, 48, 101, 101, 57, 97, 57, 48, 51, 53, 52, 49, 100, 48, 53, 51]
def headC : List Char := chars [99, 117, 116]
def headR : List Char := chars [97, 116, 32, 97, 110, 97, 108, 101, 109, 109, 97, 47, 97, 110, 97, 108, 101, 109, 109, 97, 108, 97, 119, 48, 57, 46, 68, 114, 105, 102, 116, 83, 112, 111, 105, 108, 116, 32, 97, 110, 97, 108, 101, 109, 109, 97, 47, 97, 110, 97, 108, 101, 109, 109, 97, 108, 97, 119, 48, 57, 46, 68, 114, 105, 102, 116, 84, 117, 114, 110, 115, 32, 97, 110, 97, 108, 101, 109, 109, 97, 47, 97, 110, 97, 108, 101, 109, 109, 97, 108, 97, 119, 48, 57, 46, 68, 114, 105, 102, 116, 67, 117, 116, 115, 32, 97, 110, 97, 108, 101, 109, 109, 97, 47, 97, 110, 97, 108, 101, 109, 109, 97, 108, 97, 119, 49, 48, 46, 83, 101, 116, 117, 112, 67, 104, 101, 99, 107, 115, 32, 97, 110, 97, 108, 101, 109, 109, 97, 47, 97, 110, 97, 108, 101, 109, 109, 97, 108, 97, 119, 49, 56, 46, 67, 111, 109, 98, 105, 110, 101, 87, 105, 116, 104, 105, 110, 32, 97, 110, 97, 108, 101, 109, 109, 97, 47, 97, 110, 97, 108, 101, 109, 109, 97, 108, 97, 119, 49, 56, 46, 67, 111, 109, 98, 105, 110, 101, 78, 101, 97, 114, 32, 97, 110, 97, 108, 101, 109, 109, 97, 47, 97, 110, 97, 108, 101, 109, 109, 97, 108, 97, 119, 49, 56, 46, 67, 111, 109, 98, 105, 110, 101, 77, 101, 97, 110, 115, 32, 97, 110, 97, 108, 101, 109, 109, 97, 47, 97, 110, 97, 108, 101, 109, 109, 97, 108, 97, 119, 49, 50, 46, 67, 104, 101, 99, 107, 115, 70, 111, 114, 103, 101, 100, 32, 97, 110, 97, 108, 101, 109, 109, 97, 47, 97, 110, 97, 108, 101, 109, 109, 97, 108, 97, 119, 49, 50, 46, 67, 104, 101, 99, 107, 115, 84, 119, 105, 99, 101, 32, 97, 110, 97, 108, 101, 109, 109, 97, 47, 97, 110, 97, 108, 101, 109, 109, 97, 108, 97, 119, 49, 50, 46, 67, 104, 101, 99, 107, 115, 67, 111, 117, 110, 116, 115, 32, 97, 110, 97, 108, 101, 109, 109, 97, 47, 97, 110, 97, 108, 101, 109, 109, 97, 108, 97, 119, 49, 50, 46, 67, 104, 101, 99, 107, 115, 79, 114, 100, 101, 114, 32, 97, 110, 97, 108, 101, 109, 109, 97, 47, 97, 110, 97, 108, 101, 109, 109, 97, 108, 97, 119, 50, 48, 46, 80, 97, 99, 101, 82, 117, 110, 115, 32, 97, 110, 97, 108, 101, 109, 109, 97, 47, 97, 110, 97, 108, 101, 109, 109, 97, 108, 97, 119, 49, 49, 46, 82, 101, 97, 99, 104, 67, 111, 117, 110, 116, 115, 32, 97, 110, 97, 108, 101, 109, 109, 97, 47, 97, 110, 97, 108, 101, 109, 109, 97, 108, 97, 119, 49, 56, 46, 67, 111, 109, 98, 105, 110, 101, 84, 101, 108, 108, 115, 32, 97, 110, 97, 108, 101, 109, 109, 97, 47, 97, 110, 97, 108, 101, 109, 109, 97, 108, 97, 119, 49, 53, 46, 82, 111, 111, 116, 100, 84, 101, 108, 108, 115, 32, 97, 110, 97, 108, 101, 109, 109, 97, 47, 97, 110, 97, 108, 101, 109, 109, 97, 108, 97, 119, 49, 51, 46, 83, 97, 109, 112, 108, 101, 77, 97, 107, 101, 115, 32, 97, 110, 97, 108, 101, 109, 109, 97, 47, 97, 110, 97, 108, 101, 109, 109, 97, 108, 97, 119, 49, 51, 46, 83, 97, 109, 112, 108, 101, 84, 114, 117, 101, 32, 97, 110, 97, 108, 101, 109, 109, 97, 47, 97, 110, 97, 108, 101, 109, 109, 97, 108, 97, 119, 49, 56, 46, 67, 111, 109, 98, 105, 110, 101, 83, 116, 97, 121, 115, 32, 97, 110, 97, 108, 101, 109, 109, 97, 47, 97, 110, 97, 108, 101, 109, 109, 97, 108, 97, 119, 49, 53, 46, 82, 111, 111, 116, 100, 83, 111, 114, 116, 115, 32, 97, 110, 97, 108, 101, 109, 109, 97, 47, 97, 110, 97, 108, 101, 109, 109, 97, 108, 97, 119, 49, 52, 46, 70, 105, 108, 116, 101, 114, 79, 110, 99, 101, 32, 97, 110, 97, 108, 101, 109, 109, 97, 47, 97, 110, 97, 108, 101, 109, 109, 97, 108, 97, 119, 49, 52, 46, 70, 105, 108, 116, 101, 114, 76, 101, 97, 115, 116, 32, 97, 110, 97, 108, 101, 109, 109, 97, 47, 97, 110, 97, 108, 101, 109, 109, 97, 108, 97, 119, 49, 52, 46, 70, 105, 108, 116, 101, 114, 81, 117, 105, 101, 116]

theorem ordS : Try.prog.initOrder = "harness 24601e7a4266b9fabde22f1653d87a98ef762dc9f454d646d0ee9a903541d053 cut at analemma/analemmalaw09.DriftSpoilt analemma/analemmalaw09.DriftTurns analemma/analemmalaw09.DriftCuts analemma/analemmalaw10.SetupChecks analemma/analemmalaw18.CombineWithin analemma/analemmalaw18.CombineNear analemma/analemmalaw18.CombineMeans analemma/analemmalaw12.ChecksForged analemma/analemmalaw12.ChecksTwice analemma/analemmalaw12.ChecksCounts analemma/analemmalaw12.ChecksOrder analemma/analemmalaw20.PaceRuns analemma/analemmalaw11.ReachCounts analemma/analemmalaw18.CombineTells analemma/analemmalaw15.RootdTells analemma/analemmalaw13.SampleMakes analemma/analemmalaw13.SampleTrue analemma/analemmalaw18.CombineStays analemma/analemmalaw15.RootdSorts analemma/analemmalaw14.FilterOnce analemma/analemmalaw14.FilterLeast analemma/analemmalaw14.FilterQuiet" := by kernel_rfl
theorem ordC : "harness 24601e7a4266b9fabde22f1653d87a98ef762dc9f454d646d0ee9a903541d053 cut at analemma/analemmalaw09.DriftSpoilt analemma/analemmalaw09.DriftTurns analemma/analemmalaw09.DriftCuts analemma/analemmalaw10.SetupChecks analemma/analemmalaw18.CombineWithin analemma/analemmalaw18.CombineNear analemma/analemmalaw18.CombineMeans analemma/analemmalaw12.ChecksForged analemma/analemmalaw12.ChecksTwice analemma/analemmalaw12.ChecksCounts analemma/analemmalaw12.ChecksOrder analemma/analemmalaw20.PaceRuns analemma/analemmalaw11.ReachCounts analemma/analemmalaw18.CombineTells analemma/analemmalaw15.RootdTells analemma/analemmalaw13.SampleMakes analemma/analemmalaw13.SampleTrue analemma/analemmalaw18.CombineStays analemma/analemmalaw15.RootdSorts analemma/analemmalaw14.FilterOnce analemma/analemmalaw14.FilterLeast analemma/analemmalaw14.FilterQuiet" = String.ofList (headA ++ sp :: (headB ++ sp :: (headC ++ sp :: headR))) := by kernel_rfl
theorem ordL : Try.prog.initOrder.toList = headA ++ sp :: (headB ++ sp :: (headC ++ sp :: headR)) := by rw [ordS, ordC, String.toList_ofList]

theorem words_word : ∀ (w r : List Char), (w.all fun c => c != sp) = true → wordsSigns (w ++ sp :: r) = w :: wordsSigns r
  | [], r, _ => rfl
  | c :: w, r, h => by
    simp only [List.all_cons, Bool.and_eq_true, bne_iff_ne, ne_eq] at h
    have ih := words_word w r h.2
    rw [List.cons_append]
    rw [wordsSigns.eq_def]
    split
    · rename_i e; cases e
    · rename_i r' e; simp only [List.cons.injEq] at e; exact absurd e.1 h.1
    · rename_i c' r' hne e
      simp only [List.cons.injEq] at e
      obtain ⟨rfl, rfl⟩ := e
      rw [ih]

theorem ordW : wordsSigns Try.prog.initOrder.toList = headA :: headB :: headC :: wordsSigns headR := by
  rw [ordL, words_word _ _ (by kernel_rfl), words_word _ _ (by kernel_rfl), words_word _ _ (by kernel_rfl)]

theorem behind (r : List (List Char)) : behindMainWord (headA :: headB :: headC :: r) = headC :: r := by kernel_rfl
theorem notGc : (headC == "gc".toList) = false := by kernel_rfl
theorem notSpec : (headC == "spec".toList) = false := by kernel_rfl
theorem notCarried : (headC == "carried".toList) = false := by kernel_rfl
theorem isCut : (headC == "cut".toList) = true := by kernel_rfl
theorem isCut' : (some headC == some "cut".toList) = true := by kernel_rfl
theorem noLifts (r : List (List Char)) : stripLifts liftWords (headC :: r) = ([], headC :: r) := by kernel_rfl
theorem noLater : Try.prog.laysLater = false := by kernel_rfl
theorem noReflect : Try.prog.bearsReflect = false := by kernel_rfl
theorem doors : Try.prog.doorFits [] = true := by kernel_rfl

theorem ordB : behindMainWord (wordsSigns Try.prog.initOrder.toList) = headC :: wordsSigns headR := by rw [ordW, behind]

section
variable {P : Program} {c : List Char} {rest : List (List Char)}
theorem make_of (h : behindMainWord (wordsSigns P.initOrder.toList) = c :: rest) (h1 : (c == "gc".toList) = false) (h2 : (c == "spec".toList) = false) (h3 : (c == "cut".toList) = true) : P.make = some .cut := by
  unfold Program.make
  rw [h]
  simp only [h1, h2, h3, Bool.or_self, Bool.true_or, Bool.false_eq_true, if_false, if_true]
theorem enters_of (h : behindMainWord (wordsSigns P.initOrder.toList) = c :: rest) (h1 : (c == "gc".toList) = false) (h2 : (c == "spec".toList) = false) (h3 : (c == "carried".toList) = false) (h4 : (some c == some "cut".toList) = true)
    (h5 : stripLifts liftWords (c :: rest) = ([], c :: rest)) (h6 : P.laysLater = false) (h7 : P.bearsReflect = false) (h8 : P.doorFits [] = true) : P.mayEnter = true := by
  unfold Program.mayEnter
  rw [h]
  simp [h5, h6, h7, h8]
  exact .inr (by simpa using h4)
theorem lifts_of (h : behindMainWord (wordsSigns P.initOrder.toList) = c :: rest) (h3 : (c == "carried".toList) = false) (h5 : stripLifts liftWords (c :: rest) = ([], c :: rest)) : P.liftsFinal = false := by
  unfold Program.liftsFinal Program.headLifts
  simp only [h, h5]
  simp [List.head?]
  intro e
  simp [e] at h3
end

theorem makeCut : Try.prog.make = some .cut := make_of ordB notGc notSpec isCut
theorem enters : Try.prog.mayEnter = true := enters_of ordB notGc notSpec notCarried isCut' (noLifts _) noLater noReflect doors
theorem liftsNot : Try.prog.liftsFinal = false := lifts_of ordB notCarried (noLifts _)
theorem mapsIn : mapsRowed Try.prog = true := by kernel_rfl
theorem keysPlain : Try.prog.plainKeys = true := by kernel_rfl
theorem heard : Try.prog.stopsHeard = true := by kernel_rfl
theorem noStops : (Try.prog.stops == []) = true := by kernel_rfl
theorem noKnobs : (Try.prog.stopKnobs == []) = true := by kernel_rfl
end Go.Proofs.Tx
