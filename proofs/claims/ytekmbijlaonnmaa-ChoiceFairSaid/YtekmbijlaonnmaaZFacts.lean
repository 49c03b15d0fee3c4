/-
  Closed facts of the program that every row asks for, each a theorem of its own (the kernel gives its memory back behind each).
-/
import Derived.Test.YtekmbijlaonnmaaRows
import Derived.ProofKit
import Derived.JoinedOf
namespace Go.Proofs.Ytekmbijlaonnmaa.Z
set_option maxRecDepth 100000
theorem ownP : ownKnob Try.prog.godebug = none := by kernel_rfl
theorem laidP : laidOutB Try.prog = true := by kernel_rfl
theorem rowedP : mapsRowed Try.prog = true := by kernel_rfl
theorem stopsP : (Try.prog.stops == []) = true := by kernel_rfl
theorem knobsP : (Try.prog.stopKnobs == []) = true := by kernel_rfl
theorem keysP : (true == Try.prog.plainKeys) = true := by kernel_rfl
theorem heardP : Try.prog.stopsHeard = true := by kernel_rfl
theorem enterP : Try.prog.mayEnter = true := by kernel_rfl
end Go.Proofs.Ytekmbijlaonnmaa.Z
