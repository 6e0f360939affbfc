/- Layer 14's Next in the form in which the printed texts take a callee. -/
import Derived.Test.YtgloidibckopiaaDerMany
namespace Go.Proofs.Ytgloidibckopiaa.G
open Go.RowKit Go.Proofs.Ytgloidibckopiaa

def der_Next.f (a0 : ByteArray) : Option (Int × ByteArray × ByteArray × Int) := some (nxTag a0, nxText a0, nxRest a0, nxErr a0)
theorem der_Next.calls (a0 : ByteArray) (r1 : Int) (r2 : ByteArray) (r3 : ByteArray) (r4 : Int) (w : World) (h : der_Next.f a0 = some (r1, r2, r3, r4)) :
    Calls Try.prog 8 #[.string a0] w fun e w' => e = .returned (.tuple #[.agg #[.int .i64 r1, .string r2, .string r3], .int .i64 r4]) ∧ Below w.heap.size w w' := by
  obtain ⟨rfl, rfl, rfl, rfl⟩ : nxTag a0 = r1 ∧ nxText a0 = r2 ∧ nxRest a0 = r3 ∧ nxErr a0 = r4 := by
    simpa [der_Next.f] using h
  exact next_any a0 w
end Go.Proofs.Ytgloidibckopiaa.G
