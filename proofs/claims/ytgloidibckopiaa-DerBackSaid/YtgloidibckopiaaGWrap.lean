/- Layer 14's Wrap in the form in which the printed texts take a callee. -/
import Derived.Test.YtgloidibckopiaaDerWrap
namespace Go.Proofs.Ytgloidibckopiaa.G
open Go.RowKit Go.Proofs.Ytgloidibckopiaa

def der_Wrap.f (a0 : Int) (a1 : ByteArray) : Option (ByteArray × Int) := some (wrapV a0 a1, wrapE a0 a1.size)
theorem der_Wrap.calls (a0 : Int) (a1 : ByteArray) (r1 : ByteArray) (r2 : Int) (w : World) (h : der_Wrap.f a0 a1 = some (r1, r2)) :
    Calls Try.prog 10 #[.int .i64 a0, .string a1] w fun e w' => e = .returned (.tuple #[.string r1, .int .i64 r2]) ∧ Below w.heap.size w w' := by
  obtain ⟨rfl, rfl⟩ : wrapV a0 a1 = r1 ∧ wrapE a0 a1.size = r2 := by
    simpa [der_Wrap.f] using h
  exact wrap_any a0 a1 w
end Go.Proofs.Ytgloidibckopiaa.G
