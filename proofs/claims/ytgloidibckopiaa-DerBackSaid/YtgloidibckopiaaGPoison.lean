/- The law's poison in the form in which the printed texts take a callee. -/
import Derived.Test.YtgloidibckopiaaGx2
import Derived.Test.YtgloidibckopiaaGx0
import Derived.Lib.Hide
namespace Go.Proofs.Ytgloidibckopiaa.G
open Go.RowKit Go.Proofs.YtgloidibckopiaaW.PrintWords Go.Proofs.YtgloidibckopiaaW.PrintLast
attribute [local irreducible] Calls

def poisonV : ByteArray := ⟨#[48, 19, 6, 10, 43, 6, 1, 4, 1, 214, 121, 2, 4, 3, 1, 1, 255, 4, 2, 5, 0]⟩
theorem item1 : engrosserlaw14_item.f 1 ⟨#[255]⟩ = some ⟨#[1, 1, 255]⟩ := by decide +kernel
theorem item2 : engrosserlaw14_item.f 4 ⟨#[5, 0]⟩ = some ⟨#[4, 2, 5, 0]⟩ := by decide +kernel
theorem item3 : engrosserlaw14_item.f 48 ⟨#[6, 10, 43, 6, 1, 4, 1, 214, 121, 2, 4, 3, 1, 1, 255, 4, 2, 5, 0]⟩ = some poisonV := by decide +kernel
def engrosserlaw14_poison.f : Option ByteArray := some poisonV
set_option maxRecDepth 100000 in
theorem engrosserlaw14_poison.calls (r : ByteArray) (w : World) (h : engrosserlaw14_poison.f = some r) :
    Calls Try.prog 15 #[] w fun e w' => e = .returned (.string r) ∧ Below w.heap.size w w' := by
  obtain rfl : poisonV = r := by simpa [engrosserlaw14_poison.f] using h
  clear h
  go_enter Try.func15, Try.ntmps15
  go_wp2_with fail
  refine (engrosserlaw14_item.calls _ _ _ _ item1).mono ?_
  rintro e w1 ⟨rfl, h1⟩
  go_wp2_with fail
  refine (engrosserlaw14_item.calls _ _ _ _ item2).mono ?_
  rintro e w2 ⟨rfl, h2⟩
  have hz : ((⟨#[6, 10, 43, 6, 1, 4, 1, 214, 121, 2, 4, 3]⟩ : ByteArray) ++ ⟨#[1, 1, 255]⟩).size = 15 := by decide +kernel
  have hz2 : (⟨#[4, 2, 5, 0]⟩ : ByteArray).size = 4 := rfl
  have he : ((⟨#[6, 10, 43, 6, 1, 4, 1, 214, 121, 2, 4, 3]⟩ : ByteArray) ++ ⟨#[1, 1, 255]⟩) ++ ⟨#[4, 2, 5, 0]⟩ = ⟨#[6, 10, 43, 6, 1, 4, 1, 214, 121, 2, 4, 3, 1, 1, 255, 4, 2, 5, 0]⟩ := by decide +kernel
  go_wp2_with fail
  refine (engrosserlaw14_item.calls _ _ _ _ item3).mono ?_
  rintro e w3 ⟨rfl, h3⟩
  go_wp2_with fail
  go_ret
  exact ⟨rfl, (h1.trans (h2.mono h1.size)).trans (h3.mono (Nat.le_trans h1.size h2.size))⟩
end Go.Proofs.Ytgloidibckopiaa.G
