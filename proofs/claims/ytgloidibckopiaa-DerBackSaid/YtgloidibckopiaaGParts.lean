/- Layer 14's Parts in the form in which the printed texts take a callee. -/
import Derived.Test.YtgloidibckopiaaDerParts
import Derived.Test.YtgloidibckopiaaGx0
namespace Go.Proofs.Ytgloidibckopiaa.G
open Go.RowKit Go.Proofs.Ytgloidibckopiaa Go.Proofs.YtgloidibckopiaaW.PrintWords Go.Proofs.YtgloidibckopiaaW.PrintLast

def it (x : ByteArray) : S24 := ⟨nxTag x, nxText x, nxRest x⟩
def der_Parts.f (a0 : ByteArray) : Option (List S24 × Int) := some ((partsR [] (chain a0)).1.map it, (partsR [] (chain a0)).2)

theorem it_reps (w : World) (base : Nat) (ok : Nat → Prop) (xs : List ByteArray) : Reps (k24.M w base ok) 3 (xs.map it) (itRow xs) := by
  have key : ∀ (xs p : List ByteArray), Reps (k24.M w base ok) 3 (p.map it) (itRow p) → Reps (k24.M w base ok) 3 ((p ++ xs).map it) (itRow (p ++ xs)) := by
    intro xs
    induction xs with
    | nil => intro p h; simpa using h
    | cons x r ih =>
      intro p h
      have := ih (p ++ [x]) (by
        rw [List.map_append, itRow_snoc]
        exact h.snoc (k24_mkM w base ok (it x)) rfl)
      simpa using this
  exact key xs [] (Reps.none _ _)
theorem der_Parts.calls (a0 : ByteArray) (r1 : List S24) (r2 : Int) (w : World) (h : der_Parts.f a0 = some (r1, r2)) :
    Calls Try.prog 12 #[.string a0] w fun e w' => ∃ v0_ : Value, e = .returned (.tuple #[v0_, .int .i64 r2]) ∧ Kd.R k24 24 w' w.heap.size (fun _ => True) v0_ r1 ∧ Below w.heap.size w w' := by
  obtain ⟨rfl, rfl⟩ : (partsR [] (chain a0)).1.map it = r1 ∧ (partsR [] (chain a0)).2 = r2 := by
    simpa [der_Parts.f] using h
  refine (parts_any a0 w).mono ?_
  rintro e w' ⟨v, rfl, hrow, hb⟩
  refine ⟨v, rfl, ⟨fun _ _ => trivial, itRow (partsR [] (chain a0)).1, by rw [List.length_map]; exact hrow, it_reps _ _ _ _⟩, hb⟩
end Go.Proofs.Ytgloidibckopiaa.G
