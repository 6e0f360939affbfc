/- Items one behind the other, each known: what Parts makes of them; a piece of an item is none. Plain Lean. -/
import Derived.Test.YtgloidibckopiaaGParts
import Derived.Test.YtgloidibckopiaaDerTurns
namespace Go.Proofs.Ytgloidibckopiaa.G
open Go.RowKit Go.Proofs.Ytgloidibckopiaa Go.Proofs.YtgloidibckopiaaW.PrintWords

def fineP (p : Nat × List UInt8) : Prop := p.1 ≤ 255 ∧ ¬ p.1 % 32 = 31 ∧ p.2.length < 16777216
def catP (P : List (Nat × List UInt8)) : List UInt8 := P.flatMap fun p => wrapL p.1 p.2
def sufP : List (Nat × List UInt8) → List ByteArray
  | [] => []
  | p :: r => ⟨(catP (p :: r)).toArray⟩ :: sufP r
theorem catP_cons (p : Nat × List UInt8) (r : List (Nat × List UInt8)) : catP (p :: r) = wrapL p.1 p.2 ++ catP r := rfl
theorem sufP_length (P : List (Nat × List UInt8)) : (sufP P).length = P.length := by
  induction P with
  | nil => rfl
  | cons p r ih => simp [sufP, ih]
theorem sufP_ok (P : List (Nat × List UInt8)) (h : ∀ p ∈ P, fineP p) : ∀ x ∈ sufP P, nx x ≠ none := by
  induction P with
  | nil => intro x hx; cases hx
  | cons p r ih =>
    intro x hx
    rcases List.mem_cons.1 hx with rfl | hx
    · obtain ⟨h1, h2, h3⟩ := h p (by simp)
      rw [catP_cons, nx_wrapL p.1 p.2 (catP r) h1 h2 h3]
      simp
    · exact ih (fun q hq => h q (by simp [hq])) x hx
theorem chain_catP (P : List (Nat × List UInt8)) (h : ∀ p ∈ P, fineP p) : chain ⟨(catP P).toArray⟩ = sufP P := by
  induction P with
  | nil => exact chain_empty rfl
  | cons p r ih =>
    obtain ⟨h1, h2, h3⟩ := h p (by simp)
    have hz : ¬ (⟨(catP (p :: r)).toArray⟩ : ByteArray).size = 0 := by
      rw [mk_size, catP_cons]
      simp [wrapL]
    rw [sufP, chain_ok hz (by rw [catP_cons, nx_wrapL p.1 p.2 (catP r) h1 h2 h3]; simp)]
    congr 1
    rw [catP_cons, (nx_wrapL_parts p.1 p.2 (catP r) h1 h2 h3).2.2.1]
    exact ih (fun q hq => h q (by simp [hq]))
theorem parts_catP (P : List (Nat × List UInt8)) (h : ∀ p ∈ P, fineP p) (hl : P.length ≤ 100) : der_Parts.f ⟨(catP P).toArray⟩ = some ((sufP P).map it, 0) := by
  have := partsR_ok (sufP P) [] (sufP_ok P h) (by rw [List.nil_append, sufP_length]; exact hl)
  rw [List.nil_append] at this
  rw [der_Parts.f, chain_catP P h, this]
theorem sufP_at (P : List (Nat × List UInt8)) (h : ∀ p ∈ P, fineP p) : ∀ (i : Nat) (hi : i < P.length), (it ((sufP P)[i]'(by rw [sufP_length]; exact hi))).f0 = (P[i].1 : Int) ∧ (it ((sufP P)[i]'(by rw [sufP_length]; exact hi))).f1 = ⟨P[i].2.toArray⟩ := by
  induction P with
  | nil => intro i hi; simp at hi
  | cons p r ih =>
    intro i hi
    cases i with
    | zero =>
      obtain ⟨h1, h2, h3⟩ := h p (by simp)
      obtain ⟨p1, p2, _, _⟩ := nx_wrapL_parts p.1 p.2 (catP r) h1 h2 h3
      exact ⟨p1, p2⟩
    | succ i => exact ih (fun q hq => h q (by simp [hq])) i (by simpa using hi)
theorem rd_sufP (P : List (Nat × List UInt8)) (h : ∀ p ∈ P, fineP p) (i : Nat) (hi : i < P.length) : (rd_T24 ((sufP P).map it) (i : Int)).f0 = (P[i].1 : Int) ∧ (rd_T24 ((sufP P).map it) (i : Int)).f1 = ⟨P[i].2.toArray⟩ := by
  have hl : i < (sufP P).length := by rw [sufP_length]; exact hi
  have : rd_T24 ((sufP P).map it) (i : Int) = it ((sufP P)[i]) := by simp [rd_T24, hl]
  rw [this]
  exact sufP_at P h i hi

/-- a piece of an item, cut anywhere, is none -/
theorem nx_piece (tag : Nat) (l : List UInt8) (ht : tag ≤ 255) (h31 : ¬ tag % 32 = 31) (hn : l.length < 16777216) (m : Nat) (hm : m < (wrapL tag l).length) : nx ⟨((wrapL tag l).take m).toArray⟩ = none := by
  cases hx : nx ⟨((wrapL tag l).take m).toArray⟩ with
  | none => rfl
  | some p =>
    exfalso
    obtain ⟨a, n⟩ := p
    obtain ⟨h1, h2, h3, h4⟩ := nx_turn hx
    rw [mk_list] at h1
    have hb := byteAt_lt ⟨((wrapL tag l).take m).toArray⟩ 0
    generalize byteAt ⟨((wrapL tag l).take m).toArray⟩ 0 = B at *
    generalize hT : (nxText ⟨((wrapL tag l).take m).toArray⟩) = T at *
    generalize (nxRest ⟨((wrapL tag l).take m).toArray⟩) = R at *
    have hTl : T.data.toList.length = n := by rw [← size_list]; exact h2
    have whole : wrapL tag l ++ [] = wrapL B T.data.toList ++ (R.data.toList ++ (wrapL tag l).drop m) := by
      rw [← List.append_assoc, ← h1, List.take_append_drop, List.append_nil]
    have e1 := nx_wrapL tag l [] ht h31 hn
    have e2 := nx_wrapL B T.data.toList (R.data.toList ++ (wrapL tag l).drop m) (by omega) h4 (by omega)
    rw [whole, e2] at e1
    simp only [Option.some.injEq, Prod.mk.injEq] at e1
    have len := congrArg List.length h1
    have hw : (wrapL B T.data.toList).length = (wrapL tag l).length := by
      simp only [wrapL, List.length_cons, List.length_append]
      rw [e1.2]
    rw [List.length_take, List.length_append] at len
    omega
end Go.Proofs.Ytgloidibckopiaa.G
