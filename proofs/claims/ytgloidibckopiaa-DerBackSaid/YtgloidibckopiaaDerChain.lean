/- The items of a text, one behind the other, in plain Lean. -/
import Derived.Test.YtgloidibckopiaaDerPlain
namespace Go.Proofs.Ytgloidibckopiaa

theorem nx_fits {s : ByteArray} {a n : Nat} (h : nx s = some (a, n)) : 2 ≤ a ∧ a + n ≤ s.size := by
  unfold nx at h
  split at h
  · cases h
  split at h
  · split at h
    · cases h
    · simp only [Option.some.injEq, Prod.mk.injEq] at h
      omega
  · split at h
    · cases h
    split at h
    · cases h
    split at h
    · cases h
    · simp only [Option.some.injEq, Prod.mk.injEq] at h
      omega
theorem nxRest_lt {s : ByteArray} (_h0 : ¬ s.size = 0) (h : nx s ≠ none) : (nxRest s).size < s.size := by
  cases hn : nx s with
  | none => exact absurd hn h
  | some p =>
    obtain ⟨a, n⟩ := p
    have := nx_fits hn
    simp only [nxRest, hn, ByteArray.size_extract]
    omega
/-- the texts at which Next is called, one behind the other -/
def chainF : Nat → ByteArray → List ByteArray
  | 0, _ => []
  | k + 1, s => if s.size = 0 then [] else if nx s = none then [s] else s :: chainF k (nxRest s)
def chain (s : ByteArray) : List ByteArray := chainF s.size s
theorem chainF_more (k : Nat) : ∀ s : ByteArray, s.size ≤ k → chainF k s = chainF s.size s := by
  induction k using Nat.strongRecOn with
  | _ k ih =>
    intro s h
    by_cases h0 : s.size = 0
    · rw [h0]
      cases k with
      | zero => rfl
      | succ k => simp [chainF, h0]
    · obtain ⟨m, hm⟩ : ∃ m, s.size = m + 1 := ⟨s.size - 1, by omega⟩
      obtain ⟨k, rfl⟩ : ∃ j, k = j + 1 := ⟨k - 1, by omega⟩
      rw [hm]
      simp only [chainF, if_neg h0]
      by_cases hn : nx s = none
      · rw [if_pos hn, if_pos hn]
      · have hlt := nxRest_lt h0 hn
        rw [if_neg hn, if_neg hn, ih k (by omega) (nxRest s) (by omega), ← ih m (by omega) (nxRest s) (by omega)]
theorem chain_empty {s : ByteArray} (h : s.size = 0) : chain s = [] := by rw [chain, h]; rfl
theorem chain_bad {s : ByteArray} (h0 : ¬ s.size = 0) (h : nx s = none) : chain s = [s] := by
  obtain ⟨m, hm⟩ : ∃ m, s.size = m + 1 := ⟨s.size - 1, by omega⟩
  rw [chain, hm, chainF, if_neg h0, if_pos h]
theorem chain_ok {s : ByteArray} (h0 : ¬ s.size = 0) (h : ¬ nx s = none) : chain s = s :: chain (nxRest s) := by
  obtain ⟨m, hm⟩ : ∃ m, s.size = m + 1 := ⟨s.size - 1, by omega⟩
  have hlt := nxRest_lt h0 h
  rw [chain, hm, chainF, if_neg h0, if_neg h, chainF_more m _ (by omega), chain]
theorem nxErr_none {s : ByteArray} (h : nx s = none) : nxErr s = 2 := by simp [nxErr, h]
theorem nxErr_ok {s : ByteArray} (h : ¬ nx s = none) : nxErr s = 0 := by
  cases hn : nx s with
  | none => exact absurd hn h
  | some p => simp [nxErr, hn]
end Go.Proofs.Ytgloidibckopiaa
