/- Layer 14's Next, walked: a length of several bytes. -/
import Derived.Test.YtgloidibckopiaaDerNext
import Derived.WalkLawsBesides
namespace Go.Proofs.Ytgloidibckopiaa
open Go.RowKit
attribute [local irreducible] Calls

set_option maxRecDepth 100000 in
set_option maxHeartbeats 800000 in
theorem next_far (s : ByteArray) (w : World) (h : ¬ s.size < 2) (h31 : ¬ byteAt s 0 % 32 = 31) (h128 : ¬ byteAt s 1 < 128)
    (hf : 3 < byteAt s 1 - 128 ∨ s.size < 2 + (byteAt s 1 - 128)) : Calls Try.prog 8 #[.string s] w (NextPost s w) := by
  have hs : 2 ≤ s.size := by omega
  have hb0 := byteAt_get s 0 (by omega)
  have hb1 := byteAt_get s 1 (by omega)
  have hl0 := byteAt_lt s 0
  have hl1 := byteAt_lt s 1
  obtain ⟨h1, h2⟩ := nx_none (s := s) (by rw [nx, if_neg (by omega), if_neg h128, if_pos (by omega)])
  have H1 := Lib.hid h1; have H2 := Lib.hid h2; clear h1 h2
  obtain ⟨k, hk⟩ : ∃ k, k = byteAt s 1 - 128 := ⟨_, rfl⟩
  generalize byteAt s 0 = B0 at *
  generalize byteAt s 1 = B1 at *
  have hw1 : IntKind.i64.wrap (B1 : Int) = (B1 : Int) := by rw [IntKind.wrap_i64]; omega
  have hw2 : ¬ (B1 : Int) < 128 := by omega
  clear h128
  obtain ⟨M, hM⟩ : ∃ M : Int, M = (B0 : Int) % 32 := ⟨_, rfl⟩
  have ha : bits .and .u8 (B0 : Int) 31 = M := by rw [hM, and31_u8 B0 hl0]
  have hm : (M == 31) = false := by rw [hM]; simp; omega
  clear hM h31
  have hK : (B1 : Int) - 128 = k := by omega
  have hk7 : k < 128 := by omega
  have hf2 : 3 < k ∨ s.size < 2 + k := by omega
  clear hk hf
  by_cases hk4 : 3 < k
  all_goals
    go_enter Try.func8, Try.ntmps8
    go_wp2_with fail
    refine bodyPost_ret (v := .tuple #[.agg #[.int .i64 0, .string ⟨#[]⟩, .string ⟨#[]⟩], .int .i64 2]) (by simp [results, Try.results8, go_sem]) rfl ⟨by rw [H1.out, H2.out], ?_⟩
    exact (Below.refl _ _).alloc (Nat.le_refl _) _
end Go.Proofs.Ytgloidibckopiaa
