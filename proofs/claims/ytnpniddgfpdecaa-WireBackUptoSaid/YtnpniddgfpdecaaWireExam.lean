/- The examples that each statement of layer 13 begins with, walked: they hold. -/
import Derived.Test.YtnpniddgfpdecaaWireNum
import Derived.Test.YtnpniddgfpdecaaWireWNum
namespace Go.Proofs.Ytnpniddgfpdecaa
open Go.RowKit
attribute [local irreducible] Calls

set_option maxHeartbeats 1000000 in
theorem examples_any (w : World) :
    Calls Try.prog 5 #[] w fun er w' => er = .returned (.bool true) ∧ Below w.heap.size w w' := by
  go_enter Try.func5, Try.ntmps5
  go_wp2_with fail
  refine (newwriter_any _).mono ?_
  rintro e w1 ⟨rfl, rfl⟩
  have hW := newwriter_wr w
  go_wp2_with fail
  refine (newreader_any _ _).mono ?_
  rintro e w2 ⟨rfl, rfl⟩
  have hR : Blk ((w.alloc (.cells #[.int .i64 0, .slice none 0 0] 54)).alloc (.cells #[.int .i64 0, .string ⟨#[0, 2, 97, 98, 99]⟩] 49)) (w.heap.size + 1) 49 #[.int .i64 0, .string ⟨#[0, 2, 97, 98, 99]⟩] := by
    have := Blk.new (w.alloc (.cells #[.int .i64 0, .slice none 0 0] 54)) 49 #[.int .i64 0, .string ⟨#[0, 2, 97, 98, 99]⟩]
    simpa using this
  have hW2 : Wr ((w.alloc (.cells #[.int .i64 0, .slice none 0 0] 54)).alloc (.cells #[.int .i64 0, .string ⟨#[0, 2, 97, 98, 99]⟩] 49)) w.heap.size w.heap.size 0 [] (.slice none 0 0) := ⟨hW.blk.alloc _, hW.own.alloc _⟩
  have hB2 : Below w.heap.size w ((w.alloc (.cells #[.int .i64 0, .slice none 0 0] 54)).alloc (.cells #[.int .i64 0, .string ⟨#[0, 2, 97, 98, 99]⟩] 49)) := ((Below.refl _ _).alloc (Nat.le_refl _) _).alloc (by simp) _
  clear hW
  go_wp2_with fail
  generalize (w.alloc (.cells #[.int .i64 0, .slice none 0 0] 54)).alloc (.cells #[.int .i64 0, .string ⟨#[0, 2, 97, 98, 99]⟩] 49) = W2 at *
  refine (wopq_ok w.heap.size w.heap.size 2 _ [] _ _ hW2 (by decide) hB2.size (by decide) (by decide) (by decide)).mono ?_
  rintro e w3 ⟨rfl, v3, hW3, hk3, hn3⟩
  change Wr w3 _ _ 0 [0, 2, 97, 98] v3 at hW3
  have hR3 := hR.keep2 hk3 (by omega) (by simp [Value.ownBlock])
  have hB3 := Keep2.below hB2 hk3 hB2.size (Nat.le_refl _) (by simp [Value.ownBlock])
  go_wp2_with fail
  refine (bytes_any w.heap.size w.heap.size 0 _ v3 _ hW3).mono ?_
  rintro e w4 ⟨rfl, n4, rfl⟩
  go_wp2_with fail
  refine (opq_any (w.heap.size + 1) 0 2 ⟨#[0, 2, 97, 98, 99]⟩ _ (hR3.drewN _)).mono ?_
  rintro e w5 ⟨rfl, hR5, hg5⟩
  have e1 : opqV 0 ⟨#[0, 2, 97, 98, 99]⟩ 2 = ⟨#[97, 98]⟩ := by decide
  have e2 : opqE 0 ⟨#[0, 2, 97, 98, 99]⟩ 2 = 0 := by decide
  have e3 : opqS 0 ⟨#[0, 2, 97, 98, 99]⟩ 2 = ⟨#[99]⟩ := by decide
  rw [e2, e3] at hR5
  have hB5 := only_below (below_drewN hB3 n4) hg5 hB3.size (by omega)
  go_wp2_with fail
  refine (rest_any (w.heap.size + 1) 0 ⟨#[99]⟩ _ hR5).mono ?_
  rintro e w6 ⟨rfl, rfl⟩
  rw [show restV 0 ⟨#[99]⟩ = 1 from by decide]
  go_wp2_with fail
  refine (end_any (w.heap.size + 1) 0 ⟨#[99]⟩ _ hR5).mono ?_
  rintro e w7 ⟨rfl, rfl⟩
  rw [show endV 0 ⟨#[99]⟩ = 2 from by decide]
  go_wp2_with fail
  go_ret
  exact ⟨rfl, hB5⟩
end Go.Proofs.Ytnpniddgfpdecaa
