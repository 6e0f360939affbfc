/- Layer 13's reader, walked: fine, NewReader, Raw, Number, Opaque, Rest, End: each comes to the plain functions of WireWords. -/
import Derived.Test.YtnpniddgfpdecaaWireWords
import Derived.Test.YtnpniddgfpdecaaRegion
import Derived.WalkKit
import Derived.WalkSpells
import Derived.Lib.Hide
import Derived.Deep.QuietTactic
import Derived.BigQuiet
namespace Go.Proofs.Ytnpniddgfpdecaa
open Go.RowKit
attribute [local irreducible] Calls

theorem fine_ok (g : Nat) (x : Int) (b : Bool) (w : World) (hb : b = true) (hc : w.cell? ⟨g, 0, none⟩ = some (.int .i64 0)) :
    Calls Try.prog 23 #[.pointer (some ⟨g, 0, none⟩), .bool b, .int .i64 x] w fun e w' => e = .returned (.bool true) ∧ w' = w := by
  subst hb
  go_enter Try.func23, Try.ntmps23
  go_wp2
  go_ret
  exact ⟨rfl, rfl⟩

theorem fine_bad (g : Nat) (x e0 : Int) (b : Bool) (w : World) (he : (e0 == 0) = false) (hc : w.cell? ⟨g, 0, none⟩ = some (.int .i64 e0)) :
    Calls Try.prog 23 #[.pointer (some ⟨g, 0, none⟩), .bool b, .int .i64 x] w fun e w' => e = .returned (.bool false) ∧ w' = w := by
  go_enter Try.func23, Try.ntmps23
  go_wp2
  go_ret
  exact ⟨rfl, rfl⟩

theorem fine_set (g : Nat) (x : Int) (b : Bool) (w : World) (hb : b = false) (hx : (x == 0) = false) (hc : w.cell? ⟨g, 0, none⟩ = some (.int .i64 0)) (hf : w.frozen? ⟨g, 0, none⟩ = false) :
    Calls Try.prog 23 #[.pointer (some ⟨g, 0, none⟩), .bool b, .int .i64 x] w fun e w' => e = .returned (.bool false) ∧ w' = w.setCell ⟨g, 0, none⟩ (.int .i64 x) := by
  subst hb
  go_enter Try.func23, Try.ntmps23
  go_wp2
  go_ret
  exact ⟨rfl, rfl⟩

set_option maxHeartbeats 400000 in
theorem raw_ok (g : Nat) (n : Nat) (s : ByteArray) (w : World) (hn : n ≤ s.size)
    (hc0 : w.cell? ⟨g, 0, none⟩ = some (.int .i64 0)) (hc1 : w.cell? ⟨g, 1, none⟩ = some (.string s)) (hf : w.frozen? ⟨g, 1, none⟩ = false) :
    Calls Try.prog 10 #[.pointer (some ⟨g, 0, none⟩), .int .i64 n] w fun e w' => e = .returned (.string (s.extract 0 n)) ∧ ∃ k, w' = (w.drewN k).setCell ⟨g, 1, none⟩ (.string (s.extract n s.size)) := by
  go_enter Try.func10, Try.ntmps10
  go_wp2
  go_quiet ((go_at_call 23; exact Calls.quiet_of_same (fine_ok _ _ _ _ (by simp) (by simpa using hc0))))
  go_wp2
  go_ret
  exact ⟨rfl, nq, rfl⟩

set_option maxHeartbeats 400000 in
theorem raw_bad (g : Nat) (n e0 : Int) (w : World) (he : (e0 == 0) = false) (hc0 : w.cell? ⟨g, 0, none⟩ = some (.int .i64 e0)) :
    Calls Try.prog 10 #[.pointer (some ⟨g, 0, none⟩), .int .i64 n] w fun e w' => e = .returned (.string ⟨#[]⟩) ∧ ∃ k, w' = w.drewN k := by
  go_enter Try.func10, Try.ntmps10
  go_wp2
  go_quiet ((go_at_call 23; exact Calls.quiet_of_same (fine_bad _ _ e0 _ _ he (by simpa using hc0))))
  go_wp2
  go_ret
  exact ⟨rfl, nq, rfl⟩

set_option maxHeartbeats 400000 in
theorem raw_neg (g : Nat) (n : Int) (w : World) (hn : n < 0) (hc0 : w.cell? ⟨g, 0, none⟩ = some (.int .i64 0)) (hf : w.frozen? ⟨g, 0, none⟩ = false) :
    Calls Try.prog 10 #[.pointer (some ⟨g, 0, none⟩), .int .i64 n] w fun e w' => e = .returned (.string ⟨#[]⟩) ∧ ∃ k, w' = (w.drewN k).setCell ⟨g, 0, none⟩ (.int .i64 1) := by
  go_enter Try.func10, Try.ntmps10
  go_wp2
  refine wp_region_order (l := [(0,0),(1,0),(2,0),(3,0),(4,0),(5,1),(6,0),(7,0),(8,0),(9,0),(10,0),(11,0),(12,0),(13,0),(14,0),(15,0),(16,0),(17,0),(18,0),(19,0),(20,0)]) (P := Try.prog) [] (fun _ => True) (by kernel_rfl) (by kernel_rfl) (fun _ _ d _ _ h => (by cases d <;> exact h)) trivial ?_
  repeat (first | (refine walkH_skip rfl (by rfl) ?_; intro K hK; go_simp; refine hK _ ?_; clear hK K) | (refine walkH_take rfl (by rfl) ?_; apply Exists.intro; refine ⟨fun WS hWS => ?_, fun K hK => ?_⟩; (· go_simp; with_reducible rfl); (go_simp; refine hK _ ?_; clear hK K)))
  refine walkH_do rfl (fun K hK => ?_); go_simp
  refine (fine_set _ _ _ _ ?q0 ?q1 ?q2 ?q3).mono ?_
  · simp; omega
  · decide
  · exact hc0
  · exact hf
  rintro e w' ⟨rfl, rfl⟩
  refine hK _ _ trivial ?_
  clear hK K
  repeat (first | (refine walkH_skip rfl (by rfl) ?_; intro K hK; go_simp; refine hK _ ?_; clear hK K) | (refine walkH_take rfl (by rfl) ?_; apply Exists.intro; refine ⟨fun WS hWS => ?_, fun K hK => ?_⟩; (· go_simp; with_reducible rfl); (go_simp; refine hK _ ?_; clear hK K)))
  refine walkH_nil ?_
  go_wp2
  go_ret
  exact ⟨rfl, 1, rfl⟩

set_option maxHeartbeats 400000 in
theorem raw_long (g : Nat) (n : Int) (s : ByteArray) (w : World) (hn : (s.size : Int) < n) (hc0 : w.cell? ⟨g, 0, none⟩ = some (.int .i64 0)) (hc1 : w.cell? ⟨g, 1, none⟩ = some (.string s)) (hf : w.frozen? ⟨g, 0, none⟩ = false) :
    Calls Try.prog 10 #[.pointer (some ⟨g, 0, none⟩), .int .i64 n] w fun e w' => e = .returned (.string ⟨#[]⟩) ∧ ∃ k, w' = (w.drewN k).setCell ⟨g, 0, none⟩ (.int .i64 2) := by
  go_enter Try.func10, Try.ntmps10
  go_wp2
  refine wp_region_order (l := [(0,0),(1,0),(2,0),(3,0),(4,0),(5,1),(6,0),(7,0),(8,0),(9,0),(10,0),(11,0),(12,0),(13,0),(14,0),(15,1),(16,0),(17,0),(18,1),(19,0),(20,0)]) (P := Try.prog) [] (fun _ => True) (by kernel_rfl) (by kernel_rfl) (fun _ _ d _ _ h => (by cases d <;> exact h)) trivial ?_
  repeat (first | (refine walkH_skip rfl (by rfl) ?_; intro K hK; go_simp; refine hK _ ?_; clear hK K) | (refine walkH_take rfl (by rfl) ?_; apply Exists.intro; refine ⟨fun WS hWS => ?_, fun K hK => ?_⟩; (· go_simp; with_reducible rfl); (go_simp; refine hK _ ?_; clear hK K)))
  refine walkH_do rfl (fun K hK => ?_); go_simp
  refine (fine_ok _ _ _ _ ?q0 ?q1).mono ?_
  · simp; omega
  · exact hc0
  rintro e w' ⟨rfl, rfl⟩
  refine hK _ _ trivial ?_
  clear hK K
  repeat (first | (refine walkH_skip rfl (by rfl) ?_; intro K hK; go_simp; refine hK _ ?_; clear hK K) | (refine walkH_take rfl (by rfl) ?_; apply Exists.intro; refine ⟨fun WS hWS => ?_, fun K hK => ?_⟩; (· go_simp; with_reducible rfl); (go_simp; refine hK _ ?_; clear hK K)))
  refine walkH_do rfl (fun K hK => ?_); go_simp
  refine hK _ _ trivial ?_
  clear hK K
  repeat (first | (refine walkH_skip rfl (by rfl) ?_; intro K hK; go_simp; refine hK _ ?_; clear hK K) | (refine walkH_take rfl (by rfl) ?_; apply Exists.intro; refine ⟨fun WS hWS => ?_, fun K hK => ?_⟩; (· go_simp; with_reducible rfl); (go_simp; refine hK _ ?_; clear hK K)))
  refine walkH_do rfl (fun K hK => ?_); go_simp
  refine (fine_set _ _ _ _ ?r0 ?r1 ?r2 ?r3).mono ?_
  · simp; omega
  · decide
  · exact hc0
  · exact hf
  rintro e w' ⟨rfl, rfl⟩
  refine hK _ _ trivial ?_
  clear hK K
  repeat (first | (refine walkH_skip rfl (by rfl) ?_; intro K hK; go_simp; refine hK _ ?_; clear hK K) | (refine walkH_take rfl (by rfl) ?_; apply Exists.intro; refine ⟨fun WS hWS => ?_, fun K hK => ?_⟩; (· go_simp; with_reducible rfl); (go_simp; refine hK _ ?_; clear hK K)))
  refine walkH_nil ?_
  go_wp2
  go_ret
  exact ⟨rfl, 1, rfl⟩

theorem raw_any (g : Nat) (e n : Int) (s : ByteArray) (w : World) (hb : Blk w g 49 #[.int .i64 e, .string s]) :
    Calls Try.prog 10 #[.pointer (some ⟨g, 0, none⟩), .int .i64 n] w fun er w' => er = .returned (.string (rawV e s n)) ∧ Blk w' g 49 #[.int .i64 (rawE e s n), .string (rawS e s n)] ∧ w.grownBy w' (some g) := by
  have hc0 : w.cell? ⟨g, 0, none⟩ = some (.int .i64 e) := hb.cell 0
  have hc1 : w.cell? ⟨g, 1, none⟩ = some (.string s) := hb.cell 1
  have hf0 := hb.frozen 0
  have hf1 := hb.frozen 1
  by_cases he : e = 0
  · subst he
    by_cases hn : n < 0
    · refine (raw_neg g n w hn hc0 hf0).mono ?_
      rintro er w' ⟨rfl, k, rfl⟩
      have h1 : ¬ (0 ≤ n) := by omega
      refine ⟨by simp [rawV, h1], ?_, only_setCell (only_drewN (only_refl w g) k) (.inl rfl) _⟩
      have := (hb.drewN k).set_ 0 (.int .i64 1)
      simpa [rawE, rawS, hn, h1] using this
    · by_cases hl : (s.size : Int) < n
      · refine (raw_long g n s w hl hc0 hc1 hf0).mono ?_
        rintro er w' ⟨rfl, k, rfl⟩
        have h1 : ¬ (n ≤ (s.size : Int)) := by omega
        refine ⟨by simp [rawV, h1], ?_, only_setCell (only_drewN (only_refl w g) k) (.inl rfl) _⟩
        have := (hb.drewN k).set_ 0 (.int .i64 2)
        simpa [rawE, rawS, hn, hl, h1] using this
      · obtain ⟨m, rfl⟩ := Int.eq_ofNat_of_zero_le (by omega : 0 ≤ n)
        have hm : m ≤ s.size := by omega
        refine (raw_ok g m s w hm hc0 hc1 hf1).mono ?_
        rintro er w' ⟨rfl, k, rfl⟩
        refine ⟨by simp [rawV, hm], ?_, only_setCell (only_drewN (only_refl w g) k) (.inl rfl) _⟩
        have := (hb.drewN k).set_ 1 (.string (s.extract m s.size))
        simpa [rawE, rawS, hn, hl, hm] using this
  · refine (raw_bad g n e w (by simpa using he) hc0).mono ?_
    rintro er w' ⟨rfl, k, rfl⟩
    refine ⟨by simp [rawV, he], ?_, only_drewN (only_refl w g) k⟩
    simpa [rawE, rawS, he] using hb.drewN k
end Go.Proofs.Ytnpniddgfpdecaa
