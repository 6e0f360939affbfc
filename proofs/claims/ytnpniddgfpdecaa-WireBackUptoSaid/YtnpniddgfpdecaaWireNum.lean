/- Layer 13's reader, walked: NewReader, Number, Opaque, Rest, End: each comes to the plain functions of WireWords. -/
import Derived.Test.YtnpniddgfpdecaaWireRead
import Derived.WalkLawsBesides
import Derived.Lib.ConvBytes
namespace Go.Proofs.Ytnpniddgfpdecaa
open Go.RowKit
attribute [local irreducible] Calls
set_option maxHeartbeats 400000 in
theorem num_ok (g : Nat) (n : Nat) (s : ByteArray) (w : World) (h1 : 1 ≤ n) (h7 : n ≤ 7) (hn : n ≤ s.size) (hb : Blk w g 49 #[.int .i64 0, .string s]) :
    Calls Try.prog 8 #[.pointer (some ⟨g, 0, none⟩), .int .i64 n] w fun er w' => er = .returned (.int .i64 (beNat (s.data.toList.take n))) ∧ Blk w' g 49 #[.int .i64 0, .string (s.extract n s.size)] ∧ w.grownBy w' (some g) := by
  have hc0 : w.cell? ⟨g, 0, none⟩ = some (.int .i64 0) := hb.cell 0
  have kc := fun (w : World) (s : ByteArray) => Lib.run_convert_string_bytes (P := Try.prog) w 9 51 5 s Try.underlying9 Try.underlying51 Try.underlying5
  go_enter Try.func8, Try.ntmps8
  go_wp2_with fail
  refine (fine_ok _ _ _ _ ?q0 ?q1).mono ?_
  · simp; omega
  · exact hc0
  rintro e w' ⟨rfl, rfl⟩
  go_wp2_with fail
  refine (raw_any g 0 _ s _ hb).mono ?_
  rintro er w1 ⟨rfl, hb1, hg1⟩
  have hV : (rawV 0 s n).size = n := by simp [rawV, hn]
  have hcell : ∀ k, k < n → (Lib.bytesWorld w1 5 (rawV 0 s n)).cell? ⟨w1.heap.size, k, none⟩ = some (.int .u8 ((rawV 0 s n).data.toList.getD k 0).toNat) := fun k hk => Lib.bytesWorld_cell w1 5 _ k (by omega)
  have hVV : rawV 0 s n = s.extract 0 n := by simp [rawV, hn]
  have hb2 : Blk (Lib.bytesWorld w1 5 (rawV 0 s n)) g 49 #[.int .i64 0, .string (s.extract n s.size)] := by
    have h9 : ¬ ((n : Int) < 0) := by omega
    have h8 : ¬ ((s.size : Int) < n) := by omega
    simpa [rawE, rawS, hn, h9, h8] using hb1.bytes 5 (rawV 0 s n)
  have hg2 := only_bytes hg1 5 (rawV 0 s n)
  clear hb1 hg1
  generalize rawV 0 s n = V at *
  have HVV := Lib.hid hVV; clear hVV
  go_wp2_with fail
  generalize Lib.bytesWorld w1 5 V = W2 at *
  have HV := Lib.hid hV; clear hV
  go_loop [5, 7, 24] (fun t _ i => ∃ k : Nat, k ≤ n ∧ i = .int .i64 k ∧ t = .int .i64 (beNat (V.data.toList.take k))) (fun _ _ i => n - (intOf i).toNat)
  case atStart => exact ⟨0, Nat.zero_le _, rfl, rfl⟩
  case round =>
    obtain ⟨k, hk, rfl, rfl⟩ := hrel
    by_cases hlt : k < n
    · have hc := hcell k hlt
      have hbd : beNat (V.data.toList.take k) < 281474976710656 := beNat_take_lt V k 6 (by omega)
      go_wp2_with fail
      have hs : k < V.size := by have := HV.out; omega
      refine ⟨⟨k + 1, by omega, by go_num, ?_⟩, by simp [intOf]; omega⟩
      rw [or_byte _ _ hbd (UInt8.toNat_lt _), beNat_take V k hs]
    · go_wp2_with fail
      go_ret
      refine ⟨?_, hb2, hg2⟩
      obtain rfl : k = n := by omega
      rw [HVV.out]
      rw [ByteArray.data_extract, Array.toList_extract]
      simp [List.take_take]

theorem num_bad (g : Nat) (e n : Int) (s : ByteArray) (w : World) (he : (e == 0) = false) (hb : Blk w g 49 #[.int .i64 e, .string s]) :
    Calls Try.prog 8 #[.pointer (some ⟨g, 0, none⟩), .int .i64 n] w fun er w' => er = .returned (.int .i64 0) ∧ w' = w := by
  have hc0 : w.cell? ⟨g, 0, none⟩ = some (.int .i64 e) := hb.cell 0
  by_cases h1 : n < 1
  all_goals
    go_enter Try.func8, Try.ntmps8
    go_wp2_with fail
    refine (fine_bad _ _ e _ _ he hc0).mono ?_
    rintro er w' ⟨rfl, rfl⟩
    go_wp2
    go_ret
    exact ⟨rfl, rfl⟩

theorem num_arg (g : Nat) (n : Int) (s : ByteArray) (w : World) (hn : n < 1 ∨ 7 < n) (hb : Blk w g 49 #[.int .i64 0, .string s]) :
    Calls Try.prog 8 #[.pointer (some ⟨g, 0, none⟩), .int .i64 n] w fun er w' => er = .returned (.int .i64 0) ∧ w' = w.setCell ⟨g, 0, none⟩ (.int .i64 1) := by
  have hc0 : w.cell? ⟨g, 0, none⟩ = some (.int .i64 0) := hb.cell 0
  have hf0 := hb.frozen 0
  by_cases h1 : n < 1
  all_goals
    go_enter Try.func8, Try.ntmps8
    go_wp2_with fail
    refine (fine_set _ _ _ _ ?_ ?_ hc0 hf0).mono ?_
    · simp; try omega
    · decide
    rintro er w' ⟨rfl, rfl⟩
    go_wp2
    go_ret
    exact ⟨rfl, rfl⟩

set_option maxHeartbeats 400000 in
theorem num_form (g : Nat) (n : Nat) (s : ByteArray) (w : World) (h1 : 1 ≤ n) (h7 : n ≤ 7) (hn : s.size < n) (hb : Blk w g 49 #[.int .i64 0, .string s]) :
    Calls Try.prog 8 #[.pointer (some ⟨g, 0, none⟩), .int .i64 n] w fun er w' => er = .returned (.int .i64 0) ∧ Blk w' g 49 #[.int .i64 2, .string s] ∧ w.grownBy w' (some g) := by
  have hc0 : w.cell? ⟨g, 0, none⟩ = some (.int .i64 0) := hb.cell 0
  have kc := fun (w : World) (s : ByteArray) => Lib.run_convert_string_bytes (P := Try.prog) w 9 51 5 s Try.underlying9 Try.underlying51 Try.underlying5
  go_enter Try.func8, Try.ntmps8
  go_wp2_with fail
  refine (fine_ok _ _ _ _ ?q0 ?q1).mono ?_
  · simp; omega
  · exact hc0
  rintro e w' ⟨rfl, rfl⟩
  go_wp2_with fail
  refine (raw_any g 0 _ s _ hb).mono ?_
  rintro er w1 ⟨rfl, hb1, hg1⟩
  have h9 : ¬ ((n : Int) < 0) := by omega
  have h8 : (s.size : Int) < n := by omega
  have h7 : ¬ (n ≤ s.size) := by omega
  have hVV : rawV 0 s n = ⟨#[]⟩ := by simp [rawV, h7]
  have hb2 : Blk (Lib.bytesWorld w1 5 (rawV 0 s n)) g 49 #[.int .i64 2, .string s] := by
    simpa [rawE, rawS, h9, h8, h7] using hb1.bytes 5 (rawV 0 s n)
  have hg2 := only_bytes hg1 5 (rawV 0 s n)
  have hV : (rawV 0 s n).size = 0 := by rw [hVV]; rfl
  clear hb1 hg1 hVV h7 h8 h9
  generalize rawV 0 s n = V at *
  go_wp2_with fail
  generalize Lib.bytesWorld w1 5 V = W2 at *
  clear hV
  refine wp_loop_rounds 1 ?_
  rw [rounds_succ]
  go_wp2_with fail
  go_ret
  exact ⟨rfl, hb2, hg2⟩

theorem num_any (g : Nat) (e n : Int) (s : ByteArray) (w : World) (hb : Blk w g 49 #[.int .i64 e, .string s]) :
    Calls Try.prog 8 #[.pointer (some ⟨g, 0, none⟩), .int .i64 n] w fun er w' => er = .returned (.int .i64 (numV e s n)) ∧ Blk w' g 49 #[.int .i64 (numE e s n), .string (numS e s n)] ∧ w.grownBy w' (some g) := by
  by_cases he : e = 0
  · subst he
    by_cases hn : n < 1 ∨ 7 < n
    · refine (num_arg g n s w hn hb).mono ?_
      rintro er w' ⟨rfl, rfl⟩
      have h1 : ¬ (1 ≤ n ∧ n ≤ 7 ∧ n ≤ (s.size : Int)) := by omega
      refine ⟨by simp [numV, h1], ?_, only_setCell (only_refl w g) (.inl rfl) _⟩
      have := hb.set_ 0 (.int .i64 1)
      simpa [numE, numS, hn, h1] using this
    · obtain ⟨m, rfl⟩ := Int.eq_ofNat_of_zero_le (by omega : 0 ≤ n)
      by_cases hl : s.size < m
      · refine (num_form g m s w (by omega) (by omega) hl hb).mono ?_
        rintro er w' ⟨rfl, h2, h3⟩
        have h1 : ¬ (1 ≤ (m : Int) ∧ (m : Int) ≤ 7 ∧ (m : Int) ≤ (s.size : Int)) := by omega
        have h4 : (s.size : Int) < (m : Int) := by omega
        refine ⟨by simp only [numV, h1, and_false, if_false], ?_, h3⟩
        simpa only [numE, numS, hn, h1, h4, and_false, if_false, if_true] using h2
      · refine (num_ok g m s w (by omega) (by omega) (by omega) hb).mono ?_
        rintro er w' ⟨rfl, h2, h3⟩
        have h1 : (1 ≤ (m : Int) ∧ (m : Int) ≤ 7 ∧ (m : Int) ≤ (s.size : Int)) := by omega
        have h4 : ¬ (s.size : Int) < (m : Int) := by omega
        refine ⟨by simp only [numV, h1, and_self, if_true, Int.toNat_natCast], ?_, h3⟩
        simpa only [numE, numS, hn, h1, h4, and_self, if_false, if_true, Int.toNat_natCast] using h2
  · refine (num_bad g e n s w (by simpa using he) hb).mono ?_
    rintro er w' ⟨rfl, rfl⟩
    refine ⟨by simp [numV, he], ?_, only_refl _ g⟩
    simpa [numE, numS, he] using hb

theorem opq_any (g : Nat) (e n : Int) (s : ByteArray) (w : World) (hb : Blk w g 49 #[.int .i64 e, .string s]) :
    Calls Try.prog 12 #[.pointer (some ⟨g, 0, none⟩), .int .i64 n] w fun er w' => er = .returned (.string (opqV e s n)) ∧ Blk w' g 49 #[.int .i64 (opqE e s n), .string (opqS e s n)] ∧ w.grownBy w' (some g) := by
  go_enter Try.func12, Try.ntmps12
  go_wp2_with fail
  refine (num_any g e n s w hb).mono ?_
  rintro er w1 ⟨rfl, hb1, hg1⟩
  go_wp2_with fail
  refine (raw_any g _ _ _ _ hb1).mono ?_
  rintro er w2 ⟨rfl, hb2, hg2⟩
  go_wp2_with fail
  go_ret
  exact ⟨rfl, hb2, hg1.trans hg2⟩

theorem rest_any (g : Nat) (e : Int) (s : ByteArray) (w : World) (hb : Blk w g 49 #[.int .i64 e, .string s]) :
    Calls Try.prog 14 #[.pointer (some ⟨g, 0, none⟩)] w fun er w' => er = .returned (.int .i64 (restV e s)) ∧ w' = w := by
  have hc0 : w.cell? ⟨g, 0, none⟩ = some (.int .i64 e) := hb.cell 0
  have hc1 : w.cell? ⟨g, 1, none⟩ = some (.string s) := hb.cell 1
  by_cases he : e = 0
  · subst he
    go_enter Try.func14, Try.ntmps14
    go_wp2
    go_ret
    exact ⟨by simp [restV], rfl⟩
  · have h2 : (e != 0) = true := by simpa using he
    go_enter Try.func14, Try.ntmps14
    go_wp2
    go_ret
    exact ⟨by simp [restV, he], rfl⟩

theorem end_any (g : Nat) (e : Int) (s : ByteArray) (w : World) (hb : Blk w g 49 #[.int .i64 e, .string s]) :
    Calls Try.prog 16 #[.pointer (some ⟨g, 0, none⟩)] w fun er w' => er = .returned (.int .i64 (endV e s)) ∧ w' = w := by
  have hc0 : w.cell? ⟨g, 0, none⟩ = some (.int .i64 e) := hb.cell 0
  have hc1 : w.cell? ⟨g, 1, none⟩ = some (.string s) := hb.cell 1
  by_cases he : e = 0
  · subst he
    by_cases hs : s.size = 0
    · have h3 : s.toList.isEmpty = true := empty_of_size hs
      go_enter Try.func16, Try.ntmps16
      go_wp2
      go_ret
      exact ⟨by simp [endV, hs], rfl⟩
    · have h3 : s.toList.isEmpty = false := nonempty_of_size hs
      go_enter Try.func16, Try.ntmps16
      go_wp2
      go_ret
      exact ⟨by simp [endV, hs], rfl⟩
  · have h2 : (e == 0) = false := by simpa using he
    go_enter Try.func16, Try.ntmps16
    go_wp2
    go_ret
    exact ⟨by simp [endV, he], rfl⟩

theorem newreader_any (s : ByteArray) (w : World) :
    Calls Try.prog 6 #[.string s] w fun er w' => er = .returned (.pointer (some ⟨w.heap.size, 0, none⟩)) ∧ w' = w.alloc (.cells #[.int .i64 0, .string s] 49) := by
  go_enter Try.func6, Try.ntmps6
  go_wp2
  go_ret
  exact ⟨rfl, rfl⟩
end Go.Proofs.Ytnpniddgfpdecaa
