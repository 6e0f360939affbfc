/- The document's reader of layer 13, walked: Raw, Number, Opaque, Rest, End: each comes to the plain functions of WireWords. -/
import Derived.Test.YtnpniddgfpdecaaWireWords
import Derived.WalkKit
import Derived.WalkSpells
import Derived.Lib.Hide
import Derived.WalkLawsBesides
import Derived.Outline
namespace Go.Proofs.Ytnpniddgfpdecaa
open Go.RowKit
attribute [local irreducible] Calls

theorem rraw_any (g : Nat) (e n : Int) (s : ByteArray) (w : World) (hb : Blk w g 28 #[.string s, .int .i64 e]) :
    Calls Try.prog 11 #[.pointer (some ⟨g, 0, none⟩), .int .i64 n] w fun er w' => er = .returned (.string (rawV e s n)) ∧ Blk w' g 28 #[.string (rawS e s n), .int .i64 (rawE e s n)] ∧ w.grownBy w' (some g) := by
  have hc1 : w.cell? ⟨g, 1, none⟩ = some (.int .i64 e) := hb.cell 1
  have hc0 : w.cell? ⟨g, 0, none⟩ = some (.string s) := hb.cell 0
  have hf0 := hb.frozen 0
  have hf1 := hb.frozen 1
  by_cases he : e = 0
  · subst he
    by_cases hn : n < 0
    · have h1 : ¬ (0 ≤ n) := by omega
      have H := Lib.hid (show rawV 0 s n = ⟨#[]⟩ ∧ rawE 0 s n = 1 ∧ rawS 0 s n = s from ⟨by simp [rawV, h1], by simp [rawE, hn], by simp [rawS, h1]⟩)
      clear h1
      go_enter Try.func11, Try.ntmps11
      go_wp2
      go_ret
      rw [H.out.1, H.out.2.1, H.out.2.2]
      refine ⟨rfl, ?_, only_setCell (only_refl w g) (.inl rfl) _⟩
      simpa using hb.set_ 1 (.int .i64 1)
    · by_cases hl : (s.size : Int) < n
      · have h1 : ¬ (n ≤ (s.size : Int)) := by omega
        have H := Lib.hid (show rawV 0 s n = ⟨#[]⟩ ∧ rawE 0 s n = 2 ∧ rawS 0 s n = s from ⟨by simp [rawV, h1], by simp [rawE, hn, hl], by simp [rawS, h1]⟩)
        clear h1
        go_enter Try.func11, Try.ntmps11
        go_wp2
        go_ret
        rw [H.out.1, H.out.2.1, H.out.2.2]
        refine ⟨rfl, ?_, only_setCell (only_refl w g) (.inl rfl) _⟩
        simpa using hb.set_ 1 (.int .i64 2)
      · obtain ⟨m, rfl⟩ := Int.eq_ofNat_of_zero_le (by omega : 0 ≤ n)
        have hm : m ≤ s.size := by omega
        have H := Lib.hid (show rawV 0 s m = s.extract 0 m ∧ rawE 0 s m = 0 ∧ rawS 0 s m = s.extract m s.size from ⟨by simp [rawV, hm], by simp only [rawE, hn, hl, if_false, if_true], by simp [rawS, hm]⟩)
        go_enter Try.func11, Try.ntmps11
        go_wp2
        go_ret
        rw [H.out.1, H.out.2.1, H.out.2.2]
        refine ⟨rfl, ?_, only_setCell (only_refl w g) (.inl rfl) _⟩
        simpa using hb.set_ 0 (.string (s.extract m s.size))
  · have he1 : (e == 0) = false := by simpa using he
    have he2 : (e != 0) = true := by simpa using he
    go_enter Try.func11, Try.ntmps11
    go_wp2
    go_ret
    refine ⟨by simp [rawV, he], ?_, only_refl w g⟩
    simpa [rawE, rawS, he] using hb

set_option maxHeartbeats 400000 in
theorem rnum_ok (g : Nat) (n : Nat) (s : ByteArray) (w : World) (h1 : 1 ≤ n) (h7 : n ≤ 7) (hn : n ≤ s.size) (hb : Blk w g 28 #[.string s, .int .i64 0]) :
    Calls Try.prog 9 #[.pointer (some ⟨g, 0, none⟩), .int .i64 n] w fun er w' => er = .returned (.int .i64 (beNat (s.data.toList.take n))) ∧ Blk w' g 28 #[.string (s.extract n s.size), .int .i64 0] ∧ w.grownBy w' (some g) := by
  have hc1 : w.cell? ⟨g, 1, none⟩ = some (.int .i64 0) := hb.cell 1
  have hc0 : w.cell? ⟨g, 0, none⟩ = some (.string s) := hb.cell 0
  have hf0 := hb.frozen 0
  have hk1 : (1 : Int) ≤ (n : Int) := by omega
  have hk7 : (n : Int) ≤ 7 := by omega
  go_enter Try.func9, Try.ntmps9
  go_wp2
  go_loop [5, 6] (fun t i => ∃ k : Nat, k ≤ n ∧ i = .int .i64 k ∧ t = .int .i64 (beNat (s.data.toList.take k))) (fun _ i => n - (intOf i).toNat)
  case atStart => exact ⟨0, Nat.zero_le _, rfl, rfl⟩
  case round =>
    obtain ⟨k, hk, rfl, rfl⟩ := hrel
    by_cases hlt : k < n
    · have hbd : beNat (s.data.toList.take k) < 281474976710656 := beNat_take_lt s k 6 (by omega)
      have hs : k < s.size := by omega
      have hnx := beNat_take s k hs
      have hby : (s.data[k]?.getD 0).toNat < 256 := UInt8.toNat_lt _
      have HX := Lib.hid hnx; clear hnx
      go_wp2_with fail
      refine ⟨⟨k + 1, by omega, by go_num, ?_⟩, by simp [intOf]; omega⟩
      rw [HX.out]
      have e1 : wrap64 ((s[k].toNat : Nat) : Int) = ((s.data[k]?.getD 0).toNat : Int) := by
        have hk' : k < s.data.size := hs
        rw [show s.data[k]?.getD 0 = s[k] from by rw [Array.getElem?_eq_getElem hk']; rfl]
        have := UInt8.toNat_lt s[k]
        unfold wrap64; omega
      rw [e1]
      congr 1
      unfold wrap64; omega
    · go_wp2_with fail
      go_ret
      obtain rfl : k = n := by omega
      refine ⟨rfl, ?_, only_setCell (only_refl w g) (.inl rfl) _⟩
      have := hb.set_ 0 (.string (s.extract k s.size))
      simpa using this

theorem rnum_any (g : Nat) (e n : Int) (s : ByteArray) (w : World) (hb : Blk w g 28 #[.string s, .int .i64 e]) :
    Calls Try.prog 9 #[.pointer (some ⟨g, 0, none⟩), .int .i64 n] w fun er w' => er = .returned (.int .i64 (numV e s n)) ∧ Blk w' g 28 #[.string (numS e s n), .int .i64 (numE e s n)] ∧ w.grownBy w' (some g) := by
  by_cases he : e = 0
  · subst he
    by_cases hn : n < 1 ∨ 7 < n
    · have h1 : ¬ (1 ≤ n ∧ n ≤ 7 ∧ n ≤ (s.size : Int)) := by omega
      have H := Lib.hid (show numV 0 s n = 0 ∧ numE 0 s n = 1 ∧ numS 0 s n = s from ⟨by simp [numV, h1], by simp [numE, hn], by simp [numS, h1]⟩)
      have hc1 : w.cell? ⟨g, 1, none⟩ = some (.int .i64 0) := hb.cell 1
      have hc0 : w.cell? ⟨g, 0, none⟩ = some (.string s) := hb.cell 0
      have hf1 := hb.frozen 1
      clear h1
      by_cases h2 : n < 1
      all_goals
        (try (have h3 : 7 < n := by omega))
        clear hn
        go_enter Try.func9, Try.ntmps9
        go_wp2
        go_ret
        rw [H.out.1, H.out.2.1, H.out.2.2]
        refine ⟨rfl, ?_, only_setCell (only_refl w g) (.inl rfl) _⟩
        simpa using hb.set_ 1 (.int .i64 1)
    · obtain ⟨m, rfl⟩ := Int.eq_ofNat_of_zero_le (by omega : 0 ≤ n)
      by_cases hl : s.size < m
      · have h1 : ¬ (1 ≤ (m : Int) ∧ (m : Int) ≤ 7 ∧ (m : Int) ≤ (s.size : Int)) := by omega
        have h4 : (s.size : Int) < (m : Int) := by omega
        have H := Lib.hid (show numV 0 s m = 0 ∧ numE 0 s m = 2 ∧ numS 0 s m = s from ⟨by simp only [numV, h1, and_false, if_false], by simp only [numE, hn, h4, if_false, if_true], by simp only [numS, h1, and_false, if_false]⟩)
        have hc1 : w.cell? ⟨g, 1, none⟩ = some (.int .i64 0) := hb.cell 1
        have hc0 : w.cell? ⟨g, 0, none⟩ = some (.string s) := hb.cell 0
        have hf1 := hb.frozen 1
        have hk1 : (1 : Int) ≤ (m : Int) := by omega
        have hk7 : (m : Int) ≤ 7 := by omega
        clear h1 h4 hn
        go_enter Try.func9, Try.ntmps9
        go_wp2
        go_ret
        rw [H.out.1, H.out.2.1, H.out.2.2]
        refine ⟨rfl, ?_, only_setCell (only_refl w g) (.inl rfl) _⟩
        simpa using hb.set_ 1 (.int .i64 2)
      · refine (rnum_ok g m s w (by omega) (by omega) (by omega) hb).mono ?_
        rintro er w' ⟨rfl, h2, h3⟩
        have h1 : (1 ≤ (m : Int) ∧ (m : Int) ≤ 7 ∧ (m : Int) ≤ (s.size : Int)) := by omega
        have h4 : ¬ (s.size : Int) < (m : Int) := by omega
        refine ⟨by simp only [numV, h1, and_self, if_true, Int.toNat_natCast], ?_, h3⟩
        simpa only [numE, numS, hn, h1, h4, and_self, if_false, if_true, Int.toNat_natCast] using h2
  · have he1 : (e == 0) = false := by simpa using he
    have he2 : (e != 0) = true := by simpa using he
    have H := Lib.hid (show numV e s n = 0 ∧ numE e s n = e ∧ numS e s n = s from ⟨by simp [numV, he], by simp [numE, he], by simp [numS, he]⟩)
    have hc1 : w.cell? ⟨g, 1, none⟩ = some (.int .i64 e) := hb.cell 1
    have hc0 : w.cell? ⟨g, 0, none⟩ = some (.string s) := hb.cell 0
    go_enter Try.func9, Try.ntmps9
    go_wp2
    go_ret
    rw [H.out.1, H.out.2.1, H.out.2.2]
    exact ⟨rfl, hb, only_refl w g⟩

theorem ropq_any (g : Nat) (e n : Int) (s : ByteArray) (w : World) (hb : Blk w g 28 #[.string s, .int .i64 e]) :
    Calls Try.prog 13 #[.pointer (some ⟨g, 0, none⟩), .int .i64 n] w fun er w' => er = .returned (.string (opqV e s n)) ∧ Blk w' g 28 #[.string (opqS e s n), .int .i64 (opqE e s n)] ∧ w.grownBy w' (some g) := by
  go_enter Try.func13, Try.ntmps13
  go_wp2_with fail
  refine (rnum_any g e n s w hb).mono ?_
  rintro er w1 ⟨rfl, hb1, hg1⟩
  go_wp2_with fail
  refine (rraw_any g _ _ _ _ hb1).mono ?_
  rintro er w2 ⟨rfl, hb2, hg2⟩
  go_wp2_with fail
  go_ret
  exact ⟨rfl, hb2, hg1.trans hg2⟩

theorem rrest_any (g : Nat) (e : Int) (s : ByteArray) (w : World) (hb : Blk w g 28 #[.string s, .int .i64 e]) :
    Calls Try.prog 15 #[.pointer (some ⟨g, 0, none⟩)] w fun er w' => er = .returned (.int .i64 (restV e s)) ∧ w' = w := by
  have hc1 : w.cell? ⟨g, 1, none⟩ = some (.int .i64 e) := hb.cell 1
  have hc0 : w.cell? ⟨g, 0, none⟩ = some (.string s) := hb.cell 0
  by_cases he : e = 0
  · subst he
    go_enter Try.func15, Try.ntmps15
    go_wp2
    go_ret
    exact ⟨by simp [restV], rfl⟩
  · have h2 : (e != 0) = true := by simpa using he
    have H := Lib.hid (show restV e s = 0 from by simp [restV, he])
    go_enter Try.func15, Try.ntmps15
    go_wp2
    go_ret
    exact ⟨by rw [H.out]; rfl, rfl⟩

theorem rend_any (g : Nat) (e : Int) (s : ByteArray) (w : World) (hb : Blk w g 28 #[.string s, .int .i64 e]) :
    Calls Try.prog 17 #[.pointer (some ⟨g, 0, none⟩)] w fun er w' => er = .returned (.int .i64 (endV e s)) ∧ w' = w := by
  have hc1 : w.cell? ⟨g, 1, none⟩ = some (.int .i64 e) := hb.cell 1
  have hc0 : w.cell? ⟨g, 0, none⟩ = some (.string s) := hb.cell 0
  by_cases he : e = 0
  · subst he
    by_cases hs : s.size = 0
    · have h3 : s.toList.isEmpty = true := empty_of_size hs
      have H := Lib.hid (show endV 0 s = 0 from by simp [endV, hs])
      clear hs
      go_enter Try.func17, Try.ntmps17
      go_wp2
      go_ret
      exact ⟨by rw [H.out]; rfl, rfl⟩
    · have h3 : s.toList.isEmpty = false := nonempty_of_size hs
      have H := Lib.hid (show endV 0 s = 2 from by simp [endV, hs])
      clear hs
      go_enter Try.func17, Try.ntmps17
      go_wp2
      go_ret
      exact ⟨by rw [H.out]; rfl, rfl⟩
  · have h2 : (e == 0) = false := by simpa using he
    have H := Lib.hid (show endV e s = e from by simp [endV, he])
    go_enter Try.func17, Try.ntmps17
    go_wp2
    go_ret
    exact ⟨by rw [H.out]; rfl, rfl⟩
end Go.Proofs.Ytnpniddgfpdecaa
