/- Layer 13's writer, walked: Number, Opaque. -/
import Derived.Test.YtnpniddgfpdecaaWireWrite
namespace Go.Proofs.Ytnpniddgfpdecaa
open Go.RowKit
attribute [local irreducible] Calls

set_option maxHeartbeats 1000000 in
theorem wnum_ok (base g : Nat) (n k : Nat) (l : List UInt8) (v : Value) (w : World) (h : Wr w base g 0 l v) (hl : l.length + 7 ≤ 4294967296) (hbase : base ≤ w.heap.size) (h1 : 1 ≤ k) (h7 : k ≤ 7) (hn : n < 256 ^ k) :
    Calls Try.prog 19 #[.pointer (some ⟨g, 0, none⟩), .int .i64 n, .int .i64 k] w fun er w' => er = .returned (.tuple #[]) ∧ ∃ v', Wr w' base g 0 (l ++ beBytes n k) v' ∧ Keep2 w w' g v.ownBlock ∧ NewRow w.heap.size v.ownBlock v'.ownBlock := by
  have hc0 : w.cell? ⟨g, 0, none⟩ = some (.int .i64 0) := h.blk.cell 0
  have hc1 : w.cell? ⟨g, 1, none⟩ = some v := h.blk.cell 1
  have hne := h.ne
  have hb := h.blk
  have hown := h.own
  obtain ⟨a0, c0, rfl⟩ := own_form hown
  obtain ⟨i0, hi, hz0, hz1, hz2⟩ := info_parts infoU8
  have hn9 : n < 72057594037927936 := Nat.lt_of_lt_of_le hn (Nat.pow_le_pow_right (by omega : 256 > 0) h7)
  have hk1 : (1 : Int) ≤ (k : Int) := by omega
  have hk7 : (k : Int) ≤ 7 := by omega
  obtain ⟨C, hC⟩ : ∃ C : Int, C = 8 * (k : Int) := ⟨_, rfl⟩
  obtain ⟨D, hD⟩ : ∃ D : Int, D = ((256 ^ k : Nat) : Int) := ⟨_, rfl⟩
  have hwr : IntKind.i64.wrap (8 * (k : Int)) = C := by rw [hC, IntKind.wrap_i64]; omega
  have hsh : Op.shift .shl .i64 1 .i64 C = pure (.int .i64 D) := by rw [hC, hD]; exact shl_one k h7
  have hnD : (n : Int) < D := by rw [hD]; exact Int.ofNat_lt.2 hn
  have HC := Lib.hid hC; clear hC
  have HD := Lib.hid hD; clear hD
  go_enter Try.func19, Try.ntmps19
  go_wp2
  refine wp_region_order (l := [(0,0),(1,0),(2,0),(3,0),(4,0),(5,0),(6,0),(7,0),(8,0),(9,0),(10,0),(11,0),(12,0),(13,1),(14,0),(15,0),(16,0),(17,0),(18,0),(19,0),(20,0),(21,0),(22,0),(23,0),(24,1),(25,0),(26,0)]) (P := Try.prog) [] (fun _ => True) (by kernel_rfl) (by kernel_rfl) (fun _ _ d _ _ h => (by cases d <;> exact h)) trivial ?_
  repeat (first | (refine walkH_skip rfl (by rfl) ?_; intro K hK; go_simp; refine hK _ ?_; clear hK K) | (refine walkH_take rfl (by rfl) ?_; apply Exists.intro; refine ⟨fun WS hWS => ?_, fun K hK => ?_⟩; (· go_simp; with_reducible rfl); (go_simp; refine hK _ ?_; clear hK K)))
  refine walkH_do rfl (fun K hK => ?_); go_simp
  refine (fine_ok _ _ _ _ ?_ ?_).mono ?_
  · rfl
  · exact hc0
  rintro e w' ⟨rfl, rfl⟩
  refine hK _ _ trivial ?_
  clear hK K
  repeat (first | (refine walkH_skip rfl (by rfl) ?_; intro K hK; go_simp; refine hK _ ?_; clear hK K) | (refine walkH_take rfl (by rfl) ?_; apply Exists.intro; refine ⟨fun WS hWS => ?_, fun K hK => ?_⟩; (· go_simp; with_reducible rfl); (go_simp; refine hK _ ?_; clear hK K)))
  refine walkH_do rfl (fun K hK => ?_); go_simp
  refine (fine_ok _ _ _ _ ?_ ?_).mono ?_
  · rfl
  · exact hc0
  rintro e w' ⟨rfl, rfl⟩
  refine hK _ _ trivial ?_
  clear hK K
  repeat (first | (refine walkH_skip rfl (by rfl) ?_; intro K hK; go_simp; refine hK _ ?_; clear hK K) | (refine walkH_take rfl (by rfl) ?_; apply Exists.intro; refine ⟨fun WS hWS => ?_, fun K hK => ?_⟩; (· go_simp; with_reducible rfl); (go_simp; refine hK _ ?_; clear hK K)))
  refine walkH_nil ?_
  go_wp2
  go_loopw [6, 35] (fun _ x wr => ∃ (j : Nat) (v' : Value), j ≤ k ∧ x = .int .i64 j ∧ Wr wr base g 0 (l ++ (beBytes n k).take j) v' ∧ Keep2 w wr g (Value.slice a0 l.length c0).ownBlock ∧ NewRow w.heap.size (Value.slice a0 l.length c0).ownBlock v'.ownBlock) (fun _ x _ => k - (intOf x).toNat)
  case atStart => exact ⟨0, .slice a0 l.length c0, Nat.zero_le _, rfl, ⟨h.blk, by simp only [List.take_zero, List.append_nil]; exact h.own⟩, (Keep2.refl _ _ _).drew, NewRow.same⟩
  case round =>
    obtain ⟨j, v1, hj, rfl, hW, hK2, hN⟩ := hrel
    by_cases hlt : j < k
    · obtain ⟨L, hL⟩ : ∃ L, L = l ++ (beBytes n k).take j := ⟨_, rfl⟩
      rw [← hL] at hW
      have hLl : L.length ≤ l.length + 7 - 1 := by rw [hL, List.length_append, List.length_take]; omega
      have HL := Lib.hid hL; clear hL
      have hb1 := hW.blk
      have hown1 := hW.own
      obtain ⟨a1, c1, rfl⟩ := own_form hown1
      have hne1 := hW.ne
      have hs1 : wr.cell? ⟨g, 1, none⟩ = some (.slice a1 L.length c1) := hb1.cell 1
      obtain ⟨M, hM⟩ : ∃ M : Int, M = (k : Int) - 1 := ⟨_, rfl⟩
      obtain ⟨M2, hM2⟩ : ∃ M2 : Int, M2 = M - (j : Int) := ⟨_, rfl⟩
      obtain ⟨M8, hM8⟩ : ∃ M8 : Int, M8 = ((8 * (k - 1 - j) : Nat) : Int) := ⟨_, rfl⟩
      obtain ⟨V, hV⟩ : ∃ V : Nat, V = n / 2 ^ (8 * (k - 1 - j)) := ⟨_, rfl⟩
      have w1 : IntKind.i64.wrap ((k : Int) - 1) = M := by rw [hM, IntKind.wrap_i64]; omega
      have w2 : IntKind.i64.wrap (M - (j : Int)) = M2 := by rw [hM2, hM, IntKind.wrap_i64]; omega
      have w3 : IntKind.i64.wrap (8 * M2) = M8 := by rw [hM8, hM2, hM, IntKind.wrap_i64]; omega
      have w4 : Op.shift .shr .i64 (n : Int) .i64 M8 = pure (.int .i64 (V : Int)) := by rw [hM8, hV]; exact shr_nat n _ (by omega)
      have HM := Lib.hid hM; have HM2 := Lib.hid hM2; have HM8 := Lib.hid hM8; have HV := Lib.hid hV
      clear hM hM2 hM8 hV
      go_wp2
      refine wp_region_order (l := [(0,0),(1,0),(2,0),(3,0),(4,0),(5,0),(6,0),(7,0),(8,0),(9,0),(10,0),(11,0),(12,0),(13,1),(14,1),(15,0),(16,0),(17,2)]) (P := Try.prog) [4] (fun W => W.cell? ⟨g, 1, none⟩ = some (.slice a1 L.length c1)) (by kernel_rfl) (by kernel_rfl) (fun _ _ d _ _ h => (by cases d <;> exact h)) hs1 ?_
      repeat (first | (refine walkH_skip rfl (by rfl) ?_; intro K hK; go_simp; refine hK _ ?_; clear hK K) | (refine walkH_take rfl (by rfl) ?_; apply Exists.intro; refine ⟨fun WS hWS => ?_, fun K hK => ?_⟩; (· (try (replace hWS := hWS rfl)); (try dsimp only at hWS); go_simp; with_reducible rfl); (go_simp; refine hK _ ?_; clear hK K)))
      refine walkH_do rfl (fun K hK => ?_); go_simp
      refine hK _ _ ?_ ?_
      · exact (hb1.drew.alloc _).cell 1
      clear hK K
      refine walkH_do rfl (fun K hK => ?_)
      refine do_append_src rfl (.tmp 42) (.tmp 51) _ _ rfl base 5 i0 _ 1 1 Try.underlying51 hi hz0 hz1 hz2 rfl (.slice a1 L.length c1) L.length (bcells L) rfl (World.ownsRow.alloc (show wr.drew.ownsRow base 5 1 _ _ _ from hown1) _) _ 1 [_] rfl (Src.ofSlice _ Try.underlying51 _ 1 1 [_] rfl (cell_one_new _ _ _) (by simp [Value.oneCell'])) ?_ ?_ ?_ ?_
      · simp only [maxLen]; omega
      · omega
      · have := hK2.size; simp; omega
      intro v2 w2 hown2 hg2 _ hat2
      obtain ⟨a2, c2, rfl⟩ := own_form hown2
      have hb2 := Blk.grown (hb1.drew.alloc (.cells #[.int .u8 (IntKind.u8.wrap (V : Int))] 5)) hg2 hne1
      have hne2 := own_blk_ne hown2 hb2 (by decide)
      have hs2 : w2.cell? ⟨g, 1, none⟩ = some (.slice a1 L.length c1) := hb2.cell 1
      have hf2 := hb2.frozen 1
      have hk2 : Keep2 w w2 g (Value.slice a0 l.length c0).ownBlock := (hK2.drew.alloc _).trans (Keep2.of_row hg2 g) hN
      have hN2 : NewRow w.heap.size (Value.slice a0 l.length c0).ownBlock (Value.slice a2 (L.length + 1) c2).ownBlock := by
        rcases hat2 with e | e
        · rw [e]; exact hN
        · exact .inr fun x hx => by rw [e] at hx; cases hx; have := hK2.size; simp; omega
      refine hK _ _ hs2 ?_
      clear hK K
      repeat (first | (refine walkH_skip rfl (by rfl) ?_; intro K hK; go_simp; refine hK _ ?_; clear hK K) | (refine walkH_take rfl (by rfl) ?_; apply Exists.intro; refine ⟨fun WS hWS => ?_, fun K hK => ?_⟩; (· go_simp; with_reducible rfl); (go_simp; refine hK _ ?_; clear hK K)))
      refine walkH_go rfl (fun K hK => ?_); go_simp
      refine hK _ _ ?_
      clear hK K
      refine walkH_nil ?_
      go_wp2
      refine ⟨⟨j + 1, _, by omega, by go_num, ⟨?_, ?_⟩, hk2.set_ 1 _, hN2⟩, by simp [intOf]; omega⟩
      · simpa using hb2.set_ 1 (.slice a2 (L.length + 1) c2)
      · have hbyte : bcells L ++ [Value.int .u8 (IntKind.u8.wrap (V : Int))] = bcells (l ++ (beBytes n k).take (j + 1)) := by
          rw [beBytes_take k n j hlt, ← List.append_assoc, ← HL.out]
          simp [bcells, HV.out]
          rw [IntKind.wrap_u8, Int.pow_mul]
          rfl
        have hlen : L.length + 1 = (l ++ (beBytes n k).take (j + 1)).length := by
          rw [beBytes_take k n j hlt, ← List.append_assoc, ← HL.out]
          simp
        rw [hbyte, hlen] at hown2
        rw [hlen] at hne2 ⊢
        exact own_set hown2 (fun e => hne2 e.symm) _
    · go_wp2
      go_end0
      have : j = k := by omega
      subst this
      rw [List.take_of_length_le (by rw [beBytes_length]; omega)] at hW
      exact ⟨rfl, v1, hW, hK2, hN⟩

set_option maxHeartbeats 400000 in
theorem wopq_ok (base g : Nat) (k : Nat) (s : ByteArray) (l : List UInt8) (v : Value) (w : World) (h : Wr w base g 0 l v) (hl : l.length + 7 + s.size ≤ 4294967296) (hbase : base ≤ w.heap.size) (h1 : 1 ≤ k) (h7 : k ≤ 7) (hn : s.size < 256 ^ k) :
    Calls Try.prog 21 #[.pointer (some ⟨g, 0, none⟩), .string s, .int .i64 k] w fun er w' => er = .returned (.tuple #[]) ∧ ∃ v', Wr w' base g 0 (l ++ beBytes s.size k ++ s.data.toList) v' ∧ Keep2 w w' g v.ownBlock ∧ NewRow w.heap.size v.ownBlock v'.ownBlock := by
  go_enter Try.func21, Try.ntmps21
  go_wp2_with fail
  refine (wnum_ok base g s.size k l v _ h ?_ hbase h1 h7 hn).mono ?_
  · omega
  rintro e w1 ⟨rfl, v1, hw1, hk1, hn1⟩
  go_wp2_with fail
  refine (wraw_ok base g _ s v1 _ hw1 ?_ ?_).mono ?_
  · rw [List.length_append, beBytes_length]; omega
  · have := hk1.size; omega
  rintro e w2 ⟨rfl, v2, hw2, hk2, hn2⟩
  go_wp2_with fail
  go_end0
  exact ⟨rfl, v2, hw2, hk1.trans hk2 hn1, hn1.trans hn2 hk1.size⟩
end Go.Proofs.Ytnpniddgfpdecaa
