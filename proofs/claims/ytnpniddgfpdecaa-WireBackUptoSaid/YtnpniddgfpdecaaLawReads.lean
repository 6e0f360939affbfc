/- The walk of the law WireReads: any parts of any text are read alike by the program's reader and the document's. -/
import Derived.Test.YtnpniddgfpdecaaWireExam
import Derived.Test.YtnpniddgfpdecaaWireRef
namespace Go.Proofs.Ytnpniddgfpdecaa
open Go.RowKit
attribute [local irreducible] Calls

/-- a part's kind -/
def kindV (k : Int) : Int := if k < 0 then (-(k + 1)) % 3 else k % 3
theorem kindV_lt (k : Int) : 0 ≤ kindV k ∧ kindV k < 3 := by unfold kindV; split <;> omega

theorem kind_any (k n z : Int) (s : ByteArray) (w : World) (h1 : -9223372036854775808 ≤ k) (h2 : k ≤ 9223372036854775807) :
    Calls Try.prog 7 #[.agg #[.int .i64 k, .int .i64 n, .int .i64 z, .string s]] w fun e w' => e = .returned (.int .i64 (kindV k)) ∧ w' = w.alloc (.cells #[.int .i64 k, .int .i64 n, .int .i64 z, .string s] 30) := by
  by_cases hk : k < 0
  · have H := Lib.hid (show kindV k = -((k + 1).tmod 3) from by
      rw [kindV, if_pos hk, ← Int.neg_tmod, Int.tmod_eq_emod_of_nonneg (by omega)])
    go_enter Try.func7, Try.ntmps7
    go_wp2
    go_ret
    rw [H.out]
    exact ⟨rfl, rfl⟩
  · have H := Lib.hid (show kindV k = k % 3 from by simp [kindV, hk])
    go_enter Try.func7, Try.ntmps7
    go_wp2
    go_ret
    rw [H.out]
    exact ⟨rfl, rfl⟩

/-- the parts that came in: part i's four cells -/
structure Parts13 (w : World) (A : Option Addr) (n : Nat) (K N Z : Nat → Int) (T : Nat → ByteArray) : Prop where
  some : 0 < n → ∃ b off, A = some ⟨b, off, none⟩ ∧ b < w.heap.size ∧ ∀ i, i < n →
    w.cell? ⟨b, off + i * 4, none⟩ = some (.int .i64 (K i)) ∧ w.cell? ⟨b, off + i * 4 + 1, none⟩ = some (.int .i64 (N i)) ∧ w.cell? ⟨b, off + i * 4 + 2, none⟩ = some (.int .i64 (Z i)) ∧ w.cell? ⟨b, off + i * 4 + 3, none⟩ = some (.string (T i))
  lo : ∀ i, i < n → -9223372036854775808 ≤ K i
  hi : ∀ i, i < n → K i ≤ 9223372036854775807

def ReadsRel (w wr : World) (n gR gX : Nat) (i : Value) : Prop :=
  ∃ (k : Nat) (e : Int) (s : ByteArray), k ≤ n ∧ i = .int .i64 k ∧ Blk wr gR 49 #[.int .i64 e, .string s] ∧ Blk wr gX 28 #[.string s, .int .i64 e] ∧ Below w.heap.size w wr

set_option maxHeartbeats 1000000 in
theorem reads_walk (s : ByteArray) (A : Option Addr) (n c : Nat) (K N Z : Nat → Int) (T : Nat → ByteArray) (w : World) (h : Parts13 w A n K N Z T) (hn : n ≤ 9223372036854775807) :
    Calls Try.prog 3 #[.string s, .slice A n c] w fun e w' => e = .returned (.bool true) ∧ Below w.heap.size w w' := by
  go_enter Try.func3, Try.ntmps3
  go_wp2_with fail
  refine (examples_any _).mono ?_
  rintro e w1 ⟨rfl, hB1⟩
  go_wp2_with fail
  refine (newreader_any s _).mono ?_
  rintro e w2 ⟨rfl, rfl⟩
  have hR2 : Blk ((w1.alloc (.cells #[.int .i64 0, .string s] 49)).alloc (.cells #[.string s, .int .i64 0] 28)) w1.heap.size 49 #[.int .i64 0, .string s] := (Blk.new w1 49 #[.int .i64 0, .string s]).alloc _
  have hX2 : Blk ((w1.alloc (.cells #[.int .i64 0, .string s] 49)).alloc (.cells #[.string s, .int .i64 0] 28)) (w1.heap.size + 1) 28 #[.string s, .int .i64 0] := by
    have := Blk.new (w1.alloc (.cells #[.int .i64 0, .string s] 49)) 28 #[.string s, .int .i64 0]
    simpa using this
  have hB2 := (hB1.alloc hB1.size (.cells #[.int .i64 0, .string s] 49)).alloc (by have := hB1.size; simp; omega) (.cells #[.string s, .int .i64 0] 28)
  have hz1 := hB1.size
  go_wp2_with fail
  generalize (w1.alloc (.cells #[.int .i64 0, .string s] 49)).alloc (.cells #[.string s, .int .i64 0] 28) = W2 at *
  obtain ⟨gR, hgR⟩ : ∃ g, g = w1.heap.size := ⟨_, rfl⟩
  rw [← hgR] at hR2 hX2 ⊢
  go_loopw [8, 9, 10] (fun i _ _ wr => ReadsRel w wr n gR (gR + 1) i) (fun i _ _ _ => n - (intOf i).toNat)
  case atStart => exact ⟨0, 0, s, Nat.zero_le _, rfl, hR2, hX2, hB2⟩
  case round =>
    obtain ⟨k, e0, s', hk, rfl, hR, hX, hB⟩ := hrel
    have HgR := Lib.hid hgR; clear hgR hR2 hX2 hB2 hB1
    by_cases hlt : k < n
    · by_cases h20 : k < 20
      · obtain ⟨b, off, rfl, hb, hcs⟩ := h.some (by omega)
        obtain ⟨c0, c1, c2, c3⟩ := hcs k hlt
        have d0 := (hB.cell (p := ⟨b, off + k * 4, none⟩) hb).trans c0
        have d1 := (hB.cell (p := ⟨b, off + k * 4 + 1, none⟩) hb).trans c1
        have d2 := (hB.cell (p := ⟨b, off + k * 4 + 2, none⟩) hb).trans c2
        have d3 := (hB.cell (p := ⟨b, off + k * 4 + 3, none⟩) hb).trans c3
        clear c0 c1 c2 c3 hcs
        go_wp2_with fail
        refine (kind_any _ _ _ _ _ (h.lo k hlt) (h.hi k hlt)).mono ?_
        rintro e w3 ⟨rfl, rfl⟩
        have hP3 := (Blk.new wr 30 #[.int .i64 (K k), .int .i64 (N k), .int .i64 (Z k), .string (T k)]).alloc (.cells #[.int .i64 (K k), .int .i64 (N k), .int .i64 (Z k), .string (T k)] 30)
        have hR3 := (hR.alloc (.cells #[.int .i64 (K k), .int .i64 (N k), .int .i64 (Z k), .string (T k)] 30)).alloc (.cells #[.int .i64 (K k), .int .i64 (N k), .int .i64 (Z k), .string (T k)] 30)
        have hX3 := (hX.alloc (.cells #[.int .i64 (K k), .int .i64 (N k), .int .i64 (Z k), .string (T k)] 30)).alloc (.cells #[.int .i64 (K k), .int .i64 (N k), .int .i64 (Z k), .string (T k)] 30)
        have hB3 := (hB.alloc hB.size (.cells #[.int .i64 (K k), .int .i64 (N k), .int .i64 (Z k), .string (T k)] 30)).alloc (by have := hB.size; simp; omega) (.cells #[.int .i64 (K k), .int .i64 (N k), .int .i64 (Z k), .string (T k)] 30)
        have hz3 : w.heap.size ≤ gR := by have := HgR.out; omega
        obtain ⟨gP, hgP⟩ : ∃ g, g = wr.heap.size := ⟨_, rfl⟩
        rw [← hgP] at hP3
        clear d0 d1 d2 d3 hR hX hB hb
        have h3 := kindV_lt (K k)
        generalize kindV (K k) = q at *
        have hq : q = 0 ∨ q = 1 ∨ q = 2 := by omega
        clear h3
        generalize (wr.alloc (.cells #[.int .i64 (K k), .int .i64 (N k), .int .i64 (Z k), .string (T k)] 30)).alloc (.cells #[.int .i64 (K k), .int .i64 (N k), .int .i64 (Z k), .string (T k)] 30) = W3 at *
        rw [← hgP]
        have HgP := Lib.hid hgP; clear hgP
        rcases hq with rfl | rfl | rfl
        · go_wp2_with fail
          refine wp_region_order (l := [(0,0),(1,0),(2,0),(4,0),(5,0),(6,0),(3,1),(7,2),(8,0),(9,0)]) (P := Try.prog) [2, 6] (fun W => W.cell? ⟨gP, 2, none⟩ = some (.int .i64 (Z k))) (by kernel_rfl) (by kernel_rfl) (fun _ _ d _ _ h => (by cases d <;> exact h)) (hP3.cell 2) ?_
          repeat (first | (refine walkH_skip rfl (by rfl) ?_; intro K hK; go_simp; refine hK _ ?_; clear hK K) | (refine walkH_take rfl (by rfl) ?_; apply Exists.intro; refine ⟨fun WS hWS => ?_, fun K hK => ?_⟩; (· (try (replace hWS := hWS rfl)); (try dsimp only at hWS); go_simp; with_reducible rfl); (go_simp; refine hK _ ?_; clear hK K)))
          refine walkH_do rfl (fun K hK => ?_); go_simp
          refine (num_any gR e0 _ s' _ ?_).mono ?_
          · exact hR3.drew
          rintro e w4 ⟨rfl, hR4, hg4⟩
          refine hK _ _ ((hP3.drew.grown hg4 (by simpa using Blk.ne_ hP3 hR3 (by decide))).cell 2) ?_
          clear hK K
          have hX4 := hX3.drew.grown hg4 (by simp)
          have hP4 := hP3.drew.grown hg4 (by simpa using Blk.ne_ hP3 hR3 (by decide))
          have hB4 := only_below hB3.drew hg4 hB3.size hz3
          repeat (first | (refine walkH_skip rfl (by rfl) ?_; intro K hK; go_simp; refine hK _ ?_; clear hK K) | (refine walkH_take rfl (by rfl) ?_; apply Exists.intro; refine ⟨fun WS hWS => ?_, fun K hK => ?_⟩; (· (try (replace hWS := hWS rfl)); (try dsimp only at hWS); go_simp; with_reducible rfl); (go_simp; refine hK _ ?_; clear hK K)))
          refine walkH_go rfl (fun K hK => ?_); go_simp
          refine (rnum_any (gR + 1) e0 _ s' _ hX4).mono ?_
          rintro e w5 ⟨rfl, hX5, hg5⟩
          refine hK _ _ ?_
          clear hK K
          have hR5 := hR4.grown hg5 (by simp)
          have hB5 := only_below hB4 hg5 hB4.size (by omega)
          clear hR3 hX3 hP3 hB3 hR4 hX4 hP4 hB4 hg4 hg5
          generalize numV e0 s' (Z k) = V at *
          generalize numE e0 s' (Z k) = E1 at *
          generalize numS e0 s' (Z k) = S1 at *
          repeat (first | (refine walkH_skip rfl (by rfl) ?_; intro K hK; go_simp; refine hK _ ?_; clear hK K) | (refine walkH_take rfl (by rfl) ?_; apply Exists.intro; refine ⟨fun WS hWS => ?_, fun K hK => ?_⟩; (· go_simp; with_reducible rfl); (go_simp; refine hK _ ?_; clear hK K)))
          refine walkH_nil ?_
          go_wp2_with fail
          refine (rest_any gR _ _ _ hR5).mono ?_
          rintro e w6 ⟨rfl, rfl⟩
          go_wp2_with fail
          refine (rrest_any (gR + 1) _ _ _ hX5).mono ?_
          rintro e w6 ⟨rfl, rfl⟩
          go_wp2_with fail
          refine ⟨⟨k + 1, _, _, by omega, by go_num, hR5, hX5, hB5⟩, by simp [intOf]; omega⟩
        · go_wp2_with fail
          refine wp_region_order (l := [(0,0),(1,0),(2,0),(4,0),(5,0),(6,0),(3,1),(7,2),(8,0),(9,0)]) (P := Try.prog) [2, 6] (fun W => W.cell? ⟨gP, 1, none⟩ = some (.int .i64 (N k))) (by kernel_rfl) (by kernel_rfl) (fun _ _ d _ _ h => (by cases d <;> exact h)) (hP3.cell 1) ?_
          repeat (first | (refine walkH_skip rfl (by rfl) ?_; intro K hK; go_simp; refine hK _ ?_; clear hK K) | (refine walkH_take rfl (by rfl) ?_; apply Exists.intro; refine ⟨fun WS hWS => ?_, fun K hK => ?_⟩; (· (try (replace hWS := hWS rfl)); (try dsimp only at hWS); go_simp; with_reducible rfl); (go_simp; refine hK _ ?_; clear hK K)))
          refine walkH_do rfl (fun K hK => ?_); go_simp
          refine (raw_any gR e0 _ s' _ ?_).mono ?_
          · exact hR3.drew
          rintro e w4 ⟨rfl, hR4, hg4⟩
          refine hK _ _ ((hP3.drew.grown hg4 (by simpa using Blk.ne_ hP3 hR3 (by decide))).cell 1) ?_
          clear hK K
          have hX4 := hX3.drew.grown hg4 (by simp)
          have hP4 := hP3.drew.grown hg4 (by simpa using Blk.ne_ hP3 hR3 (by decide))
          have hB4 := only_below hB3.drew hg4 hB3.size hz3
          repeat (first | (refine walkH_skip rfl (by rfl) ?_; intro K hK; go_simp; refine hK _ ?_; clear hK K) | (refine walkH_take rfl (by rfl) ?_; apply Exists.intro; refine ⟨fun WS hWS => ?_, fun K hK => ?_⟩; (· (try (replace hWS := hWS rfl)); (try dsimp only at hWS); go_simp; with_reducible rfl); (go_simp; refine hK _ ?_; clear hK K)))
          refine walkH_go rfl (fun K hK => ?_); go_simp
          refine (rraw_any (gR + 1) e0 _ s' _ hX4).mono ?_
          rintro e w5 ⟨rfl, hX5, hg5⟩
          refine hK _ _ ?_
          clear hK K
          have hR5 := hR4.grown hg5 (by simp)
          have hB5 := only_below hB4 hg5 hB4.size (by omega)
          clear hR3 hX3 hP3 hB3 hR4 hX4 hP4 hB4 hg4 hg5
          generalize rawV e0 s' (N k) = V at *
          generalize rawE e0 s' (N k) = E1 at *
          generalize rawS e0 s' (N k) = S1 at *
          repeat (first | (refine walkH_skip rfl (by rfl) ?_; intro K hK; go_simp; refine hK _ ?_; clear hK K) | (refine walkH_take rfl (by rfl) ?_; apply Exists.intro; refine ⟨fun WS hWS => ?_, fun K hK => ?_⟩; (· go_simp; with_reducible rfl); (go_simp; refine hK _ ?_; clear hK K)))
          refine walkH_nil ?_
          go_wp2_with fail
          refine (rest_any gR _ _ _ hR5).mono ?_
          rintro e w6 ⟨rfl, rfl⟩
          go_wp2_with fail
          refine (rrest_any (gR + 1) _ _ _ hX5).mono ?_
          rintro e w6 ⟨rfl, rfl⟩
          go_wp2_with fail
          refine ⟨⟨k + 1, _, _, by omega, by go_num, hR5, hX5, hB5⟩, by simp [intOf]; omega⟩
        · go_wp2_with fail
          refine wp_region_order (l := [(0,0),(1,0),(2,0),(4,0),(5,0),(6,0),(3,1),(7,2),(8,0),(9,0)]) (P := Try.prog) [2, 6] (fun W => W.cell? ⟨gP, 2, none⟩ = some (.int .i64 (Z k))) (by kernel_rfl) (by kernel_rfl) (fun _ _ d _ _ h => (by cases d <;> exact h)) (hP3.cell 2) ?_
          repeat (first | (refine walkH_skip rfl (by rfl) ?_; intro K hK; go_simp; refine hK _ ?_; clear hK K) | (refine walkH_take rfl (by rfl) ?_; apply Exists.intro; refine ⟨fun WS hWS => ?_, fun K hK => ?_⟩; (· (try (replace hWS := hWS rfl)); (try dsimp only at hWS); go_simp; with_reducible rfl); (go_simp; refine hK _ ?_; clear hK K)))
          refine walkH_do rfl (fun K hK => ?_); go_simp
          refine (opq_any gR e0 _ s' _ ?_).mono ?_
          · exact hR3.drew
          rintro e w4 ⟨rfl, hR4, hg4⟩
          refine hK _ _ ((hP3.drew.grown hg4 (by simpa using Blk.ne_ hP3 hR3 (by decide))).cell 2) ?_
          clear hK K
          have hX4 := hX3.drew.grown hg4 (by simp)
          have hP4 := hP3.drew.grown hg4 (by simpa using Blk.ne_ hP3 hR3 (by decide))
          have hB4 := only_below hB3.drew hg4 hB3.size hz3
          repeat (first | (refine walkH_skip rfl (by rfl) ?_; intro K hK; go_simp; refine hK _ ?_; clear hK K) | (refine walkH_take rfl (by rfl) ?_; apply Exists.intro; refine ⟨fun WS hWS => ?_, fun K hK => ?_⟩; (· (try (replace hWS := hWS rfl)); (try dsimp only at hWS); go_simp; with_reducible rfl); (go_simp; refine hK _ ?_; clear hK K)))
          refine walkH_go rfl (fun K hK => ?_); go_simp
          refine (ropq_any (gR + 1) e0 _ s' _ hX4).mono ?_
          rintro e w5 ⟨rfl, hX5, hg5⟩
          refine hK _ _ ?_
          clear hK K
          have hR5 := hR4.grown hg5 (by simp)
          have hB5 := only_below hB4 hg5 hB4.size (by omega)
          clear hR3 hX3 hP3 hB3 hR4 hX4 hP4 hB4 hg4 hg5
          generalize opqV e0 s' (Z k) = V at *
          generalize opqE e0 s' (Z k) = E1 at *
          generalize opqS e0 s' (Z k) = S1 at *
          repeat (first | (refine walkH_skip rfl (by rfl) ?_; intro K hK; go_simp; refine hK _ ?_; clear hK K) | (refine walkH_take rfl (by rfl) ?_; apply Exists.intro; refine ⟨fun WS hWS => ?_, fun K hK => ?_⟩; (· go_simp; with_reducible rfl); (go_simp; refine hK _ ?_; clear hK K)))
          refine walkH_nil ?_
          go_wp2_with fail
          refine (rest_any gR _ _ _ hR5).mono ?_
          rintro e w6 ⟨rfl, rfl⟩
          go_wp2_with fail
          refine (rrest_any (gR + 1) _ _ _ hX5).mono ?_
          rintro e w6 ⟨rfl, rfl⟩
          go_wp2_with fail
          refine ⟨⟨k + 1, _, _, by omega, by go_num, hR5, hX5, hB5⟩, by simp [intOf]; omega⟩
      · go_wp2_with fail
        refine (end_any gR e0 s' _ hR).mono ?_
        rintro e w6 ⟨rfl, rfl⟩
        go_wp2_with fail
        refine (rend_any (gR + 1) e0 s' _ hX).mono ?_
        rintro e w6 ⟨rfl, rfl⟩
        go_wp2_with fail
        go_ret
        exact ⟨by simp, hB⟩
    · go_wp2_with fail
      refine (end_any gR e0 s' _ hR).mono ?_
      rintro e w6 ⟨rfl, rfl⟩
      go_wp2_with fail
      refine (rend_any (gR + 1) e0 s' _ hX).mono ?_
      rintro e w6 ⟨rfl, rfl⟩
      go_wp2_with fail
      go_ret
      exact ⟨by simp, hB⟩
end Go.Proofs.Ytnpniddgfpdecaa
