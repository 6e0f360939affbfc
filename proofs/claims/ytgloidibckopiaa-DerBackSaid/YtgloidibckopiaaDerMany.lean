/- Layer 14's Next, walked: a length of one to three bytes, perhaps ill-made. -/
import Derived.Test.YtgloidibckopiaaDerFar
import Derived.Laws.Strings
namespace Go.Proofs.Ytgloidibckopiaa
open Go.RowKit
attribute [local irreducible] Calls

theorem beNat_take (s : ByteArray) (k : Nat) (h : k < s.size) : beNat (s.data.toList.take (k + 1)) = beNat (s.data.toList.take k) * 256 + (s.data[k]?.getD 0).toNat := by
  have h' : k < s.data.toList.length := by simpa using h
  rw [List.take_succ_eq_append_getElem h', beNat_snoc]
  have hk : k < s.data.size := h
  rw [show s.data[k]?.getD 0 = s.data[k] from by rw [Array.getElem?_eq_getElem hk]; rfl]
  simp
theorem beNat_take_lt (s : ByteArray) (k n : Nat) (h : k ≤ n) : beNat (s.data.toList.take k) < 256 ^ n := by
  refine Nat.lt_of_lt_of_le (beNat_lt _) (Nat.pow_le_pow_right (by omega) (Nat.le_trans (List.length_take_le _ _) h))

theorem wrap64_small (n : Nat) (h : n < 16777216) : wrap64 (n : Int) = (n : Int) := by unfold wrap64; omega
theorem cmp_eq {a b : ByteArray} {C : Bool} (h : (a.toList == b.toList) = C) : C = decide (a = b) := by
  rw [← h]
  by_cases e : a = b
  · subst e; simp
  · rw [decide_eq_false e]
    exact beq_eq_false_iff_ne.2 (fun h => e (bytes_ext (by rw [ByteArray.toList_eq, ByteArray.toList_eq] at h; exact h)))
theorem fit_lt {a p n : Nat} (h : a < p + n) (_hp : p ≤ a) : ((a - p : Nat) : Int) < (n : Int) := by omega
theorem fit_gi {a p n : Nat} (h : ¬ a < p + n) (_hp : p ≤ a) : ¬ ((a - p : Nat) : Int) < (n : Int) := by omega
theorem wrapi_small {n : Nat} (h : n < 256) : IntKind.i64.wrap (n : Int) = (n : Int) := by rw [IntKind.wrap_i64]; omega
theorem fit_ge {a p n : Nat} (h : ¬ a < p + n) (_hp : p ≤ a) : n ≤ a - p := by omega
/-- a long length's number -/
def longN (s : ByteArray) (k : Nat) : Nat := beNat ((s.data.toList.drop 2).take k)
theorem longN_lt (s : ByteArray) (k : Nat) (h : k ≤ 3) : longN s k < 16777216 := by
  have h1 := beNat_lt ((s.data.toList.drop 2).take k)
  have h2 : 256 ^ ((s.data.toList.drop 2).take k).length ≤ 256 ^ 3 := Nat.pow_le_pow_right (by omega) (Nat.le_trans (List.length_take_le _ _) h)
  unfold longN
  exact Nat.lt_of_lt_of_le h1 h2
theorem nx_many (s : ByteArray) (k : Nat) (h : ¬ s.size < 2) (h31 : ¬ byteAt s 0 % 32 = 31) (h128 : ¬ byteAt s 1 < 128) (hk : byteAt s 1 - 128 = k) (h3 : k ≤ 3) (hfit : 2 + k ≤ s.size) :
    (lenS (longN s k) = s.extract 1 (2 + k) → 2 + k + longN s k ≤ s.size → nx s = some (2 + k, longN s k)) ∧ (¬ (lenS (longN s k) = s.extract 1 (2 + k)) ∨ s.size < 2 + k + longN s k → nx s = none) := by
  have hc := cmp_many s k (by omega) hk h3 hfit
  unfold longN
  generalize hX : lenS (beNat ((s.data.toList.drop 2).take k)) = X at hc
  generalize hY : s.extract 1 (2 + k) = Y at hc
  have hn : nx s = if k < 1 ∨ 3 < k ∨ s.size < 2 + k then none
      else if beNat ((s.data.toList.drop 2).take k) < 128 ∨ (1 < k ∧ beNat ((s.data.toList.drop 2).take k) < 256 ^ (k - 1)) then none
      else if s.size < 2 + k + beNat ((s.data.toList.drop 2).take k) then none
      else some (2 + k, beNat ((s.data.toList.drop 2).take k)) := by
    rw [nx, if_neg (by omega), if_neg h128, hk]
  generalize beNat ((s.data.toList.drop 2).take k) = NN at *
  generalize 256 ^ (k - 1) = Q at *
  constructor
  · intro e1 e2
    have h1 := hc.1 e1
    rw [hn, if_neg (by omega), if_neg (by omega), if_neg (by omega)]
  · intro e
    rw [hn]
    by_cases a1 : k < 1 ∨ 3 < k ∨ s.size < 2 + k
    · rw [if_pos a1]
    · rw [if_neg a1]
      by_cases a2 : NN < 128 ∨ (1 < k ∧ NN < Q)
      · rw [if_pos a2]
      · rw [if_neg a2]
        by_cases a3 : s.size < 2 + k + NN
        · rw [if_pos a3]
        · have := hc.2 (by omega)
          exact absurd this (e.resolve_right a3)

set_option maxRecDepth 100000 in
set_option maxHeartbeats 1600000 in
theorem next_many (s : ByteArray) (w : World) (h : ¬ s.size < 2) (h31 : ¬ byteAt s 0 % 32 = 31) (h128 : ¬ byteAt s 1 < 128)
    (h3 : byteAt s 1 - 128 ≤ 3) (hfit : 2 + (byteAt s 1 - 128) ≤ s.size) : Calls Try.prog 8 #[.string s] w (NextPost s w) := by
  have kc := fun (w : World) (s : ByteArray) => Lib.run_convert_string_bytes (P := Try.prog) w 9 43 5 s Try.underlying9 Try.underlying43 Try.underlying5
  have hs : 2 ≤ s.size := by omega
  have hb0 := byteAt_get s 0 (by omega)
  have hb1 := byteAt_get s 1 (by omega)
  have hl0 := byteAt_lt s 0
  have hl1 := byteAt_lt s 1
  obtain ⟨k, hk⟩ : ∃ k, k = byteAt s 1 - 128 := ⟨_, rfl⟩
  have hV : (s.extract 2 (2 + k)).size = k := by simp; omega
  have hVL : (s.extract 2 (2 + k)).data.toList = (s.data.toList.drop 2).take k := by rw [extract_list, Nat.add_sub_cancel_left]
  have hcell : ∀ j, j < k → ∀ w : World, (Lib.bytesWorld w 5 (s.extract 2 (2 + k))).cell? ⟨w.heap.size, j, none⟩ = some (.int .u8 ((s.extract 2 (2 + k)).data.toList.getD j 0).toNat) := fun j hj w => Lib.bytesWorld_cell w 5 _ j (by omega)
  have hv : s.extract 2 (1 + (1 + k)) = s.extract 2 (2 + k) := by congr 1; omega
  have hNX := nx_many s k h h31 h128 hk.symm (by omega) (by omega)
  have hNlt := longN_lt s k (by omega)
  have hN32 : longN s k < 4294967296 := Nat.lt_of_lt_of_le hNlt (by decide)
  have hNd : (s.data.toList.drop 2).take k = (s.data.toList.drop 2).take k := rfl
  have hN0 : beNat ((s.data.toList.drop 2).take k) = longN s k := rfl
  generalize longN s k = NN at *
  rw [← hVL] at hN0
  clear hNd
  obtain ⟨B0, hB0⟩ : ∃ x, byteAt s 0 = x := ⟨_, rfl⟩
  rw [hB0] at hb0 hl0 h31
  have HB0 := Lib.hid hB0; clear hB0
  generalize byteAt s 1 = B1 at *
  have hw1 : IntKind.i64.wrap (B1 : Int) = (B1 : Int) := by rw [IntKind.wrap_i64]; omega
  have hw2 : ¬ (B1 : Int) < 128 := by omega
  obtain ⟨M, hM⟩ : ∃ M : Int, M = (B0 : Int) % 32 := ⟨_, rfl⟩
  have ha : bits .and .u8 (B0 : Int) 31 = M := by rw [hM, and31_u8 B0 hl0]
  have hm : (M == 31) = false := by rw [hM]; simp; omega
  clear hM h31
  have hK : (B1 : Int) - 128 = k := by omega
  have hk7 : k ≤ 3 := by omega
  have hf2 : 2 + k ≤ s.size := by omega
  clear hk h3 hfit h128
  have HNX := Lib.hid hNX; clear hNX
  have HN0 := Lib.hid hN0; clear hN0
  clear hVL
  generalize s.extract 2 (2 + k) = V at *
  go_enter Try.func8, Try.ntmps8
  go_wp2_with fail
  have hcell := fun j hj => hcell j hj (w.alloc (.cells #[.int .i64 0, .string ⟨#[]⟩, .string ⟨#[]⟩] 24))
  have hB : Below (w.alloc (.cells #[.int .i64 0, .string ⟨#[]⟩, .string ⟨#[]⟩] 24)).drew.heap.size (w.alloc (.cells #[.int .i64 0, .string ⟨#[]⟩, .string ⟨#[]⟩] 24)).drew (Lib.bytesWorld (w.alloc (.cells #[.int .i64 0, .string ⟨#[]⟩, .string ⟨#[]⟩] 24)) 5 V) :=
    ⟨(bytesWorld_os _ _ _).1, (bytesWorld_os _ _ _).2.1, (bytesWorld_os _ _ _).2.2, by rw [Lib.bytesWorld_size]; simp, fun i hi => Lib.bytesWorld_at_old _ _ _ i hi⟩
  have hSz : w.heap.size + 1 ≤ (Lib.bytesWorld (w.alloc (.cells #[.int .i64 0, .string ⟨#[]⟩, .string ⟨#[]⟩] 24)) 5 V).heap.size := by rw [Lib.bytesWorld_size]; simp
  have hcell : ∀ j, j < k → (Lib.bytesWorld (w.alloc (.cells #[.int .i64 0, .string ⟨#[]⟩, .string ⟨#[]⟩] 24)) 5 V).cell? ⟨w.heap.size + 1, j, none⟩ = some (.int .u8 (V.data.toList.getD j 0).toNat) := by
    intro j hj
    have := hcell j hj
    simpa using this
  generalize Lib.bytesWorld (w.alloc (.cells #[.int .i64 0, .string ⟨#[]⟩, .string ⟨#[]⟩] 24)) 5 V = W2 at *
  have HV := Lib.hid hV; clear hV
  go_loop [4, 7, 43] (fun t _ i => ∃ j : Nat, j ≤ k ∧ i = .int .i64 j ∧ t = .int .i64 (beNat (V.data.toList.take j))) (fun _ _ i => k - (intOf i).toNat)
  case atStart => exact ⟨0, Nat.zero_le _, rfl, rfl⟩
  case round =>
    obtain ⟨j, hj, rfl, rfl⟩ := hrel
    by_cases hlt : j < k
    · have hc := hcell j hlt
      have hbd : beNat (V.data.toList.take j) < 281474976710656 := Nat.lt_of_lt_of_le (beNat_take_lt V j 3 (by omega)) (by decide)
      go_wp2_with fail
      have hs : j < V.size := by have := HV.out; omega
      refine ⟨⟨j + 1, by omega, by go_num, ?_⟩, by simp [intOf]; omega⟩
      rw [or_byte _ _ hbd (UInt8.toNat_lt _), beNat_take V j hs]
    · obtain rfl : j = k := by omega
      have hN1 : beNat (V.data.toList.take j) = NN := by
        rw [← HN0.out]
        congr 1
        refine List.take_of_length_le ?_
        have := HV.out
        simp only [Array.length_toList]
        exact Nat.le_of_eq this
      rw [hN1] at *
      clear hcell HN0 hN1 HV hlt hj hK
      go_wp2_with fail
      clear hcell hv
      obtain ⟨P, hPe⟩ : ∃ P, P = 2 + j := ⟨_, rfl⟩
      have hwp : IntKind.i64.wrap (1 + (1 + (j : Int))) = (P : Int) := by rw [IntKind.wrap_i64]; omega
      have hP1 : (1 : Int) ≤ (P : Int) := by omega
      have hPs : P ≤ s.size := by omega
      rw [← hPe] at HNX
      have hPn : 1 + (1 + j) = P := by omega
      rw [hPn]
      have HPe := Lib.hid hPe; clear hPe hPn
      have hwN : wrap64 (NN : Int) = (NN : Int) := wrap64_small NN hNlt
      have hCb : ∃ C : Bool, ((lenS NN).toList == (s.extract 1 P).toList) = C := ⟨_, rfl⟩
      obtain ⟨C, hC⟩ := hCb
      have HCC := Lib.hid (cmp_eq hC)
      refine wp_region_order (l := [(0,0),(2,0),(3,0),(4,0),(5,0),(1,1),(6,0),(7,0),(8,0),(9,0),(10,0),(11,0),(12,0)]) (P := Try.prog) [] (fun _ => True) (by kernel_rfl) (by kernel_rfl) (fun _ _ d _ _ h => (by cases d <;> exact h)) trivial ?_
      repeat (first | (refine walkH_skip rfl (by rfl) ?_; intro K hK; go_simp; refine hK _ ?_; clear hK K) | (refine walkH_take rfl (by rfl) ?_; apply Exists.intro; refine ⟨fun WS hWS => ?_, fun K hK => ?_⟩; (· go_simp; with_reducible rfl); (go_simp; refine hK _ ?_; clear hK K)))
      refine walkH_do rfl (fun K hK => ?_); go_simp
      refine (len_any NN _ hN32).mono ?_
      rintro e w' ⟨rfl, hB2⟩
      refine hK _ _ trivial ?_
      clear hK K
      obtain ⟨i0, i1, i2, j0, j1, j2⟩ := item_facts (hB.drew.trans (hB2.mono (by simp only [World.drew]; simpa using hSz)))
      have hBw := item_below (hB.drew.trans (hB2.mono (by simp only [World.drew]; simpa using hSz)))
      clear hB hB2 hSz
      cases C
      · obtain ⟨h1, h2⟩ := nx_none (HNX.out.2 (.inl (by have := HCC.out; simpa using this)))
        have H1 := Lib.hid h1; have H2 := Lib.hid h2; clear h1 h2
        repeat (first | (refine walkH_skip rfl (by rfl) ?_; intro K hK; go_simp; refine hK _ ?_; clear hK K) | (refine walkH_take rfl (by rfl) ?_; apply Exists.intro; refine ⟨fun WS hWS => ?_, fun K hK => ?_⟩; (· go_simp; with_reducible rfl); (go_simp; refine hK _ ?_; clear hK K)))
        refine walkH_nil ?_
        go_wp2_with fail
        refine bodyPost_ret (v := .tuple #[.agg #[.int .i64 0, .string ⟨#[]⟩, .string ⟨#[]⟩], .int .i64 2]) (by simp [results, Try.results8, go_sem, i0, i1, i2]) rfl ⟨by rw [H1.out, H2.out], ?_⟩
        exact ((hBw.setCell (p := ⟨w.heap.size, 0, none⟩) (Nat.le_refl _) _).setCell (p := ⟨w.heap.size, 1, none⟩) (Nat.le_refl _) _).setCell (p := ⟨w.heap.size, 2, none⟩) (Nat.le_refl _) _
      · by_cases hfl : s.size < P + NN
        · obtain ⟨h1, h2⟩ := nx_none (HNX.out.2 (.inr hfl))
          have H1 := Lib.hid h1; have H2 := Lib.hid h2; clear h1 h2
          have hfi : ((s.size - P : Nat) : Int) < (NN : Int) := fit_lt hfl hPs
          repeat (first | (refine walkH_skip rfl (by rfl) ?_; intro K hK; go_simp; refine hK _ ?_; clear hK K) | (refine walkH_take rfl (by rfl) ?_; apply Exists.intro; refine ⟨fun WS hWS => ?_, fun K hK => ?_⟩; (· go_simp; with_reducible rfl); (go_simp; refine hK _ ?_; clear hK K)))
          refine walkH_nil ?_
          go_wp2_with fail
          refine bodyPost_ret (v := .tuple #[.agg #[.int .i64 0, .string ⟨#[]⟩, .string ⟨#[]⟩], .int .i64 2]) (by simp [results, Try.results8, go_sem, i0, i1, i2]) rfl ⟨by rw [H1.out, H2.out], ?_⟩
          exact ((hBw.setCell (p := ⟨w.heap.size, 0, none⟩) (Nat.le_refl _) _).setCell (p := ⟨w.heap.size, 1, none⟩) (Nat.le_refl _) _).setCell (p := ⟨w.heap.size, 2, none⟩) (Nat.le_refl _) _
        · obtain ⟨h1, h2⟩ := nx_some (HNX.out.1 (by have := HCC.out; simpa using this.symm) (Nat.le_of_not_lt hfl))
          have H1 := Lib.hid h1; have H2 := Lib.hid h2; clear h1 h2
          have hfi : ¬ ((s.size - P : Nat) : Int) < (NN : Int) := fit_gi hfl hPs
          have hfit2 : NN ≤ s.size - P := fit_ge hfl hPs
          have hx1 := ext_text s P NN (Nat.le_of_not_lt hfl)
          have hx2 := ext_rest s P NN (Nat.le_of_not_lt hfl)
          have hw3 : IntKind.i64.wrap (B0 : Int) = (B0 : Int) := wrapi_small hl0
          have hw4 : wrap64 (B0 : Int) = (B0 : Int) := wrap64_small B0 (Nat.lt_of_lt_of_le hl0 (by decide))
          repeat (first | (refine walkH_skip rfl (by rfl) ?_; intro K hK; go_simp; refine hK _ ?_; clear hK K) | (refine walkH_take rfl (by rfl) ?_; apply Exists.intro; refine ⟨fun WS hWS => ?_, fun K hK => ?_⟩; (· go_simp; with_reducible rfl); (go_simp; refine hK _ ?_; clear hK K)))
          refine walkH_nil ?_
          go_wp2_with fail
          refine wp_region_order (l := [(0,0),(1,0),(3,0),(4,0),(5,0),(6,0),(7,0),(8,0),(2,0),(9,0),(10,1),(11,0)]) (P := Try.prog) [] (fun _ => True) (by kernel_rfl) (by kernel_rfl) (fun _ _ d _ _ h => (by cases d <;> exact h)) trivial ?_
          repeat (first | (refine walkH_skip rfl (by rfl) ?_; intro K hK; go_simp; refine hK _ ?_; clear hK K) | (refine walkH_take rfl (by rfl) ?_; apply Exists.intro; refine ⟨fun WS hWS => ?_, fun K hK => ?_⟩; (· go_simp; with_reducible rfl); (go_simp; refine hK _ ?_; clear hK K)))
          refine walkH_do rfl (fun K hK => ?_); go_simp
          refine hK _ _ trivial ?_
          clear hK K
          repeat (first | (refine walkH_skip rfl (by rfl) ?_; intro K hK; go_simp; refine hK _ ?_; clear hK K) | (refine walkH_take rfl (by rfl) ?_; apply Exists.intro; refine ⟨fun WS hWS => ?_, fun K hK => ?_⟩; (· go_simp; with_reducible rfl); (go_simp; refine hK _ ?_; clear hK K)))
          refine walkH_nil ?_
          go_wp2
          refine bodyPost_ret (v := .tuple #[.agg #[.int .i64 (B0 : Int), .string (s.extract P (P + NN)), .string (s.extract (P + NN) s.size)], .int .i64 0]) (by simp [results, Try.results8, go_sem, i0, i1, i2]) rfl ⟨by rw [H1.out, H2.out, HB0.out], ?_⟩
          exact (((hBw.setCell (p := ⟨w.heap.size, 0, none⟩) (Nat.le_refl _) _).setCell (p := ⟨w.heap.size, 1, none⟩) (Nat.le_refl _) _).setCell (p := ⟨w.heap.size, 2, none⟩) (Nat.le_refl _) _).drew

/-- Next, whole -/
theorem next_any (s : ByteArray) (w : World) : Calls Try.prog 8 #[.string s] w (NextPost s w) := by
  by_cases h : s.size < 2
  · exact next_short s w h
  · by_cases h31 : byteAt s 0 % 32 = 31
    · exact next_strange s w h h31
    · by_cases h128 : byteAt s 1 < 128
      · exact next_one s w h h31 h128
      · by_cases hf : 3 < byteAt s 1 - 128 ∨ s.size < 2 + (byteAt s 1 - 128)
        · exact next_far s w h h31 h128 hf
        · exact next_many s w h h31 h128 (by omega) (by omega)
end Go.Proofs.Ytgloidibckopiaa
