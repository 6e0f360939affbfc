/- Layer 14's Wrap, walked. -/
import Derived.Test.YtgloidibckopiaaDerLen
import Derived.Test.YtgloidibckopiaaFork
namespace Go.Proofs.Ytgloidibckopiaa
open Go.RowKit
attribute [local irreducible] Calls

theorem and31_i64 (x : Int) (h0 : 0 ≤ x) (h1 : x ≤ 255) : bits .and .i64 x 31 = x % 32 := by
  obtain ⟨n, rfl⟩ := Int.eq_ofNat_of_zero_le h0
  have h : ((BitVec.ofInt 64 (n : Int)) &&& (BitVec.ofInt 64 31)).toNat = n % 32 := by
    have h2 : (BitVec.ofInt 64 31).toNat = 2 ^ 5 - 1 := by decide
    rw [BitVec.toNat_and, h2, Nat.and_two_pow_sub_one_eq_mod, ofInt_i64 n (by omega)]
  show IntKind.i64.wrap (((BitVec.ofInt 64 (n : Int)) &&& (BitVec.ofInt 64 31)).toNat : Int) = _
  rw [h, IntKind.wrap_i64]
  omega

set_option maxRecDepth 100000 in
set_option maxHeartbeats 1000000 in
theorem wrap_ok (tag : Nat) (s : ByteArray) (w : World) (h1 : tag ≤ 255) (h2 : ¬ tag % 32 = 31) (h3 : s.size < 16777216) :
    Calls Try.prog 10 #[.int .i64 tag, .string s] w fun e w' => e = .returned (.tuple #[.string ⟨(wrapL tag s.data.toList).toArray⟩, .int .i64 0]) ∧ Below w.heap.size w w' := by
  have hb := and31_i64 tag (by omega) (by omega)
  have hm : (((tag : Int) % 32) == 31) = false := by simp; omega
  have hn0 : ¬ ((tag : Int) < 0) := by omega
  have hn1 : ¬ (255 < (tag : Int)) := by omega
  have h4 : ¬ ((16777216 : Int) ≤ (s.size : Int)) := by omega
  go_enter Try.func10, Try.ntmps10
  go_wp2_with fail
  obtain ⟨T1, hT1⟩ : ∃ T : ByteArray, T = ⟨#[UInt8.ofNat tag]⟩ := ⟨_, rfl⟩
  have hx : IntKind.u8.wrap (tag : Int) = ((UInt8.ofNat tag).toNat : Int) := by rw [IntKind.wrap_u8]; simp
  have kcA : ∀ W : World, (convert 43 9 (.slice (some ⟨W.heap.size, 0, none⟩) 1 1)).run Try.prog (W.alloc (.cells #[.int .u8 (IntKind.u8.wrap (tag : Int))] 5)).drew = .ok (.string T1) (W.alloc (.cells #[.int .u8 (IntKind.u8.wrap (tag : Int))] 5)).drew :=
    fun W => by rw [hT1]; exact run_conv_at Try.underlying43 Try.underlying5 Try.underlying9 _ _ _ ((Blk.new W 5 #[_]).drew.cell 0) hx
  have kcB : ∀ W : World, (convert 43 9 (.slice (some ⟨W.heap.size, 0, none⟩) 1 1)).run Try.prog (W.alloc (.cells #[.int .u8 (IntKind.u8.wrap (tag : Int))] 5)) = .ok (.string T1) (W.alloc (.cells #[.int .u8 (IntKind.u8.wrap (tag : Int))] 5)) :=
    fun W => by rw [hT1]; exact run_conv_at Try.underlying43 Try.underlying5 Try.underlying9 _ _ _ ((Blk.new W 5 #[_]).cell 0) hx
  have kcC : ∀ W' : World, Below (w.alloc (.cells #[.int .u8 (IntKind.u8.wrap (tag : Int))] 5)).drew.heap.size (w.alloc (.cells #[.int .u8 (IntKind.u8.wrap (tag : Int))] 5)).drew W' → (convert 43 9 (.slice (some ⟨w.heap.size, 0, none⟩) 1 1)).run Try.prog W' = .ok (.string T1) W' :=
    fun W' hB => by rw [hT1]; exact run_conv_at Try.underlying43 Try.underlying5 Try.underlying9 _ _ _ (((Blk.new w 5 #[_]).drew.below hB (by simp)).cell 0) hx
  have hls := lenS_size s.size (by omega)
  have ht1 : T1.size ≤ 1 := by rw [hT1]; exact Nat.le_refl 1
  obtain ⟨T2, hT2⟩ : ∃ T : ByteArray, T = T1 ++ lenS s.size := ⟨_, rfl⟩
  have ht2 : T2.size ≤ 6 := by rw [hT2, ByteArray.size_append]; omega
  have hT2' : T1 ++ lenS s.size = T2 := hT2.symm
  have HC := Lib.hid kcC; have HX := Lib.hid hx; have HT1 := Lib.hid hT1; have HT2 := Lib.hid hT2
  clear kcC hx hT1 hT2
  have hfin : T2 ++ s = ⟨(wrapL tag s.data.toList).toArray⟩ := by
    apply bytes_ext
    rw [HT2.out, HT1.out, append_list, append_list, mk_list, wrapL, lenS, mk_list, ← size_list]
    rfl
  have HF := Lib.hid hfin; clear hfin
  have hadd1 : ∀ W : World, (Op.stringOp .add T1 (lenS s.size)).run Try.prog W = .ok (.string T2) W := fun W => by rw [run_string_add_sum W _ _ (by omega), hT2']
  have hadd2 : ∀ W : World, (Op.stringOp .add T2 s).run Try.prog W = .ok (.string (T2 ++ s)) W := fun W => by rw [run_string_add_sum W _ _ (by omega)]
  clear hT2' ht1 ht2 hls
  refine wp_region_plan (P := Try.prog) (Plan.step 0 0 (Plan.step 4 0 (Plan.step 5 0 (Plan.step 8 0 (Plan.step 1 0 (Plan.fork 2 1 (Plan.fork 3 1 (Plan.step 6 1 (Plan.step 7 0 (Plan.step 9 0 (Plan.step 10 0 (Plan.step 11 0 Plan.done))))) 6 1 (Plan.step 3 1 (Plan.step 7 0 (Plan.step 9 0 (Plan.step 10 0 (Plan.step 11 0 Plan.done)))))) 6 1 (Plan.step 2 1 (Plan.step 3 1 (Plan.step 7 0 (Plan.step 9 0 (Plan.step 10 0 (Plan.step 11 0 Plan.done)))))))))))) [] (fun _ => True) (by kernel_rfl) (by kernel_rfl) (fun _ _ d _ _ h => (by cases d <;> exact h)) trivial ?_
  repeat (first | (refine walkP_skip rfl (by rfl) ?_; intro K hK; go_simp; refine hK _ ?_; clear hK K) | (refine walkP_take rfl (by rfl) ?_; apply Exists.intro; refine ⟨fun WS hWS => ?_, fun K hK => ?_⟩; (· go_simp; with_reducible rfl); (go_simp; refine hK _ ?_; clear hK K)))
  refine walkP_fork ?_ ?_
  · refine walkP_do rfl (fun K hK => ?_); go_simp
    refine hK _ _ (fun _ => trivial) ?_
    clear hK K
    refine walkP_fork ?_ ?_
    · refine walkP_do rfl (fun K hK => ?_); go_simp
      refine hK _ _ (fun _ => trivial) ?_
      clear hK K
      refine walkP_do rfl (fun K hK => ?_); go_simp
      refine (len_any s.size _ (by omega)).mono ?_
      rintro e w' ⟨rfl, hB⟩
      refine hK _ _ (fun _ => trivial) ?_
      clear hK K
      repeat (first | (refine walkP_skip rfl (by rfl) ?_; intro K hK; go_simp; refine hK _ ?_; clear hK K) | (refine walkP_take rfl (by rfl) ?_; apply Exists.intro; refine ⟨fun WS hWS => ?_, fun K hK => ?_⟩; (· go_simp; with_reducible rfl); (go_simp; refine hK _ ?_; clear hK K)))
      refine walkP_done ?_
      go_wp2
      go_ret2
      rw [← HF.out]
      exact ⟨rfl, ((Below.refl _ w).drew.alloc (Nat.le_refl _) _).trans (hB.mono (by simp))⟩
    · refine walkP_do rfl (fun K hK => ?_); go_simp
      refine (len_any s.size _ (by omega)).mono ?_
      rintro e w' ⟨rfl, hB⟩
      refine hK _ _ (fun _ => trivial) ?_
      clear hK K
      have kcD := run_conv_at (P := Try.prog) Try.underlying43 Try.underlying5 Try.underlying9 w.heap.size _ _ (((Blk.new w.drew 5 #[_]).below hB (by simp)).cell 0) HX.out
      rw [← HT1.out] at kcD
      refine walkP_do rfl (fun K hK => ?_); go_simp
      refine hK _ _ (fun _ => trivial) ?_
      clear hK K
      repeat (first | (refine walkP_skip rfl (by rfl) ?_; intro K hK; go_simp; refine hK _ ?_; clear hK K) | (refine walkP_take rfl (by rfl) ?_; apply Exists.intro; refine ⟨fun WS hWS => ?_, fun K hK => ?_⟩; (· go_simp; with_reducible rfl); (go_simp; refine hK _ ?_; clear hK K)))
      refine walkP_done ?_
      go_wp2
      go_ret2
      rw [← HF.out]
      exact ⟨rfl, ((Below.refl _ w).drew.alloc (Nat.le_refl _) _).trans (hB.mono (by simp))⟩
  · refine walkP_do rfl (fun K hK => ?_); go_simp
    refine (len_any s.size _ (by omega)).mono ?_
    rintro e w' ⟨rfl, hB⟩
    refine hK _ _ (fun _ => trivial) ?_
    clear hK K
    refine walkP_do rfl (fun K hK => ?_); go_simp
    refine hK _ _ (fun _ => trivial) ?_
    clear hK K
    refine walkP_do rfl (fun K hK => ?_); go_simp
    refine hK _ _ (fun _ => trivial) ?_
    clear hK K
    repeat (first | (refine walkP_skip rfl (by rfl) ?_; intro K hK; go_simp; refine hK _ ?_; clear hK K) | (refine walkP_take rfl (by rfl) ?_; apply Exists.intro; refine ⟨fun WS hWS => ?_, fun K hK => ?_⟩; (· go_simp; with_reducible rfl); (go_simp; refine hK _ ?_; clear hK K)))
    refine walkP_done ?_
    go_wp2
    go_ret2
    rw [← HF.out]
    exact ⟨rfl, ((Below.refl _ w).drew.trans (hB.mono (by simp))).alloc (by have := hB.size; simpa using this) _⟩

set_option maxRecDepth 100000 in
set_option maxHeartbeats 400000 in
theorem wrap_any (tag : Int) (s : ByteArray) (w : World) :
    Calls Try.prog 10 #[.int .i64 tag, .string s] w fun e w' => e = .returned (.tuple #[.string (wrapV tag s), .int .i64 (wrapE tag s.size)]) ∧ Below w.heap.size w w' := by
  by_cases h1 : tag < 0
  · have H := Lib.hid (show wrapE tag s.size = 1 from by simp [wrapE, h1])
    have H2 := Lib.hid (show wrapV tag s = ⟨#[]⟩ from by rw [wrapV, if_neg (by rw [H.out]; decide)])
    go_enter Try.func10, Try.ntmps10
    go_wp2
    go_ret2
    rw [H.out, H2.out]
    exact ⟨rfl, Below.refl _ _⟩
  by_cases h2 : 255 < tag
  · have H := Lib.hid (show wrapE tag s.size = 1 from by simp [wrapE, h2])
    have H2 := Lib.hid (show wrapV tag s = ⟨#[]⟩ from by rw [wrapV, if_neg (by rw [H.out]; decide)])
    go_enter Try.func10, Try.ntmps10
    go_wp2
    go_ret2
    rw [H.out, H2.out]
    exact ⟨rfl, Below.refl _ _⟩
  have hb := and31_i64 tag (by omega) (by omega)
  by_cases h3 : tag % 32 = 31
  · have H := Lib.hid (show wrapE tag s.size = 1 from by simp [wrapE, h3])
    have H2 := Lib.hid (show wrapV tag s = ⟨#[]⟩ from by rw [wrapV, if_neg (by rw [H.out]; decide)])
    have hm : (tag % 32 == 31) = true := by simp [h3]
    clear h3
    go_enter Try.func10, Try.ntmps10
    go_wp2
    go_ret2
    rw [H.out, H2.out]
    exact ⟨rfl, Below.refl _ _⟩
  by_cases h4 : 16777216 ≤ s.size
  · have H := Lib.hid (show wrapE tag s.size = 9 from by simp [wrapE, h1, h2, h3, h4])
    have H2 := Lib.hid (show wrapV tag s = ⟨#[]⟩ from by rw [wrapV, if_neg (by rw [H.out]; decide)])
    have hm : (tag % 32 == 31) = false := by simp [h3]
    have h4' : (16777216 : Int) ≤ (s.size : Int) := by omega
    clear h3 h4
    go_enter Try.func10, Try.ntmps10
    go_wp2
    go_ret2
    rw [H.out, H2.out]
    exact ⟨rfl, Below.refl _ _⟩
  obtain ⟨n, rfl⟩ := Int.eq_ofNat_of_zero_le (by omega : 0 ≤ tag)
  have H : wrapE n s.size = 0 := by rw [wrapE, if_neg (by omega), if_neg (by omega)]
  rw [H, wrapV, if_pos H]
  exact wrap_ok n s w (by omega) (by omega) (by omega)
end Go.Proofs.Ytgloidibckopiaa
