/- Layer 14's Next, walked. -/
import Derived.Test.YtgloidibckopiaaDerLen
import Derived.Test.YtgloidibckopiaaDerPlain
import Derived.Lib.ConvBytes
namespace Go.Proofs.Ytgloidibckopiaa
open Go.RowKit
attribute [local irreducible] Calls

theorem and31_u8 (x : Nat) (h1 : x < 256) : bits .and .u8 (x : Int) 31 = (x : Int) % 32 := by
  have h : ((BitVec.ofInt 8 (x : Int)) &&& (BitVec.ofInt 8 31)).toNat = x % 32 := by
    have h2 : (BitVec.ofInt 8 31).toNat = 2 ^ 5 - 1 := by decide
    rw [BitVec.toNat_and, h2, Nat.and_two_pow_sub_one_eq_mod, BitVec.ofInt_natCast, BitVec.toNat_ofNat, Nat.mod_eq_of_lt (show x < 2 ^ 8 from h1)]
  show IntKind.u8.wrap (((BitVec.ofInt 8 (x : Int)) &&& (BitVec.ofInt 8 31)).toNat : Int) = _
  rw [h, IntKind.wrap_u8]
  omega

theorem ext_text (s : ByteArray) (a n : Nat) (_h : a + n ≤ s.size) : (s.extract a s.size).extract 0 n = s.extract a (a + n) := by
  rw [ByteArray.extract_extract]
  congr 1
  omega
theorem ext_rest (s : ByteArray) (a n : Nat) (_h : a + n ≤ s.size) : (s.extract a s.size).extract n (s.size - a) = s.extract (a + n) s.size := by
  rw [ByteArray.extract_extract]
  congr 1
  omega
def NextPost (s : ByteArray) (w : World) (e : Ending) (w' : World) : Prop := e = .returned (.tuple #[nxV s, .int .i64 (nxErr s)]) ∧ Below w.heap.size w w'

theorem next_short (s : ByteArray) (w : World) (h : s.size < 2) : Calls Try.prog 8 #[.string s] w (NextPost s w) := by
  obtain ⟨h1, h2⟩ := nx_none (s := s) (by rw [nx, if_pos (.inl h)])
  have H1 := Lib.hid h1; have H2 := Lib.hid h2; clear h1 h2
  go_enter Try.func8, Try.ntmps8
  go_wp2
  refine bodyPost_ret (v := .tuple #[.agg #[.int .i64 0, .string ⟨#[]⟩, .string ⟨#[]⟩], .int .i64 2]) (by simp [results, Try.results8, go_sem]) rfl ⟨by rw [H1.out, H2.out], ?_⟩
  exact (Below.refl _ _).alloc (Nat.le_refl _) _

/-- the result's block behind the call of length -/
theorem item_facts {w w' : World} (hB : Below (w.alloc (.cells #[.int .i64 0, .string ⟨#[]⟩, .string ⟨#[]⟩] 24)).drew.heap.size (w.alloc (.cells #[.int .i64 0, .string ⟨#[]⟩, .string ⟨#[]⟩] 24)).drew w') :
    w'.cell? ⟨w.heap.size, 0, none⟩ = some (.int .i64 0) ∧ w'.cell? ⟨w.heap.size, 1, none⟩ = some (.string ⟨#[]⟩) ∧ w'.cell? ⟨w.heap.size, 2, none⟩ = some (.string ⟨#[]⟩) ∧
      w'.frozen? ⟨w.heap.size, 0, none⟩ = false ∧ w'.frozen? ⟨w.heap.size, 1, none⟩ = false ∧ w'.frozen? ⟨w.heap.size, 2, none⟩ = false := by
  have h := (Blk.new w 24 #[.int .i64 0, .string ⟨#[]⟩, .string ⟨#[]⟩]).drew.below hB (by simp)
  exact ⟨h.cell 0, h.cell 1, h.cell 2, h.frozen 0, h.frozen 1, h.frozen 2⟩
theorem item_below {w w' : World} (hB : Below (w.alloc (.cells #[.int .i64 0, .string ⟨#[]⟩, .string ⟨#[]⟩] 24)).drew.heap.size (w.alloc (.cells #[.int .i64 0, .string ⟨#[]⟩, .string ⟨#[]⟩] 24)).drew w') : Below w.heap.size w w' :=
  (((Below.refl _ w).alloc (Nat.le_refl _) _).drew).trans (hB.mono (by simp))

theorem byteAt_get (s : ByteArray) (i : Nat) (h : i < s.size) : (s[i]'h).toNat = byteAt s i := by
  have h' : i < s.data.size := h
  unfold byteAt
  rw [Array.getElem?_eq_getElem h']
  rfl

set_option maxHeartbeats 400000 in
theorem next_strange (s : ByteArray) (w : World) (h : ¬ s.size < 2) (h31 : byteAt s 0 % 32 = 31) : Calls Try.prog 8 #[.string s] w (NextPost s w) := by
  obtain ⟨h1, h2⟩ := nx_none (s := s) (by rw [nx, if_pos (.inr h31)])
  have H1 := Lib.hid h1; have H2 := Lib.hid h2; clear h1 h2
  have hs : 2 ≤ s.size := by omega
  have hb0 := byteAt_get s 0 (by omega)
  have hl0 := byteAt_lt s 0
  generalize byteAt s 0 = B0 at *
  obtain ⟨M, hM⟩ : ∃ M : Int, M = (B0 : Int) % 32 := ⟨_, rfl⟩
  have ha : bits .and .u8 (B0 : Int) 31 = M := by rw [hM, and31_u8 B0 hl0]
  have hm : (M == 31) = true := by rw [hM]; simp; omega
  clear hM h31
  go_enter Try.func8, Try.ntmps8
  go_wp2
  refine bodyPost_ret (v := .tuple #[.agg #[.int .i64 0, .string ⟨#[]⟩, .string ⟨#[]⟩], .int .i64 2]) (by simp [results, Try.results8, go_sem]) rfl ⟨by rw [H1.out, H2.out], ?_⟩
  exact (Below.refl _ _).alloc (Nat.le_refl _) _

set_option maxRecDepth 100000 in
set_option maxHeartbeats 800000 in
theorem next_one (s : ByteArray) (w : World) (h : ¬ s.size < 2) (h31 : ¬ byteAt s 0 % 32 = 31) (h128 : byteAt s 1 < 128) : Calls Try.prog 8 #[.string s] w (NextPost s w) := by
  have hs : 2 ≤ s.size := by omega
  have hb0 := byteAt_get s 0 (by omega)
  have hb1 := byteAt_get s 1 (by omega)
  have hl0 := byteAt_lt s 0
  have hcmp : ((lenS (byteAt s 1)).toList == (s.extract 1 2).toList) = true := by
    rw [cmp_one s hs h128]
    exact beq_self_eq_true _
  by_cases hfit : s.size < 2 + byteAt s 1
  · obtain ⟨h1, h2⟩ := nx_none (s := s) (by rw [nx, if_neg (by omega), if_pos h128, if_pos hfit])
    have H1 := Lib.hid h1; have H2 := Lib.hid h2; clear h1 h2
    generalize byteAt s 0 = B0 at *
    generalize byteAt s 1 = B1 at *
    obtain ⟨M, hM⟩ : ∃ M : Int, M = (B0 : Int) % 32 := ⟨_, rfl⟩
    have ha : bits .and .u8 (B0 : Int) 31 = M := by rw [hM, and31_u8 B0 hl0]
    have hm : (M == 31) = false := by rw [hM]; simp; omega
    have hw1 : wrap64 (B1 : Int) = (B1 : Int) := by unfold wrap64; omega
    have hw2 : IntKind.i64.wrap 2 = 2 := by decide
    clear hM h31
    go_enter Try.func8, Try.ntmps8
    go_wp2_with fail
    refine wp_region_order (l := [(0,0),(2,0),(3,0),(4,0),(5,0),(1,1),(6,0),(7,0),(8,0),(9,0),(10,0),(11,0),(12,0)]) (P := Try.prog) [] (fun _ => True) (by kernel_rfl) (by kernel_rfl) (fun _ _ d _ _ h => (by cases d <;> exact h)) trivial ?_
    repeat (first | (refine walkH_skip rfl (by rfl) ?_; intro K hK; go_simp; refine hK _ ?_; clear hK K) | (refine walkH_take rfl (by rfl) ?_; apply Exists.intro; refine ⟨fun WS hWS => ?_, fun K hK => ?_⟩; (· go_simp; with_reducible rfl); (go_simp; refine hK _ ?_; clear hK K)))
    refine walkH_do rfl (fun K hK => ?_); go_simp
    refine (len_any B1 _ (by omega)).mono ?_
    rintro e w' ⟨rfl, hB⟩
    refine hK _ _ trivial ?_
    clear hK K
    obtain ⟨i0, i1, i2, j0, j1, j2⟩ := item_facts hB
    have hBw := item_below hB
    repeat (first | (refine walkH_skip rfl (by rfl) ?_; intro K hK; go_simp; refine hK _ ?_; clear hK K) | (refine walkH_take rfl (by rfl) ?_; apply Exists.intro; refine ⟨fun WS hWS => ?_, fun K hK => ?_⟩; (· go_simp; with_reducible rfl); (go_simp; refine hK _ ?_; clear hK K)))
    refine walkH_nil ?_
    go_wp2
    refine bodyPost_ret (v := .tuple #[.agg #[.int .i64 0, .string ⟨#[]⟩, .string ⟨#[]⟩], .int .i64 2]) (by simp [results, Try.results8, go_sem, i0, i1, i2]) rfl ⟨by rw [H1.out, H2.out], ?_⟩
    exact ((hBw.setCell (p := ⟨w.heap.size, 0, none⟩) (Nat.le_refl _) _).setCell (p := ⟨w.heap.size, 1, none⟩) (Nat.le_refl _) _).setCell (p := ⟨w.heap.size, 2, none⟩) (Nat.le_refl _) _
  · obtain ⟨h1, h2⟩ := nx_some (s := s) (a := 2) (n := byteAt s 1) (by rw [nx, if_neg (by omega), if_pos h128, if_neg hfit])
    have H1 := Lib.hid h1; have H2 := Lib.hid h2; clear h1 h2
    generalize byteAt s 0 = B0 at *
    generalize byteAt s 1 = B1 at *
    obtain ⟨M, hM⟩ : ∃ M : Int, M = (B0 : Int) % 32 := ⟨_, rfl⟩
    have ha : bits .and .u8 (B0 : Int) 31 = M := by rw [hM, and31_u8 B0 hl0]
    have hm : (M == 31) = false := by rw [hM]; simp; omega
    have hw0 : wrap64 (B0 : Int) = (B0 : Int) := by unfold wrap64; omega
    have hw1 : wrap64 (B1 : Int) = (B1 : Int) := by unfold wrap64; omega
    have hw2 : IntKind.i64.wrap 2 = 2 := by decide
    clear hM h31
    go_enter Try.func8, Try.ntmps8
    go_wp2_with fail
    refine wp_region_order (l := [(0,0),(2,0),(3,0),(4,0),(5,0),(1,1),(6,0),(7,0),(8,0),(9,0),(10,0),(11,0),(12,0)]) (P := Try.prog) [] (fun _ => True) (by kernel_rfl) (by kernel_rfl) (fun _ _ d _ _ h => (by cases d <;> exact h)) trivial ?_
    repeat (first | (refine walkH_skip rfl (by rfl) ?_; intro K hK; go_simp; refine hK _ ?_; clear hK K) | (refine walkH_take rfl (by rfl) ?_; apply Exists.intro; refine ⟨fun WS hWS => ?_, fun K hK => ?_⟩; (· go_simp; with_reducible rfl); (go_simp; refine hK _ ?_; clear hK K)))
    refine walkH_do rfl (fun K hK => ?_); go_simp
    refine (len_any B1 _ (by omega)).mono ?_
    rintro e w' ⟨rfl, hB⟩
    refine hK _ _ trivial ?_
    clear hK K
    obtain ⟨i0, i1, i2, j0, j1, j2⟩ := item_facts hB
    have hBw := item_below hB
    repeat (first | (refine walkH_skip rfl (by rfl) ?_; intro K hK; go_simp; refine hK _ ?_; clear hK K) | (refine walkH_take rfl (by rfl) ?_; apply Exists.intro; refine ⟨fun WS hWS => ?_, fun K hK => ?_⟩; (· go_simp; with_reducible rfl); (go_simp; refine hK _ ?_; clear hK K)))
    refine walkH_nil ?_
    go_wp2_with fail
    have hfit2 : B1 ≤ s.size - 2 := by omega
    have hx1 := ext_text s 2 B1 (by omega)
    have hx2 := ext_rest s 2 B1 (by omega)
    refine wp_region_order (l := [(0,0),(1,0),(3,0),(4,0),(5,0),(6,0),(7,0),(8,0),(2,0),(9,0),(10,1),(11,0)]) (P := Try.prog) [] (fun _ => True) (by kernel_rfl) (by kernel_rfl) (fun _ _ d _ _ h => (by cases d <;> exact h)) trivial ?_
    repeat (first | (refine walkH_skip rfl (by rfl) ?_; intro K hK; go_simp; refine hK _ ?_; clear hK K) | (refine walkH_take rfl (by rfl) ?_; apply Exists.intro; refine ⟨fun WS hWS => ?_, fun K hK => ?_⟩; (· go_simp; with_reducible rfl); (go_simp; refine hK _ ?_; clear hK K)))
    refine walkH_do rfl (fun K hK => ?_); go_simp
    refine hK _ _ trivial ?_
    clear hK K
    repeat (first | (refine walkH_skip rfl (by rfl) ?_; intro K hK; go_simp; refine hK _ ?_; clear hK K) | (refine walkH_take rfl (by rfl) ?_; apply Exists.intro; refine ⟨fun WS hWS => ?_, fun K hK => ?_⟩; (· go_simp; with_reducible rfl); (go_simp; refine hK _ ?_; clear hK K)))
    refine walkH_nil ?_
    go_wp2
    have hw3 : IntKind.i64.wrap (B0 : Int) = (B0 : Int) := by rw [IntKind.wrap_i64]; omega
    refine bodyPost_ret (v := .tuple #[.agg #[.int .i64 (B0 : Int), .string (s.extract 2 (2 + B1)), .string (s.extract (2 + B1) s.size)], .int .i64 0]) (by simp [results, Try.results8, go_sem, i0, i1, i2, hw3]) rfl ⟨by rw [H1.out, H2.out], ?_⟩
    exact (((hBw.setCell (p := ⟨w.heap.size, 0, none⟩) (Nat.le_refl _) _).setCell (p := ⟨w.heap.size, 1, none⟩) (Nat.le_refl _) _).setCell (p := ⟨w.heap.size, 2, none⟩) (Nat.le_refl _) _).drew
end Go.Proofs.Ytgloidibckopiaa
