/- DerLengths: a length is written in as few bytes as may be; written in more it is none. The pure statement. -/
import Derived.Test.YtgloidibckopiaaDerPureA
import Derived.Test.YtgloidibckopiaaGx10
namespace Go.Proofs.Ytgloidibckopiaa.Pure
open Go.RowKit Go.Proofs.Ytgloidibckopiaa Go.Proofs.Ytgloidibckopiaa.G Go.Proofs.YtgloidibckopiaaW.PrintWords Go.Proofs.YtgloidibckopiaaW.PrintLast Go.Proofs.YtgloidibckopiaaW.PrintMore

theorem set_fill (c : Int) (i m : Nat) : (List.replicate i c ++ List.replicate (m + 1) (0 : Int)).set i c = List.replicate (i + 1) c ++ List.replicate m 0 := by
  rw [List.set_append, if_neg (by simp), List.length_replicate, Nat.sub_self, List.replicate_succ (n := m), List.set_cons_zero, List.replicate_succ', List.append_assoc]
  rfl

/-- how many bytes the head has -/
def headLen (n : Nat) : Nat := 2 + (if 127 < n then 1 else 0) + (if 255 < n then 1 else 0) + (if 65535 < n then 1 else 0)
theorem head_is (n : Nat) (h : n < 16777216) : 1 + (lenB n).length = headLen n := by
  unfold headLen
  by_cases a : n < 128
  · rw [lenB, if_pos a, if_neg (by omega), if_neg (by omega), if_neg (by omega)]; rfl
  · by_cases b : n < 256
    · rw [lenB_1 (by omega) b, if_pos (by omega), if_neg (by omega), if_neg (by omega)]; rfl
    · by_cases c : n < 65536
      · rw [lenB_2 (by omega) c, if_pos (by omega), if_pos (by omega), if_neg (by omega)]; rfl
      · rw [lenB_3 (by omega) h, if_pos (by omega), if_pos (by omega), if_pos (by omega)]; rfl

def longT (n : Nat) (T : ByteArray) : ByteArray := ((⟨#[4, 131]⟩ : ByteArray) ++ strOfNums [((n : Int) / 65536) % 256, ((n : Int) / 256) % 256, (n : Int) % 256]) ++ T
theorem longT_list (n : Nat) (h : n < 16777216) (T : ByteArray) : (longT n T).data.toList = 4 :: 131 :: UInt8.ofNat (n / 65536) :: UInt8.ofNat (n / 256 % 256) :: UInt8.ofNat (n % 256) :: T.data.toList := by
  rw [longT, append_list, append_list, strOfNums_data]
  simp only [List.map_cons, List.map_nil]
  rw [show (((n : Int) / 65536) % 256).toNat = n / 65536 from by omega, show (((n : Int) / 256) % 256).toNat = n / 256 % 256 from by omega, show ((n : Int) % 256).toNat = n % 256 from by omega]
  rfl
theorem longT_err (n : Nat) (T : ByteArray) (hT : T.size = n) (h : n < 16777216) : nxErr (longT n T) = if 65535 < n then 0 else 2 := by
  have hl := longT_list n h T
  by_cases c : 65535 < n
  · rw [if_pos c]
    have : longT n T = ⟨(wrapL 4 T.data.toList ++ []).toArray⟩ := by
      apply bytes_ext
      rw [hl, mk_list, wrapL, ← size_list, hT, lenB_3 (by omega) h]
      simp
    rw [this]
    exact (nx_wrapL_parts 4 T.data.toList [] (by omega) (by omega) (by rw [← size_list, hT]; exact h)).2.2.2
  · rw [if_neg c]
    have hs : (longT n T).size = 5 + n := by
      rw [size_list, hl]
      simp only [List.length_cons]
      rw [← size_list, hT]
      omega
    have b0 : byteAt (longT n T) 0 = 4 := by rw [byteAt_data, hl]; rfl
    have b1 : byteAt (longT n T) 1 = 131 := by rw [byteAt_data, hl]; rfl
    have hb : beNat (((longT n T).data.toList.drop 2).take 3) = n := by
      rw [hl]
      simp only [List.drop_succ_cons, List.drop_zero, List.take_succ_cons, List.take_zero]
      rw [beNat_cons, beNat_cons, beNat_cons]
      simp only [List.length_cons, List.length_nil]
      rw [ofNat_toNat_byte (by omega), ofNat_toNat_byte (by omega), ofNat_toNat_byte (by omega)]
      simp [beNat]
      omega
    have hn : nx (longT n T) = none := by
      rw [nx, hs, b0, b1, if_neg (by omega), if_neg (by omega), if_neg (by omega), show 131 - 128 = 3 from rfl, hb, if_pos (by omega)]
    rw [nxErr_none hn]

theorem lengths_l1 (k n : Nat) (h : n < 16777216) (L : List Int) (hL : L.length = n) :
    engrosserlaw14_DerLengths.l1 (k + 4) true n L ⟨(wrapL 4 (strOfNums L).data.toList).toArray⟩ 0 2 [127, 255, 65535] 0 = some true := by
  have hTs : (strOfNums L).size = n := by rw [strOfNums_size, hL]
  have w : ∀ x : Nat, x < 100 → wrap64 ((x : Int) + 1) = ((x + 1 : Nat) : Int) := fun x hx => by rw [w64 (by omega) (by omega)]; omega
  have r0 : rd [127, 255, 65535] 0 = 127 := rfl
  have r1 : rd [127, 255, 65535] 1 = 255 := rfl
  have r2 : rd [127, 255, 65535] 2 = 65535 := rfl
  have w0 : wrap64 ((0 : Int) + 1) = 1 := by decide +kernel
  have w1 : wrap64 ((1 : Int) + 1) = 2 := by decide +kernel
  have w2 : wrap64 ((2 : Int) + 1) = 3 := by decide +kernel
  have w3 : wrap64 ((3 : Int) + 1) = 4 := by decide +kernel
  have w4 : wrap64 ((4 : Int) + 1) = 5 := by decide +kernel
  have last : ∀ (m : Nat), m = headLen n → engrosserlaw14_DerLengths.l1 (k + 1) true n L ⟨(wrapL 4 (strOfNums L).data.toList).toArray⟩ 0 (m : Int) [127, 255, 65535] 3 = some true := by
    intro m hm
    have hp := nx_wrapL_parts 4 (strOfNums L).data.toList [] (by omega) (by omega) (by rw [← size_list, hTs]; exact h)
    simp only [List.append_nil] at hp
    obtain ⟨p1, p2, p3, p4⟩ := hp
    have hsz : (⟨(wrapL 4 (strOfNums L).data.toList).toArray⟩ : ByteArray).size = n + m := by
      have := head_is n h
      rw [mk_size, wrapL, List.length_cons, List.length_append, ← size_list, hTs]
      omega
    have hm5 : m ≤ 5 := by rw [hm]; unfold headLen; split <;> split <;> split <;> omega
    have hle := longT_err n (strOfNums L) hTs h
    unfold longT at hle
    have e : wrap64 ((n : Int) + (m : Int)) = ((n + m : Nat) : Int) := by rw [w64 (by omega) (by omega)]; omega
    simp only [engrosserlaw14_DerLengths.l1, der_Next.f, Option.bind_some, p1, p2, p4, hsz, e]
    clear e w w0 w1 w2 w3 w4
    rw [if_neg (by decide), if_pos (by rw [strOfNums_size]; simp), if_pos, if_pos trivial, if_pos trivial, if_pos trivial, if_pos (show ((4 : Nat) : Int) = 4 from rfl), if_pos trivial, if_pos trivial, hle]
    · by_cases c : 65535 < n
      · rw [if_pos c, decide_eq_true (by omega)]; rfl
      · rw [if_neg c, decide_eq_false (by omega)]; rfl
    · rw [ByteArray.size_append, strOfNums_size, strOfNums_size]
      simp only [List.length_cons, List.length_nil]
      show 2 + 3 + L.length ≤ _
      omega
  have hh := last (headLen n) rfl
  unfold headLen at hh
  simp only [engrosserlaw14_DerLengths.l1, r0, r1, r2, w0, w1, w2]
  clear w last
  rw [if_pos (by decide), if_pos (by decide), if_pos (by decide)]
  by_cases a : 127 < n
  · rw [if_pos (by omega), if_pos (by decide), if_pos (by decide), if_pos (by decide)]
    rw [if_pos a] at hh
    by_cases b : 255 < n
    · rw [if_pos (by omega), if_pos (by decide), if_pos (by decide), if_pos (by decide), w3]
      rw [if_pos b] at hh
      by_cases c : 65535 < n
      · rw [if_pos (by omega), w4]
        rw [if_pos c] at hh
        exact hh
      · rw [if_neg (by omega)]
        rw [if_neg c] at hh
        exact hh
    · rw [if_neg (by omega), if_pos (by decide), if_pos (by decide), if_pos (by decide), if_neg (by omega)]
      rw [if_neg b, if_neg (by omega)] at hh
      exact hh
  · rw [if_neg (by omega), if_pos (by decide), if_pos (by decide), if_pos (by decide), if_neg (by omega), if_pos (by decide), if_pos (by decide), if_pos (by decide), if_neg (by omega)]
    rw [if_neg a, if_neg (by omega), if_neg (by omega)] at hh
    exact hh

theorem lengths_l0 (c : Int) (n : Nat) (h : n ≤ 70000) (d : Nat) : ∀ (k i : Nat), i + d = n → d + 5 ≤ k →
    engrosserlaw14_DerLengths.l0 k c true n (List.replicate i c ++ List.replicate d 0) i = some true := by
  induction d with
  | zero =>
    intro k i hi hk
    obtain ⟨k, rfl⟩ : ∃ m, k = m + 5 := ⟨k - 5, by omega⟩
    have : i = n := by omega
    subst this
    simp only [engrosserlaw14_DerLengths.l0, der_Wrap.f, Option.bind_some, List.replicate_zero, List.append_nil]
    rw [if_neg (by omega)]
    have hs : (strOfNums (List.replicate i c)).size = i := by rw [strOfNums_size]; simp
    have he : wrapE 4 (strOfNums (List.replicate i c)).size = 0 := by
      rw [hs, wrapE, if_neg (by omega), if_neg (by omega)]
    rw [wrapV, he, if_pos rfl]
    exact lengths_l1 k i (by omega) _ (by simp)
  | succ d ih =>
    intro k i hi hk
    obtain ⟨k, rfl⟩ : ∃ m, k = m + 1 := ⟨k - 1, by omega⟩
    have e2 : wrap64 ((i : Int) + 1) = ((i + 1 : Nat) : Int) := by rw [w64 (by omega) (by omega)]; omega
    simp only [engrosserlaw14_DerLengths.l0, e2]
    clear e2
    rw [if_pos (by omega), if_pos (by omega), if_pos (by simp; omega), Int.toNat_natCast, set_fill]
    exact ih k (i + 1) (by omega) (by omega)

theorem DerLengths : engrosserlaw14_DerLengths.Pure := by
  intro a0 a1 h0 h1
  have hr : 0 ≤ a0 ∧ a0 ≤ 4294967295 := by
    simp [Lit.wf, IntKind.min, IntKind.max, IntKind.signed, IntKind.bits] at h0
    omega
  obtain ⟨n, hn⟩ : ∃ n : Nat, wrap64 (Int.tmod a0 70001) = (n : Int) ∧ n ≤ 70000 := by
    rw [Int.tmod_eq_emod_of_nonneg hr.1, w64 (by omega) (by omega)]
    exact ⟨(a0 % 70001).toNat, by omega, by omega⟩
  obtain ⟨hn, hle⟩ := hn
  refine ⟨n + 100, ?_⟩
  unfold engrosserlaw14_DerLengths.f
  rw [examples_eq (n + 100) (by omega)]
  simp only [Option.bind_some, if_true, hn]
  clear hn
  rw [if_pos (by omega), if_pos (by omega), Int.toNat_natCast]
  exact lengths_l0 a1 n hle n (n + 100) 0 (by omega) (by omega)
end Go.Proofs.Ytgloidibckopiaa.Pure
