/- Wrapped and read again: what an item's bytes are. Plain Lean, no program in sight. -/
import Derived.Test.YtgloidibckopiaaDerChain
namespace Go.Proofs.Ytgloidibckopiaa

theorem byteAt_mk (L : List UInt8) (i : Nat) : byteAt ⟨L.toArray⟩ i = (L[i]?.getD 0).toNat := by simp [byteAt]
theorem byteAt_data (s : ByteArray) (i : Nat) : byteAt s i = (s.data.toList[i]?.getD 0).toNat := by simp [byteAt]

theorem minBytes_ge (n : Nat) (h : 0 < n) : 256 ^ ((minBytes n).length - 1) ≤ n := by
  cases hm : minBytes n with
  | nil =>
    rw [minBytes_pos h] at hm
    simp at hm
  | cons b r =>
    have h1 := minBytes_first n b r hm
    have h2 := minBytes_nat n
    rw [hm, beNat_cons] at h2
    simp only [List.length_cons, Nat.add_sub_cancel]
    have : 256 ^ r.length ≤ b.toNat * 256 ^ r.length := Nat.le_mul_of_pos_left _ (by omega)
    omega

theorem ofNat_toNat_byte {n : Nat} (h : n < 256) : (UInt8.ofNat n).toNat = n := by simp; omega

/-- what is wrapped is read, with anything behind -/
theorem nx_wrapL (tag : Nat) (l m : List UInt8) (ht : tag ≤ 255) (h31 : ¬ tag % 32 = 31) (hn : l.length < 16777216) :
    nx ⟨(wrapL tag l ++ m).toArray⟩ = some (1 + (lenB l.length).length, l.length) := by
  have hsz : (⟨(wrapL tag l ++ m).toArray⟩ : ByteArray).size = 1 + (lenB l.length).length + l.length + m.length := by
    rw [mk_size]; simp [wrapL]; omega
  have b0 : byteAt ⟨(wrapL tag l ++ m).toArray⟩ 0 = tag := by
    rw [byteAt_mk]; simp [wrapL]; omega
  by_cases h : l.length < 128
  · have hl : lenB l.length = [UInt8.ofNat l.length] := by rw [lenB, if_pos h]
    have b1 : byteAt ⟨(wrapL tag l ++ m).toArray⟩ 1 = l.length := by
      rw [byteAt_mk, wrapL, hl]; simp; omega
    have hL : (lenB l.length).length = 1 := by rw [hl]; rfl
    rw [hL] at hsz ⊢
    unfold nx
    rw [b0, b1, hsz, if_neg (by omega), if_pos h, if_neg (by omega)]
  · obtain ⟨k, hk⟩ : ∃ k, k = (minBytes l.length).length := ⟨_, rfl⟩
    have hl : lenB l.length = UInt8.ofNat (128 + k) :: minBytes l.length := by rw [lenB, if_neg h, hk]
    have hk3 : k ≤ 3 := by rw [hk]; exact minBytes_len_le 3 _ (by omega)
    have hk1 : 1 ≤ k := by
      rw [hk, minBytes_pos (by omega)]; simp
    have hge := minBytes_ge l.length (by omega)
    rw [← hk] at hge
    have hL : (lenB l.length).length = 1 + k := by rw [hl, hk]; simp; omega
    have b1 : byteAt ⟨(wrapL tag l ++ m).toArray⟩ 1 = 128 + k := by
      rw [byteAt_mk, wrapL, hl]; simp; omega
    have hd : ((⟨(wrapL tag l ++ m).toArray⟩ : ByteArray).data.toList.drop 2).take k = minBytes l.length := by
      rw [wrapL, hl, hk]
      simp
    rw [hL] at hsz ⊢
    unfold nx
    rw [b0, b1, hsz, Nat.add_sub_cancel_left, hd, minBytes_nat, if_neg (by omega), if_neg (by omega), if_neg (by omega), if_neg ?_, if_neg (by omega)]
    · congr 2; omega
    · rintro (h1 | ⟨_, h2⟩)
      · omega
      · omega
theorem nx_wrapL_parts (tag : Nat) (l m : List UInt8) (ht : tag ≤ 255) (h31 : ¬ tag % 32 = 31) (hn : l.length < 16777216) :
    nxTag ⟨(wrapL tag l ++ m).toArray⟩ = tag ∧ nxText ⟨(wrapL tag l ++ m).toArray⟩ = ⟨l.toArray⟩ ∧ nxRest ⟨(wrapL tag l ++ m).toArray⟩ = ⟨m.toArray⟩ ∧ nxErr ⟨(wrapL tag l ++ m).toArray⟩ = 0 := by
  have h := nx_wrapL tag l m ht h31 hn
  have b0 : byteAt ⟨(wrapL tag l ++ m).toArray⟩ 0 = tag := by
    rw [byteAt_mk]; simp [wrapL]; omega
  have hd1 : (wrapL tag l ++ m).drop (1 + (lenB l.length).length) = l ++ m := by
    simp [wrapL, Nat.add_comm 1]
  refine ⟨?_, ?_, ?_, ?_⟩
  · simp [nxTag, h, b0]
  · simp only [nxText, h]
    apply bytes_ext
    rw [extract_list, mk_list, mk_list, Nat.add_sub_cancel_left, hd1, List.take_left]
  · simp only [nxRest, h]
    apply bytes_ext
    rw [extract_list, mk_list, mk_list, ← List.drop_drop, hd1, List.drop_left, List.take_of_length_le]
    rw [mk_size]
    simp [wrapL]
    omega
  · simp [nxErr, h]

/-- what is read was written so -/
theorem nx_turn {s : ByteArray} {a n : Nat} (h : nx s = some (a, n)) :
    s.data.toList = wrapL (byteAt s 0) (nxText s).data.toList ++ (nxRest s).data.toList ∧ (nxText s).size = n ∧ n < 16777216 ∧ ¬ byteAt s 0 % 32 = 31 := by
  have hf := nx_fits h
  have ht : (nxText s).data.toList = (s.data.toList.drop a).take n := by
    simp only [nxText, h]; rw [extract_list, Nat.add_sub_cancel_left]
  have hr : (nxRest s).data.toList = s.data.toList.drop (a + n) := by
    simp only [nxRest, h]
    rw [extract_list, List.take_of_length_le]
    rw [List.length_drop, ← size_list]; omega
  have hts : (nxText s).size = n := by
    rw [size_list, ht, List.length_take, List.length_drop, ← size_list]; omega
  have key : n < 16777216 ∧ ¬ byteAt s 0 % 32 = 31 ∧ s.data.toList.take a = UInt8.ofNat (byteAt s 0) :: lenB n := by
    have hd0 := byteAt_list s 0 (by omega)
    have split : s.data.toList.take a = UInt8.ofNat (byteAt s 0) :: ((s.data.toList.drop 1).take (a - 1)) := by
      have : a = 1 + (a - 1) := by omega
      rw [this, List.take_add, Nat.add_sub_cancel_left]
      have h0 : s.data.toList.take 1 = [UInt8.ofNat (byteAt s 0)] := by simpa using hd0
      rw [h0]
      rfl
    rw [split]
    unfold nx at h
    split at h
    · cases h
    rename_i h31
    split at h
    · rename_i h128
      split at h
      · cases h
      · simp only [Option.some.injEq, Prod.mk.injEq] at h
        obtain ⟨rfl, rfl⟩ := h
        refine ⟨by omega, by omega, ?_⟩
        have := cmp_one s (by omega) h128
        have h2 := congrArg (fun t => t.data.toList) this
        simp only [lenS, extract_list] at h2
        rw [← h2]
    · rename_i h128
      split at h
      · cases h
      rename_i hk
      split at h
      · cases h
      rename_i hbad
      split at h
      · cases h
      · rename_i hfit
        simp only [Option.some.injEq, Prod.mk.injEq] at h
        obtain ⟨ha, hn⟩ := h
        have hlt := beNat_lt ((s.data.toList.drop 2).take (byteAt s 1 - 128))
        have hle : 256 ^ ((s.data.toList.drop 2).take (byteAt s 1 - 128)).length ≤ 256 ^ 3 := Nat.pow_le_pow_right (by omega) (Nat.le_trans (List.length_take_le _ _) (by omega))
        have hc := (cmp_many s (byteAt s 1 - 128) (by omega) rfl (by omega) (by omega)).2 ⟨by omega, by omega, fun h1 => by
          rcases Nat.lt_or_ge (beNat ((s.data.toList.drop 2).take (byteAt s 1 - 128))) (256 ^ (byteAt s 1 - 128 - 1)) with h2 | h2
          · exact absurd (.inr ⟨h1, h2⟩) hbad
          · exact h2⟩
        refine ⟨by omega, by omega, ?_⟩
        have h2 := congrArg (fun t => t.data.toList) hc
        simp only [lenS, extract_list] at h2
        rw [← hn, ← ha, show 2 + (byteAt s 1 - 128) - 1 = 2 + (byteAt s 1 - 128) - 1 from rfl, ← h2]
  refine ⟨?_, hts, key.1, key.2.1⟩
  have hl : (nxText s).data.toList.length = n := by rw [← size_list]; exact hts
  rw [wrapL, hl, ht, hr]
  have h1 : s.data.toList = s.data.toList.take a ++ ((s.data.toList.drop a).take n ++ s.data.toList.drop (a + n)) := by
    rw [← List.drop_drop, List.take_append_drop, List.take_append_drop]
  rw [key.2.2] at h1
  exact h1.trans (by simp)
end Go.Proofs.Ytgloidibckopiaa
