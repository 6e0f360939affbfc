/- What the printed functions of layer 14's reference come to. -/
import Derived.Test.YtgloidibckopiaaGx5
import Derived.Test.YtgloidibckopiaaGx6
import Derived.Test.YtgloidibckopiaaGParts
import Derived.Test.YtgloidibckopiaaGWrap
import Derived.Test.YtgloidibckopiaaDerTurns
namespace Go.Proofs.Ytgloidibckopiaa.G
open Go.RowKit Go.Proofs.Ytgloidibckopiaa Go.Proofs.YtgloidibckopiaaW.PrintWords Go.Proofs.YtgloidibckopiaaW.PrintLast Go.Proofs.YtgloidibckopiaaW.PrintMore

theorem bt_byteAt (s : ByteArray) (i : Nat) : bt s (i : Int) = (byteAt s i : Int) := by
  unfold bt byteAt
  split
  · rename_i h
    have h' : i < s.data.size := by simpa using h
    rw [Array.getElem?_eq_getElem h']
    rfl
  · rename_i h
    have h' : ¬ i < s.data.size := by simpa using h
    rw [Array.getElem?_eq_none (by omega)]
    rfl
theorem w64 {x : Int} (h0 : -9223372036854775808 ≤ x) (h : x ≤ 9223372036854775807) : wrap64 x = x := by unfold wrap64; omega

theorem longN_step (s : ByteArray) (j : Nat) (h : 2 + j < s.size) : beNat ((s.data.toList.drop 2).take (j + 1)) = beNat ((s.data.toList.drop 2).take j) * 256 + byteAt s (2 + j) := by
  have h' : j < (s.data.toList.drop 2).length := by rw [List.length_drop, ← size_list]; omega
  rw [List.take_succ_eq_append_getElem h', beNat_snoc]
  congr 1
  have h2 : 2 + j < s.data.size := h
  rw [List.getElem_drop, byteAt, Array.getElem?_eq_getElem h2]
  rfl
theorem longN_top (s : ByteArray) (j : Nat) (h : j ≤ 3) : beNat ((s.data.toList.drop 2).take j) < 16777216 := by
  have h1 := beNat_lt ((s.data.toList.drop 2).take j)
  have h2 : 256 ^ ((s.data.toList.drop 2).take j).length ≤ 256 ^ 3 := Nat.pow_le_pow_right (by omega) (Nat.le_trans (List.length_take_le _ _) h)
  omega

theorem shl_256 {j : Nat} (h : j ≤ 3) : shl .i64 1 (wrap64 (8 * wrap64 ((j : Int) - 1))) = if j = 0 then shl .i64 1 (-8) else ((256 ^ (j - 1) : Nat) : Int) := by
  match j, h with
  | 0, _ => decide +kernel
  | 1, _ => decide +kernel
  | 2, _ => decide +kernel
  | 3, _ => decide +kernel

/-- the item's head is known: the last part -/
theorem refNext_j3 (k : Nat) (s : ByteArray) (n j : Nat) (b : Bool) (hs : s.size ≤ 140737488351232) (hj : j ≤ 3) (hn : n < 16777216) (hfit : 2 + j ≤ s.size) :
    engrosserref14_Next.j3 (k + 1) s n j b = if b = true then some (0, ⟨#[]⟩, ⟨#[]⟩, false) else if s.size < 2 + j + n then some (0, ⟨#[]⟩, ⟨#[]⟩, false) else some ((byteAt s 0 : Int), s.extract (2 + j) (2 + j + n), s.extract (2 + j + n) s.size, true) := by
  have h1 : wrap64 (2 + (j : Int)) = ((2 + j : Nat) : Int) := by rw [w64 (by omega) (by omega)]; omega
  have h2 : wrap64 (((2 + j : Nat) : Int) + (n : Int)) = ((2 + j + n : Nat) : Int) := by clear h1; rw [w64 (by omega) (by omega)]; omega
  have hb := bt_byteAt s 0
  have hlt := byteAt_lt s 0
  have h3 : wrap64 (bt s 0) = (byteAt s 0 : Int) := by clear h1 h2; rw [show (0 : Int) = ((0 : Nat) : Int) from rfl, hb, w64 (by omega) (by omega)]
  simp only [engrosserref14_Next.j3, h1, h2, h3]
  clear h1 h2 h3 hb
  by_cases hb : b = true
  · rw [if_pos hb, if_pos hb]
  · rw [if_neg hb, if_neg hb]
    by_cases hf : s.size < 2 + j + n
    · rw [if_pos (by omega), if_pos hf]
    · rw [if_neg (by omega), if_neg hf, if_pos (by omega), if_pos (by omega), if_pos (by omega), if_pos (by omega), if_pos (by omega), Int.toNat_natCast, Int.toNat_natCast]

/-- the rounds over the length's bytes -/
theorem refNext_l0 (s : ByteArray) (kk : Nat) (h3 : kk ≤ 3) (h1k : 1 ≤ kk) (hfit : 2 + kk ≤ s.size) (d : Nat) : ∀ (k i : Nat), i + d = kk → d + 2 < k →
    engrosserref14_Next.l0 k s (beNat ((s.data.toList.drop 2).take i)) kk i = engrosserref14_Next.j3 (k - d - 1) s (beNat ((s.data.toList.drop 2).take kk)) kk
      (decide (beNat ((s.data.toList.drop 2).take kk) < 128 ∨ (1 < kk ∧ beNat ((s.data.toList.drop 2).take kk) < 256 ^ (kk - 1)))) := by
  induction d with
  | zero =>
    intro k i hi hk
    obtain ⟨k, rfl⟩ : ∃ m, k = m + 1 := ⟨k - 1, by omega⟩
    have : i = kk := by omega
    subst this
    have hsh := shl_256 h3
    rw [if_neg (by omega)] at hsh
    generalize beNat ((s.data.toList.drop 2).take i) = NN
    simp only [engrosserref14_Next.l0, hsh]
    rw [if_neg (by omega), show k + 1 - 0 - 1 = k from by omega]
    by_cases ha : NN < 128
    · rw [if_pos (by omega), decide_eq_true (.inl ha)]
    · rw [if_neg (by omega)]
      by_cases hc : 1 < i
      · rw [if_pos (by omega), if_pos ?_]
        · congr 1
          rw [Bool.eq_iff_iff]
          simp only [decide_eq_true_eq]
          omega
        · rw [w64 (x := (i : Int) - 1) (by omega) (by omega), w64 (by omega) (by omega)]; omega
      · rw [if_neg (by omega), decide_eq_false (by omega)]
  | succ d ih =>
    intro k i hi hk
    obtain ⟨k, rfl⟩ : ∃ m, k = m + 1 := ⟨k - 1, by omega⟩
    have hst := longN_step s i (by omega)
    have htop := longN_top s i (by omega)
    have hb := byteAt_lt s (2 + i)
    have h := ih k (i + 1) (by omega) (by omega)
    have c1 : (i : Int) < (kk : Int) := by omega
    have c2 : (0 : Int) ≤ ((2 + i : Nat) : Int) := by omega
    have c3 : ((2 + i : Nat) : Int) < (s.size : Int) := by omega
    have c4 : k - d - 1 = k + 1 - (d + 1) - 1 := by omega
    have e1 : wrap64 (2 + (i : Int)) = ((2 + i : Nat) : Int) := by rw [w64 (by omega) (by omega)]; omega
    have e2 : wrap64 ((i : Int) + 1) = ((i + 1 : Nat) : Int) := by clear e1; rw [w64 (by omega) (by omega)]; omega
    have e3 : wrap64 (wrap64 ((beNat ((s.data.toList.drop 2).take i) : Int) * 256) + wrap64 (bt s ((2 + i : Nat) : Int))) = ((beNat ((s.data.toList.drop 2).take (i + 1)) : Nat) : Int) := by
      clear e1 e2
      rw [bt_byteAt, hst, w64 (x := (byteAt s (2 + i) : Int)) (by omega) (by omega), w64 (x := (beNat ((s.data.toList.drop 2).take i) : Int) * 256) (by omega) (by omega), w64 (by omega) (by omega)]
      omega
    simp only [engrosserref14_Next.l0, e1, e2]
    rw [if_pos c1, if_pos c2, if_pos c3, e3, h, c4]

theorem refNext_start (s : ByteArray) (kk : Nat) (h3 : kk ≤ 3) (h1k : 1 ≤ kk) (hfit : 2 + kk ≤ s.size) (k : Nat) (hk : kk + 2 < k) :
    engrosserref14_Next.l0 k s 0 kk 0 = engrosserref14_Next.j3 (k - kk - 1) s (beNat ((s.data.toList.drop 2).take kk)) kk
      (decide (beNat ((s.data.toList.drop 2).take kk) < 128 ∨ (1 < kk ∧ beNat ((s.data.toList.drop 2).take kk) < 256 ^ (kk - 1)))) := by
  have h := refNext_l0 s kk h3 h1k hfit kk k 0 (by omega) hk
  have hz : beNat ((s.data.toList.drop 2).take 0) = 0 := rfl
  rw [hz] at h
  exact h

theorem refNext_eq (s : ByteArray) (hs : s.size ≤ 140737488351232) (k : Nat) (hk : 9 ≤ k) : engrosserref14_Next.f k s = some (nxTag s, nxText s, nxRest s, (nx s).isSome) := by
  obtain ⟨k, rfl⟩ : ∃ m, k = m + 1 := ⟨k - 1, by omega⟩
  have none_ : nx s = none → some ((0 : Int), (⟨#[]⟩ : ByteArray), (⟨#[]⟩ : ByteArray), false) = some (nxTag s, nxText s, nxRest s, (nx s).isSome) := fun h => by simp [nxTag, nxText, nxRest, h]
  unfold engrosserref14_Next.f
  by_cases h2 : s.size < 2
  · rw [if_pos (by omega)]
    simp only [engrosserref14_Next.j0, if_true]
    exact none_ (by rw [nx, if_pos (.inl h2)])
  rw [if_neg (by omega), if_pos (by omega)]
  have b0 := bt_byteAt s 0
  have b1 := bt_byteAt s 1
  have l0 := byteAt_lt s 0
  have l1 := byteAt_lt s 1
  have b0' : bt s 0 = (byteAt s 0 : Int) := b0
  have b1' : bt s 1 = (byteAt s 1 : Int) := b1
  have w0 : wrap64 (byteAt s 0 : Int) = (byteAt s 0 : Int) := w64 (by omega) (by omega)
  have w1 : wrap64 (byteAt s 1 : Int) = (byteAt s 1 : Int) := by clear w0; exact w64 (by omega) (by omega)
  rw [b0', Int.tmod_eq_emod_of_nonneg (by omega)]
  by_cases h31 : byteAt s 0 % 32 = 31
  · have : ((byteAt s 0 : Int) % 32 == 31) = true := by simp; omega
    rw [this]
    simp only [engrosserref14_Next.j0, if_true]
    exact none_ (by rw [nx, if_pos (.inr h31)])
  have h31' : ((byteAt s 0 : Int) % 32 == 31) = false := by simp; omega
  rw [h31']
  simp only [engrosserref14_Next.j0, b1', b0', w0, w1, Bool.false_eq_true, if_false]
  rw [if_pos (by omega)]
  by_cases h128 : byteAt s 1 < 128
  · rw [if_neg (by omega)]
    have e2 : wrap64 (2 + (byteAt s 1 : Int)) = ((2 + byteAt s 1 : Nat) : Int) := by clear w0 w1; rw [w64 (by omega) (by omega)]; omega
    rw [e2]
    clear e2 w0 w1 b0 b1 b0' b1' h31'
    by_cases hfit : s.size < 2 + byteAt s 1
    · rw [if_pos (by omega)]
      exact none_ (by rw [nx, if_neg (by omega), if_pos h128, if_pos hfit])
    · have hx : nx s = some (2, byteAt s 1) := by rw [nx, if_neg (by omega), if_pos h128, if_neg hfit]
      rw [if_neg (by omega), if_pos (by omega), if_pos (by omega), if_pos (by omega), if_pos (by omega), Int.toNat_natCast]
      simp [nxTag, nxText, nxRest, hx]
  · rw [if_pos (by omega)]
    obtain ⟨kk, hkk⟩ : ∃ kk, kk = byteAt s 1 - 128 := ⟨_, rfl⟩
    have e1 : wrap64 ((byteAt s 1 : Int) - 128) = (kk : Int) := by clear w0 w1; rw [w64 (by omega) (by omega)]; omega
    have e2 : wrap64 (2 + (kk : Int)) = ((2 + kk : Nat) : Int) := by clear w0 w1 e1; rw [w64 (by omega) (by omega)]; omega
    rw [e1, e2]
    clear e1 e2 w0 w1 b0 b1 b0' b1' h31'
    obtain ⟨k, rfl⟩ : ∃ m, k = m + 1 := ⟨k - 1, by omega⟩
    by_cases hbad : kk < 1 ∨ 3 < kk ∨ s.size < 2 + kk
    · have hx : nx s = none := by rw [nx, if_neg (by omega), if_neg h128, ← hkk, if_pos hbad]
      have j1 : ∀ x, engrosserref14_Next.j1 (k + 1) s x true = some (0, ⟨#[]⟩, ⟨#[]⟩, false) := fun x => by simp [engrosserref14_Next.j1]
      by_cases a1 : kk < 1
      · rw [if_pos (by omega), j1]; exact none_ hx
      · rw [if_neg (by omega)]
        by_cases a2 : 3 < kk
        · rw [if_pos (by omega), j1]; exact none_ hx
        · rw [if_neg (by omega), decide_eq_true (by omega), j1]; exact none_ hx
    · rw [if_neg (by omega), if_neg (by omega), decide_eq_false (by omega)]
      simp only [engrosserref14_Next.j1, Bool.false_eq_true, if_false]
      rw [refNext_start s kk (by omega) (by omega) (by omega) k (by omega), show k - kk - 1 = (k - kk - 2) + 1 from by omega, refNext_j3 _ s _ kk _ hs (by omega) (longN_top s kk (by omega)) (by omega)]
      have hnx : nx s = if beNat ((s.data.toList.drop 2).take kk) < 128 ∨ (1 < kk ∧ beNat ((s.data.toList.drop 2).take kk) < 256 ^ (kk - 1)) then none
          else if s.size < 2 + kk + beNat ((s.data.toList.drop 2).take kk) then none else some (2 + kk, beNat ((s.data.toList.drop 2).take kk)) := by
        rw [nx, if_neg (by omega), if_neg h128, ← hkk, if_neg hbad]
      generalize beNat ((s.data.toList.drop 2).take kk) = NN at *
      by_cases c1 : NN < 128 ∨ (1 < kk ∧ NN < 256 ^ (kk - 1))
      · rw [if_pos c1] at hnx
        rw [decide_eq_true c1, if_pos rfl]
        exact none_ hnx
      · rw [if_neg c1] at hnx
        rw [decide_eq_false c1, if_neg (by decide)]
        by_cases c2 : s.size < 2 + kk + NN
        · rw [if_pos c2] at hnx ⊢
          exact none_ hnx
        · rw [if_neg c2] at hnx ⊢
          simp [nxTag, nxText, nxRest, hnx]
end Go.Proofs.Ytgloidibckopiaa.G
