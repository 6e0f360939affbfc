/- What layer 14's printed functions come to: the reference's Wrap and Parts, the law's item, the examples. -/
import Derived.Test.YtgloidibckopiaaDerRefP
import Derived.Test.YtgloidibckopiaaGx4
namespace Go.Proofs.Ytgloidibckopiaa.G
open Go.RowKit Go.Proofs.Ytgloidibckopiaa Go.Proofs.YtgloidibckopiaaW.PrintWords Go.Proofs.YtgloidibckopiaaW.PrintLast Go.Proofs.YtgloidibckopiaaW.PrintMore

theorem lenB_1 {n : Nat} (h1 : 128 ≤ n) (h2 : n < 256) : lenB n = [129, UInt8.ofNat n] := by
  have hm : minBytes n = [UInt8.ofNat n] := by
    rw [minBytes_pos (by omega), show n / 256 = 0 from by omega, minBytes_zero, show n % 256 = n from by omega]; rfl
  rw [lenB, if_neg (by omega), hm]; rfl
theorem lenB_2 {n : Nat} (h1 : 256 ≤ n) (h2 : n < 65536) : lenB n = [130, UInt8.ofNat (n / 256), UInt8.ofNat (n % 256)] := by
  have hm : minBytes n = [UInt8.ofNat (n / 256), UInt8.ofNat (n % 256)] := by
    rw [minBytes_pos (by omega), minBytes_pos (show 0 < n / 256 by omega), show n / 256 / 256 = 0 from by omega, minBytes_zero, show n / 256 % 256 = n / 256 from by omega]; rfl
  rw [lenB, if_neg (by omega), hm]; rfl
theorem lenB_3 {n : Nat} (h1 : 65536 ≤ n) (h2 : n < 16777216) : lenB n = [131, UInt8.ofNat (n / 65536), UInt8.ofNat (n / 256 % 256), UInt8.ofNat (n % 256)] := by
  have hm : minBytes n = [UInt8.ofNat (n / 65536), UInt8.ofNat (n / 256 % 256), UInt8.ofNat (n % 256)] := by
    rw [minBytes_pos (by omega), minBytes_pos (show 0 < n / 256 by omega), minBytes_pos (show 0 < n / 256 / 256 by omega), show n / 256 / 256 / 256 = 0 from by omega, minBytes_zero,
      show n / 256 / 256 % 256 = n / 65536 from by omega]; rfl
  rw [lenB, if_neg (by omega), hm]; rfl
theorem byte_mod (x : Nat) : UInt8.ofNat (x % 256) = UInt8.ofNat x := by
  apply UInt8.toNat_inj.1
  simp
theorem byte_mod_int (x : Nat) : UInt8.ofNat ((x : Int) % 256).toNat = UInt8.ofNat x := by
  rw [show ((x : Int) % 256).toNat = x % 256 from by omega, byte_mod]

theorem join_text (tag : Nat) (hd : List Int) (a : ByteArray) (h : hd.map (fun n => UInt8.ofNat n.toNat) = UInt8.ofNat tag :: lenB a.size) :
    strOfNums hd ++ a = ⟨(wrapL tag a.data.toList).toArray⟩ := by
  apply bytes_ext
  rw [append_list, mk_list, strOfNums_data, h, wrapL, ← size_list]
  rfl

theorem refWrap_eq (tag : Int) (a : ByteArray) (h0 : -9223372036854775808 ≤ tag) (h1 : tag ≤ 9223372036854775807) (ha : a.size ≤ 140737488351232) (k : Nat) : engrosserref14_Wrap.f (k + 1) tag a = some (wrapV tag a, wrapE tag a.size) := by
  have bad : wrapE tag a.size = 1 → engrosserref14_Wrap.j0 (k + 1) tag a true = some (wrapV tag a, wrapE tag a.size) := fun h => by
    simp only [engrosserref14_Wrap.j0, if_true]
    rw [h, wrapV, if_neg (by rw [h]; decide)]
  unfold engrosserref14_Wrap.f
  by_cases c1 : tag < 0
  · rw [if_pos c1]
    exact bad (by rw [wrapE, if_pos (.inl c1)])
  rw [if_neg c1]
  by_cases c2 : 255 < tag
  · rw [if_pos c2]
    exact bad (by rw [wrapE, if_pos (.inr (.inl c2))])
  rw [if_neg (show ¬ tag > 255 from c2)]
  obtain ⟨t, rfl⟩ := Int.eq_ofNat_of_zero_le (show 0 ≤ tag by omega)
  rw [Int.tmod_eq_emod_of_nonneg (by omega)]
  by_cases c3 : t % 32 = 31
  · have : ((t : Int) % 32 == 31) = true := by simp; omega
    rw [this]
    exact bad (by rw [wrapE, if_pos (by omega)])
  have c3' : ((t : Int) % 32 == 31) = false := by simp; omega
  rw [c3']
  simp only [engrosserref14_Wrap.j0, Bool.false_eq_true, if_false, Option.bind_some]
  by_cases c4 : 16777216 ≤ a.size
  · have he : wrapE (t : Int) a.size = 9 := by rw [wrapE, if_neg (by omega), if_pos c4]
    rw [if_pos (by omega), he, wrapV, if_neg (by rw [he]; decide)]
  have he : wrapE (t : Int) a.size = 0 := by rw [wrapE, if_neg (by omega), if_neg c4]
  rw [if_neg (by omega), he, wrapV, if_pos he, Int.toNat_natCast]
  have ht : UInt8.ofNat ((t : Int) % 256).toNat = UInt8.ofNat t := byte_mod_int t
  by_cases c5 : 65536 ≤ a.size
  · rw [if_pos (by omega), if_pos (by simp), if_pos (by rw [strOfNums_size]; simp; omega)]
    rw [join_text t]
    rw [lenB_3 c5 (by omega)]
    simp only [List.cons_append, List.nil_append, List.map_cons, List.map_nil, ht]
    rw [show (((a.size : Int) / 65536) % 256).toNat = a.size / 65536 from by omega, show (((a.size : Int) / 256) % 256).toNat = a.size / 256 % 256 from by omega, show ((a.size : Int) % 256).toNat = a.size % 256 from by omega]
    rfl
  rw [if_neg (by omega)]
  by_cases c6 : 256 ≤ a.size
  · rw [if_pos (by omega), if_pos (by simp), if_pos (by rw [strOfNums_size]; simp; omega)]
    rw [join_text t]
    rw [lenB_2 c6 (by omega)]
    simp only [List.cons_append, List.nil_append, List.map_cons, List.map_nil, ht]
    rw [show (((a.size : Int) / 256) % 256).toNat = a.size / 256 from by omega, show ((a.size : Int) % 256).toNat = a.size % 256 from by omega]
    rfl
  rw [if_neg (by omega)]
  by_cases c7 : 128 ≤ a.size
  · rw [if_pos (by omega), if_pos (by simp), if_pos (by rw [strOfNums_size]; simp; omega)]
    rw [join_text t]
    rw [lenB_1 c7 (by omega)]
    simp only [List.cons_append, List.nil_append, List.map_cons, List.map_nil, ht]
    rw [show ((a.size : Int) % 256).toNat = a.size from by omega]
    rfl
  · rw [if_neg (by omega), if_pos (by simp), if_pos (by rw [strOfNums_size]; simp; omega)]
    rw [join_text t]
    rw [lenB, if_pos (by omega)]
    simp only [List.cons_append, List.nil_append, List.map_cons, List.map_nil, ht]
    rw [show ((a.size : Int) % 256).toNat = a.size from by omega]

def it28 (x : ByteArray) : S28 := ⟨nxTag x, nxText x, nxRest x⟩

theorem toList_nil (s : ByteArray) : s.toList = [] ↔ s.size = 0 := by
  rw [ByteArray.toList_eq, size_list]
  exact List.eq_nil_iff_length_eq_zero

theorem nxRest_le (s : ByteArray) : (nxRest s).size ≤ s.size := by
  cases hn : nx s with
  | none => simp only [nxRest, hn]; exact Nat.zero_le _
  | some p => simp only [nxRest, hn, ByteArray.size_extract]; omega

theorem refParts_l0 (m : Nat) : ∀ (k : Nat) (s : ByteArray) (pre : List ByteArray), s.size ≤ 140737488351232 → 101 - pre.length = m → pre.length ≤ 100 → m + 11 ≤ k →
    engrosserref14_Parts.l0 k s (pre.map it28) = some ((partsR pre (chain s)).1.map it28, (partsR pre (chain s)).2) := by
  induction m with
  | zero => intro k s pre _ h1 h2 _; omega
  | succ m ih =>
    intro k s pre hs h1 h2 hk
    obtain ⟨k, rfl⟩ : ∃ j, k = j + 1 := ⟨k - 1, by omega⟩
    simp only [engrosserref14_Parts.l0]
    by_cases h0 : s.size = 0
    · rw [if_pos ((toList_nil s).2 h0), chain_empty h0]
      rfl
    · rw [if_neg (fun h => h0 ((toList_nil s).1 h)), refNext_eq s hs k (by omega)]
      simp only [Option.bind_some]
      by_cases hn : nx s = none
      · rw [if_neg (by rw [hn]; simp), chain_bad h0 hn, partsR, if_pos hn]
        rfl
      · rw [if_pos (by cases h : nx s with | none => exact absurd h hn | some p => rfl), chain_ok h0 hn, partsR, if_neg hn, List.length_map]
        by_cases h100 : pre.length = 100
        · rw [if_pos (by omega), if_pos h100]
          rfl
        · rw [if_neg (by omega), if_neg h100, if_pos (by omega)]
          have := ih k (nxRest s) (pre ++ [s]) (Nat.le_trans (nxRest_le s) hs) (by simp; omega) (by simp; omega) (by omega)
          rw [List.map_append] at this
          exact this
theorem refParts_eq (s : ByteArray) (hs : s.size ≤ 140737488351232) (k : Nat) (hk : 120 ≤ k) : engrosserref14_Parts.f k s = some ((partsR [] (chain s)).1.map it28, (partsR [] (chain s)).2) :=
  refParts_l0 101 k s [] hs rfl (by simp) (by omega)

theorem leo_many {α : Type} {g : Nat → Option α} (h : ∀ k, LeO (g k) (g (k + 1))) {k m : Nat} (hm : k ≤ m) {r : α} (hr : g k = some r) : g m = some r := by
  induction m with
  | zero => obtain rfl : k = 0 := by omega
            exact hr
  | succ m ih =>
    by_cases e : k = m + 1
    · subst e; exact hr
    · exact h m r (ih (by omega))
theorem examples_40 : engrosserlaw14_examples.f 40 = some true := by decide +kernel
theorem examples_eq (k : Nat) (hk : 40 ≤ k) : engrosserlaw14_examples.f k = some true := leo_many (g := engrosserlaw14_examples.f) engrosserlaw14_examples.mono hk examples_40
end Go.Proofs.Ytgloidibckopiaa.G
