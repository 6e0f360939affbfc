/- The examples at the head of each law, and small laws, without the reference (for DerBack alone: a claim is held to 1.5 MB; XDerPureA holds the same lines for the other laws). -/
import Derived.Test.YtgloidibckopiaaDerTurns
import Derived.Test.YtgloidibckopiaaGx4
namespace Go.Proofs.Ytgloidibckopiaa.G
open Go.RowKit Go.Proofs.Ytgloidibckopiaa Go.Proofs.YtgloidibckopiaaW.PrintWords Go.Proofs.YtgloidibckopiaaW.PrintLast Go.Proofs.YtgloidibckopiaaW.PrintMore
theorem w64 {x : Int} (h0 : -9223372036854775808 ≤ x) (h : x ≤ 9223372036854775807) : wrap64 x = x := by unfold wrap64; omega
theorem lenB_1 {n : Nat} (h1 : 128 ≤ n) (h2 : n < 256) : lenB n = [129, UInt8.ofNat n] := by
  have hm : minBytes n = [UInt8.ofNat n] := by
    rw [minBytes_pos (by omega), show n / 256 = 0 from by omega, minBytes_zero, show n % 256 = n from by omega]; rfl
  rw [lenB, if_neg (by omega), hm]; rfl
theorem lenB_2 {n : Nat} (h1 : 256 ≤ n) (h2 : n < 65536) : lenB n = [130, UInt8.ofNat (n / 256), UInt8.ofNat (n % 256)] := by
  have hm : minBytes n = [UInt8.ofNat (n / 256), UInt8.ofNat (n % 256)] := by
    rw [minBytes_pos (by omega), minBytes_pos (show 0 < n / 256 by omega), show n / 256 / 256 = 0 from by omega, minBytes_zero, show n / 256 % 256 = n / 256 from by omega]; rfl
  rw [lenB, if_neg (by omega), hm]; rfl
theorem lenB_3 {n : Nat} (h1 : 65536 ≤ n) (h2 : n < 16777216) : lenB n = [131, UInt8.ofNat (n / 65536), UInt8.ofNat (n / 256 % 256), UInt8.ofNat (n % 256)] := by
  have hm : minBytes n = [UInt8.ofNat (n / 65536), UInt8.ofNat (n / 256 % 256), UInt8.ofNat (n % 256)] := by
    rw [minBytes_pos (by omega), minBytes_pos (show 0 < n / 256 by omega), minBytes_pos (show 0 < n / 256 / 256 by omega), show n / 256 / 256 / 256 = 0 from by omega, minBytes_zero,
      show n / 256 / 256 % 256 = n / 65536 from by omega]; rfl
  rw [lenB, if_neg (by omega), hm]; rfl
theorem byte_mod (x : Nat) : UInt8.ofNat (x % 256) = UInt8.ofNat x := by
  apply UInt8.toNat_inj.1
  simp
theorem byte_mod_int (x : Nat) : UInt8.ofNat ((x : Int) % 256).toNat = UInt8.ofNat x := by
  rw [show ((x : Int) % 256).toNat = x % 256 from by omega, byte_mod]

theorem join_text (tag : Nat) (hd : List Int) (a : ByteArray) (h : hd.map (fun n => UInt8.ofNat n.toNat) = UInt8.ofNat tag :: lenB a.size) :
    strOfNums hd ++ a = ⟨(wrapL tag a.data.toList).toArray⟩ := by
  apply bytes_ext
  rw [append_list, mk_list, strOfNums_data, h, wrapL, ← size_list]
  rfl

theorem toList_nil (s : ByteArray) : s.toList = [] ↔ s.size = 0 := by
  rw [ByteArray.toList_eq, size_list]
  exact List.eq_nil_iff_length_eq_zero

theorem nxRest_le (s : ByteArray) : (nxRest s).size ≤ s.size := by
  cases hn : nx s with
  | none => simp only [nxRest, hn]; exact Nat.zero_le _
  | some p => simp only [nxRest, hn, ByteArray.size_extract]; omega

theorem leo_many {α : Type} {g : Nat → Option α} (h : ∀ k, LeO (g k) (g (k + 1))) {k m : Nat} (hm : k ≤ m) {r : α} (hr : g k = some r) : g m = some r := by
  induction m with
  | zero => obtain rfl : k = 0 := by omega
            exact hr
  | succ m ih =>
    by_cases e : k = m + 1
    · subst e; exact hr
    · exact h m r (ih (by omega))
theorem examples_40 : engrosserlaw14_examples.f 40 = some true := by decide +kernel
theorem examples_eq (k : Nat) (hk : 40 ≤ k) : engrosserlaw14_examples.f k = some true := leo_many (g := engrosserlaw14_examples.f) engrosserlaw14_examples.mono hk examples_40
end Go.Proofs.Ytgloidibckopiaa.G
