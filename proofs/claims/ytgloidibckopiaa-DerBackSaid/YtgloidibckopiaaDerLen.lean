/- Layer 14's length, walked: the fewest bytes. -/
import Derived.Test.YtgloidibckopiaaDerWords
import Derived.Test.YtgloidibckopiaaRegion
import Derived.Test.YtgloidibckopiaaAppend
import Derived.Test.YtgloidibckopiaaConv
import Derived.Test.YtgloidibckopiaaStr
import Derived.WalkKit
import Derived.WalkSpells
import Derived.WalkLawsBesides
import Derived.Lib.Hide
import Derived.Outline
namespace Go.Proofs.Ytgloidibckopiaa
open Go.RowKit
attribute [local irreducible] Calls

abbrev bcells (l : List UInt8) : List Value := l.map fun b => Value.int .u8 b.toNat
theorem bcells_one (l : List UInt8) : ∀ u ∈ bcells l, u.oneCell' = true := fun u hu => by
  obtain ⟨_, _, rfl⟩ := List.mem_map.1 hu
  rfl
theorem infoU8 : (Try.prog.info? 5).map (fun i => (i.zero, i.size, i.bytes)) = some (some (.int .u8 0), 1, 1) := by kernel_rfl

set_option maxRecDepth 100000 in
set_option maxHeartbeats 1000000 in
theorem len_any (n : Nat) (w : World) (hn : n < 4294967296) :
    Calls Try.prog 19 #[.int .i64 n] w fun e w' => e = .returned (.string (lenS n)) ∧ Below w.heap.size w w' := by
  by_cases h : n < 128
  · have kc := run_conv_one (P := Try.prog) w Try.underlying43 Try.underlying5 Try.underlying9 (n : Int) (UInt8.ofNat n) (by simp; omega)
    have H := Lib.hid (show lenB n = [UInt8.ofNat n] from by rw [lenB, if_pos h])
    go_enter Try.func19, Try.ntmps19
    go_wp2_with fail
    go_ret
    rw [lenS, H.out]
    exact ⟨rfl, (Below.refl _ _).alloc (Nat.le_refl _) _⟩
  · obtain ⟨i0, hi, hz0, hz1, hz2⟩ := info_parts infoU8
    have hlen := minBytes_len_le 4 n (by omega)
    have H := Lib.hid (show lenB n = UInt8.ofNat (128 + (minBytes n).length) :: minBytes n from by rw [lenB, if_neg h])
    go_enter Try.func19, Try.ntmps19
    go_wp2_with fail
    go_loopw [0, 3] (fun m v wr => ∃ (k : Nat) (L : List UInt8), k ≤ n ∧ m = .int .i64 k ∧ wr.ownsRow w.heap.size 5 1 v L.length (bcells L) ∧ Below w.heap.size w wr ∧ minBytes n = minBytes k ++ L) (fun m _ _ => (intOf m).toNat)
    case atStart => exact ⟨n, [], Nat.le_refl _, rfl, World.ownsRow_nil _ _ _ _, Below.refl _ _, by simp⟩
    case round =>
      obtain ⟨k, L, hk, rfl, hown, hB, hL⟩ := hrel
      have hLl : L.length ≤ 4 := by rw [hL, List.length_append] at hlen; omega
      have HL := Lib.hid hL; clear hL
      obtain ⟨a1, c1, rfl⟩ := own_form hown
      by_cases h0 : 0 < k
      · go_wp2_with (at_builtin; refine wpList_append_src rfl (.tmp 16) (.tmp 17) _ _ rfl w.heap.size 5 i0 _ 1 1 Try.underlying43 hi hz0 hz1 hz2 rfl (.slice (some ⟨wr.heap.size, 0, none⟩) 1 1) 1 [_] rfl (own_lit wr w.heap.size 5 [_] 1 1 hB.size (by simp [maxLen]) rfl) (.slice a1 L.length c1) L.length (bcells L) rfl (Src.ofOwn Try.underlying43 (hown.alloc _) (bcells_one L)) (by simp only [maxLen]; omega) (by omega) (by have := hB.size; simp; omega) ?_; intro v2 w2 hown2 hg2 _ hat2)
        refine ⟨⟨k / 256, UInt8.ofNat (k % 256) :: L, by omega, by simp, ?_, ?_, ?_⟩, by simp [intOf]; omega⟩
        · have e : [Value.int .u8 ((k : Int) % 256)] ++ bcells L = bcells (UInt8.ofNat (k % 256) :: L) := by simp [bcells]
          rw [e, Nat.add_comm] at hown2
          exact hown2
        · exact (hB.alloc hB.size _).grown hg2 (by have := hB.size; simp; omega) (fun x hx => by cases hx; exact hB.size)
        · rw [HL.out, minBytes_pos h0]; simp
      · have hk0 : k = 0 := by omega
        have hE : minBytes n = L := by rw [HL.out, hk0, minBytes_zero]; rfl
        have HE := Lib.hid hE
        clear hE hk0
        have kc1 := run_conv_one (P := Try.prog) wr Try.underlying43 Try.underlying5 Try.underlying9 (128 + (L.length : Int)) (UInt8.ofNat (128 + L.length)) (by simp; omega)
        have kc2 := run_bytes_own (P := Try.prog) Try.underlying43 Try.underlying5 Try.underlying9 (hown.alloc (.cells #[.int .u8 (128 + (L.length : Int))] 5))
        have hsz : (ByteArray.mk L.toArray).size ≤ 4 := by show L.toArray.size ≤ 4; simpa using hLl
        go_wp2_with fail
        go_ret
        rw [lenS, H.out, HE.out]
        refine ⟨?_, hB.alloc hB.size _⟩
        show Ending.returned (.string (_ ++ _)) = Ending.returned (.string _)
        congr 2
        apply bytes_ext
        rw [append_list, mk_list]
        simp
end Go.Proofs.Ytgloidibckopiaa
