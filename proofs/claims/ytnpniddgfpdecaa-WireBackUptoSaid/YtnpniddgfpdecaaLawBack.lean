/- The walk of the law WireBack: what was written is read as it was. -/
import Derived.Test.YtnpniddgfpdecaaLawReads
import Derived.Test.YtnpniddgfpdecaaWirePlain
import Derived.Deep.AppendLies
namespace Go.Proofs.Ytnpniddgfpdecaa
open Go.RowKit
attribute [local irreducible] Calls

/-- the text of a part, cut -/
def cutB (s : ByteArray) : ByteArray := s.extract 0 (min s.size 300)
/-- a part's number, cut -/
def lowN (n : Int) : Nat := (n % 16777216).toNat
/-- what is written of part i -/
def encP (q : Int) (n : Int) (i : Nat) (s : ByteArray) : List UInt8 :=
  if q = 0 then beBytes (lowN n) (3 + i % 5) else if q = 1 then (cutB s).data.toList else beBytes (cutB s).size (3 + i % 5) ++ (cutB s).data.toList
def encs (K N : Nat → Int) (T : Nat → ByteArray) : Nat → List UInt8
  | 0 => []
  | k + 1 => encs K N T k ++ encP (kindV (K k)) (N k) k (T k)
def dcells (K N : Nat → Int) (T : Nat → ByteArray) : Nat → List Value
  | 0 => []
  | k + 1 => dcells K N T k ++ [.int .i64 (kindV (K k)), .int .i64 (lowN (N k)), .int .i64 ((3 + k % 5 : Nat) : Int), .string (cutB (T k))]

theorem dcells_len (K N : Nat → Int) (T : Nat → ByteArray) (k : Nat) : (dcells K N T k).length = k * 4 := by
  induction k with
  | zero => rfl
  | succ k ih => rw [dcells, List.length_append, ih]; simp; omega
theorem dcells_get (K N : Nat → Int) (T : Nat → ByteArray) (k j : Nat) (h : j < k) : (dcells K N T k)[j * 4]? = some (.int .i64 (kindV (K j))) ∧ (dcells K N T k)[j * 4 + 1]? = some (.int .i64 (lowN (N j))) ∧
    (dcells K N T k)[j * 4 + 2]? = some (.int .i64 ((3 + j % 5 : Nat) : Int)) ∧ (dcells K N T k)[j * 4 + 3]? = some (.string (cutB (T j))) := by
  induction k with
  | zero => omega
  | succ k ih =>
    have hl := dcells_len K N T k
    rw [dcells]
    rcases Nat.lt_or_ge j k with h' | h'
    · obtain ⟨a, b, c, d⟩ := ih h'
      refine ⟨?_, ?_, ?_, ?_⟩
      all_goals rw [List.getElem?_append_left (by omega)]; assumption
    · obtain rfl : j = k := by omega
      refine ⟨?_, ?_, ?_, ?_⟩
      all_goals rw [List.getElem?_append_right (by omega), hl]
      · rw [show j * 4 - j * 4 = 0 from by omega]; rfl
      · rw [show j * 4 + 1 - j * 4 = 1 from by omega]; rfl
      · rw [show j * 4 + 2 - j * 4 = 2 from by omega]; rfl
      · rw [show j * 4 + 3 - j * 4 = 3 from by omega]; rfl

theorem encs_prefix (K N : Nat → Int) (T : Nat → ByteArray) (j k : Nat) (h : j ≤ k) : ∃ tl, encs K N T k = encs K N T j ++ tl := by
  induction k with
  | zero => obtain rfl : j = 0 := by omega
            exact ⟨[], by simp⟩
  | succ k ih =>
    rcases Nat.lt_or_ge j (k + 1) with h' | h'
    · obtain ⟨tl, ht⟩ := ih (by omega)
      exact ⟨tl ++ encP (kindV (K k)) (N k) k (T k), by rw [encs, ht, List.append_assoc]⟩
    · obtain rfl : j = k + 1 := by omega
      exact ⟨[], by simp⟩
def ReadsBackRel (w wr : World) (k gR : Nat) (K N : Nat → Int) (T : Nat → ByteArray) (more : ByteArray) (d i : Value) : Prop :=
  ∃ (j : Nat) (S : ByteArray), j ≤ k ∧ i = .int .i64 j ∧ Blk wr gR 49 #[.int .i64 0, .string S] ∧ wr.ownsRow w.heap.size 30 4 d k (dcells K N T k) ∧ Below w.heap.size w wr ∧ encs K N T k ++ more.data.toList = encs K N T j ++ S.data.toList
def WritesRel (w wr : World) (n g : Nat) (K N : Nat → Int) (T : Nat → ByteArray) (d i : Value) : Prop :=
  ∃ (k : Nat) (v : Value), k ≤ n ∧ i = .int .i64 k ∧ Wr wr w.heap.size g 0 (encs K N T k) v ∧ wr.ownsRow w.heap.size 30 4 d k (dcells K N T k) ∧ Below w.heap.size w wr ∧ k ≤ 20

theorem cutB_size (s : ByteArray) : (cutB s).size ≤ 300 := by unfold cutB; simp; omega
theorem encP_len (q n : Int) (i : Nat) (s : ByteArray) : (encP q n i s).length ≤ 307 := by
  have := cutB_size s
  have h : (cutB s).data.toList.length = (cutB s).size := by simp
  unfold encP
  split
  · rw [beBytes_length]; omega
  · split
    · omega
    · rw [List.length_append, beBytes_length]; omega
theorem encs_len (K N : Nat → Int) (T : Nat → ByteArray) (k : Nat) : (encs K N T k).length ≤ k * 307 := by
  induction k with
  | zero => simp [encs]
  | succ k ih =>
    have := encP_len (kindV (K k)) (N k) k (T k)
    rw [encs, List.length_append]
    omega
theorem alloc3_grown (wr : World) (a b c : Obj) (row : Option Nat) : wr.grownBy (((wr.alloc a).alloc b).alloc c) row :=
  only_alloc (only_alloc (World.grownBy_alloc wr a row) b) c

theorem infoPart : (Try.prog.info? 30).map (fun i => (i.zero, i.size, i.bytes)) = some (some (.agg #[.int .i64 0, .int .i64 0, .int .i64 0, .string ⟨#[]⟩]), 4, 40) := by kernel_rfl

set_option maxRecDepth 100000 in
set_option maxHeartbeats 2000000 in
theorem back_walk (A : Option Addr) (n c : Nat) (more : ByteArray) (K N Z : Nat → Int) (T : Nat → ByteArray) (w : World) (h : Parts13 w A n K N Z T) (hn : n ≤ 9223372036854775807) (hm : more.size ≤ 1048576) :
    Calls Try.prog 4 #[.slice A n c, .string more] w fun e w' => e = .returned (.bool true) ∧ Below w.heap.size w w' := by
  go_enter Try.func4, Try.ntmps4
  go_wp2_with fail
  refine (examples_any _).mono ?_
  rintro e w1 ⟨rfl, hB1⟩
  go_wp2_with fail
  refine (newwriter_any _).mono ?_
  rintro e w2 ⟨rfl, rfl⟩
  have hz1 := hB1.size
  have hW2 : Wr (w1.alloc (.cells #[.int .i64 0, .slice none 0 0] 54)) w.heap.size w1.heap.size 0 [] (.slice none 0 0) := ⟨Blk.new w1 _ _, World.ownsRow_nil _ _ _ _⟩
  have hB2 := hB1.alloc hB1.size (.cells #[.int .i64 0, .slice none 0 0] 54)
  go_wp2_with fail
  obtain ⟨g, hg⟩ : ∃ g, g = w1.heap.size := ⟨_, rfl⟩
  rw [← hg] at hW2 ⊢
  generalize w1.alloc (.cells #[.int .i64 0, .slice none 0 0] 54) = W2 at *
  go_loopw [7, 8, 9] (fun d i _ wr => WritesRel w wr n g K N T d i) (fun _ i _ _ => n - (intOf i).toNat)
  case atStart => exact ⟨0, _, Nat.zero_le _, rfl, hW2, World.ownsRow_nil _ _ _ _, hB2, by omega⟩
  case round =>
    obtain ⟨k, v, hk, rfl, hW, hD, hB, hk20⟩ := hrel
    have hz : w.heap.size ≤ g := by omega
    clear hg hW2 hB2 hB1 hz1
    by_cases hlt : k < n ∧ k < 20
    · obtain ⟨hlt, h20⟩ := hlt
      obtain ⟨b, off, rfl, hb, hcs⟩ := h.some (by omega)
      obtain ⟨c0, c1, c2, c3⟩ := hcs k hlt
      have d0 := (hB.cell (p := ⟨b, off + k * 4, none⟩) hb).trans c0
      have d1 := (hB.cell (p := ⟨b, off + k * 4 + 1, none⟩) hb).trans c1
      have d2 := (hB.cell (p := ⟨b, off + k * 4 + 2, none⟩) hb).trans c2
      have d3 := (hB.cell (p := ⟨b, off + k * 4 + 3, none⟩) hb).trans c3
      clear c0 c1 c2 c3 hcs
      go_wp2_with fail
      refine (kind_any _ _ _ _ _ (h.lo k hlt) (h.hi k hlt)).mono ?_
      rintro e w3 ⟨rfl, rfl⟩
      obtain ⟨ad, cd, rfl⟩ := own_form hD
      obtain ⟨M, hM⟩ : ∃ M : Nat, M = min (T k).size 300 := ⟨_, rfl⟩
      have hM1 : (if (300 : Int) < ((T k).size : Int) then 300 else ((T k).size : Int)) = (M : Int) := by rw [hM]; split <;> omega
      have hM2 : M ≤ (T k).size := by omega
      have hM3 : M ≤ 300 := by omega
      obtain ⟨zi, hzi⟩ : ∃ z : Nat, z = 3 + k % 5 := ⟨_, rfl⟩
      have hz1 : 3 + (k : Int) % 5 = (zi : Int) := by rw [hzi]; omega
      have hz2 : 3 ≤ zi ∧ zi ≤ 7 := by omega
      obtain ⟨hz3, hz4⟩ := hz2
      obtain ⟨L, hL⟩ : ∃ L : Nat, L = lowN (N k) := ⟨_, rfl⟩
      have hL1 : bits .and .i64 (N k) 16777215 = (L : Int) := by rw [and_mask24, hL]; rfl
      have hL2 : L < 16777216 := by rw [hL]; unfold lowN; omega
      have h3 := kindV_lt (K k)
      obtain ⟨q, hq⟩ : ∃ q, q = kindV (K k) := ⟨_, rfl⟩
      rw [← hq] at h3 ⊢
      have HM := Lib.hid hM; have Hzi := Lib.hid hzi; have HL := Lib.hid hL; have Hq := Lib.hid hq
      clear hM hzi hL hq
      obtain ⟨i0, hi, hz0, hz1', hz2⟩ := info_parts infoPart
      have hq3 : q = 0 ∨ q = 1 ∨ q = 2 := by omega
      have hPne : some wr.heap.size ≠ (Value.slice ad k cd).ownBlock := fun e => by have := (hD.lt _ e.symm).2; omega
      clear h3
      rcases hq3 with rfl | rfl | rfl
      · have hP3 := ((Blk.new wr 30 #[.int .i64 0, .int .i64 L, .int .i64 zi, .string ((T k).extract 0 M)]).alloc (.cells #[.int .i64 (K k), .int .i64 (N k), .int .i64 (Z k), .string (T k)] 30)).alloc (.cells #[.int .i64 0, .int .i64 L, .int .i64 zi, .string ((T k).extract 0 M)] 30)
        go_wp2_with (at_builtin; refine wpList_append_src rfl (.tmp 54) (.tmp 56) _ _ rfl w.heap.size 30 i0 _ 4 40 Try.underlying22 hi hz0 hz1' hz2 rfl (.slice ad k cd) k (dcells K N T k) rfl (((hD.alloc _).alloc _).alloc _) _ 1 [.int .i64 0, .int .i64 L, .int .i64 zi, .string ((T k).extract 0 M)] rfl (Src.ofSlice _ Try.underlying22 _ 1 1 _ rfl (cells_at _ [_, _, _, _] _ _ (by simp)) (by simp [Value.oneCell'])) (by simp only [maxLen]; omega) (by omega) (by have := hB.size; simp; omega) ?_; intro v4 w4 hown4 hg4 _ hat4; have hP4 := hP3.grown hg4 hPne; have e0 : w4.cell? ⟨wr.heap.size, 0, none⟩ = _ := hP4.cell 0; have e1 : w4.cell? ⟨wr.heap.size, 1, none⟩ = _ := hP4.cell 1; have e2 : w4.cell? ⟨wr.heap.size, 2, none⟩ = _ := hP4.cell 2; have e3 : w4.cell? ⟨wr.heap.size, 3, none⟩ = _ := hP4.cell 3)
        have hgg := (alloc3_grown wr (.cells #[.int .i64 0, .int .i64 L, .int .i64 zi, .string ((T k).extract 0 M)] 30) (.cells #[.int .i64 (K k), .int .i64 (N k), .int .i64 (Z k), .string (T k)] 30) (.cells #[.int .i64 0, .int .i64 L, .int .i64 zi, .string ((T k).extract 0 M)] 30) (Value.slice ad k cd).ownBlock).trans hg4
        have hW4 : Wr w4 w.heap.size g 0 (encs K N T k) v := ⟨hW.blk.grown hgg (own_blk_ne hD hW.blk (by decide)), hW.own.kept hgg (own_own_ne hW.own hD (by decide))⟩
        have hB4 := hB.grown hgg hB.size (fun x hx => (hD.lt x hx).1)
        have hlen := encs_len K N T k
        have hcs : ((T k).extract 0 M).size ≤ 300 := by simp; omega
        refine (wnum_ok w.heap.size g L zi _ v _ hW4 ?_ hB4.size (by omega) (by omega) (Nat.lt_of_lt_of_le hL2 (Nat.pow_le_pow_right (by omega : 256 > 0) hz3))).mono ?_
        · omega
        rintro e w5 ⟨rfl, v5, hW5, hk5, hn5⟩
        have hD5 := own_keep2 hown4 hk5 (fun e => own_blk_ne hown4 hW4.blk (by decide) e.symm) (own_own_ne hown4 hW4.own (by decide))
        have hB5 := Keep2.below hB4 hk5 hB4.size hz (fun x hx => (hW4.own.lt x hx).1)
        have E1 : encs K N T (k + 1) = encs K N T k ++ beBytes L zi := by
          rw [encs, ← Hq.out, encP, if_pos rfl, ← HL.out, ← Hzi.out]
        have E2 : dcells K N T (k + 1) = dcells K N T k ++ [.int .i64 0, .int .i64 L, .int .i64 zi, .string ((T k).extract 0 M)] := by
          have hcut : cutB (T k) = (T k).extract 0 M := by unfold cutB; rw [HM.out]
          rw [dcells, ← Hq.out, hcut, ← HL.out, ← Hzi.out]
        go_wp2_with fail
        refine ⟨⟨k + 1, v5, by omega, by go_num, by rw [E1]; exact hW5, by rw [E2]; exact hD5, hB5, by omega⟩, by simp [intOf]; omega⟩
      · have hP3 := ((Blk.new wr 30 #[.int .i64 1, .int .i64 L, .int .i64 zi, .string ((T k).extract 0 M)]).alloc (.cells #[.int .i64 (K k), .int .i64 (N k), .int .i64 (Z k), .string (T k)] 30)).alloc (.cells #[.int .i64 1, .int .i64 L, .int .i64 zi, .string ((T k).extract 0 M)] 30)
        go_wp2_with (at_builtin; refine wpList_append_src rfl (.tmp 54) (.tmp 56) _ _ rfl w.heap.size 30 i0 _ 4 40 Try.underlying22 hi hz0 hz1' hz2 rfl (.slice ad k cd) k (dcells K N T k) rfl (((hD.alloc _).alloc _).alloc _) _ 1 [.int .i64 1, .int .i64 L, .int .i64 zi, .string ((T k).extract 0 M)] rfl (Src.ofSlice _ Try.underlying22 _ 1 1 _ rfl (cells_at _ [_, _, _, _] _ _ (by simp)) (by simp [Value.oneCell'])) (by simp only [maxLen]; omega) (by omega) (by have := hB.size; simp; omega) ?_; intro v4 w4 hown4 hg4 _ hat4; have hP4 := hP3.grown hg4 hPne; have e0 : w4.cell? ⟨wr.heap.size, 0, none⟩ = _ := hP4.cell 0; have e1 : w4.cell? ⟨wr.heap.size, 1, none⟩ = _ := hP4.cell 1; have e2 : w4.cell? ⟨wr.heap.size, 2, none⟩ = _ := hP4.cell 2; have e3 : w4.cell? ⟨wr.heap.size, 3, none⟩ = _ := hP4.cell 3)
        have hgg := (alloc3_grown wr (.cells #[.int .i64 1, .int .i64 L, .int .i64 zi, .string ((T k).extract 0 M)] 30) (.cells #[.int .i64 (K k), .int .i64 (N k), .int .i64 (Z k), .string (T k)] 30) (.cells #[.int .i64 1, .int .i64 L, .int .i64 zi, .string ((T k).extract 0 M)] 30) (Value.slice ad k cd).ownBlock).trans hg4
        have hW4 : Wr w4 w.heap.size g 0 (encs K N T k) v := ⟨hW.blk.grown hgg (own_blk_ne hD hW.blk (by decide)), hW.own.kept hgg (own_own_ne hW.own hD (by decide))⟩
        have hB4 := hB.grown hgg hB.size (fun x hx => (hD.lt x hx).1)
        have hlen := encs_len K N T k
        have hcs : ((T k).extract 0 M).size ≤ 300 := by simp; omega
        refine (wraw_ok w.heap.size g _ ((T k).extract 0 M) v _ hW4 ?_ hB4.size).mono ?_
        · omega
        rintro e w5 ⟨rfl, v5, hW5, hk5, hn5⟩
        have hD5 := own_keep2 hown4 hk5 (fun e => own_blk_ne hown4 hW4.blk (by decide) e.symm) (own_own_ne hown4 hW4.own (by decide))
        have hB5 := Keep2.below hB4 hk5 hB4.size hz (fun x hx => (hW4.own.lt x hx).1)
        have E1 : encs K N T (k + 1) = encs K N T k ++ ((T k).extract 0 M).data.toList := by
          have hcut : cutB (T k) = (T k).extract 0 M := by unfold cutB; rw [HM.out]
          rw [encs, ← Hq.out, encP, if_neg (by decide), if_pos rfl, hcut]
        have E2 : dcells K N T (k + 1) = dcells K N T k ++ [.int .i64 1, .int .i64 L, .int .i64 zi, .string ((T k).extract 0 M)] := by
          have hcut : cutB (T k) = (T k).extract 0 M := by unfold cutB; rw [HM.out]
          rw [dcells, ← Hq.out, hcut, ← HL.out, ← Hzi.out]
        go_wp2_with fail
        refine ⟨⟨k + 1, v5, by omega, by go_num, by rw [E1]; exact hW5, by rw [E2]; exact hD5, hB5, by omega⟩, by simp [intOf]; omega⟩
      · have hP3 := ((Blk.new wr 30 #[.int .i64 2, .int .i64 L, .int .i64 zi, .string ((T k).extract 0 M)]).alloc (.cells #[.int .i64 (K k), .int .i64 (N k), .int .i64 (Z k), .string (T k)] 30)).alloc (.cells #[.int .i64 2, .int .i64 L, .int .i64 zi, .string ((T k).extract 0 M)] 30)
        go_wp2_with (at_builtin; refine wpList_append_src rfl (.tmp 54) (.tmp 56) _ _ rfl w.heap.size 30 i0 _ 4 40 Try.underlying22 hi hz0 hz1' hz2 rfl (.slice ad k cd) k (dcells K N T k) rfl (((hD.alloc _).alloc _).alloc _) _ 1 [.int .i64 2, .int .i64 L, .int .i64 zi, .string ((T k).extract 0 M)] rfl (Src.ofSlice _ Try.underlying22 _ 1 1 _ rfl (cells_at _ [_, _, _, _] _ _ (by simp)) (by simp [Value.oneCell'])) (by simp only [maxLen]; omega) (by omega) (by have := hB.size; simp; omega) ?_; intro v4 w4 hown4 hg4 _ hat4; have hP4 := hP3.grown hg4 hPne; have e0 : w4.cell? ⟨wr.heap.size, 0, none⟩ = _ := hP4.cell 0; have e1 : w4.cell? ⟨wr.heap.size, 1, none⟩ = _ := hP4.cell 1; have e2 : w4.cell? ⟨wr.heap.size, 2, none⟩ = _ := hP4.cell 2; have e3 : w4.cell? ⟨wr.heap.size, 3, none⟩ = _ := hP4.cell 3)
        have hgg := (alloc3_grown wr (.cells #[.int .i64 2, .int .i64 L, .int .i64 zi, .string ((T k).extract 0 M)] 30) (.cells #[.int .i64 (K k), .int .i64 (N k), .int .i64 (Z k), .string (T k)] 30) (.cells #[.int .i64 2, .int .i64 L, .int .i64 zi, .string ((T k).extract 0 M)] 30) (Value.slice ad k cd).ownBlock).trans hg4
        have hW4 : Wr w4 w.heap.size g 0 (encs K N T k) v := ⟨hW.blk.grown hgg (own_blk_ne hD hW.blk (by decide)), hW.own.kept hgg (own_own_ne hW.own hD (by decide))⟩
        have hB4 := hB.grown hgg hB.size (fun x hx => (hD.lt x hx).1)
        have hlen := encs_len K N T k
        have hcs : ((T k).extract 0 M).size ≤ 300 := by simp; omega
        refine (wopq_ok w.heap.size g zi ((T k).extract 0 M) _ v _ hW4 ?_ hB4.size (by omega) (by omega) ?_).mono ?_
        · omega
        · exact Nat.lt_of_lt_of_le (by omega : _ < 16777216) (Nat.pow_le_pow_right (by omega : 256 > 0) hz3)
        rintro e w5 ⟨rfl, v5, hW5, hk5, hn5⟩
        have hD5 := own_keep2 hown4 hk5 (fun e => own_blk_ne hown4 hW4.blk (by decide) e.symm) (own_own_ne hown4 hW4.own (by decide))
        have hB5 := Keep2.below hB4 hk5 hB4.size hz (fun x hx => (hW4.own.lt x hx).1)
        have E1 : encs K N T (k + 1) = encs K N T k ++ beBytes ((T k).extract 0 M).size zi ++ ((T k).extract 0 M).data.toList := by
          have hcut : cutB (T k) = (T k).extract 0 M := by unfold cutB; rw [HM.out]
          rw [encs, ← Hq.out, encP, if_neg (by decide), if_neg (by decide), hcut, ← Hzi.out, List.append_assoc]
        have E2 : dcells K N T (k + 1) = dcells K N T k ++ [.int .i64 2, .int .i64 L, .int .i64 zi, .string ((T k).extract 0 M)] := by
          have hcut : cutB (T k) = (T k).extract 0 M := by unfold cutB; rw [HM.out]
          rw [dcells, ← Hq.out, hcut, ← HL.out, ← Hzi.out]
        go_wp2_with fail
        refine ⟨⟨k + 1, v5, by omega, by go_num, by rw [E1]; exact hW5, by rw [E2]; exact hD5, hB5, by omega⟩, by simp [intOf]; omega⟩
    · have hex : k = n ∨ (k < n ∧ k = 20) := by omega
      clear hlt
      have hex2 : (¬ k < n) ∨ (k < n ∧ ¬ k < 20) := by omega
      clear hex
      rcases hex2 with hlt | ⟨hlt, h20⟩
      all_goals
        go_wp2_with fail
        refine (bytes_any w.heap.size g 0 _ v _ hW).mono ?_
        rintro e w4 ⟨rfl, n4, rfl⟩
        rw [if_pos rfl]
        have hlen := encs_len K N T k
        obtain ⟨E, hE⟩ : ∃ E : ByteArray, E = ⟨(encs K N T k).toArray⟩ := ⟨_, rfl⟩
        rw [← hE]
        have hE1 : E.data.toList = encs K N T k := by rw [hE]
        have hEs : E.size ≤ 6140 := by rw [size_list, hE1]; omega
        obtain ⟨F, hF⟩ : ∃ F : ByteArray, F = E ++ more := ⟨_, rfl⟩
        have hF1 : F.data.toList = encs K N T k ++ more.data.toList := by rw [hF, ← hE1]; simp
        have hEF : E ++ more = F := hF.symm
        have HF := Lib.hid hF1; have HE1 := Lib.hid hE1
        clear hE hF hF1 hE1 hlen
        go_wp2_with fail
        refine (newreader_any F _).mono ?_
        rintro e w5 ⟨rfl, rfl⟩
        have hR5 : Blk ((wr.drewN n4).alloc (.cells #[.int .i64 0, .string F] 49)) wr.heap.size 49 #[.int .i64 0, .string F] := Blk.new (wr.drewN n4) _ _
        have hD5 : ((wr.drewN n4).alloc (.cells #[.int .i64 0, .string F] 49)).ownsRow w.heap.size 30 4 u7 k (dcells K N T k) := World.ownsRow.alloc (show (wr.drewN n4).ownsRow w.heap.size 30 4 u7 k _ from hD) _
        have hB5 := (below_drewN hB n4).alloc hB.size (.cells #[.int .i64 0, .string F] 49)
        have hgw : w.heap.size ≤ wr.heap.size := hB.size
        obtain ⟨ad, cd, rfl⟩ := own_form hD
        go_wp2_with fail
        generalize (wr.drewN n4).alloc (.cells #[.int .i64 0, .string F] 49) = W5 at *
        obtain ⟨gR, hgR⟩ : ∃ x, x = wr.heap.size := ⟨_, rfl⟩
        rw [← hgR] at hR5 hgw ⊢
        clear hgR hD hB hW
        go_loopw [13, 14] (fun i _ wr => ReadsBackRel w wr k gR K N T more (.slice ad k cd) i) (fun i _ _ => k - (intOf i).toNat)
        case atStart => exact ⟨0, F, Nat.zero_le _, rfl, hR5, hD5, hB5, by rw [HF.out]; simp [encs]⟩
        case round =>
          obtain ⟨j, S, hj, rfl, hR, hD, hB, hdec⟩ := hrel
          clear hR5 hD5 hB5
          have hk63 : (k : Int) ≤ 9223372036854775807 := by omega
          by_cases hjk : j < k
          · obtain ⟨gd, cap, hv, _, hgd⟩ := hD.form (by omega)
            have hA : ad = some ⟨gd, 0, none⟩ := by injection hv
            subst hA
            obtain ⟨x0, x1, x2, x3⟩ := dcells_get K N T k j hjk
            obtain ⟨zj, hzj⟩ : ∃ z : Nat, z = 3 + j % 5 := ⟨_, rfl⟩
            obtain ⟨Lj, hLj⟩ : ∃ L : Nat, L = lowN (N j) := ⟨_, rfl⟩
            obtain ⟨Cj, hCj⟩ : ∃ C : ByteArray, C = cutB (T j) := ⟨_, rfl⟩
            obtain ⟨q, hq⟩ : ∃ q, q = kindV (K j) := ⟨_, rfl⟩
            rw [← hzj] at x2; rw [← hLj] at x1; rw [← hCj] at x3; rw [← hq] at x0
            have y0 := hD.cells (g := gd) rfl _ _ x0
            have y1 := hD.cells (g := gd) rfl _ _ x1
            have y2 := hD.cells (g := gd) rfl _ _ x2
            have y3 := hD.cells (g := gd) rfl _ _ x3
            simp only [Go.WideShapes.add_plain, Nat.zero_add] at y0 y1 y2 y3
            clear x0 x1 x2 x3 hv
            have h3 := kindV_lt (K j)
            rw [← hq] at h3
            have hz1 : 3 ≤ zj := by omega
            have hz7 : zj ≤ 7 := by omega
            have hL2 : Lj < 256 ^ zj := Nat.lt_of_lt_of_le (by rw [hLj]; unfold lowN; omega : Lj < 16777216) (Nat.pow_le_pow_right (by omega : 256 > 0) hz1)
            have hC2 : Cj.size < 256 ^ zj := Nat.lt_of_lt_of_le (by rw [hCj]; have := cutB_size (T j); omega : Cj.size < 16777216) (Nat.pow_le_pow_right (by omega : 256 > 0) hz1)
            have hencj : encs K N T (j + 1) = encs K N T j ++ (if q = 0 then beBytes Lj zj else if q = 1 then Cj.data.toList else beBytes Cj.size zj ++ Cj.data.toList) := by rw [hq, hLj, hzj, hCj]; rfl
            -- what is left begins with part j
            obtain ⟨R, hRest, hR2⟩ : ∃ R, S.data.toList = (if q = 0 then beBytes Lj zj else if q = 1 then Cj.data.toList else beBytes Cj.size zj ++ Cj.data.toList) ++ R ∧ encs K N T k ++ more.data.toList = encs K N T (j + 1) ++ R := by
              obtain ⟨tl, htl⟩ := encs_prefix K N T (j + 1) k (by omega)
              refine ⟨tl ++ more.data.toList, ?_, by rw [htl, List.append_assoc]⟩
              rw [htl, hencj, List.append_assoc, List.append_assoc] at hdec
              exact (List.append_cancel_left hdec).symm
            have HR2 := Lib.hid hR2; have HRest := Lib.hid hRest
            clear hencj hdec hR2 hRest hzj hLj hCj hq
            have hq3 : q = 0 ∨ q = 1 ∨ q = 2 := by omega
            obtain ⟨gP, hgP⟩ : ∃ x, x = wr.heap.size := ⟨_, rfl⟩
            rcases hq3 with rfl | rfl | rfl
            · have hP3 := Blk.new wr 30 #[.int .i64 0, .int .i64 Lj, .int .i64 zj, .string Cj]
              have hR3 := hR.alloc (.cells #[.int .i64 0, .int .i64 Lj, .int .i64 zj, .string Cj] 30)
              have hD3 := hD.alloc (.cells #[.int .i64 0, .int .i64 Lj, .int .i64 zj, .string Cj] 30)
              have hB3 := hB.alloc hB.size (.cells #[.int .i64 0, .int .i64 Lj, .int .i64 zj, .string Cj] 30)
              go_wp2_with fail
              generalize wr.alloc (.cells #[.int .i64 0, .int .i64 Lj, .int .i64 zj, .string Cj] 30) = W3 at *
              rw [← hgP] at hP3 ⊢
              have HgP := Lib.hid hgP
              clear hgP y0 y1 y2 y3 hR hD hB
              refine wp_region_order (l := [(0,0),(1,0),(2,0),(3,0),(4,0),(5,0),(6,0),(8,0),(9,0),(7,1),(10,0),(11,0),(12,0),(13,0),(14,0),(15,0),(16,0),(17,0),(18,0),(19,0),(20,0),(22,0),(23,0),(21,1),(24,0),(25,0),(26,0),(27,0),(28,0),(29,0),(30,0),(31,0),(32,0),(33,0),(34,0),(36,0),(37,0),(35,1),(38,0),(39,0),(40,0)]) (P := Try.prog) [1, 6, 9, 14, 19, 23, 29, 34, 37] (fun W => W.cell? ⟨gP, 0, none⟩ = some (.int .i64 0) ∧ W.cell? ⟨gP, 1, none⟩ = some (.int .i64 Lj) ∧ W.cell? ⟨gP, 2, none⟩ = some (.int .i64 zj) ∧ W.cell? ⟨gP, 3, none⟩ = some (.string Cj)) (by kernel_rfl) (by kernel_rfl) (fun _ _ d _ _ h => (by cases d <;> exact h)) ⟨hP3.cell 0, hP3.cell 1, hP3.cell 2, hP3.cell 3⟩ ?_
              repeat (first | (refine walkH_skip rfl (by rfl) ?_; intro K hK; go_simp; refine hK _ ?_; clear hK K) | (refine walkH_take rfl (by rfl) ?_; apply Exists.intro; refine ⟨fun WS hWS => ?_, fun K hK => ?_⟩; (· (try (replace hWS := hWS rfl)); (try dsimp only at hWS); go_simp; with_reducible rfl); (go_simp; refine hK _ ?_; clear hK K)))
              refine walkH_do rfl (fun K hK => ?_); go_simp
              refine (num_any gR 0 _ S _ ?_).mono ?_
              · exact hR3.drew
              rintro e w4 ⟨rfl, hR4, hg4⟩
              have hP4 := hP3.drew.grown hg4 (by simpa using Blk.ne_ hP3 hR3 (by decide))
              obtain ⟨r1, r2, r3⟩ := read_num (s := S) (by omega) hz7 hL2 (by simpa using HRest.out)
              rw [r1]
              rw [r2] at hR4
              refine hK _ _ ⟨hP4.cell 0, hP4.cell 1, hP4.cell 2, hP4.cell 3⟩ ?_
              clear hK K
              have hB4 := only_below hB3.drew hg4 hB3.size hgw
              have hD4 := World.ownsRow.kept (w := W3.drew) hD3 hg4 (.inr (fun e => own_blk_ne hD3 hR3 (by decide) e.symm))
              have H3 := Lib.hid r3
              clear r1 r2 r3 hP3 hR3 hD3 hB3
              repeat (first | (refine walkH_skip rfl (by rfl) ?_; intro K hK; go_simp; refine hK _ ?_; clear hK K) | (refine walkH_take rfl (by rfl) ?_; apply Exists.intro; refine ⟨fun WS hWS => ?_, fun K hK => ?_⟩; (· (try (replace hWS := hWS rfl)); (try dsimp only at hWS); go_simp; with_reducible rfl); (go_simp; refine hK _ ?_; clear hK K)))
              refine walkH_nil ?_
              go_wp2_with fail
              refine ⟨⟨j + 1, _, by omega, by go_num, hR4, hD4, hB4, by rw [HR2.out, H3.out]⟩, by simp [intOf]; omega⟩
            · have hP3 := Blk.new wr 30 #[.int .i64 1, .int .i64 Lj, .int .i64 zj, .string Cj]
              have hR3 := hR.alloc (.cells #[.int .i64 1, .int .i64 Lj, .int .i64 zj, .string Cj] 30)
              have hD3 := hD.alloc (.cells #[.int .i64 1, .int .i64 Lj, .int .i64 zj, .string Cj] 30)
              have hB3 := hB.alloc hB.size (.cells #[.int .i64 1, .int .i64 Lj, .int .i64 zj, .string Cj] 30)
              go_wp2_with fail
              generalize wr.alloc (.cells #[.int .i64 1, .int .i64 Lj, .int .i64 zj, .string Cj] 30) = W3 at *
              rw [← hgP] at hP3 ⊢
              have HgP := Lib.hid hgP
              clear hgP y0 y1 y2 y3 hR hD hB
              refine wp_region_order (l := [(0,0),(1,0),(2,0),(3,0),(4,0),(5,0),(6,0),(8,0),(9,0),(7,1),(10,0),(11,0),(12,0),(13,0),(14,0),(15,0),(16,0),(17,0),(18,0),(19,0),(20,0),(22,0),(23,0),(21,1),(24,0),(25,0),(26,0),(27,0),(28,0),(29,0),(30,0),(31,0),(32,0),(33,0),(34,0),(36,0),(37,0),(35,1),(38,0),(39,0),(40,0)]) (P := Try.prog) [1, 6, 9, 14, 19, 23, 29, 34, 37] (fun W => W.cell? ⟨gP, 0, none⟩ = some (.int .i64 1) ∧ W.cell? ⟨gP, 1, none⟩ = some (.int .i64 Lj) ∧ W.cell? ⟨gP, 2, none⟩ = some (.int .i64 zj) ∧ W.cell? ⟨gP, 3, none⟩ = some (.string Cj)) (by kernel_rfl) (by kernel_rfl) (fun _ _ d _ _ h => (by cases d <;> exact h)) ⟨hP3.cell 0, hP3.cell 1, hP3.cell 2, hP3.cell 3⟩ ?_
              repeat (first | (refine walkH_skip rfl (by rfl) ?_; intro K hK; go_simp; refine hK _ ?_; clear hK K) | (refine walkH_take rfl (by rfl) ?_; apply Exists.intro; refine ⟨fun WS hWS => ?_, fun K hK => ?_⟩; (· (try (replace hWS := hWS rfl)); (try dsimp only at hWS); go_simp; with_reducible rfl); (go_simp; refine hK _ ?_; clear hK K)))
              refine walkH_do rfl (fun K hK => ?_); go_simp
              refine (raw_any gR 0 _ S _ ?_).mono ?_
              · exact hR3.drew
              rintro e w4 ⟨rfl, hR4, hg4⟩
              have hP4 := hP3.drew.grown hg4 (by simpa using Blk.ne_ hP3 hR3 (by decide))
              obtain ⟨r1, r2, r3⟩ := read_raw (s := S) (t := Cj) (by simpa using HRest.out)
              rw [r1]
              rw [r2] at hR4
              refine hK _ _ ⟨hP4.cell 0, hP4.cell 1, hP4.cell 2, hP4.cell 3⟩ ?_
              clear hK K
              have hB4 := only_below hB3.drew hg4 hB3.size hgw
              have hD4 := World.ownsRow.kept (w := W3.drew) hD3 hg4 (.inr (fun e => own_blk_ne hD3 hR3 (by decide) e.symm))
              have H3 := Lib.hid r3
              clear r1 r2 r3 hP3 hR3 hD3 hB3
              repeat (first | (refine walkH_skip rfl (by rfl) ?_; intro K hK; go_simp; refine hK _ ?_; clear hK K) | (refine walkH_take rfl (by rfl) ?_; apply Exists.intro; refine ⟨fun WS hWS => ?_, fun K hK => ?_⟩; (· (try (replace hWS := hWS rfl)); (try dsimp only at hWS); go_simp; with_reducible rfl); (go_simp; refine hK _ ?_; clear hK K)))
              refine walkH_nil ?_
              go_wp2_with fail
              refine ⟨⟨j + 1, _, by omega, by go_num, hR4, hD4, hB4, by rw [HR2.out, H3.out]⟩, by simp [intOf]; omega⟩
            · have hP3 := Blk.new wr 30 #[.int .i64 2, .int .i64 Lj, .int .i64 zj, .string Cj]
              have hR3 := hR.alloc (.cells #[.int .i64 2, .int .i64 Lj, .int .i64 zj, .string Cj] 30)
              have hD3 := hD.alloc (.cells #[.int .i64 2, .int .i64 Lj, .int .i64 zj, .string Cj] 30)
              have hB3 := hB.alloc hB.size (.cells #[.int .i64 2, .int .i64 Lj, .int .i64 zj, .string Cj] 30)
              go_wp2_with fail
              generalize wr.alloc (.cells #[.int .i64 2, .int .i64 Lj, .int .i64 zj, .string Cj] 30) = W3 at *
              rw [← hgP] at hP3 ⊢
              have HgP := Lib.hid hgP
              clear hgP y0 y1 y2 y3 hR hD hB
              refine wp_region_order (l := [(0,0),(1,0),(2,0),(3,0),(4,0),(5,0),(6,0),(8,0),(9,0),(7,1),(10,0),(11,0),(12,0),(13,0),(14,0),(15,0),(16,0),(17,0),(18,0),(19,0),(20,0),(22,0),(23,0),(21,1),(24,0),(25,0),(26,0),(27,0),(28,0),(29,0),(30,0),(31,0),(32,0),(33,0),(34,0),(36,0),(37,0),(35,1),(38,0),(39,0),(40,0)]) (P := Try.prog) [1, 6, 9, 14, 19, 23, 29, 34, 37] (fun W => W.cell? ⟨gP, 0, none⟩ = some (.int .i64 2) ∧ W.cell? ⟨gP, 1, none⟩ = some (.int .i64 Lj) ∧ W.cell? ⟨gP, 2, none⟩ = some (.int .i64 zj) ∧ W.cell? ⟨gP, 3, none⟩ = some (.string Cj)) (by kernel_rfl) (by kernel_rfl) (fun _ _ d _ _ h => (by cases d <;> exact h)) ⟨hP3.cell 0, hP3.cell 1, hP3.cell 2, hP3.cell 3⟩ ?_
              repeat (first | (refine walkH_skip rfl (by rfl) ?_; intro K hK; go_simp; refine hK _ ?_; clear hK K) | (refine walkH_take rfl (by rfl) ?_; apply Exists.intro; refine ⟨fun WS hWS => ?_, fun K hK => ?_⟩; (· (try (replace hWS := hWS rfl)); (try dsimp only at hWS); go_simp; with_reducible rfl); (go_simp; refine hK _ ?_; clear hK K)))
              refine walkH_do rfl (fun K hK => ?_); go_simp
              refine (opq_any gR 0 _ S _ ?_).mono ?_
              · exact hR3.drew
              rintro e w4 ⟨rfl, hR4, hg4⟩
              have hP4 := hP3.drew.grown hg4 (by simpa using Blk.ne_ hP3 hR3 (by decide))
              obtain ⟨r1, r2, r3⟩ := read_opq (s := S) (t := Cj) (by omega) hz7 hC2 (by simpa using HRest.out)
              rw [r1]
              rw [r2] at hR4
              refine hK _ _ ⟨hP4.cell 0, hP4.cell 1, hP4.cell 2, hP4.cell 3⟩ ?_
              clear hK K
              have hB4 := only_below hB3.drew hg4 hB3.size hgw
              have hD4 := World.ownsRow.kept (w := W3.drew) hD3 hg4 (.inr (fun e => own_blk_ne hD3 hR3 (by decide) e.symm))
              have H3 := Lib.hid r3
              clear r1 r2 r3 hP3 hR3 hD3 hB3
              repeat (first | (refine walkH_skip rfl (by rfl) ?_; intro K hK; go_simp; refine hK _ ?_; clear hK K) | (refine walkH_take rfl (by rfl) ?_; apply Exists.intro; refine ⟨fun WS hWS => ?_, fun K hK => ?_⟩; (· (try (replace hWS := hWS rfl)); (try dsimp only at hWS); go_simp; with_reducible rfl); (go_simp; refine hK _ ?_; clear hK K)))
              refine walkH_nil ?_
              go_wp2_with fail
              refine ⟨⟨j + 1, _, by omega, by go_num, hR4, hD4, hB4, by rw [HR2.out, H3.out]⟩, by simp [intOf]; omega⟩
          · have hjk' : j = k := by omega
            have hSm : S = more := by
              rw [hjk'] at hdec
              exact (bytes_ext (List.append_cancel_left hdec)).symm
            subst hSm
            have hrv : restV 0 S = S.size := by simp [restV]
            have HRV := Lib.hid hrv
            clear hrv hdec hjk'
            by_cases hem : S.size = 0
            · have h4 : S.toList.isEmpty = true := empty_of_size hem
              have h5 : endV 0 S = 0 := by simp [endV, hem]
              have H5 := Lib.hid h5
              clear h5 hem
              go_wp2_with fail
              refine (rest_any gR 0 S _ hR).mono ?_
              rintro e w6 ⟨rfl, rfl⟩
              rw [HRV.out]
              go_wp2_with fail
              refine (end_any gR 0 S _ hR).mono ?_
              rintro e w6 ⟨rfl, rfl⟩
              rw [H5.out]
              go_wp2_with fail
              go_ret
              exact ⟨rfl, hB⟩
            · have h4 : S.toList.isEmpty = false := nonempty_of_size hem
              have h5 : endV 0 S = 2 := by simp [endV, hem]
              have H5 := Lib.hid h5
              clear h5 hem
              go_wp2_with fail
              refine (rest_any gR 0 S _ hR).mono ?_
              rintro e w6 ⟨rfl, rfl⟩
              rw [HRV.out]
              go_wp2_with fail
              refine (end_any gR 0 S _ hR).mono ?_
              rintro e w6 ⟨rfl, rfl⟩
              rw [H5.out]
              go_wp2_with fail
              go_ret
              exact ⟨rfl, hB⟩
end Go.Proofs.Ytnpniddgfpdecaa
