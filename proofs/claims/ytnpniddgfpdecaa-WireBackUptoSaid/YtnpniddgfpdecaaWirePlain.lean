/- Plain facts: what a writer of layer 13 wrote a reader reads. No program in sight. -/
import Derived.Test.YtnpniddgfpdecaaWireWords
namespace Go.Proofs.Ytnpniddgfpdecaa

theorem bytes_ext {a b : ByteArray} (h : a.data.toList = b.data.toList) : a = b := by
  cases a; cases b
  congr 1
  exact Array.ext' h
theorem size_list (s : ByteArray) : s.size = s.data.toList.length := by simp
theorem extract_list (s : ByteArray) (a b : Nat) : (s.extract a b).data.toList = (s.data.toList.drop a).take (b - a) := by
  rw [ByteArray.data_extract, Array.toList_extract]

theorem read_raw {s t : ByteArray} {R : List UInt8} (h : s.data.toList = t.data.toList ++ R) :
    rawV 0 s t.size = t ∧ rawE 0 s t.size = 0 ∧ (rawS 0 s t.size).data.toList = R := by
  have hl : t.size ≤ s.size := by rw [size_list, size_list, h, List.length_append]; omega
  have h1 : ¬ ((t.size : Int) < 0) := by omega
  have h2 : ¬ ((s.size : Int) < (t.size : Int)) := by omega
  refine ⟨?_, ?_, ?_⟩
  · have : rawV 0 s t.size = s.extract 0 t.size := by simp [rawV, hl]
    rw [this]
    apply bytes_ext
    rw [extract_list, h, size_list]
    simp
  · simp only [rawE, h1, h2, if_true, if_false]
  · have : rawS 0 s t.size = s.extract t.size s.size := by simp [rawS, hl]
    rw [this, extract_list, h, size_list t, List.drop_left, List.take_of_length_le]
    rw [size_list s, h, List.length_append]
    omega

theorem read_num {s : ByteArray} {R : List UInt8} {n z : Nat} (h1 : 1 ≤ z) (h7 : z ≤ 7) (hn : n < 256 ^ z) (h : s.data.toList = beBytes n z ++ R) :
    numV 0 s z = n ∧ numE 0 s z = 0 ∧ (numS 0 s z).data.toList = R := by
  have hz := beBytes_length n z
  have hl : z ≤ s.size := by rw [size_list, h, List.length_append]; omega
  have h0 : ¬ ((z : Int) < 1 ∨ 7 < (z : Int)) := by omega
  have h2 : ¬ ((s.size : Int) < (z : Int)) := by omega
  have h3 : (1 ≤ (z : Int) ∧ (z : Int) ≤ 7 ∧ (z : Int) ≤ (s.size : Int)) := by omega
  refine ⟨?_, ?_, ?_⟩
  · simp only [numV, h3, and_self, if_true, Int.toNat_natCast]
    rw [h, List.take_append_of_le_length (by omega), List.take_of_length_le (by omega), beNat_beBytes z n hn]
  · simp only [numE, h0, h2, if_true, if_false]
  · have : numS 0 s z = s.extract z s.size := by simp only [numS, h3, and_self, if_true, Int.toNat_natCast]
    rw [this, extract_list, h]
    have hd : (beBytes n z ++ R).drop z = R := List.drop_left' hz
    rw [hd, List.take_of_length_le]
    rw [size_list s, h, List.length_append]
    omega

theorem read_opq {s t : ByteArray} {R : List UInt8} {z : Nat} (h1 : 1 ≤ z) (h7 : z ≤ 7) (hn : t.size < 256 ^ z) (h : s.data.toList = beBytes t.size z ++ (t.data.toList ++ R)) :
    opqV 0 s z = t ∧ opqE 0 s z = 0 ∧ (opqS 0 s z).data.toList = R := by
  obtain ⟨a, b, c⟩ := read_num h1 h7 hn h
  unfold opqV opqE opqS
  rw [a, b]
  exact read_raw c
end Go.Proofs.Ytnpniddgfpdecaa
