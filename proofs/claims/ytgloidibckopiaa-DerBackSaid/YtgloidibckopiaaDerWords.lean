/- What layer 14 computes, in plain Lean. -/
import Derived.Test.YtgloidibckopiaaHeap
namespace Go.Proofs.Ytgloidibckopiaa

/-- bytes as a number, the greatest first -/
def beNat (l : List UInt8) : Nat := l.foldl (fun n b => n * 256 + b.toNat) 0
theorem beNat_snoc (l : List UInt8) (b : UInt8) : beNat (l ++ [b]) = beNat l * 256 + b.toNat := by simp [beNat]
theorem beNat_from (l : List UInt8) : ∀ a : Nat, l.foldl (fun n b => n * 256 + b.toNat) a < (a + 1) * 256 ^ l.length := by
  induction l with
  | nil => intro a; simp
  | cons b l ih =>
    intro a
    have h := ih (a * 256 + b.toNat)
    have hb := b.toNat_lt
    simp only [List.foldl_cons, List.length_cons, Nat.pow_succ]
    refine Nat.lt_of_lt_of_le h ?_
    rw [Nat.mul_comm (256 ^ l.length) 256, ← Nat.mul_assoc]
    exact Nat.mul_le_mul_right _ (by omega)
theorem beNat_lt (l : List UInt8) : beNat l < 256 ^ l.length := by
  have := beNat_from l 0
  simpa [beNat] using this

/-- the bytes of a number, the greatest first, none for 0: the fewest -/
def minF : Nat → Nat → List UInt8
  | 0, _ => []
  | k + 1, n => if n = 0 then [] else minF k (n / 256) ++ [UInt8.ofNat (n % 256)]
def minBytes (n : Nat) : List UInt8 := minF n n
theorem minF_more (k : Nat) : ∀ n, n ≤ k → minF k n = minF n n := by
  induction k using Nat.strongRecOn with
  | _ k ih =>
    intro n h
    match k, n, h with
    | 0, 0, _ => rfl
    | k + 1, 0, _ => simp [minF]
    | k + 1, n + 1, h =>
      simp only [minF, if_neg (Nat.succ_ne_zero n)]
      have hd : (n + 1) / 256 ≤ n := by omega
      rw [ih k (by omega) ((n + 1) / 256) (by omega), ← ih n (by omega) ((n + 1) / 256) hd]
theorem minBytes_zero : minBytes 0 = [] := rfl
theorem minBytes_pos {n : Nat} (h : 0 < n) : minBytes n = minBytes (n / 256) ++ [UInt8.ofNat (n % 256)] := by
  obtain ⟨m, rfl⟩ : ∃ m, n = m + 1 := ⟨n - 1, by omega⟩
  have hd : (m + 1) / 256 ≤ m := by omega
  unfold minBytes
  rw [minF, if_neg (Nat.succ_ne_zero m), minF_more m _ hd]
/-- a length as it is written -/
def lenB (n : Nat) : List UInt8 := if n < 128 then [UInt8.ofNat n] else UInt8.ofNat (128 + (minBytes n).length) :: minBytes n

/-- a length as a text -/
def lenS (n : Nat) : ByteArray := ⟨(lenB n).toArray⟩
theorem minBytes_nat (n : Nat) : beNat (minBytes n) = n := by
  induction n using Nat.strongRecOn with
  | _ n ih =>
    by_cases h : n = 0
    · subst h; rw [minBytes_zero]; rfl
    · rw [minBytes_pos (by omega), beNat_snoc, ih (n / 256) (by omega)]
      simp
      omega
theorem minBytes_len_le (k : Nat) : ∀ n, n < 256 ^ k → (minBytes n).length ≤ k := by
  induction k with
  | zero => intro n h; simp at h; subst h; rw [minBytes_zero]; simp
  | succ k ih =>
    intro n h
    by_cases h0 : n = 0
    · subst h0; rw [minBytes_zero]; simp
    · rw [minBytes_pos (by omega), List.length_append, List.length_singleton]
      have := ih (n / 256) (by rw [Nat.pow_succ] at h; omega)
      omega

theorem lenS_size (n : Nat) (h : n < 4294967296) : (lenS n).size ≤ 5 := by
  have := minBytes_len_le 4 n h
  show (lenB n).toArray.size ≤ 5
  unfold lenB
  split <;> simp
  omega
/-- Wrap's error, its text -/
def wrapE (tag : Int) (n : Nat) : Int := if tag < 0 ∨ 255 < tag ∨ tag % 32 = 31 then 1 else if 16777216 ≤ n then 9 else 0
def wrapL (tag : Nat) (l : List UInt8) : List UInt8 := UInt8.ofNat tag :: (lenB l.length ++ l)
def wrapV (tag : Int) (s : ByteArray) : ByteArray := if wrapE tag s.size = 0 then ⟨(wrapL tag.toNat s.data.toList).toArray⟩ else ⟨#[]⟩

/-- a byte of a text -/
def byteAt (s : ByteArray) (i : Nat) : Nat := (s.data[i]?.getD 0).toNat
theorem byteAt_lt (s : ByteArray) (i : Nat) : byteAt s i < 256 := UInt8.toNat_lt _
/-- an item at a text's begin: where its text begins, how long it is -/
def nx (s : ByteArray) : Option (Nat × Nat) :=
  if s.size < 2 ∨ byteAt s 0 % 32 = 31 then none
  else if byteAt s 1 < 128 then (if s.size < 2 + byteAt s 1 then none else some (2, byteAt s 1))
  else if byteAt s 1 - 128 < 1 ∨ 3 < byteAt s 1 - 128 ∨ s.size < 2 + (byteAt s 1 - 128) then none
  else if beNat ((s.data.toList.drop 2).take (byteAt s 1 - 128)) < 128 ∨ (1 < byteAt s 1 - 128 ∧ beNat ((s.data.toList.drop 2).take (byteAt s 1 - 128)) < 256 ^ (byteAt s 1 - 128 - 1)) then none
  else if s.size < 2 + (byteAt s 1 - 128) + beNat ((s.data.toList.drop 2).take (byteAt s 1 - 128)) then none
  else some (2 + (byteAt s 1 - 128), beNat ((s.data.toList.drop 2).take (byteAt s 1 - 128)))
def nxTag (s : ByteArray) : Int := match nx s with | none => 0 | some _ => byteAt s 0
def nxText (s : ByteArray) : ByteArray := match nx s with | none => ⟨#[]⟩ | some (a, n) => s.extract a (a + n)
def nxRest (s : ByteArray) : ByteArray := match nx s with | none => ⟨#[]⟩ | some (a, n) => s.extract (a + n) s.size
def nxErr (s : ByteArray) : Int := match nx s with | none => 2 | some _ => 0
def nxV (s : ByteArray) : Value := .agg #[.int .i64 (nxTag s), .string (nxText s), .string (nxRest s)]
theorem nx_none {s : ByteArray} (h : nx s = none) : nxV s = .agg #[.int .i64 0, .string ⟨#[]⟩, .string ⟨#[]⟩] ∧ nxErr s = 2 := by simp [nxV, nxTag, nxText, nxRest, nxErr, h]
theorem nx_some {s : ByteArray} {a n : Nat} (h : nx s = some (a, n)) : nxV s = .agg #[.int .i64 (byteAt s 0), .string (s.extract a (a + n)), .string (s.extract (a + n) s.size)] ∧ nxErr s = 0 := by simp [nxV, nxTag, nxText, nxRest, nxErr, h]
end Go.Proofs.Ytgloidibckopiaa
