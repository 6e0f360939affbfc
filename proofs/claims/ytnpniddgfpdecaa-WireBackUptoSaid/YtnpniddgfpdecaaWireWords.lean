/- What a reader and a writer of layer 13 compute, in plain Lean. -/
import Derived.Test.YtnpniddgfpdecaaHeap
namespace Go.Proofs.Ytnpniddgfpdecaa

/-- bytes as a number, the greatest first -/
def beNat (l : List UInt8) : Nat := l.foldl (fun n b => n * 256 + b.toNat) 0

/-- a reader's state is its error and its bytes; Raw's -/
def rawE (e : Int) (s : ByteArray) (n : Int) : Int := if e = 0 then (if n < 0 then 1 else if (s.size : Int) < n then 2 else 0) else e
def rawS (e : Int) (s : ByteArray) (n : Int) : ByteArray := if e = 0 ∧ 0 ≤ n ∧ n ≤ s.size then s.extract n.toNat s.size else s
def rawV (e : Int) (s : ByteArray) (n : Int) : ByteArray := if e = 0 ∧ 0 ≤ n ∧ n ≤ s.size then s.extract 0 n.toNat else ⟨#[]⟩
/-- Number's -/
def numE (e : Int) (s : ByteArray) (n : Int) : Int := if e = 0 then (if n < 1 ∨ 7 < n then 1 else if (s.size : Int) < n then 2 else 0) else e
def numS (e : Int) (s : ByteArray) (n : Int) : ByteArray := if e = 0 ∧ 1 ≤ n ∧ n ≤ 7 ∧ n ≤ s.size then s.extract n.toNat s.size else s
def numV (e : Int) (s : ByteArray) (n : Int) : Int := if e = 0 ∧ 1 ≤ n ∧ n ≤ 7 ∧ n ≤ s.size then (beNat (s.data.toList.take n.toNat) : Int) else 0
/-- Opaque's -/
def opqE (e : Int) (s : ByteArray) (n : Int) : Int := rawE (numE e s n) (numS e s n) (numV e s n)
def opqS (e : Int) (s : ByteArray) (n : Int) : ByteArray := rawS (numE e s n) (numS e s n) (numV e s n)
def opqV (e : Int) (s : ByteArray) (n : Int) : ByteArray := rawV (numE e s n) (numS e s n) (numV e s n)
/-- Rest's, End's -/
def restV (e : Int) (s : ByteArray) : Int := if e = 0 then s.size else 0
def endV (e : Int) (s : ByteArray) : Int := if e = 0 ∧ s.size ≠ 0 then 2 else e

theorem rawS_size (e : Int) (s : ByteArray) (n : Int) : (rawS e s n).size ≤ s.size := by
  unfold rawS; split <;> simp
theorem numS_size (e : Int) (s : ByteArray) (n : Int) : (numS e s n).size ≤ s.size := by
  unfold numS; split <;> simp
theorem opqS_size (e : Int) (s : ByteArray) (n : Int) : (opqS e s n).size ≤ s.size := Nat.le_trans (rawS_size _ _ _) (numS_size _ _ _)

theorem beNat_snoc (l : List UInt8) (b : UInt8) : beNat (l ++ [b]) = beNat l * 256 + b.toNat := by simp [beNat]
theorem beNat_from (l : List UInt8) : ∀ a : Nat, l.foldl (fun n b => n * 256 + b.toNat) a < (a + 1) * 256 ^ l.length := by
  induction l with
  | nil => intro a; simp
  | cons b l ih =>
    intro a
    have h := ih (a * 256 + b.toNat)
    have hb := b.toNat_lt
    simp only [List.foldl_cons, List.length_cons, Nat.pow_succ]
    refine Nat.lt_of_lt_of_le h ?_
    rw [Nat.mul_comm (256 ^ l.length) 256, ← Nat.mul_assoc]
    exact Nat.mul_le_mul_right _ (by omega)
theorem beNat_lt (l : List UInt8) : beNat l < 256 ^ l.length := by
  have := beNat_from l 0
  simpa [beNat] using this
theorem beNat_take (s : ByteArray) (k : Nat) (h : k < s.size) : beNat (s.data.toList.take (k + 1)) = beNat (s.data.toList.take k) * 256 + (s.data[k]?.getD 0).toNat := by
  have h' : k < s.data.toList.length := by simpa using h
  rw [List.take_succ_eq_append_getElem h', beNat_snoc]
  have hk : k < s.data.size := h
  rw [show s.data[k]?.getD 0 = s.data[k] from by rw [Array.getElem?_eq_getElem hk]; rfl]
  simp
theorem beNat_take_lt (s : ByteArray) (k n : Nat) (h : k ≤ n) : beNat (s.data.toList.take k) < 256 ^ n := by
  refine Nat.lt_of_lt_of_le (beNat_lt _) (Nat.pow_le_pow_right (by omega) (Nat.le_trans (List.length_take_le _ _) h))

/-- a number's bytes, so many, the greatest first -/
def beBytes (n : Nat) : Nat → List UInt8
  | 0 => []
  | k + 1 => beBytes (n / 256) k ++ [UInt8.ofNat (n % 256)]
/-- does a number fit a size? -/
def fits (n size : Int) : Bool := decide (1 ≤ size ∧ size ≤ 7 ∧ 0 ≤ n ∧ n < 256 ^ size.toNat)
/-- a writer's state is its error and its bytes; Number's, Raw's -/
def wnE (e n size : Int) : Int := if e = 0 then (if fits n size then 0 else 1) else e
def wnB (e : Int) (l : List UInt8) (n size : Int) : List UInt8 := if e = 0 ∧ fits n size = true then l ++ beBytes n.toNat size.toNat else l
def wrB (e : Int) (l : List UInt8) (s : ByteArray) : List UInt8 := if e = 0 then l ++ s.data.toList else l
theorem beBytes_length (n k : Nat) : (beBytes n k).length = k := by
  induction k generalizing n with
  | zero => rfl
  | succ k ih => simp [beBytes, ih]
/-- the first i of the bytes -/
theorem beBytes_take (k : Nat) : ∀ (n i : Nat), i < k → (beBytes n k).take (i + 1) = (beBytes n k).take i ++ [UInt8.ofNat (n / 256 ^ (k - 1 - i) % 256)] := by
  induction k with
  | zero => intro n i h; omega
  | succ k ih =>
    intro n i h
    have hl := beBytes_length (n / 256) k
    rcases Nat.lt_or_ge i k with h' | h'
    · have := ih (n / 256) i h'
      rw [beBytes, List.take_append_of_le_length (by omega), List.take_append_of_le_length (by omega), this, Nat.div_div_eq_div_mul, show k + 1 - 1 - i = (k - 1 - i) + 1 from by omega, Nat.pow_succ, Nat.mul_comm 256]
    · obtain rfl : i = k := by omega
      have h1 : (beBytes n (i + 1)).take (i + 1) = beBytes n (i + 1) := List.take_of_length_le (by rw [beBytes_length]; omega)
      rw [h1, beBytes, List.take_append_of_le_length (by omega), List.take_of_length_le (by omega)]
      simp
theorem beNat_beBytes (k : Nat) : ∀ n, n < 256 ^ k → beNat (beBytes n k) = n := by
  induction k with
  | zero => intro n h; simp at h; subst h; rfl
  | succ k ih =>
    intro n h
    rw [Nat.pow_succ] at h
    rw [beBytes, beNat_snoc, ih (n / 256) (by omega)]
    simp
    omega
end Go.Proofs.Ytnpniddgfpdecaa
