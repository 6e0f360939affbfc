/- Plain facts on layer 14's items: a length read back and written anew. No program in sight. -/
import Derived.Test.YtgloidibckopiaaDerWords
import Derived.Test.YtgloidibckopiaaStr
namespace Go.Proofs.Ytgloidibckopiaa

theorem byteAt_list (s : ByteArray) (i : Nat) (h : i < s.size) : (s.data.toList.drop i).take 1 = [UInt8.ofNat (byteAt s i)] := by
  have h' : i < s.data.toList.length := by simpa using h
  have h2 : i < s.data.size := h
  rw [List.drop_eq_getElem_cons h', byteAt, Array.getElem?_eq_getElem h2]
  simp
theorem cmp_one (s : ByteArray) (h : 2 ≤ s.size) (hb : byteAt s 1 < 128) : lenS (byteAt s 1) = s.extract 1 2 := by
  apply bytes_ext
  rw [extract_list, lenS, mk_list, lenB, if_pos hb]
  exact (byteAt_list s 1 (by omega)).symm

theorem beNat_cons (b : UInt8) (l : List UInt8) : beNat (b :: l) = b.toNat * 256 ^ l.length + beNat l := by
  have h : ∀ (l : List UInt8) (a : Nat), l.foldl (fun n b => n * 256 + b.toNat) a = a * 256 ^ l.length + beNat l := by
    intro l
    induction l with
    | nil => intro a; simp [beNat]
    | cons c l ih =>
      intro a
      have e : beNat (c :: l) = l.foldl (fun n b => n * 256 + b.toNat) (0 * 256 + c.toNat) := rfl
      rw [List.foldl_cons, ih, e, ih, List.length_cons, Nat.pow_succ]
      simp only [Nat.zero_mul, Nat.zero_add, Nat.add_mul]
      rw [Nat.mul_assoc, Nat.mul_comm 256, Nat.add_assoc]
  have := h l (b.toNat)
  simpa [beNat] using this

/-- the bytes are the fewest if the first is not 0 -/
theorem minBytes_of (l : List UInt8) : (∀ b r, l = b :: r → b.toNat ≠ 0) → minBytes (beNat l) = l := by
  -- by the last byte
  have h : ∀ (n : Nat) (l : List UInt8), l.length = n → (∀ b r, l = b :: r → b.toNat ≠ 0) → minBytes (beNat l) = l := by
    intro n
    induction n with
    | zero =>
      intro l hl _
      have : l = [] := List.eq_nil_of_length_eq_zero hl
      subst this
      exact minBytes_zero
    | succ n ih =>
      intro l hl hf
      have hne : l ≠ [] := by intro e; subst e; simp at hl
      have hsp : l = l.dropLast ++ [l.getLast hne] := (List.dropLast_concat_getLast hne).symm
      generalize hi : l.dropLast = i at hsp
      generalize hx : l.getLast hne = x at hsp
      have hil : i.length = n := by rw [← hi, List.length_dropLast]; omega
      have hxl := x.toNat_lt
      have hpos : 0 < beNat l := by
        match l, hne, hf with
        | b :: r, _, hf =>
          have hb := hf b r rfl
          rw [beNat_cons]
          have : 0 < b.toNat * 256 ^ r.length := Nat.mul_pos (by omega) (Nat.pow_pos (by omega))
          omega
      have hi2 : minBytes (beNat i) = i := ih i hil (fun b r e => by
        have : l = b :: (r ++ [x]) := by rw [hsp, e]; rfl
        exact hf b _ this)
      rw [hsp] at hpos ⊢
      rw [minBytes_pos hpos, beNat_snoc]
      have h1 : (beNat i * 256 + x.toNat) / 256 = beNat i := by omega
      have h2 : (beNat i * 256 + x.toNat) % 256 = x.toNat := by omega
      rw [h1, h2, hi2]
      simp
  intro hf
  exact h _ l rfl hf

/-- and only then -/
theorem minBytes_first (n : Nat) (b : UInt8) (r : List UInt8) (h : minBytes n = b :: r) : b.toNat ≠ 0 := by
  induction n using Nat.strongRecOn generalizing b r with
  | _ n ih =>
    by_cases h0 : n = 0
    · subst h0; rw [minBytes_zero] at h; cases h
    · rw [minBytes_pos (by omega)] at h
      cases hq : minBytes (n / 256) with
      | nil =>
        rw [hq] at h
        simp only [List.nil_append, List.cons.injEq] at h
        rw [← h.1]
        have hz : n / 256 = 0 := by
          have := minBytes_nat (n / 256)
          rw [hq] at this
          simpa [beNat] using this.symm
        simp
        omega
      | cons c t =>
        rw [hq] at h
        simp only [List.cons_append, List.cons.injEq] at h
        rw [← h.1]
        exact ih (n / 256) (by omega) c t hq

/-- the head of a long length: what is compared -/
theorem cmp_many (s : ByteArray) (k : Nat) (h1 : 128 ≤ byteAt s 1) (hk : byteAt s 1 - 128 = k) (h3 : k ≤ 3) (hs : 2 + k ≤ s.size) :
    lenS (beNat ((s.data.toList.drop 2).take k)) = s.extract 1 (2 + k) ↔ (1 ≤ k ∧ 128 ≤ beNat ((s.data.toList.drop 2).take k) ∧ (1 < k → 256 ^ (k - 1) ≤ beNat ((s.data.toList.drop 2).take k))) := by
  have hl : ((s.data.toList.drop 2).take k).length = k := by rw [List.length_take, List.length_drop, ← size_list]; omega
  have hlt := beNat_lt ((s.data.toList.drop 2).take k)
  have hx : (s.extract 1 (2 + k)).data.toList = UInt8.ofNat (byteAt s 1) :: (s.data.toList.drop 2).take k := by
    rw [extract_list, show 2 + k - 1 = 1 + k from by omega, List.take_add, byteAt_list s 1 (by omega), List.drop_drop]
    rfl
  generalize hL : (s.data.toList.drop 2).take k = L at *
  have hb := byteAt_lt s 1
  constructor
  · intro h
    have h2 := congrArg (fun t => t.data.toList) h
    simp only [hx, lenS] at h2
    unfold lenB at h2
    split at h2
    · simp only [List.cons.injEq] at h2
      have := congrArg UInt8.toNat h2.1
      simp at this
      omega
    · simp only [List.cons.injEq] at h2
      have h4 := h2.2
      have hne : 128 ≤ beNat L := by omega
      have hk1 : 1 ≤ k := by
        rcases Nat.eq_zero_or_pos k with e | e
        · subst e
          have : L = [] := List.eq_nil_of_length_eq_zero hl
          rw [this] at hne
          simp [beNat] at hne
        · exact e
      refine ⟨hk1, hne, fun _ => ?_⟩
      match L, hl, h4 with
      | b :: r, hl, h4 =>
        have := minBytes_first _ b r h4
        rw [beNat_cons]
        simp only [List.length_cons] at hl
        rw [show k - 1 = r.length from by omega]
        have : 256 ^ r.length ≤ b.toNat * 256 ^ r.length := Nat.le_mul_of_pos_left _ (by omega)
        omega
  · rintro ⟨hk1, hne, hm⟩
    apply bytes_ext
    rw [hx, lenS, mk_list, lenB, if_neg (by omega)]
    have hf : minBytes (beNat L) = L := by
      apply minBytes_of
      rintro b r rfl
      simp only [List.length_cons] at hl
      intro h0
      rw [beNat_cons, h0] at hne hm
      have hr := beNat_lt r
      simp only [Nat.zero_mul, Nat.zero_add] at hne hm
      rcases Nat.eq_zero_or_pos r.length with e | e
      · rw [e] at hr; omega
      · have := hm (by omega)
        rw [show k - 1 = r.length from by omega] at this
        omega
    have he : UInt8.ofNat (128 + k) = UInt8.ofNat (byteAt s 1) := by rw [show 128 + k = byteAt s 1 from by omega]
    rw [hf, hl, he]
end Go.Proofs.Ytgloidibckopiaa
