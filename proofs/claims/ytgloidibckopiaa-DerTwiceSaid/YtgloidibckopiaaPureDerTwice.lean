/- DerTwice: a certificate with the poison twice is refused, and one that is cut anywhere, or has something behind. The pure statement. -/
import Derived.Test.YtgloidibckopiaaDerPureA
import Derived.Test.YtgloidibckopiaaDerCat
import Derived.Test.YtgloidibckopiaaGx9
namespace Go.Proofs.Ytgloidibckopiaa.Pure
open Go.RowKit Go.Proofs.Ytgloidibckopiaa Go.Proofs.Ytgloidibckopiaa.G Go.Proofs.YtgloidibckopiaaW.PrintWords Go.Proofs.YtgloidibckopiaaW.PrintLast Go.Proofs.YtgloidibckopiaaW.PrintMore

/-! ### the law's item -/
def itemV (tag : Nat) (a : ByteArray) : ByteArray := ⟨(wrapL tag a.data.toList).toArray⟩
theorem item_eq (t : Nat) (a : ByteArray) (ha : a.size < 65536) : engrosserlaw14_item.f (t : Int) a = some (itemV t a) := by
  have htt : UInt8.ofNat ((t : Int) % 256).toNat = UInt8.ofNat t := byte_mod_int t
  unfold engrosserlaw14_item.f
  simp only [Option.bind_some]
  by_cases c6 : 256 ≤ a.size
  · rw [if_pos (by omega), if_pos (by simp), if_pos (by rw [strOfNums_size]; simp; omega), join_text t]
    · rfl
    rw [lenB_2 c6 (by omega)]
    simp only [List.cons_append, List.nil_append, List.map_cons, List.map_nil, htt]
    rw [show (((a.size : Int) / 256) % 256).toNat = a.size / 256 from by omega, show ((a.size : Int) % 256).toNat = a.size % 256 from by omega]
    rfl
  rw [if_neg (by omega)]
  by_cases c7 : 128 ≤ a.size
  · rw [if_pos (by omega), if_pos (by simp), if_pos (by rw [strOfNums_size]; simp; omega), join_text t]
    · rfl
    rw [lenB_1 c7 (by omega)]
    simp only [List.cons_append, List.nil_append, List.map_cons, List.map_nil, htt]
    rw [show ((a.size : Int) % 256).toNat = a.size from by omega]
    rfl
  · rw [if_neg (by omega), if_pos (by simp), if_pos (by rw [strOfNums_size]; simp; omega), join_text t]
    · rfl
    rw [lenB, if_pos (by omega)]
    simp only [List.cons_append, List.nil_append, List.map_cons, List.map_nil, htt]
    rw [show ((a.size : Int) % 256).toNat = a.size from by omega]
theorem itemV_size (t : Nat) (a : ByteArray) (ha : a.size < 65536) : a.size + 2 ≤ (itemV t a).size ∧ (itemV t a).size ≤ a.size + 6 := by
  have h2 := lenS_size a.size (by omega)
  have h3 : (lenB a.size).length ≤ 5 := by rw [← mk_size]; exact h2
  have h4 : 1 ≤ (lenB a.size).length := by unfold lenB; split <;> simp
  have h5 : (wrapL t a.data.toList).length = 1 + (lenB a.size).length + a.size := by
    simp only [wrapL, List.length_cons, List.length_append, ← size_list]
    omega
  have h6 : (itemV t a).size = 1 + (lenB a.size).length + a.size := by rw [itemV]; exact (mk_size _).trans h5
  omega
def cutV (a : ByteArray) : ByteArray := a.extract 0 (mn (a.size : Int) 60).toNat
theorem mn_60 (s : ByteArray) : 0 ≤ mn (s.size : Int) 60 ∧ mn (s.size : Int) 60 ≤ (s.size : Int) ∧ mn (s.size : Int) 60 ≤ 60 := by unfold mn; split <;> omega
theorem cut_eq (a : ByteArray) : engrosserlaw14_cut.f a = some (cutV a) := by
  have := mn_60 a
  rw [engrosserlaw14_cut.f, if_pos this.1, if_pos this.2.1]
  rfl
theorem cutV_size (a : ByteArray) : (cutV a).size ≤ 60 := by
  have := mn_60 a
  rw [cutV, ByteArray.size_extract]
  omega

/-! ### whatever is read is short -/
theorem nxText_le (s : ByteArray) : (nxText s).size ≤ s.size := by
  cases hn : nx s with
  | none => simp only [nxText, hn]; exact Nat.zero_le _
  | some p => simp only [nxText, hn, ByteArray.size_extract]; omega
theorem chainF_le (k : Nat) : ∀ s, ∀ x ∈ chainF k s, x.size ≤ s.size := by
  induction k with
  | zero => intro s x hx; cases hx
  | succ k ih =>
    intro s x hx
    simp only [chainF] at hx
    split at hx
    · cases hx
    split at hx
    · simp at hx; subst hx; exact Nat.le_refl _
    · rcases List.mem_cons.1 hx with rfl | hx
      · exact Nat.le_refl _
      · exact Nat.le_trans (ih _ x hx) (nxRest_le s)
theorem partsR_mem (xs : List ByteArray) : ∀ pre, ∀ x ∈ (partsR pre xs).1, x ∈ pre ∨ x ∈ xs := by
  induction xs with
  | nil => intro pre x hx; exact .inl hx
  | cons y r ih =>
    intro pre x hx
    rw [partsR] at hx
    split at hx
    · cases hx
    split at hx
    · cases hx
    · rcases ih _ x hx with h | h
      · rcases List.mem_append.1 h with h | h
        · exact .inl h
        · simp at h; subst h; exact .inr (by simp)
      · exact .inr (by simp [h])
theorem partsR_len' (xs : List ByteArray) : ∀ pre, pre.length ≤ 100 → (partsR pre xs).1.length ≤ 100 := by
  induction xs with
  | nil => intro pre h; simpa [partsR] using h
  | cons x r ih =>
    intro pre h
    rw [partsR]
    split
    · simp
    split
    · simp
    · exact ih _ (by simp; omega)
/-- a list of items that is short -/
def Short (B : Nat) (L : List S24) : Prop := L.length ≤ 100 ∧ ∀ x ∈ L, x.f1.size ≤ B
theorem parts_short (s : ByteArray) : ∃ L E, der_Parts.f s = some (L, E) ∧ Short s.size L := by
  refine ⟨_, _, rfl, ?_, ?_⟩
  · rw [List.length_map]; exact partsR_len' _ [] (by simp)
  · intro x hx
    obtain ⟨y, hy, rfl⟩ := List.mem_map.1 hx
    have : y ∈ chain s := by
      rcases partsR_mem _ _ y hy with h | h
      · cases h
      · exact h
    exact Nat.le_trans (nxText_le y) (chainF_le _ s y this)
theorem Short.mono {B B' : Nat} {L : List S24} (h : Short B L) (hB : B ≤ B') : Short B' L := ⟨h.1, fun x hx => Nat.le_trans (h.2 x hx) hB⟩
theorem short_nil (B : Nat) : Short B [] := ⟨by simp, fun x hx => by cases hx⟩
theorem inner_short (s : ByteArray) : ∃ L b, der_inner.f s = some (L, b) ∧ Short s.size L := by
  unfold der_inner.f
  simp only [der_Next.f, Option.bind_some]
  obtain ⟨L, E, h1, h2⟩ := parts_short (nxText s)
  by_cases a : nxErr s = 0
  · rw [if_pos a]
    by_cases b : nxTag s = 48
    · rw [if_pos b]
      by_cases c : (nxRest s).toList = []
      · rw [if_pos c, h1]
        exact ⟨L, _, rfl, h2.mono (nxText_le s)⟩
      · rw [if_neg c]; exact ⟨_, _, rfl, short_nil _⟩
    · rw [if_neg b]; exact ⟨_, _, rfl, short_nil _⟩
  · rw [if_neg a]; exact ⟨_, _, rfl, short_nil _⟩
theorem rd_short {B : Nat} {L : List S24} (h : Short B L) (i : Nat) (hi : i < L.length) : (rd_T24 L (i : Int)).f1.size ≤ B := by
  have : rd_T24 L (i : Int) = L[i] := by simp [rd_T24, hi]
  rw [this]
  exact h.2 _ (List.getElem_mem _)
theorem body_short (s : ByteArray) (k : Nat) : ∃ L E, der_body.f (k + 1) s = some (L, E) ∧ Short 2000 L := by
  unfold der_body.f
  by_cases a : 2000 < s.size
  · rw [if_pos (by omega)]; exact ⟨_, _, rfl, short_nil _⟩
  rw [if_neg (by omega)]
  obtain ⟨L, b, h1, h2⟩ := inner_short s
  rw [h1]
  simp only [Option.bind_some]
  have bad : ∀ M, ∃ L E, der_body.j0 (k + 1) M true = some (L, E) ∧ Short 2000 L := fun M => ⟨_, _, by rw [der_body.j0, if_pos rfl], short_nil _⟩
  cases b with
  | false => rw [if_neg (by decide)]; exact bad L
  | true =>
    rw [if_pos rfl]
    by_cases c : L.length = 0
    · rw [if_pos (by omega)]; exact bad L
    · rw [if_neg (by omega), if_pos (by omega)]
      cases hb : ((rd_T24 L 0).f0 != 48) with
      | true => exact bad L
      | false =>
        rw [der_body.j0, if_neg (by decide), if_pos (by omega)]
        have h3 := rd_short h2 0 (by omega)
        obtain ⟨M, E, h4, h5⟩ := parts_short (rd_T24 L 0).f1
        rw [h4]
        simp only [Option.bind_some]
        have h3' : (rd_T24 L 0).f1.size ≤ s.size := h3
        by_cases e : E = 0
        · rw [if_pos e]; exact ⟨_, _, rfl, h5.mono (by omega)⟩
        · rw [if_neg e]; exact ⟨_, _, rfl, short_nil _⟩
theorem wrapV_size (tag : Int) (s : ByteArray) : (wrapV tag s).size ≤ s.size + 6 := by
  unfold wrapV
  split
  · rename_i h
    have hs : s.size < 16777216 := by
      unfold wrapE at h
      split at h
      · cases h
      split at h
      · cases h
      · omega
    have h2 := lenS_size s.size (by omega)
    have h3 : (lenB s.size).length ≤ 5 := by rw [← mk_size]; exact h2
    rw [mk_size, wrapL, List.length_cons, List.length_append, ← size_list]
    omega
  · exact Nat.zero_le _
theorem wrap_some (tag : Int) (s : ByteArray) : der_wrap.f tag s = some (wrapV tag s) := rfl
theorem prefix_some (a b : ByteArray) : ∃ r, strings_HasPrefix.f a b = some r := by
  unfold strings_HasPrefix.f stringslite_HasPrefix.f
  by_cases h : b.size ≤ a.size
  · rw [if_pos (by omega), if_pos (by omega), if_pos (by omega)]; exact ⟨_, rfl⟩
  · rw [if_neg (by omega)]; exact ⟨_, rfl⟩

/-- the rounds of clean end, with a text that is no longer than the parts -/
theorem clean_l0 (B : Nat) (hB : B ≤ 100000) (L : List S24) (h : Short B L) (d : Nat) : ∀ (k i : Nat) (x : ByteArray) (n : Int), i + d = L.length → 2 * d + 2 ≤ k → x.size ≤ i * (B + 6) →
    ∃ r1 r2 r3, der_clean.l0 k x n L L.length i = some (r1, r2, r3) ∧ r1.size ≤ 100 * (B + 6) + 12 := by
  induction d with
  | zero =>
    intro k i x n hi hk hx
    obtain ⟨k, rfl⟩ : ∃ m, k = m + 1 := ⟨k - 1, by omega⟩
    have hxl : x.size ≤ 100 * (B + 6) := Nat.le_trans hx (Nat.mul_le_mul_right _ (by have := h.1; omega))
    rw [der_clean.l0, if_neg (by omega)]
    by_cases c : x.toList = []
    · rw [if_pos c]; exact ⟨_, _, _, rfl, by omega⟩
    · rw [if_neg c, wrap_some]
      simp only [Option.bind_some, wrap_some]
      have h1 := wrapV_size 48 x
      have h2 := wrapV_size 163 (wrapV 48 x)
      exact ⟨_, _, _, rfl, by omega⟩
  | succ d ih =>
    intro k i x n hi hk hx
    obtain ⟨k, rfl⟩ : ∃ m, k = m + 2 := ⟨k - 2, by omega⟩
    have hlt : i < L.length := by omega
    have hl := h.1
    have hs := rd_short h i hlt
    obtain ⟨M, E, h4, h5⟩ := parts_short (rd_T24 L (i : Int)).f1
    have e2 : wrap64 ((i : Int) + 1) = ((i + 1 : Nat) : Int) := by rw [w64 (by omega) (by omega)]; omega
    have hx1 : i * (B + 6) ≤ (i + 1) * (B + 6) := Nat.mul_le_mul_right _ (by omega)
    have go : ∀ b, ∃ r1 r2 r3, der_clean.j1 (k + 1) x n L L.length i b (rd_T24 L (i : Int)).f0 (rd_T24 L (i : Int)).f1 (rd_T24 L (i : Int)).f2 = some (r1, r2, r3) ∧ r1.size ≤ 100 * (B + 6) + 12 := by
      intro b
      cases b with
      | true => exact ⟨_, _, _, by rw [der_clean.j1, if_pos rfl], Nat.zero_le _⟩
      | false =>
        obtain ⟨p, hp⟩ := prefix_some (rd_T24 L (i : Int)).f1 ⟨#[6, 10, 43, 6, 1, 4, 1, 214, 121, 2, 4, 3]⟩
        rw [der_clean.j1, if_neg (by decide), hp]
        simp only [Option.bind_some, e2, wrap_some]
        clear e2
        cases p with
        | true =>
          rw [if_pos rfl]
          exact ih k (i + 1) x _ (by omega) (by omega) (by omega)
        | false =>
          have hw := wrapV_size 48 (rd_T24 L (i : Int)).f1
          have h100 : i * (B + 6) ≤ 100 * (B + 6) := Nat.mul_le_mul_right _ (by omega)
          rw [if_neg (by decide), if_pos (by omega)]
          exact ih k (i + 1) _ n (by omega) (by omega) (by rw [ByteArray.size_append, Nat.add_mul]; omega)
    rw [der_clean.l0, if_pos (by omega), if_pos (by omega), if_pos (by omega), h4]
    simp only [Option.bind_some]
    by_cases c1 : (rd_T24 L (i : Int)).f0 = 48
    · rw [if_pos c1]
      by_cases c2 : E = 0
      · rw [if_pos c2]; exact go _
      · rw [if_neg c2]; exact go _
    · rw [if_neg c1]; exact go _
theorem clean_some (s : ByteArray) (hs : s.size ≤ 2000) (k : Nat) (hk : 202 ≤ k) : ∃ r1 r2 r3, der_clean.f k s = some (r1, r2, r3) ∧ r1.size ≤ 210000 := by
  unfold der_clean.f
  obtain ⟨L, b, h1, h2⟩ := inner_short s
  rw [h1]
  simp only [Option.bind_some]
  cases b with
  | false => exact ⟨_, _, _, by rw [if_neg (by decide)], Nat.zero_le _⟩
  | true =>
    rw [if_pos rfl]
    have hl := h2.1
    obtain ⟨r1, r2, r3, h3, h4⟩ := clean_l0 s.size (by omega) L h2 L.length k 0 ⟨#[]⟩ 0 (by omega) (by omega) (Nat.zero_le _)
    exact ⟨r1, r2, r3, h3, by omega⟩
theorem strip_l0 (L : List S24) (h : Short 2000 L) (d : Nat) : ∀ (k i : Nat) (x : ByteArray) (n : Int) (met : Bool), i + d = L.length → 2 * d + 210 ≤ k → x.size ≤ i * 220000 →
    ∃ r1 r2 r3, der_Strip.l0 k x n met L L.length i = some (r1, r2, r3) := by
  induction d with
  | zero =>
    intro k i x n met hi hk hx
    obtain ⟨k, rfl⟩ : ∃ m, k = m + 1 := ⟨k - 1, by omega⟩
    rw [der_Strip.l0, if_neg (by omega)]
    by_cases c : n > 1
    · rw [if_pos c]; exact ⟨_, _, _, rfl⟩
    · rw [if_neg c]
      by_cases c2 : n = 0
      · rw [if_pos c2]; exact ⟨_, _, _, rfl⟩
      · rw [if_neg c2, wrap_some]; exact ⟨_, _, _, rfl⟩
  | succ d ih =>
    intro k i x n met hi hk hx
    obtain ⟨k, rfl⟩ : ∃ m, k = m + 2 := ⟨k - 2, by omega⟩
    have hlt : i < L.length := by omega
    have hl := h.1
    have hs := rd_short h i hlt
    have hw := wrapV_size (rd_T24 L (i : Int)).f0 (rd_T24 L (i : Int)).f1
    have e2 : wrap64 ((i : Int) + 1) = ((i + 1 : Nat) : Int) := by rw [w64 (by omega) (by omega)]; omega
    have go : ∀ b, ∃ r1 r2 r3, der_Strip.j1 (k + 1) x n met (wrapV (rd_T24 L (i : Int)).f0 (rd_T24 L (i : Int)).f1) L L.length i b (rd_T24 L (i : Int)).f0 (rd_T24 L (i : Int)).f1 (rd_T24 L (i : Int)).f2 = some (r1, r2, r3) := by
      intro b
      rw [der_Strip.j1]
      simp only [e2]
      clear e2
      cases b with
      | true =>
        obtain ⟨q1, q2, q3, h3, h4⟩ := clean_some (rd_T24 L (i : Int)).f1 hs k (by omega)
        rw [if_pos rfl, h3]
        simp only [Option.bind_some]
        cases q3 with
        | false => rw [if_neg (by decide)]; exact ⟨_, _, _, rfl⟩
        | true =>
          rw [if_pos rfl, if_pos (by omega)]
          exact ih k (i + 1) _ _ _ (by omega) (by omega) (by rw [ByteArray.size_append]; omega)
      | false =>
        rw [if_neg (by decide), if_pos (by omega)]
        exact ih k (i + 1) _ _ _ (by omega) (by omega) (by rw [ByteArray.size_append]; omega)
    rw [der_Strip.l0, if_pos (by omega), if_pos (by omega), if_pos (by omega), wrap_some]
    simp only [Option.bind_some]
    by_cases c1 : (rd_T24 L (i : Int)).f0 = 163
    · rw [if_pos c1]; exact go _
    · rw [if_neg c1]; exact go _
/-- Strip has an answer -/
theorem strip_some (s : ByteArray) (k : Nat) (hk : 420 ≤ k) : ∃ r1 r2 r3, der_Strip.f k s = some (r1, r2, r3) := by
  obtain ⟨k, rfl⟩ : ∃ m, k = m + 1 := ⟨k - 1, by omega⟩
  unfold der_Strip.f
  obtain ⟨L, E, h1, h2⟩ := body_short s k
  rw [h1]
  simp only [Option.bind_some]
  by_cases e : E = 0
  · rw [if_pos e]
    have := h2.1
    exact strip_l0 L h2 L.length (k + 1) 0 ⟨#[]⟩ 0 false (by omega) (by omega) (Nat.zero_le _)
  · rw [if_neg e]; exact ⟨_, _, _, rfl⟩
/-- what is no whole item of tag 48 is refused -/
theorem strip_bad (s : ByteArray) (k : Nat) (hs : s.size ≤ 2000) (h : nx s = none ∨ ¬ (nxRest s).size = 0) : der_Strip.f (k + 1) s = some (⟨#[]⟩, false, 2) := by
  have hi : der_inner.f s = some ([], false) := by
    unfold der_inner.f
    simp only [der_Next.f, Option.bind_some]
    rcases h with h | h
    · rw [if_neg (by rw [nxErr_none h]; decide)]
    · by_cases a : nxErr s = 0
      · rw [if_pos a]
        by_cases b : nxTag s = 48
        · rw [if_pos b, if_neg (fun e => h ((toList_nil _).1 e))]
        · rw [if_neg b]
      · rw [if_neg a]
  have hb : der_body.f (k + 1) s = some ([], 2) := by
    unfold der_body.f
    rw [if_neg (by omega), hi]
    simp only [Option.bind_some]
    rw [if_neg (by decide), der_body.j0, if_pos rfl]
  unfold der_Strip.f
  rw [hb]
  simp only [Option.bind_some]
  rw [if_neg (by decide)]

/-! ### the certificate with two poisons -/
theorem inner_item (X : ByteArray) (hX : X.size < 16777216) (L : List S24) (h : der_Parts.f X = some (L, 0)) : der_inner.f (itemV 48 X) = some (L, true) := by
  have hp := nx_wrapL_parts 48 X.data.toList [] (by omega) (by omega) (by rw [← size_list]; exact hX)
  simp only [List.append_nil] at hp
  obtain ⟨p1, p2, p3, p4⟩ := hp
  unfold der_inner.f
  simp only [der_Next.f, Option.bind_some]
  have e : itemV 48 X = ⟨(wrapL 48 X.data.toList).toArray⟩ := rfl
  rw [e, p1, p2, p3, p4, if_pos rfl, if_pos (show ((48 : Nat) : Int) = 48 from rfl), if_pos ((toList_nil _).2 rfl), mk_of_list, h]
  rfl
theorem parts_one (t : Nat) (X : ByteArray) (ht : t ≤ 255) (h31 : ¬ t % 32 = 31) (hX : X.size < 16777216) : der_Parts.f (itemV t X) = some ((sufP [(t, X.data.toList)]).map it, 0) := by
  have := parts_catP [(t, X.data.toList)] (by intro p hp; simp at hp; subst hp; exact ⟨ht, h31, by rw [← size_list]; exact hX⟩) (by simp)
  rw [← this]
  simp [catP, itemV]
theorem body_item (b : ByteArray) (hb : b.size ≤ 1900) (L : List S24) (h : der_Parts.f b = some (L, 0)) (k : Nat) : der_body.f (k + 1) (itemV 48 (itemV 48 b)) = some (L, 0) := by
  have h1 := itemV_size 48 b (by omega)
  have h2 := itemV_size 48 (itemV 48 b) (by omega)
  have hp := parts_one 48 b (by omega) (by omega) (by omega)
  have hr := rd_sufP [(48, b.data.toList)] (by intro p hp; simp at hp; subst hp; exact ⟨by omega, by omega, by rw [← size_list]; omega⟩) 0 (by simp)
  have hl : ((sufP [(48, b.data.toList)]).map it).length = 1 := by rw [List.length_map, sufP_length]; rfl
  unfold der_body.f
  rw [if_neg (by omega), inner_item _ (by omega) _ hp]
  simp only [Option.bind_some, if_true]
  rw [if_neg (by omega), if_pos (by omega)]
  have e0 : (rd_T24 ((sufP [(48, b.data.toList)]).map it) 0).f0 = 48 := hr.1
  have e1 : (rd_T24 ((sufP [(48, b.data.toList)]).map it) 0).f1 = b := by
    have := hr.2
    rw [show (([(48, b.data.toList)] : List (Nat × List UInt8))[0]).2 = b.data.toList from rfl, mk_of_list] at this
    exact this
  rw [e0, show ((48 : Int) != 48) = false from rfl, der_body.j0, if_neg (by decide), if_pos (by omega), e1, h]
  rfl

/-- a round of clean over a good part -/
theorem clean_round (L : List S24) (i : Nat) (hi : i < L.length) (h100 : L.length ≤ 100) (h0 : (rd_T24 L (i : Int)).f0 = 48) (M : List S24) (hM : der_Parts.f (rd_T24 L (i : Int)).f1 = some (M, 0)) (hne : ¬ M.length = 0)
    (k : Nat) (x : ByteArray) (n : Int) (hn : 0 ≤ n ∧ n ≤ 10) (hx : x.size ≤ 10000) (hs : (rd_T24 L (i : Int)).f1.size ≤ 2000) :
    ∃ x' n', der_clean.l0 (k + 2) x n L L.length i = der_clean.l0 k x' n' L L.length (i + 1 : Nat) ∧ x'.size ≤ x.size + 2006 ∧ n ≤ n' ∧ n' ≤ n + 1 ∧ (strings_HasPrefix.f (rd_T24 L (i : Int)).f1 ⟨#[6, 10, 43, 6, 1, 4, 1, 214, 121, 2, 4, 3]⟩ = some true → n' = n + 1) := by
  have e2 : wrap64 ((i : Int) + 1) = ((i + 1 : Nat) : Int) := by rw [w64 (by omega) (by omega)]; omega
  have e3 : wrap64 (n + 1) = n + 1 := by clear e2; exact w64 (by omega) (by omega)
  obtain ⟨p, hp⟩ := prefix_some (rd_T24 L (i : Int)).f1 ⟨#[6, 10, 43, 6, 1, 4, 1, 214, 121, 2, 4, 3]⟩
  have hz : ((M.length : Int) == 0) = false := by simp; intro h; exact hne (by rw [h]; rfl)
  have hw := wrapV_size 48 (rd_T24 L (i : Int)).f1
  rw [der_clean.l0, hM]
  simp only [Option.bind_some, h0, hz, der_clean.j1, hp, e2, e3, wrap_some]
  clear e2 e3
  rw [if_pos (by omega), if_pos (by omega), if_pos (by omega), if_pos trivial, if_pos trivial, if_neg (by decide)]
  cases p with
  | true =>
    rw [if_pos rfl]
    exact ⟨x, n + 1, rfl, by omega, by omega, by omega, fun _ => rfl⟩
  | false =>
    rw [if_neg (by decide), if_pos (by omega)]
    exact ⟨_, n, rfl, by rw [ByteArray.size_append]; omega, by omega, by omega, fun h => by simp at h⟩

def pT : List UInt8 := [6, 10, 43, 6, 1, 4, 1, 214, 121, 2, 4, 3, 1, 1, 255, 4, 2, 5, 0]
theorem poisonV_is : poisonV = ⟨(wrapL 48 pT).toArray⟩ := by decide +kernel
theorem pT_parts : ∃ M, der_Parts.f ⟨pT.toArray⟩ = some (M, 0) ∧ ¬ M.length = 0 := by
  have h := parts_catP [(6, [43, 6, 1, 4, 1, 214, 121, 2, 4, 3]), (1, [255]), (4, [5, 0])] (by
    intro p hp
    simp at hp
    rcases hp with rfl | rfl | rfl <;> exact ⟨by decide, by decide, by decide⟩) (by simp)
  have e : catP [(6, [43, 6, 1, 4, 1, 214, 121, 2, 4, 3]), (1, [255]), (4, [5, 0])] = pT := by decide +kernel
  rw [e] at h
  exact ⟨_, h, by rw [List.length_map, sufP_length]; decide⟩
theorem pT_prefix : strings_HasPrefix.f ⟨pT.toArray⟩ ⟨#[6, 10, 43, 6, 1, 4, 1, 214, 121, 2, 4, 3]⟩ = some true := by decide +kernel

theorem clean_twice (N : ByteArray) (hN : N.size ≤ 60) (k : Nat) : ∃ r1 r2, der_clean.f (k + 7) (itemV 48 ⟨(catP [(48, pT), (48, (itemV 6 N).data.toList), (48, pT)]).toArray⟩) = some (r1, r2, true) ∧ 1 < r2 ∧ r1.size ≤ 10000 := by
  have hI := itemV_size 6 N (by omega)
  have hIl : (itemV 6 N).data.toList.length ≤ 66 := by rw [← size_list]; omega
  have hfine : ∀ p ∈ [(48, pT), (48, (itemV 6 N).data.toList), (48, pT)], fineP p := by
    intro p hp
    simp at hp
    rcases hp with rfl | rfl | rfl
    · exact ⟨by decide, by decide, by decide⟩
    · exact ⟨by simp, by simp, by simp only; omega⟩
    · exact ⟨by decide, by decide, by decide⟩
  have hL3 : (catP [(48, pT), (48, (itemV 6 N).data.toList), (48, pT)]).length ≤ 200 := by
    have hlen : (lenB (itemV 6 N).data.toList.length).length ≤ 5 := by
      have := lenS_size (itemV 6 N).data.toList.length (by omega)
      rw [← mk_size]; exact this
    have hlen2 : (wrapL 48 pT).length = 21 := by decide +kernel
    simp only [catP, List.flatMap_cons, List.flatMap_nil, List.length_append, List.length_nil, hlen2]
    simp only [wrapL, List.length_cons, List.length_append]
    omega
  have hp := parts_catP _ hfine (by simp)
  have hr0 := rd_sufP _ hfine 0 (by simp)
  have hr1 := rd_sufP _ hfine 1 (by simp)
  have hr2 := rd_sufP _ hfine 2 (by simp)
  have hlen : ((sufP [(48, pT), (48, (itemV 6 N).data.toList), (48, pT)]).map it).length = 3 := by rw [List.length_map, sufP_length]; rfl
  unfold der_clean.f
  rw [inner_item _ (by rw [mk_size]; omega) _ hp]
  simp only [Option.bind_some, if_true]
  generalize (sufP [(48, pT), (48, (itemV 6 N).data.toList), (48, pT)]).map it = L at *
  obtain ⟨M, hM, hMne⟩ := pT_parts
  have f0 : (rd_T24 L ((0 : Nat) : Int)).f1 = ⟨pT.toArray⟩ := hr0.2
  have f1 : (rd_T24 L ((1 : Nat) : Int)).f1 = itemV 6 N := by
    rw [hr1.2]
    exact mk_of_list _
  have f2 : (rd_T24 L ((2 : Nat) : Int)).f1 = ⟨pT.toArray⟩ := hr2.2
  have pz : (⟨pT.toArray⟩ : ByteArray).size = 19 := rfl
  obtain ⟨x1, n1, s1, a1, b1, c1, d1⟩ := clean_round L 0 (by omega) (by omega) hr0.1 M (by rw [f0]; exact hM) hMne (k + 5) ⟨#[]⟩ 0 (by omega) (by decide) (by rw [f0, pz]; omega)
  have hn1 : n1 = 1 := by
    have := d1 (by rw [f0]; exact pT_prefix)
    omega
  have z0 : (⟨#[]⟩ : ByteArray).size = 0 := rfl
  rw [z0] at a1
  obtain ⟨x2, n2, s2, a2, b2, c2, _⟩ := clean_round L 1 (by omega) (by omega) hr1.1 _ (by rw [f1]; exact parts_one 6 N (by omega) (by omega) (by omega)) (by rw [List.length_map, sufP_length]; simp) (k + 3) x1 n1 (by omega) (by omega) (by rw [f1]; omega)
  obtain ⟨x3, n3, s3, a3, b3, c3, d3⟩ := clean_round L 2 (by omega) (by omega) hr2.1 M (by rw [f2]; exact hM) hMne (k + 1) x2 n2 (by omega) (by omega) (by rw [f2, pz]; omega)
  have hn3 := d3 (by rw [f2]; exact pT_prefix)
  have s1' : der_clean.l0 (k + 7) ⟨#[]⟩ 0 L (L.length : Int) 0 = der_clean.l0 (k + 5) x1 n1 L (L.length : Int) ((0 + 1 : Nat) : Int) := s1
  rw [s1', s2, s3, der_clean.l0, if_neg (by omega)]
  by_cases c : x3.toList = []
  · rw [if_pos c]; exact ⟨_, _, rfl, by omega, by omega⟩
  · rw [if_neg c, wrap_some]
    simp only [Option.bind_some, wrap_some]
    have h1 := wrapV_size 48 x3
    have h2 := wrapV_size 163 (wrapV 48 x3)
    exact ⟨_, _, rfl, by omega, by omega⟩

theorem strip_plain (k : Nat) (x : ByteArray) (n : Int) (met : Bool) (L : List S24) (len i : Int) (h0 : 0 ≤ i) (h1 : i < L.length) (h2 : i < len) (hne : ¬ (rd_T24 L i).f0 = 163)
    (hs : x.size + (wrapV (rd_T24 L i).f0 (rd_T24 L i).f1).size ≤ 9223372036854775807) :
    der_Strip.l0 (k + 2) x n met L len i = der_Strip.l0 k (x ++ wrapV (rd_T24 L i).f0 (rd_T24 L i).f1) n met L len (wrap64 (i + 1)) := by
  rw [der_Strip.l0, if_pos h2, if_pos h0, if_pos h1, wrap_some]
  simp only [Option.bind_some]
  rw [if_neg hne, der_Strip.j1, if_neg (by decide), if_pos hs]
theorem strip_sct (k : Nat) (x : ByteArray) (n : Int) (L : List S24) (len i : Int) (h0 : 0 ≤ i) (h1 : i < L.length) (h2 : i < len) (h163 : (rd_T24 L i).f0 = 163) (r1 : ByteArray) (r2 : Int)
    (hc : der_clean.f k (rd_T24 L i).f1 = some (r1, r2, true))
    (hs : x.size + r1.size ≤ 9223372036854775807) :
    der_Strip.l0 (k + 2) x n false L len i = der_Strip.l0 k (x ++ r1) r2 true L len (wrap64 (i + 1)) := by
  rw [der_Strip.l0, if_pos h2, if_pos h0, if_pos h1, wrap_some]
  simp only [Option.bind_some]
  rw [if_pos h163, der_Strip.j1, if_pos (by decide), hc]
  simp only [Option.bind_some]
  rw [if_pos trivial, if_pos hs]
theorem strip_end (k : Nat) (x : ByteArray) (n : Int) (met : Bool) (L : List S24) (len i : Int) (h : ¬ i < len) (hn : n > 1) : der_Strip.l0 (k + 1) x n met L len i = some (⟨#[]⟩, false, 2) := by
  rw [der_Strip.l0, if_neg h, if_pos hn]
theorem strip_two (k : Nat) (L : List S24) (hlen : L.length = 2) (E : ByteArray) (t0 : (rd_T24 L 0).f0 = 2) (x0 : (rd_T24 L 0).f1 = ⟨#[7]⟩) (t1 : (rd_T24 L 1).f0 = 163) (x1 : (rd_T24 L 1).f1 = E)
    (r1 : ByteArray) (r2 : Int) (hc : der_clean.f (k + 1) E = some (r1, r2, true)) (hr1 : r1.size ≤ 10000) (hr2 : 1 < r2) :
    der_Strip.l0 (k + 1 + 2 + 2) ⟨#[]⟩ 0 false L (L.length : Int) 0 = some (⟨#[]⟩, false, 2) := by
  have w1 : wrap64 ((0 : Int) + 1) = 1 := w64 (by omega) (by omega)
  have w2 : wrap64 ((1 : Int) + 1) = 2 := w64 (by omega) (by omega)
  have hwz := wrapV_size 2 ⟨#[7]⟩
  have hz1 : (⟨#[7]⟩ : ByteArray).size = 1 := rfl
  have hz0 : (⟨#[]⟩ : ByteArray).size = 0 := rfl
  rw [hlen, strip_plain (k + 1 + 2) ⟨#[]⟩ 0 false L ((2 : Nat) : Int) 0 (by omega) (by omega) (by omega) (by rw [t0]; decide) (by rw [t0, x0, hz0]; omega), w1]
  rw [strip_sct (k + 1) _ 0 L ((2 : Nat) : Int) 1 (by omega) (by omega) (by omega) t1 r1 r2 (by rw [x1]; exact hc) (by rw [ByteArray.size_append, t0, x0, hz0]; omega), w2]
  exact strip_end k _ r2 true L _ 2 (by omega) (by omega)

theorem clean_many (E : ByteArray) (r1 : ByteArray) (r2 : Int) (k k' : Nat) (h : k ≤ k') (hc : der_clean.f k E = some (r1, r2, true)) : der_clean.f k' E = some (r1, r2, true) :=
  leo_many (g := fun k => der_clean.f k E) (fun k => der_clean.mono E k) h hc

theorem body_item' (b : ByteArray) (hb : b.size ≤ 1900) (L : List S24) (h : der_Parts.f b = some (L, 0)) (K : Nat) (hK : 1 ≤ K) : der_body.f K (itemV 48 (itemV 48 b)) = some (L, 0) := by
  obtain ⟨k, rfl⟩ : ∃ k, K = k + 1 := ⟨K - 1, by omega⟩
  exact body_item b hb L h k
theorem strip_two' (K : Nat) (L : List S24) (hlen : L.length = 2) (E : ByteArray) (t0 : (rd_T24 L ((0 : Nat) : Int)).f0 = ((2 : Nat) : Int)) (x0 : (rd_T24 L ((0 : Nat) : Int)).f1 = ⟨#[7]⟩) (t1 : (rd_T24 L ((1 : Nat) : Int)).f0 = ((163 : Nat) : Int)) (x1 : (rd_T24 L ((1 : Nat) : Int)).f1 = E)
    (r1 : ByteArray) (r2 : Int) (K' : Nat) (hK : K' + 5 ≤ K) (hc : der_clean.f K' E = some (r1, r2, true)) (hr1 : r1.size ≤ 10000) (hr2 : 1 < r2) :
    der_Strip.l0 K ⟨#[]⟩ 0 false L (L.length : Int) 0 = some (⟨#[]⟩, false, 2) := by
  obtain ⟨k, rfl⟩ : ∃ k, K = k + 1 + 2 + 2 := by
    exact ⟨K - 5, by omega⟩
  exact strip_two k L hlen E t0 x0 t1 x1 r1 r2 (clean_many E r1 r2 K' (k + 1) (by omega) hc) hr1 hr2
theorem strip_twice (N : ByteArray) (hN : N.size ≤ 60) (K : Nat) (hK : 20 ≤ K) : der_Strip.f K (itemV 48 (itemV 48 (itemV 2 ⟨#[7]⟩ ++ itemV 163 (itemV 48 ⟨(catP [(48, pT), (48, (itemV 6 N).data.toList), (48, pT)]).toArray⟩)))) = some (⟨#[]⟩, false, 2) := by
  have hI := itemV_size 6 N (by omega)
  have hIl : (itemV 6 N).data.toList.length ≤ 66 := by rw [← size_list]; omega
  have hL3 : (catP [(48, pT), (48, (itemV 6 N).data.toList), (48, pT)]).length ≤ 200 := by
    have hlen : (lenB (itemV 6 N).data.toList.length).length ≤ 5 := by
      have := lenS_size (itemV 6 N).data.toList.length (by omega)
      rw [← mk_size]; exact this
    have hlen2 : (wrapL 48 pT).length = 21 := by decide +kernel
    simp only [catP, List.flatMap_cons, List.flatMap_nil, List.length_append, List.length_nil, hlen2]
    simp only [wrapL, List.length_cons, List.length_append]
    omega
  obtain ⟨r1, r2, hc, hr2, hr1⟩ := clean_twice N hN 0
  have hE : (⟨(catP [(48, pT), (48, (itemV 6 N).data.toList), (48, pT)]).toArray⟩ : ByteArray).size ≤ 200 := by rw [mk_size]; exact hL3
  generalize (⟨(catP [(48, pT), (48, (itemV 6 N).data.toList), (48, pT)]).toArray⟩ : ByteArray) = E at *
  have hs1 := itemV_size 48 E (by omega)
  have hs2 := itemV_size 163 (itemV 48 E) (by omega)
  have hfine : ∀ p ∈ [(2, [7]), (163, (itemV 48 E).data.toList)], fineP p := by
    intro p hp
    simp at hp
    rcases hp with rfl | rfl
    · exact ⟨by decide, by decide, by decide⟩
    · exact ⟨by simp, by simp, by simp only; rw [← size_list]; omega⟩
  have hb : itemV 2 ⟨#[7]⟩ ++ itemV 163 (itemV 48 E) = ⟨(catP [(2, [7]), (163, (itemV 48 E).data.toList)]).toArray⟩ := by
    apply bytes_ext
    rw [append_list, mk_list]
    simp [catP, itemV]
  have hsz : (itemV 2 ⟨#[7]⟩ ++ itemV 163 (itemV 48 E)).size ≤ 1900 := by
    have : (itemV 2 ⟨#[7]⟩).size = 3 := by decide +kernel
    rw [ByteArray.size_append]; omega
  rw [hb] at hsz ⊢
  have hp := parts_catP _ hfine (by simp)
  have hr0 := rd_sufP _ hfine 0 (by simp)
  have hr1' := rd_sufP _ hfine 1 (by simp)
  have hlen : ((sufP [(2, [7]), (163, (itemV 48 E).data.toList)]).map it).length = 2 := by rw [List.length_map, sufP_length]; rfl
  unfold der_Strip.f
  rw [body_item' _ hsz _ hp K (by omega)]
  simp only [Option.bind_some, if_true]
  generalize (sufP [(2, [7]), (163, (itemV 48 E).data.toList)]).map it = L at *
  have x1 : (rd_T24 L ((1 : Nat) : Int)).f1 = itemV 48 E := by
    rw [hr1'.2]
    exact mk_of_list _
  exact strip_two' K L hlen (itemV 48 E) hr0.1 hr0.2 hr1'.1 x1 r1 r2 (0 + 7) (by omega) hc hr1 hr2

/-! ### a certificate's bytes -/
theorem item_ok (t : Nat) (a : ByteArray) (ha : a.size ≤ 5000) : ∃ v, engrosserlaw14_item.f (t : Int) a = some v ∧ v.size ≤ a.size + 6 :=
  ⟨itemV t a, item_eq t a (by omega), (itemV_size t a (by omega)).2⟩
theorem cut_ok (a : ByteArray) : ∃ v, engrosserlaw14_cut.f a = some v ∧ v.size ≤ 60 := ⟨_, cut_eq a, cutV_size a⟩
theorem poison_ok : ∃ v, engrosserlaw14_poison.f = some v ∧ v.size ≤ 21 := ⟨poisonV, rfl, by decide +kernel⟩
theorem cb_j5 (k : Nat) (x3 : ByteArray) (h : x3.size ≤ 2000) : ∃ X, engrosserlaw14_Cert_bytes.j5 (k + 1) x3 = some (itemV 48 X) ∧ X.size ≤ x3.size + 40 := by
  obtain ⟨v1, a1, b1⟩ := item_ok 48 x3 (by omega)
  obtain ⟨v2, a2, b2⟩ := item_ok 48 ⟨#[5, 0]⟩ (by decide)
  obtain ⟨v3, a3, b3⟩ := item_ok 3 ⟨#[0, 115, 105, 103]⟩ (by decide)
  have z2 : (⟨#[5, 0]⟩ : ByteArray).size = 2 := rfl
  have z3 : (⟨#[0, 115, 105, 103]⟩ : ByteArray).size = 4 := rfl
  have a1' : engrosserlaw14_item.f 48 x3 = some v1 := a1
  have a2' : engrosserlaw14_item.f 48 ⟨#[5, 0]⟩ = some v2 := a2
  have a3' : engrosserlaw14_item.f 3 ⟨#[0, 115, 105, 103]⟩ = some v3 := a3
  have h12 : (v1 ++ v2).size = v1.size + v2.size := ByteArray.size_append
  have h123 : ((v1 ++ v2) ++ v3).size = (v1 ++ v2).size + v3.size := ByteArray.size_append
  have a4 : engrosserlaw14_item.f 48 ((v1 ++ v2) ++ v3) = some (itemV 48 ((v1 ++ v2) ++ v3)) := item_eq 48 _ (by omega)
  refine ⟨(v1 ++ v2) ++ v3, ?_, by omega⟩
  rw [engrosserlaw14_Cert_bytes.j5, a1']
  simp only [Option.bind_some, a2', a3']
  rw [if_pos (by omega), if_pos (by omega), a4]
  rfl
theorem cb_j4 (k : Nat) (x3 x4 : ByteArray) (h3 : x3.size ≤ 500) (h4 : x4.size ≤ 1000) : ∃ X, engrosserlaw14_Cert_bytes.j4 (k + 2) x3 x4 = some (itemV 48 X) ∧ X.size ≤ 1600 := by
  rw [engrosserlaw14_Cert_bytes.j4]
  by_cases c : x4.toList = []
  · rw [if_pos c]
    obtain ⟨X, e, h⟩ := cb_j5 k x3 (by omega)
    exact ⟨X, e, by omega⟩
  · rw [if_neg c]
    obtain ⟨v1, a1, b1⟩ := item_ok 48 x4 (by omega)
    obtain ⟨v2, a2, b2⟩ := item_ok 163 v1 (by omega)
    have a1' : engrosserlaw14_item.f 48 x4 = some v1 := a1
    have a2' : engrosserlaw14_item.f 163 v1 = some v2 := a2
    have h12 : (x3 ++ v2).size = x3.size + v2.size := ByteArray.size_append
    rw [a1']
    simp only [Option.bind_some, a2']
    rw [if_pos (by omega)]
    obtain ⟨X, e, h⟩ := cb_j5 k (x3 ++ v2) (by omega)
    exact ⟨X, e, by omega⟩
theorem cb_tail (k : Nat) (x3 x4 : ByteArray) (i : Int) (n key : ByteArray) (b : Bool) (l : List ByteArray) (p : Int) (h3 : x3.size ≤ 500) (h4 : x4.size ≤ 900) : ∃ X, engrosserlaw14_Cert_bytes.j2 (k + 3) x3 x4 i false n key b l p = some (itemV 48 X) ∧ X.size ≤ 1600 := by
  rw [engrosserlaw14_Cert_bytes.j2, if_neg (by decide)]
  obtain ⟨v, a, h⟩ := poison_ok
  have hh : (x4 ++ v).size = x4.size + v.size := ByteArray.size_append
  by_cases c : p = mn (l.length : Int) 5
  · rw [if_pos c, a]
    simp only [Option.bind_some]
    rw [if_pos (by omega)]
    exact cb_j4 k x3 _ h3 (by omega)
  · rw [if_neg c]
    exact cb_j4 k x3 x4 h3 (by omega)
theorem cb_l0 (n key : ByteArray) (b : Bool) (l : List ByteArray) (p : Int) (x3 : ByteArray) (h3 : x3.size ≤ 500) (d : Nat) : ∀ (k i : Nat) (x4 : ByteArray), i + d = min l.length 5 → 3 * d + 10 ≤ k → x4.size ≤ i * 130 →
    ∃ X, engrosserlaw14_Cert_bytes.l0 k x3 x4 i n key b l p = some (itemV 48 X) ∧ X.size ≤ 1600 := by
  induction d with
  | zero =>
    intro k i x4 hi hk hx
    obtain ⟨k, rfl⟩ : ∃ m, k = m + 4 := ⟨k - 4, by omega⟩
    have t := cb_tail k x3 x4 i n key b l p h3 (by omega)
    rw [engrosserlaw14_Cert_bytes.l0]
    by_cases c : (i : Int) < (l.length : Int)
    · rw [if_pos c, decide_eq_false (by omega)]
      exact t
    · rw [if_neg c]
      exact t
  | succ d ih =>
    intro k i x4 hi hk hx
    obtain ⟨k, rfl⟩ : ∃ m, k = m + 3 := ⟨k - 3, by omega⟩
    have e2 : wrap64 ((i : Int) + 1) = ((i + 1 : Nat) : Int) := by rw [w64 (by omega) (by omega)]; omega
    have round : ∀ y : ByteArray, y.size ≤ i * 130 + 21 → ∃ X, engrosserlaw14_Cert_bytes.j3 (k + 1) x3 y i n key b l p = some (itemV 48 X) ∧ X.size ≤ 1600 := by
      intro y hy
      obtain ⟨v1, a1, b1⟩ := item_ok 6 ⟨#[85, 29, 15]⟩ (by decide)
      have a1' : engrosserlaw14_item.f 6 ⟨#[85, 29, 15]⟩ = some v1 := a1
      have z1 : (⟨#[85, 29, 15]⟩ : ByteArray).size = 3 := rfl
      obtain ⟨v2, a2, b2⟩ := cut_ok (rdOf ByteArray.empty l i)
      obtain ⟨v3, a3, b3⟩ := item_ok 4 v2 (by omega)
      have a3' : engrosserlaw14_item.f 4 v2 = some v3 := a3
      have h13 : (v1 ++ v3).size = v1.size + v3.size := ByteArray.size_append
      obtain ⟨v4, a4, b4⟩ := item_ok 48 (v1 ++ v3) (by omega)
      have a4' : engrosserlaw14_item.f 48 (v1 ++ v3) = some v4 := a4
      have h5 : (y ++ v4).size = y.size + v4.size := ByteArray.size_append
      rw [engrosserlaw14_Cert_bytes.j3, a1']
      simp only [Option.bind_some, a2, a3', a4', e2]
      clear e2
      rw [if_pos (by omega), if_pos (by omega), if_pos (by omega), if_pos (by omega)]
      exact ih k (i + 1) (y ++ v4) (by omega) (by omega) (by omega)
    clear e2
    rw [engrosserlaw14_Cert_bytes.l0, if_pos (by omega), decide_eq_true (by omega), engrosserlaw14_Cert_bytes.j2, if_pos rfl]
    obtain ⟨v, a, h⟩ := poison_ok
    have hh : (x4 ++ v).size = x4.size + v.size := ByteArray.size_append
    by_cases c : (i : Int) = p
    · rw [if_pos c, a]
      simp only [Option.bind_some]
      rw [if_pos (by omega)]
      exact round _ (by omega)
    · rw [if_neg c]
      exact round _ (by omega)
theorem cb_j0 (k : Nat) (hk : 40 ≤ k) (x : ByteArray) (hx : x.size ≤ 10) (n key : ByteArray) (b : Bool) (l : List ByteArray) (p : Int) : ∃ X, engrosserlaw14_Cert_bytes.j0 k x n key b l p = some (itemV 48 X) ∧ X.size ≤ 1600 := by
  obtain ⟨k, rfl⟩ : ∃ m, k = m + 1 := ⟨k - 1, by omega⟩
  have z1 : (⟨#[7]⟩ : ByteArray).size = 1 := rfl
  have z2 : (⟨#[5, 0]⟩ : ByteArray).size = 2 := rfl
  have z3 : (⟨#[]⟩ : ByteArray).size = 0 := rfl
  obtain ⟨v1, a1, b1⟩ : ∃ v, engrosserlaw14_item.f 2 ⟨#[7]⟩ = some v ∧ v.size ≤ _ := item_ok 2 ⟨#[7]⟩ (by decide)
  obtain ⟨v2, a2, b2⟩ : ∃ v, engrosserlaw14_item.f 48 ⟨#[5, 0]⟩ = some v ∧ v.size ≤ _ := item_ok 48 ⟨#[5, 0]⟩ (by decide)
  obtain ⟨v3, a3, b3⟩ : ∃ v, engrosserlaw14_item.f 48 ⟨#[]⟩ = some v ∧ v.size ≤ _ := item_ok 48 ⟨#[]⟩ (by decide)
  obtain ⟨v4, a4, b4⟩ := cut_ok n
  obtain ⟨v5, a5, b5⟩ : ∃ v, engrosserlaw14_item.f 4 v4 = some v ∧ v.size ≤ _ := item_ok 4 v4 (by omega)
  obtain ⟨v6, a6, b6⟩ : ∃ v, engrosserlaw14_item.f 48 v5 = some v ∧ v.size ≤ _ := item_ok 48 v5 (by omega)
  obtain ⟨v7, a7, b7⟩ := cut_ok key
  obtain ⟨v8, a8, b8⟩ : ∃ v, engrosserlaw14_item.f 3 v7 = some v ∧ v.size ≤ _ := item_ok 3 v7 (by omega)
  obtain ⟨v9, a9, b9⟩ : ∃ v, engrosserlaw14_item.f 48 v8 = some v ∧ v.size ≤ _ := item_ok 48 v8 (by omega)
  have s1 : (x ++ v1).size = x.size + v1.size := ByteArray.size_append
  have s2 : ((x ++ v1) ++ v2).size = (x ++ v1).size + v2.size := ByteArray.size_append
  have s3 : (((x ++ v1) ++ v2) ++ v3).size = ((x ++ v1) ++ v2).size + v3.size := ByteArray.size_append
  have s4 : ((((x ++ v1) ++ v2) ++ v3) ++ v3).size = (((x ++ v1) ++ v2) ++ v3).size + v3.size := ByteArray.size_append
  have s5 : (((((x ++ v1) ++ v2) ++ v3) ++ v3) ++ v6).size = ((((x ++ v1) ++ v2) ++ v3) ++ v3).size + v6.size := ByteArray.size_append
  have s6 : ((((((x ++ v1) ++ v2) ++ v3) ++ v3) ++ v6) ++ v9).size = (((((x ++ v1) ++ v2) ++ v3) ++ v3) ++ v6).size + v9.size := ByteArray.size_append
  rw [engrosserlaw14_Cert_bytes.j0]
  simp only [Option.bind_some, a1, a2, a3, a4, a5, a6, a7, a8, a9]
  rw [if_pos (by omega), if_pos (by omega), if_pos (by omega), if_pos (by omega), if_pos (by omega), if_pos (by omega)]
  exact cb_l0 n key b l p _ (by omega) (min l.length 5) k 0 ⟨#[]⟩ (by omega) (by omega) (Nat.zero_le _)
theorem bytes_some (k : Nat) (hk : 40 ≤ k) (n key : ByteArray) (b : Bool) (l : List ByteArray) (p : Int) : ∃ X, engrosserlaw14_Cert_bytes.f k n key b l p = some (itemV 48 X) ∧ X.size ≤ 1600 := by
  unfold engrosserlaw14_Cert_bytes.f
  cases b with
  | true =>
    obtain ⟨v1, a1, b1⟩ : ∃ v, engrosserlaw14_item.f 160 ⟨#[2, 1, 2]⟩ = some v ∧ v.size ≤ _ := item_ok 160 ⟨#[2, 1, 2]⟩ (by decide)
    have z1 : (⟨#[2, 1, 2]⟩ : ByteArray).size = 3 := rfl
    rw [if_pos rfl, a1]
    exact cb_j0 k hk v1 (by omega) n key true l p
  | false =>
    rw [if_neg (by decide)]
    exact cb_j0 k hk ⟨#[]⟩ (Nat.zero_le _) n key false l p

/-! ### the whole -/
theorem nx_cut (X : ByteArray) (hX : X.size ≤ 1600) (m : Nat) (hm : m < (itemV 48 X).size) : nx ((itemV 48 X).extract 0 m) = none ∨ ¬ (nxRest ((itemV 48 X).extract 0 m)).size = 0 := by
  refine .inl ?_
  have hl : (wrapL 48 X.data.toList).length = (itemV 48 X).size := by rw [itemV]; exact (mk_size _).symm
  have := nx_piece 48 X.data.toList (by omega) (by omega) (by rw [← size_list]; omega) m (by omega)
  rw [← this]
  congr 1
  apply bytes_ext
  show ((itemV 48 X).extract 0 m).data.toList = _
  rw [mk_list, extract_list]
  simp [itemV]
theorem nx_more (X : ByteArray) (hX : X.size ≤ 1600) (more : ByteArray) (hne : ¬ more.size = 0) : nx (itemV 48 X ++ more) = none ∨ ¬ (nxRest (itemV 48 X ++ more)).size = 0 := by
  refine .inr ?_
  have hp := nx_wrapL_parts 48 X.data.toList more.data.toList (by omega) (by omega) (by rw [← size_list]; omega)
  have e : itemV 48 X ++ more = ⟨(wrapL 48 X.data.toList ++ more.data.toList).toArray⟩ := by
    apply bytes_ext
    rw [append_list, mk_list]
    simp [itemV]
  rw [e]
  obtain ⟨p1, p2, p3, p4⟩ := hp
  rw [p3, mk_size, ← size_list]
  exact hne
theorem mn_100 (s : ByteArray) : 0 ≤ mn (s.size : Int) 100 ∧ mn (s.size : Int) 100 ≤ (s.size : Int) ∧ mn (s.size : Int) 100 ≤ 100 ∧ (¬ s.size = 0 → 1 ≤ mn (s.size : Int) 100) := by unfold mn; split <;> omega
theorem twice_j0 (k : Nat) (hk : 430 ≤ k) (x : Int) (hx : 0 ≤ x) (more X : ByteArray) (hX : X.size ≤ 1600) : engrosserlaw14_DerTwice.j0 k x more true 2 (itemV 48 X) = some true := by
  obtain ⟨k, rfl⟩ : ∃ m, k = m + 2 := ⟨k - 2, by omega⟩
  have hz := itemV_size 48 X (by omega)
  have h1 := mn_100 more
  have hm1 : 0 ≤ Int.tmod x ((itemV 48 X).size : Int) := Int.tmod_nonneg _ hx
  have hm2 : Int.tmod x ((itemV 48 X).size : Int) < ((itemV 48 X).size : Int) := Int.tmod_lt_of_pos _ (by omega)
  have hE : (more.extract 0 (mn (more.size : Int) 100).toNat).size = (mn (more.size : Int) 100).toNat := by rw [ByteArray.size_extract]; omega
  have hC : ((itemV 48 X).extract 0 (Int.tmod x ((itemV 48 X).size : Int)).toNat).size ≤ 1606 := by rw [ByteArray.size_extract]; omega
  have sb := strip_bad ((itemV 48 X).extract 0 (Int.tmod x ((itemV 48 X).size : Int)).toNat) k (by omega) (nx_cut X hX _ (by omega))
  rw [engrosserlaw14_DerTwice.j0, if_neg (by omega), if_pos hm1, if_pos (by omega), sb]
  simp only [Option.bind_some]
  rw [if_pos h1.1, if_pos h1.2.1, if_pos (by omega)]
  by_cases c : more.size = 0
  · obtain ⟨r1, r2, r3, h3⟩ := strip_some (itemV 48 X ++ more.extract 0 (mn (more.size : Int) 100).toNat) (k + 1) (by omega)
    rw [h3]
    simp only [Option.bind_some]
    rw [if_pos trivial, if_pos trivial, if_pos trivial, if_pos ((toList_nil _).2 c)]
  · have sm := strip_bad (itemV 48 X ++ more.extract 0 (mn (more.size : Int) 100).toNat) k (by rw [ByteArray.size_append]; omega) (nx_more X hX _ (by omega))
    rw [sm]
    simp only [Option.bind_some]
    rw [if_pos trivial, if_pos trivial, if_pos trivial, if_neg (fun h => c ((toList_nil _).1 h))]
    rfl
theorem twice_pure (a : ByteArray) (key : ByteArray) (b : Bool) (l : List ByteArray) (p : Int) (n : Int) (hn : -9223372036854775808 ≤ n ∧ n ≤ 9223372036854775807) (more : ByteArray) :
    engrosserlaw14_DerTwice.f 440 a key b l p n more = some true := by
  have hN := cutV_size a
  have z7 : (⟨#[7]⟩ : ByteArray).size = 1 := rfl
  have zp : poisonV.size = 21 := rfl
  have hI := itemV_size 6 (cutV a) (by omega)
  have hJ := itemV_size 48 (itemV 6 (cutV a)) (by omega)
  have hT := itemV_size 2 ⟨#[7]⟩ (by omega)
  have s1 : (poisonV ++ itemV 48 (itemV 6 (cutV a))).size = poisonV.size + (itemV 48 (itemV 6 (cutV a))).size := ByteArray.size_append
  have s2 : ((poisonV ++ itemV 48 (itemV 6 (cutV a))) ++ poisonV).size = (poisonV ++ itemV 48 (itemV 6 (cutV a))).size + poisonV.size := ByteArray.size_append
  have hK := itemV_size 48 ((poisonV ++ itemV 48 (itemV 6 (cutV a))) ++ poisonV) (by omega)
  have hL := itemV_size 163 (itemV 48 ((poisonV ++ itemV 48 (itemV 6 (cutV a))) ++ poisonV)) (by omega)
  have s3 : (itemV 2 ⟨#[7]⟩ ++ itemV 163 (itemV 48 ((poisonV ++ itemV 48 (itemV 6 (cutV a))) ++ poisonV))).size = (itemV 2 ⟨#[7]⟩).size + (itemV 163 (itemV 48 ((poisonV ++ itemV 48 (itemV 6 (cutV a))) ++ poisonV))).size := ByteArray.size_append
  have hM := itemV_size 48 (itemV 2 ⟨#[7]⟩ ++ itemV 163 (itemV 48 ((poisonV ++ itemV 48 (itemV 6 (cutV a))) ++ poisonV))) (by omega)
  have i1 : engrosserlaw14_item.f 2 ⟨#[7]⟩ = some (itemV 2 ⟨#[7]⟩) := item_eq 2 _ (by omega)
  have i2 : engrosserlaw14_item.f 6 (cutV a) = some (itemV 6 (cutV a)) := item_eq 6 _ (by omega)
  have i3 : engrosserlaw14_item.f 48 (itemV 6 (cutV a)) = some (itemV 48 (itemV 6 (cutV a))) := item_eq 48 _ (by omega)
  have i4 : engrosserlaw14_item.f 48 ((poisonV ++ itemV 48 (itemV 6 (cutV a))) ++ poisonV) = some (itemV 48 ((poisonV ++ itemV 48 (itemV 6 (cutV a))) ++ poisonV)) := item_eq 48 _ (by omega)
  have i5 : engrosserlaw14_item.f 163 (itemV 48 ((poisonV ++ itemV 48 (itemV 6 (cutV a))) ++ poisonV)) = some (itemV 163 (itemV 48 ((poisonV ++ itemV 48 (itemV 6 (cutV a))) ++ poisonV))) := item_eq 163 _ (by omega)
  have i6 : engrosserlaw14_item.f 48 (itemV 2 ⟨#[7]⟩ ++ itemV 163 (itemV 48 ((poisonV ++ itemV 48 (itemV 6 (cutV a))) ++ poisonV))) = some (itemV 48 (itemV 2 ⟨#[7]⟩ ++ itemV 163 (itemV 48 ((poisonV ++ itemV 48 (itemV 6 (cutV a))) ++ poisonV)))) := item_eq 48 _ (by omega)
  have i7 : engrosserlaw14_item.f 48 (itemV 48 (itemV 2 ⟨#[7]⟩ ++ itemV 163 (itemV 48 ((poisonV ++ itemV 48 (itemV 6 (cutV a))) ++ poisonV)))) = some (itemV 48 (itemV 48 (itemV 2 ⟨#[7]⟩ ++ itemV 163 (itemV 48 ((poisonV ++ itemV 48 (itemV 6 (cutV a))) ++ poisonV))))) := item_eq 48 _ (by omega)
  have hp : engrosserlaw14_poison.f = some poisonV := rfl
  have hcat : ((poisonV ++ itemV 48 (itemV 6 (cutV a))) ++ poisonV) = ⟨(catP [(48, pT), (48, (itemV 6 (cutV a)).data.toList), (48, pT)]).toArray⟩ := by
    rw [poisonV_is]
    apply bytes_ext
    rw [append_list, append_list, mk_list, mk_list]
    simp [catP, itemV]
  have st := strip_twice (cutV a) hN 440 (by omega)
  rw [← hcat] at st
  obtain ⟨X, hB, hX⟩ := bytes_some 440 (by omega) a key b l p
  unfold engrosserlaw14_DerTwice.f
  rw [examples_eq 440 (by omega)]
  simp only [Option.bind_some]
  rw [if_pos trivial]
  simp only [Option.bind_some, i1, hp, cut_eq, i2, i3]
  rw [if_pos (by omega), if_pos (by omega), i4]
  simp only [Option.bind_some, i5]
  rw [if_pos (by omega), i6]
  simp only [Option.bind_some, i7, st, hB]
  clear i1 i2 i3 i4 i5 i6 i7 st hB hcat
  by_cases c : n < 0
  · have w1 : wrap64 (n + 1) = n + 1 := w64 (by omega) (by omega)
    have w2 : wrap64 (-(n + 1)) = -(n + 1) := by clear w1; exact w64 (by omega) (by omega)
    rw [if_pos c, w1, w2]
    clear w1 w2
    exact twice_j0 440 (by omega) _ (by omega) more X hX
  · rw [if_neg c]
    exact twice_j0 440 (by omega) n (by omega) more X hX
end Go.Proofs.Ytgloidibckopiaa.Pure
