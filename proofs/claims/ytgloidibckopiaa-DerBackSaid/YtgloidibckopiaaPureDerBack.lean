/- DerBack: what is wrapped is read as it was, with anything behind; items one behind the other are read one by one; what is read is wrapped as it stood. The pure statement. -/
import Derived.Test.YtgloidibckopiaaDerExam
import Derived.Test.YtgloidibckopiaaGx8
namespace Go.Proofs.Ytgloidibckopiaa.Pure
open Go.RowKit Go.Proofs.Ytgloidibckopiaa Go.Proofs.Ytgloidibckopiaa.G Go.Proofs.YtgloidibckopiaaW.PrintWords Go.Proofs.YtgloidibckopiaaW.PrintLast Go.Proofs.YtgloidibckopiaaW.PrintMore

/-- a text of at most 300 bytes -/
def cutT (s : ByteArray) : ByteArray := s.extract 0 (mn (s.size : Int) 300).toNat
theorem mn_300 (s : ByteArray) : 0 ≤ mn (s.size : Int) 300 ∧ mn (s.size : Int) 300 ≤ (s.size : Int) ∧ mn (s.size : Int) 300 ≤ 300 := by unfold mn; split <;> omega
theorem cutT_size (s : ByteArray) : (cutT s).size ≤ 300 := by
  have := mn_300 s
  rw [cutT, ByteArray.size_extract]
  omega
def textAt (l : List ByteArray) (i : Nat) : ByteArray := cutT (l.getD i .empty)
def tagAt (tags : List Int) (i : Nat) : Int := if i < tags.length then rd tags i else i
def Good (tags : List Int) (i : Nat) : Prop := 0 ≤ tagAt tags i ∧ tagAt tags i ≤ 255 ∧ ¬ (tagAt tags i).toNat % 32 = 31
def itemL (l : List ByteArray) (tags : List Int) (j : Nat) : List UInt8 := wrapL (tagAt tags j).toNat (textAt l j).data.toList
def itemsOf (l : List ByteArray) (tags : List Int) (W : List Nat) : List UInt8 := W.flatMap (itemL l tags)
def sufs (l : List ByteArray) (tags : List Int) : List Nat → List ByteArray
  | [] => []
  | j :: r => ⟨(itemsOf l tags (j :: r)).toArray⟩ :: sufs l tags r
theorem itemL_length (l : List ByteArray) (tags : List Int) (j : Nat) : 0 < (itemL l tags j).length ∧ (itemL l tags j).length ≤ 310 := by
  have h1 := cutT_size (l.getD j .empty)
  have h2 := lenS_size (textAt l j).data.toList.length (by rw [← size_list]; unfold textAt; omega)
  have h3 : (lenB (textAt l j).data.toList.length).length ≤ 5 := by rw [← mk_size]; exact h2
  simp only [itemL, wrapL, List.length_cons, List.length_append]
  rw [← size_list] at *
  unfold textAt at *
  omega
theorem itemsOf_length (l : List ByteArray) (tags : List Int) (W : List Nat) : (itemsOf l tags W).length ≤ W.length * 310 := by
  induction W with
  | nil => simp [itemsOf]
  | cons j r ih =>
    have := (itemL_length l tags j).2
    simp only [itemsOf, List.flatMap_cons, List.length_append, List.length_cons] at *
    omega
theorem item_parts {l : List ByteArray} {tags : List Int} {j : Nat} (h : Good tags j) (m : List UInt8) :
    nx ⟨(itemL l tags j ++ m).toArray⟩ ≠ none ∧ nxTag ⟨(itemL l tags j ++ m).toArray⟩ = tagAt tags j ∧ nxText ⟨(itemL l tags j ++ m).toArray⟩ = textAt l j ∧ nxRest ⟨(itemL l tags j ++ m).toArray⟩ = ⟨m.toArray⟩ ∧ nxErr ⟨(itemL l tags j ++ m).toArray⟩ = 0 := by
  obtain ⟨h0, h1, h2⟩ := h
  have hl : (textAt l j).data.toList.length < 16777216 := by
    have := cutT_size (l.getD j .empty)
    rw [← size_list]; unfold textAt; omega
  have hn := nx_wrapL (tagAt tags j).toNat (textAt l j).data.toList m (by omega) h2 hl
  obtain ⟨p1, p2, p3, p4⟩ := nx_wrapL_parts (tagAt tags j).toNat (textAt l j).data.toList m (by omega) h2 hl
  refine ⟨?_, ?_, ?_, p3, p4⟩
  · show nx ⟨(wrapL _ _ ++ m).toArray⟩ ≠ none
    rw [hn]; simp
  · show nxTag ⟨(wrapL _ _ ++ m).toArray⟩ = _
    rw [p1]; omega
  · show nxText ⟨(wrapL _ _ ++ m).toArray⟩ = _
    rw [p2, mk_of_list]
theorem chain_items (l : List ByteArray) (tags : List Int) (W : List Nat) (h : ∀ j ∈ W, Good tags j) : chain ⟨(itemsOf l tags W).toArray⟩ = sufs l tags W := by
  induction W with
  | nil => exact chain_empty (mk_size [])
  | cons j r ih =>
    have hp := item_parts (l := l) (h j (by simp)) (itemsOf l tags r)
    have hz : ¬ (⟨(itemsOf l tags (j :: r)).toArray⟩ : ByteArray).size = 0 := by
      rw [mk_size]
      have := (itemL_length l tags j).1
      simp only [itemsOf, List.flatMap_cons, List.length_append]
      omega
    have e : itemsOf l tags (j :: r) = itemL l tags j ++ itemsOf l tags r := rfl
    rw [sufs, chain_ok hz (by rw [e]; exact hp.1)]
    rw [e, hp.2.2.2.1, ih (fun j hj => h j (by simp [hj]))]
theorem sufs_ok (l : List ByteArray) (tags : List Int) (W : List Nat) (h : ∀ j ∈ W, Good tags j) : ∀ x ∈ sufs l tags W, nx x ≠ none := by
  induction W with
  | nil => intro x hx; cases hx
  | cons j r ih =>
    intro x hx
    rcases List.mem_cons.1 hx with rfl | hx
    · exact (item_parts (h j (by simp)) (itemsOf l tags r)).1
    · exact ih (fun j hj => h j (by simp [hj])) x hx
theorem sufs_length (l : List ByteArray) (tags : List Int) (W : List Nat) : (sufs l tags W).length = W.length := by
  induction W with
  | nil => rfl
  | cons j r ih => simp [sufs, ih]
theorem sufs_text (l : List ByteArray) (tags : List Int) (W : List Nat) (h : ∀ j ∈ W, Good tags j) : ∀ (i : Nat) (hi : i < W.length), nxText ((sufs l tags W)[i]'(by rw [sufs_length]; exact hi)) = textAt l W[i] := by
  induction W with
  | nil => intro i hi; simp at hi
  | cons j r ih =>
    intro i hi
    cases i with
    | zero => exact (item_parts (h j (by simp)) (itemsOf l tags r)).2.2.1
    | succ i => exact ih (fun j hj => h j (by simp [hj])) i (by simpa using hi)

/-- the last part: what is read is wrapped as it stood -/
theorem back_end (more : ByteArray) : nxErr more = 0 → wrapE (nxTag more) (nxText more).size = 0 ∧ wrapV (nxTag more) (nxText more) ++ nxRest more = more := by
  intro he
  cases hn : nx more with
  | none => simp [nxErr, hn] at he
  | some p =>
    obtain ⟨a, n⟩ := p
    obtain ⟨h1, h2, h3, h4⟩ := nx_turn hn
    have hlt := byteAt_lt more 0
    have ht : nxTag more = (byteAt more 0 : Int) := by simp [nxTag, hn]
    have hE : wrapE (nxTag more) (nxText more).size = 0 := by rw [ht, h2, wrapE, if_neg (by omega), if_neg (by omega)]
    refine ⟨hE, ?_⟩
    rw [wrapV, if_pos hE, ht]
    apply bytes_ext
    rw [append_list, mk_list, h1, Int.toNat_natCast]

theorem getD_it' (xs : List ByteArray) (i : Nat) (h : i < xs.length) : rd_T24 (xs.map it) (i : Int) = it xs[i] := by
  simp [rd_T24, h]
theorem rd_nat (W : List Nat) (i : Nat) (h : i < W.length) : rd (W.map Int.ofNat) (i : Int) = (W[i] : Int) := by
  simp [rd, h]

theorem back_l1 (l : List ByteArray) (tags : List Int) (more : ByteArray) (hm : more.size ≤ 140737488351232) (W : List Nat) (hW : ∀ j ∈ W, Good tags j) (hj : ∀ j ∈ W, j < l.length) (hW10 : W.length ≤ 10) (d : Nat) : ∀ (k i : Nat), i + d = W.length → d < k →
    engrosserlaw14_DerBack.l1 k l more true (W.map Int.ofNat) ((sufs l tags W).map it) i = some true := by
  induction d with
  | zero =>
    intro k i hi hk
    obtain ⟨k, rfl⟩ : ∃ m, k = m + 1 := ⟨k - 1, by omega⟩
    rw [engrosserlaw14_DerBack.l1]
    rw [if_neg (by rw [List.length_map, sufs_length]; omega)]
    simp only [der_Next.f, der_Wrap.f, Option.bind_some, if_true]
    by_cases he : nxErr more = 0
    · obtain ⟨h1, h2⟩ := back_end more he
      have hs : (wrapV (nxTag more) (nxText more)).size + (nxRest more).size ≤ 9223372036854775807 := by
        rw [← ByteArray.size_append, h2]; omega
      rw [if_pos he, if_pos h1, if_pos hs, h2]
      simp
    · rw [if_neg he]
  | succ d ih =>
    intro k i hi hk
    obtain ⟨k, rfl⟩ : ∃ m, k = m + 1 := ⟨k - 1, by omega⟩
    have hlt : i < W.length := by omega
    have hr := rd_nat W i hlt
    have hg := getD_it' (sufs l tags W) i (by rw [sufs_length]; exact hlt)
    have htx := sufs_text l tags W hW i hlt
    have hjl := hj W[i] (List.getElem_mem _)
    have e2 : wrap64 ((i : Int) + 1) = ((i + 1 : Nat) : Int) := by rw [w64 (by omega) (by omega)]; omega
    have hrd : rdOf ByteArray.empty l (W[i] : Int) = l.getD W[i] .empty := by simp [rdOf]
    have hmn := mn_300 (l.getD W[i] .empty)
    rw [engrosserlaw14_DerBack.l1]
    simp only [hr, hg, hrd, e2]
    clear e2
    rw [if_pos (by rw [List.length_map, sufs_length]; omega), if_pos (by omega), if_pos (by rw [List.length_map]; omega), if_pos (by omega), if_pos (by omega), if_pos hmn.1, if_pos hmn.2.1, if_pos]
    · exact ih k (i + 1) (by omega) (by omega)
    · show (nxText _).toList = _
      rw [htx]
      rfl

theorem back_l0 (l : List ByteArray) (tags : List Int) (more : ByteArray) (hm : more.size ≤ 140737488351232) (hl : l.length ≤ 9223372036854775807) (htags : ∀ x ∈ tags, 0 ≤ x ∧ x ≤ 255) (d : Nat) :
    ∀ (k i : Nat) (W : List Nat), i + d = min l.length 10 → 4 * d + 20 ≤ k → (∀ j ∈ W, Good tags j) → (∀ j ∈ W, j < l.length) → W.length ≤ i →
    engrosserlaw14_DerBack.l0 k l tags more true ⟨(itemsOf l tags W).toArray⟩ (W.map Int.ofNat) i = some true := by
  induction d with
  | zero =>
    intro k i W hi hk hW hj hWl
    obtain ⟨k, rfl⟩ : ∃ m, k = m + 3 := ⟨k - 3, by omega⟩
    have hpr : partsR [] (chain ⟨(itemsOf l tags W).toArray⟩) = (sufs l tags W, 0) := by
      rw [chain_items l tags W hW]
      have := partsR_ok (sufs l tags W) [] (sufs_ok l tags W hW) (by rw [List.nil_append, sufs_length]; omega)
      simpa using this
    have tail : engrosserlaw14_DerBack.j1 (k + 2) l tags more true ⟨(itemsOf l tags W).toArray⟩ (W.map Int.ofNat) i false = some true := by
      rw [engrosserlaw14_DerBack.j1, if_neg (by decide)]
      simp only [der_Parts.f, hpr, Option.bind_some, if_true]
      rw [engrosserlaw14_DerBack.j4, if_neg (by simp [sufs_length])]
      exact back_l1 l tags more hm W hW hj (by omega) W.length k 0 (by omega) (by omega)
    rw [engrosserlaw14_DerBack.l0]
    by_cases hlt : i < l.length
    · rw [if_pos (by omega), decide_eq_false (by omega)]
      exact tail
    · rw [if_neg (by omega)]
      exact tail
  | succ d ih =>
    intro k i W hi hk hW hj hWl
    obtain ⟨k, rfl⟩ : ∃ m, k = m + 4 := ⟨k - 4, by omega⟩
    have hlt : i < l.length := by omega
    have e2 : wrap64 ((i : Int) + 1) = ((i + 1 : Nat) : Int) := by rw [w64 (by omega) (by omega)]; omega
    have hrd : rdOf ByteArray.empty l (i : Int) = l.getD i .empty := by simp [rdOf]
    have hmn := mn_300 (l.getD i .empty)
    have htag : 0 ≤ tagAt tags i ∧ tagAt tags i ≤ 255 := by
      unfold tagAt
      by_cases c : i < tags.length
      · rw [if_pos c]
        have : rd tags (i : Int) = tags[i] := by simp [rd, c]
        rw [this]
        exact htags _ (List.getElem_mem _)
      · rw [if_neg c]
        omega
    have next : engrosserlaw14_DerBack.j2 (k + 2) l tags more true ⟨(itemsOf l tags W).toArray⟩ (W.map Int.ofNat) i (tagAt tags i) = some true := by
      rw [engrosserlaw14_DerBack.j2]
      have htx : (l.getD i .empty).extract 0 (mn ((l.getD i .empty).size : Int) 300).toNat = textAt l i := rfl
      simp only [hrd, e2, der_Wrap.f, Option.bind_some, htx]
      clear e2
      rw [if_pos (by omega), if_pos (by omega), if_pos hmn.1, if_pos hmn.2.1]
      have hsz := cutT_size (l.getD i .empty)
      clear htx
      rw [Int.tmod_eq_emod_of_nonneg htag.1]
      by_cases h31 : tagAt tags i % 32 = 31
      · have hE : wrapE (tagAt tags i) (textAt l i).size = 1 := by rw [wrapE, if_pos (.inr (.inr h31))]
        rw [hE, h31, if_neg (by decide), if_neg (by decide)]
        exact ih (k + 1) (i + 1) W (by omega) (by omega) hW hj (by omega)
      · have hE : wrapE (tagAt tags i) (textAt l i).size = 0 := by
          rw [wrapE, if_neg (by omega), if_neg (by unfold textAt; omega)]
        have hne : (tagAt tags i % 32 != 31) = true := by simpa using h31
        have hG : Good tags i := ⟨htag.1, htag.2, by omega⟩
        have hV : wrapV (tagAt tags i) (textAt l i) = ⟨(itemL l tags i).toArray⟩ := by rw [wrapV, if_pos hE]; rfl
        have hil := itemL_length l tags i
        have hap : (⟨(itemL l tags i).toArray⟩ : ByteArray) ++ more = ⟨(itemL l tags i ++ more.data.toList).toArray⟩ := by
          apply bytes_ext
          rw [append_list, mk_list, mk_list]
        have hp := item_parts (l := l) hG more.data.toList
        rw [← hap, mk_of_list] at hp
        rw [hE, hne, if_neg (by decide), if_pos rfl]
        rw [hV, if_pos (by rw [mk_size]; omega)]
        simp only [der_Next.f, Option.bind_some, hp.2.1, hp.2.2.1, hp.2.2.2.1, hp.2.2.2.2]
        rw [if_pos trivial, if_pos trivial, if_pos trivial, engrosserlaw14_DerBack.j3, if_neg (by decide)]
        have hWs := itemsOf_length l tags W
        rw [if_pos (by rw [mk_size, mk_size]; omega), if_pos (by rw [List.length_map]; omega)]
        have e2 : wrap64 ((i : Int) + 1) = ((i + 1 : Nat) : Int) := by rw [w64 (by omega) (by omega)]; omega
        rw [e2]
        clear e2
        have hall : (⟨(itemsOf l tags W).toArray⟩ : ByteArray) ++ ⟨(itemL l tags i).toArray⟩ = ⟨(itemsOf l tags (W ++ [i])).toArray⟩ := by
          apply bytes_ext
          rw [append_list, mk_list, mk_list, mk_list]
          simp [itemsOf]
        rw [hall]
        have hmap : (W.map Int.ofNat) ++ [(i : Int)] = (W ++ [i]).map Int.ofNat := by simp
        rw [hmap]
        exact ih k (i + 1) (W ++ [i]) (by omega) (by omega) (fun j hj' => by
          rcases List.mem_append.1 hj' with h | h
          · exact hW j h
          · simp at h; subst h; exact hG) (fun j hj' => by
          rcases List.mem_append.1 hj' with h | h
          · exact hj j h
          · simp at h; subst h; exact hlt) (by simp; omega)
    rw [engrosserlaw14_DerBack.l0, if_pos (by omega), decide_eq_true (by omega), engrosserlaw14_DerBack.j1, if_pos rfl]
    by_cases c : i < tags.length
    · have ht : wrap64 (rd tags (i : Int)) = tagAt tags i := by
        have : tagAt tags i = rd tags (i : Int) := by rw [tagAt, if_pos c]
        rw [← this, w64 (by omega) (by omega)]
      rw [if_pos (by omega), if_pos (by omega), ht]
      exact next
    · have ht : tagAt tags i = (i : Int) := by rw [tagAt, if_neg c]
      rw [if_neg (by omega)]
      rw [ht] at next
      exact next

theorem back_pure (l : List ByteArray) (tags : List Int) (more : ByteArray) (hl : l.length ≤ 9223372036854775807) (htags : ∀ x ∈ tags, 0 ≤ x ∧ x ≤ 255) (hm : more.size ≤ 140737488351232) : engrosserlaw14_DerBack.f 100 l tags more = some true := by
  unfold engrosserlaw14_DerBack.f
  rw [examples_eq 100 (by omega)]
  simp only [Option.bind_some, if_true]
  exact back_l0 l tags more hm hl htags (min l.length 10) 100 0 [] (by omega) (by omega) (by simp) (by simp) (by simp)
end Go.Proofs.Ytgloidibckopiaa.Pure
