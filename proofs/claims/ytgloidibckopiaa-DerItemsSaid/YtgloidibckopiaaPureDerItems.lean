/- DerItems: any bytes begin with an item, and consist of items, as the reference says; any text is wrapped alike. The pure statement. -/
import Derived.Test.YtgloidibckopiaaDerPureA
import Derived.Test.YtgloidibckopiaaGx7
namespace Go.Proofs.Ytgloidibckopiaa.Pure
open Go.RowKit Go.Proofs.Ytgloidibckopiaa Go.Proofs.Ytgloidibckopiaa.G Go.Proofs.YtgloidibckopiaaW.PrintWords Go.Proofs.YtgloidibckopiaaW.PrintLast Go.Proofs.YtgloidibckopiaaW.PrintMore

theorem getD_it (xs : List ByteArray) (i : Nat) (h : i < xs.length) : rd_T24 (xs.map it) (i : Int) = it xs[i] := by
  simp [rd_T24, h]
theorem getD_it28 (xs : List ByteArray) (i : Nat) (h : i < xs.length) : rd_T28 (xs.map it28) (i : Int) = it28 xs[i] := by
  simp [rd_T28, h]
theorem partsR_len (xs : List ByteArray) : ∀ pre, pre.length ≤ 100 → (partsR pre xs).1.length ≤ 100 := by
  induction xs with
  | nil => intro pre h; simpa [partsR] using h
  | cons x r ih =>
    intro pre h
    rw [partsR]
    split
    · simp
    split
    · simp
    · exact ih _ (by simp; omega)
theorem wf_i64 {x : Int} (h : (Lit.int .i64 x).wf = true) : -9223372036854775808 ≤ x ∧ x ≤ 9223372036854775807 := by
  simp [Lit.wf, IntKind.min, IntKind.max, IntKind.signed, IntKind.bits] at h
  omega

theorem items_loop (d : Nat) : ∀ (k i : Nat) (xs : List ByteArray) (E : Int) (s txt : ByteArray) (we : Int), i + d = xs.length → xs.length ≤ 100 → 2 * d < k →
    engrosserlaw14_DerItems.l0 k true (nxErr s) (nx s).isSome txt we txt we (xs.map it) E (xs.map it28) E i (nxTag s) (nxText s) (nxRest s) (nxTag s) (nxText s) (nxRest s) = some true := by
  induction d with
  | zero =>
    intro k i xs E s txt we hi _ hk
    obtain ⟨k, rfl⟩ : ∃ m, k = m + 1 := ⟨k - 1, by omega⟩
    have : i = xs.length := by omega
    subst this
    simp only [engrosserlaw14_DerItems.l0]
    rw [if_neg (by simp)]
    simp only [if_true]
    cases hn : nx s with
    | none => simp [nxErr, hn]
    | some p => simp [nxErr, hn]
  | succ d ih =>
    intro k i xs E s txt we hi hl hk
    obtain ⟨k, rfl⟩ : ∃ m, k = m + 1 := ⟨k - 1, by omega⟩
    have hlt : i < xs.length := by omega
    have e2 : wrap64 ((i : Int) + 1) = ((i + 1 : Nat) : Int) := by rw [w64 (by omega) (by omega)]; omega
    rw [engrosserlaw14_DerItems.l0]
    simp only [e2, List.length_map, getD_it xs i hlt, getD_it28 xs i hlt]
    clear e2
    rw [if_pos (by omega), if_pos (by omega), if_pos (by omega), if_pos (show (it xs[i]).f0 = (it28 xs[i]).f0 from rfl), if_pos (show (it xs[i]).f1.toList = (it28 xs[i]).f1.toList from rfl), if_pos (show (it xs[i]).f2.toList = (it28 xs[i]).f2.toList from rfl)]
    exact ih k (i + 1) xs E s txt we (by omega) hl (by omega)

theorem DerItems : engrosserlaw14_DerItems.Pure := by
  intro s tag txt hs ht htx
  obtain ⟨h1, h2⟩ := wf_i64 ht
  refine ⟨250, ?_⟩
  unfold engrosserlaw14_DerItems.f
  rw [examples_eq 250 (by omega), refNext_eq s hs 250 (by omega), refWrap_eq tag txt h1 h2 htx 249, refParts_eq s hs 250 (by omega)]
  simp only [der_Next.f, der_Wrap.f, der_Parts.f, Option.bind_some, if_true, List.length_map]
  have hl := partsR_len (chain s) [] (by simp)
  exact items_loop (partsR [] (chain s)).1.length 250 0 _ _ s _ _ (by omega) hl (by omega)
end Go.Proofs.Ytgloidibckopiaa.Pure
