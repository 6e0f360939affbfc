/- A region that draws its order, walked in one order that is given: each operation is either taken first (mode 0: it yields one value in every world, or, where it is among the held ones, in every world that meets S; or its guard passes it over), or carried out where it alone may come up (mode 1: S is shown behind it; mode 2: every held one stands ahead of it in every order, so that nothing is to be shown). Over any program; no text of the program in it. -/
import Derived.Test.YtgloidibckopiaaRows
import Derived.OrdersHeld
import Derived.Tactics
import Derived.Tactics2
namespace Go.Proofs.Ytgloidibckopiaa

/-- does j wait for i, perhaps through others? -/
def waitsOn (md : Region.Mode) (ops : Array Oper) (j i : Nat) : Bool :=
  match ops[j]? with
  | some oj => oj.after.any fun e => Region.binds md e && e.on == i
  | none => false
def reach (md : Region.Mode) (ops : Array Oper) : Nat → Nat → Nat → Bool
  | 0, j, i => waitsOn md ops j i
  | f + 1, j, i => waitsOn md ops j i || match ops[j]? with
    | some oj => oj.after.any fun e => Region.binds md e && reach md ops f e.on i
    | none => false

/-- does the order fit the region's edges? -/
def heldOk (md : Region.Mode) (ops : Array Oper) (F : List Nat) : List (Nat × Nat) → Array Bool → Bool
  | [], listed => (Region.ready md ops listed) == []
  | (i, 0) :: r, listed => !F.contains i && (Region.ready md ops listed).contains i && Region.free md ops listed i && heldOk md ops F r (listed.setIfInBounds i true)
  | (i, 1) :: r, listed => (Region.ready md ops listed) == [i] && heldOk md ops F r (listed.setIfInBounds i true)
  | (i, _ + 2) :: r, listed => F.contains i && (Region.ready md ops listed) == [i] && heldOk md ops F r (listed.setIfInBounds i true)
def behindOk (md : Region.Mode) (ops : Array Oper) (H F : List Nat) : Bool := F.all fun f => H.all fun h => reach md ops 8 f h
def lastOnes (l : List (Nat × Nat)) : List Nat := (l.filter fun x => decide (2 ≤ x.2)).map (·.1)

section
variable {P : Program} {ops : Array Oper} {Q : Exit → Act → World → Prop} {S : World → Prop} {md : Region.Mode} {H : List Nat}

def walkH (P : Program) (ops : Array Oper) (H : List Nat) (S : World → Prop) (Q : Exit → Act → World → Prop) : List (Nat × Nat) → Act → World → Prop
  | [], a, w => Q .normal a w
  | (i, 0) :: r, a, w => ∃ o, ops[i]? = some o ∧ if Region.wanted o (yielded ops a.tmps) = true then (∃ v, (∀ w, (H.contains i = true → S w) → (execOp a.eval o).run P w = .ok (.value v) w) ∧ walkH P ops H S Q r (a.put o.dst v) w) else walkH P ops H S Q r (a.put o.dst undef) w
  | (i, 1) :: r, a, w => ∀ o, ops[i]? = some o → if Region.wanted o (yielded ops a.tmps) = true then o.wp P a w (fun a' w' => S w' ∧ walkH P ops H S Q r a' w') Q else walkH P ops H S Q r (a.put o.dst undef) w
  | (i, _ + 2) :: r, a, w => ∀ o, ops[i]? = some o → if Region.wanted o (yielded ops a.tmps) = true then o.wp P a w (fun a' w' => walkH P ops H S Q r a' w') Q else walkH P ops H S Q r (a.put o.dst undef) w

theorem walkH_nil {a : Act} {w : World} (h : Q .normal a w) : walkH P ops H S Q [] a w := h

/-- its guard passes it over -/
theorem walkH_skip {i b : Nat} {r : List (Nat × Nat)} {a : Act} {w : World} {o : Oper} (ho : ops[i]? = some o) (hw : Region.wanted o (yielded ops a.tmps) = false)
    (h : ∀ K : Act → Prop, (∀ a, walkH P ops H S Q r a w → K a) → K (a.put o.dst undef)) : walkH P ops H S Q ((i, b) :: r) a w := by
  replace h := h _ (fun _ h => h)
  match b with
  | 0 => exact ⟨o, ho, by rw [hw]; exact h⟩
  | 1 =>
    intro o' ho'
    rw [ho] at ho'
    cases ho'
    rw [hw]
    exact h
  | b + 2 =>
    intro o' ho'
    rw [ho] at ho'
    cases ho'
    rw [hw]
    exact h

/-- it is taken first -/
theorem walkH_take {i : Nat} {r : List (Nat × Nat)} {a : Act} {w : World} {o : Oper} (ho : ops[i]? = some o) (hw : Region.wanted o (yielded ops a.tmps) = true)
    (h : ∃ v, (∀ w, (H.contains i = true → S w) → (execOp a.eval o).run P w = .ok (.value v) w) ∧ ∀ K : Act → Prop, (∀ a, walkH P ops H S Q r a w → K a) → K (a.put o.dst v)) : walkH P ops H S Q ((i, 0) :: r) a w :=
  let ⟨v, hv, h⟩ := h
  ⟨o, ho, by rw [hw]; exact ⟨v, hv, h _ (fun _ h => h)⟩⟩

/-- it is carried out; S is shown behind it -/
theorem walkH_do {i : Nat} {r : List (Nat × Nat)} {a : Act} {w : World} {o : Oper} (ho : ops[i]? = some o)
    (h : ∀ K : Act → World → Prop, (∀ a w, S w → walkH P ops H S Q r a w → K a w) → if Region.wanted o (yielded ops a.tmps) = true then o.wp P a w K Q else K (a.put o.dst undef) w) : walkH P ops H S Q ((i, 1) :: r) a w := by
  intro o' ho'
  rw [ho] at ho'
  cases ho'
  have h1 := h (fun a' w' => S w' ∧ walkH P ops H S Q r a' w') (fun _ _ hs hh => ⟨hs, hh⟩)
  split
  · rename_i hw
    rw [if_pos hw] at h1
    exact h1
  · rename_i hw
    rw [if_neg hw] at h1
    exact h1.2

/-- it is carried out behind all held ones -/
theorem walkH_go {i b : Nat} {r : List (Nat × Nat)} {a : Act} {w : World} {o : Oper} (ho : ops[i]? = some o)
    (h : ∀ K : Act → World → Prop, (∀ a w, walkH P ops H S Q r a w → K a w) → if Region.wanted o (yielded ops a.tmps) = true then o.wp P a w K Q else K (a.put o.dst undef) w) : walkH P ops H S Q ((i, b + 2) :: r) a w := by
  intro o' ho'
  rw [ho] at ho'
  cases ho'
  have h1 := h (fun a' w' => walkH P ops H S Q r a' w') (fun _ _ hh => hh)
  split
  · rename_i hw
    rw [if_pos hw] at h1
    exact h1
  · rename_i hw
    rw [if_neg hw] at h1
    exact h1

/-! ### why it serves every order -/

def Closed (md : Region.Mode) (ops : Array Oper) (listed : Array Bool) : Prop :=
  ∀ j oj, ops[j]? = some oj → listed.getD j false = true → ∀ e ∈ oj.after, Region.binds md e = true → listed.getD e.on false = true

theorem closed_set {listed : Array Bool} {i : Nat} (hc : Closed md ops listed) (hi : i ∈ Region.ready md ops listed) : Closed md ops (listed.setIfInBounds i true) := by
  obtain ⟨_, oi, hoi, hall⟩ := mem_ready.1 hi
  intro j oj hj hl e he hb
  by_cases hij : i = j
  · subst hij
    have : oj = oi := Option.some.inj (hj.symm.trans hoi)
    subst this
    exact getD_set_true (hall e he hb)
  · rw [getD_set_ne false hij] at hl
    exact getD_set_true (hc j oj hj hl e he hb)

theorem reach_listed {listed : Array Bool} (hc : Closed md ops listed) : ∀ (f j i : Nat), (∀ oj, ops[j]? = some oj → ∀ e ∈ oj.after, Region.binds md e = true → listed.getD e.on false = true) →
    reach md ops f j i = true → listed.getD i false = true := by
  have one : ∀ j i, (∀ oj, ops[j]? = some oj → ∀ e ∈ oj.after, Region.binds md e = true → listed.getD e.on false = true) → waitsOn md ops j i = true → listed.getD i false = true := by
    intro j i hd h
    unfold waitsOn at h
    split at h
    · rename_i oj hj
      obtain ⟨e, he, hb⟩ := Array.any_eq_true'.1 h
      simp only [Bool.and_eq_true, beq_iff_eq] at hb
      rw [← hb.2]
      exact hd oj hj e he hb.1
    · cases h
  intro f
  induction f with
  | zero => exact fun j i hd h => one j i hd h
  | succ f ih =>
    intro j i hd h
    simp only [reach, Bool.or_eq_true] at h
    rcases h with h | h
    · exact one j i hd h
    · split at h
      · rename_i oj hj
        obtain ⟨e, he, hb⟩ := Array.any_eq_true'.1 h
        simp only [Bool.and_eq_true] at hb
        exact ih e.on i (fun ok hk e' he' hb' => hc e.on ok hk (hd oj hj e he hb.1) e' he' hb') hb.2
      · cases h

/-- none of the last ones has come up -/
def NoF (F : List Nat) (listed : Array Bool) : Prop := ∀ f ∈ F, listed.getD f false = false

theorem noF_of_held {F : List Nat} {listed : Array Bool} {i : Nat} (hB : behindOk md ops H F = true) (hc : Closed md ops listed) (hi : H.contains i = true) (hun : listed.getD i false = false) : NoF F listed := by
  intro f hf
  cases hl : listed.getD f false with
  | false => rfl
  | true =>
    have h1 := List.all_eq_true.1 (List.all_eq_true.1 hB f hf) i (by simpa using hi)
    have := reach_listed hc 8 f i (fun oj hj e he hb => hc f oj hj hl e he hb) h1
    rw [hun] at this
    cases this

/-- whatever order is picked from here on; S as long as none of the last ones has come up -/
def wpAnyF (P : Program) (md : Region.Mode) (ops : Array Oper) (F : List Nat) (Q : Exit → Act → World → Prop) (S : World → Prop) : Nat → Array Bool → Act → World → Prop
  | 0, listed, a, w => Region.ready md ops listed = [] ∧ Q .normal a w
  | fuel + 1, listed, a, w =>
    (Region.ready md ops listed = [] → Q .normal a w) ∧
    ∀ i ∈ Region.ready md ops listed, wpOp P ops Q i (fun a' w' => (NoF F (listed.setIfInBounds i true) → S w') ∧ wpAnyF P md ops F Q S fuel (listed.setIfInBounds i true) a' w') a w

theorem wpAny_of_F {F : List Nat} : ∀ (fuel : Nat) (listed : Array Bool) (a : Act) (w : World), wpAnyF P md ops F Q S fuel listed a w → wpAny P md ops Q fuel listed a w
  | 0, _, _, _, h => h
  | fuel + 1, _, _, _, h => ⟨h.1, fun i hi => wpOp_mono (fun a' w' h' => wpAny_of_F fuel _ a' w' h'.2) (h.2 i hi)⟩

theorem unlisted_false {listed : Array Bool} {i : Nat} (h : listed.getD i true = false) : listed.getD i false = false := by
  rcases Nat.lt_or_ge i listed.size with h' | h'
  · simp [h'] at h ⊢; exact h
  · simp [Array.getElem?_eq_none h'] at h

theorem noF_set {F : List Nat} {listed : Array Bool} {i : Nat} (hi : i ∉ F) : NoF F (listed.setIfInBounds i true) ↔ NoF F listed := by
  refine ⟨fun h f hf => ?_, fun h f hf => ?_⟩
  · have := h f hf
    rwa [getD_set_ne false (by rintro rfl; exact hi hf)] at this
  · rw [getD_set_ne false (by rintro rfl; exact hi hf)]
    exact h f hf

theorem wpAnyF_first {F : List Nat} {i : Nat} {oi : Oper} {v : Value} (hB : behindOk md ops H F = true) (hiF : i ∉ F) (hi : ops[i]? = some oi) (hsel : ∀ (j : Nat) (o : Oper) cs b, ops[j]? = some o → o.op ≠ .select cs b)
    (hQ : ∀ c a w, Q (.panic c) (a.put oi.dst v) w → Q (.panic c) a w) :
    ∀ (fuel : Nat) (listed : Array Bool) (a : Act) (w : World),
      (∀ j oj, ops[j]? = some oj → j ≠ i → listed.getD j true = false → (∀ e ∈ oj.after, Region.binds md e = true → e.on ≠ i) → oi.apart ops oj = true) →
      Closed md ops listed → i ∈ Region.ready md ops listed → YieldsIf P ops (fun w => H.contains i = true → S w) oi v a → (NoF F listed → S w) →
      wpAnyF P md ops F Q S fuel (listed.setIfInBounds i true) (a.put oi.dst v) w → wpAnyF P md ops F Q S (fuel + 1) listed a w := by
  intro fuel
  induction fuel with
  | zero =>
    intro listed a w _ hcl hr hy hS HH
    refine ⟨fun h => (by rw [h] at hr; cases hr), fun j hj => ?_⟩
    by_cases hji : j = i
    · subst hji
      exact hy.wpOp hi (fun hin => hS (noF_of_held hB hcl hin (unlisted_false (mem_ready.1 hr).1))) ⟨fun hn => hS ((noF_set hiF).1 hn), HH⟩
    · have := ready_mono hj hji
      rw [HH.1] at this
      cases this
  | succ fuel ih =>
    intro listed a w hfree hcl hr hy hS HH
    refine ⟨fun h => (by rw [h] at hr; cases hr), fun j hj => ?_⟩
    by_cases hji : j = i
    · subst hji
      exact hy.wpOp hi (fun hin => hS (noF_of_held hB hcl hin (unlisted_false (mem_ready.1 hr).1))) ⟨fun hn => hS ((noF_set hiF).1 hn), HH⟩
    · have h1 := HH.2 j (ready_mono hj hji)
      obtain ⟨hjun, oj, hoj, hall⟩ := mem_ready.1 hj
      have hiun := unlisted_false (mem_ready.1 hr).1
      have hnot : ∀ e ∈ oj.after, Region.binds md e = true → e.on ≠ i := fun e he hb heq => by
        have h1 := hall e he hb
        rw [heq, hiun] at h1
        cases h1
      have h2 := wpOp_putIf (S := fun w => H.contains i = true → S w) hoj (hfree j oj hoj hji hjun hnot) (fun cs b => hsel i oi cs b hi) (fun cs b => hsel j oj cs b hoj) hQ hy h1
      have hfree' : ∀ k ok, ops[k]? = some ok → k ≠ i → (listed.setIfInBounds j true).getD k true = false →
          (∀ e ∈ ok.after, Region.binds md e = true → e.on ≠ i) → oi.apart ops ok = true := fun k ok hk hki hun hno => by
        refine hfree k ok hk hki ?_ hno
        by_cases hjk : j = k
        · subst hjk; exact hjun
        · rw [getD_set_ne true hjk] at hun; exact hun
      have hpast : ∀ w', (NoF F ((listed.setIfInBounds i true).setIfInBounds j true) → S w') → NoF F (listed.setIfInBounds j true) → S w' := fun w' h hn => h (by
        rw [← Array.setIfInBounds_comm _ _ hji]
        exact (noF_set hiF).2 hn)
      refine wpOp_mono (fun a' w' h3 => ⟨hpast w' h3.2.1, ih (listed.setIfInBounds j true) a' w' hfree' (closed_set hcl hj) (ready_mono hr (Ne.symm hji)) h3.1 (hpast w' h3.2.1) ?_⟩) h2
      rw [Array.setIfInBounds_comm _ _ hji]
      exact h3.2.2

theorem walkH_held {F : List Nat} (hB : behindOk .any ops H F = true) (hs : Region.noSelect ops = true) (hQ : ∀ c (a : Act) d v w, Q (.panic c) (a.put d v) w → Q (.panic c) a w) :
    ∀ (l : List (Nat × Nat)) (listed : Array Bool) (a : Act) (w : World), Closed .any ops listed → (NoF F listed → S w) →
      heldOk .any ops F l listed = true → walkH P ops H S Q l a w → wpAnyF P .any ops F Q S l.length listed a w
  | [], listed, a, w, _, _, hO, h => ⟨by simpa [heldOk] using hO, h⟩
  | (i, 1) :: r, listed, a, w, hcl, hS, hO, h => by
    simp only [heldOk, Bool.and_eq_true, beq_iff_eq] at hO
    refine ⟨fun h0 => (by rw [hO.1] at h0; cases h0), fun j hj => ?_⟩
    have hr := hj
    rw [hO.1] at hj
    have hj : j = i := by simpa using hj
    subst hj
    obtain ⟨_, oj, hoj, _⟩ := mem_ready.1 hr
    have h1 := h oj hoj
    unfold wpOp
    rw [hoj]
    dsimp only
    split
    · rename_i hw
      rw [if_pos hw] at h1
      exact .inl (Oper.wp_mono (fun a' w' ⟨hs', h'⟩ => ⟨fun _ => hs', walkH_held hB hs hQ r _ a' w' (closed_set hcl hr) (fun _ => hs') hO.2 h'⟩) h1)
    · rename_i hw
      rw [if_neg hw] at h1
      have hback : NoF F (listed.setIfInBounds j true) → NoF F listed := fun hn f hf => by
        by_cases hfj : j = f
        · subst hfj; exact unlisted_false (mem_ready.1 hr).1
        · have := hn f hf
          rwa [getD_set_ne false hfj] at this
      exact ⟨fun hn => hS (hback hn), walkH_held hB hs hQ r _ _ w (closed_set hcl hr) (fun hn => hS (hback hn)) hO.2 h1⟩
  | (i, _ + 2) :: r, listed, a, w, hcl, hS, hO, h => by
    simp only [heldOk, Bool.and_eq_true, beq_iff_eq] at hO
    refine ⟨fun h0 => (by rw [hO.1.2] at h0; cases h0), fun j hj => ?_⟩
    have hr := hj
    rw [hO.1.2] at hj
    have hj : j = i := by simpa using hj
    subst hj
    obtain ⟨hjun, oj, hoj, _⟩ := mem_ready.1 hr
    have h1 := h oj hoj
    have hno : ¬ NoF F (listed.setIfInBounds j true) := fun hn => by
      have := hn j (by simpa using hO.1.1)
      rcases Nat.lt_or_ge j listed.size with h' | h'
      · simp [h'] at this
      · simp [Array.getElem?_eq_none h'] at hjun
    unfold wpOp
    rw [hoj]
    dsimp only
    split
    · rename_i hw
      rw [if_pos hw] at h1
      exact .inl (Oper.wp_mono (fun a' w' h' => ⟨fun hn => absurd hn hno, walkH_held hB hs hQ r _ a' w' (closed_set hcl hr) (fun hn => absurd hn hno) hO.2 h'⟩) h1)
    · rename_i hw
      rw [if_neg hw] at h1
      exact ⟨fun hn => absurd hn hno, walkH_held hB hs hQ r _ _ w (closed_set hcl hr) (fun hn => absurd hn hno) hO.2 h1⟩
  | (i, 0) :: r, listed, a, w, hcl, hS, hO, h => by
    simp only [heldOk, Bool.and_eq_true, Bool.not_eq_true'] at hO
    obtain ⟨⟨⟨hF, hc⟩, hfr⟩, hO⟩ := hO
    have hiF : i ∉ F := fun hin => by simp [hin] at hF
    have hr : i ∈ Region.ready .any ops listed := by simpa using hc
    obtain ⟨o, ho, h⟩ := h
    have hS' : NoF F (listed.setIfInBounds i true) → S w := fun hn => hS ((noF_set hiF).1 hn)
    by_cases hw : Region.wanted o (yielded ops a.tmps) = true
    · rw [if_pos hw] at h
      obtain ⟨v, hv, h⟩ := h
      exact wpAnyF_first hB hiF ho (Region.noSelect_spec hs) (fun c a w => hQ c a _ _ w) _ listed a w (Region.free_spec ho hfr) hcl hr (.inl ⟨hw, hv⟩) hS (walkH_held hB hs hQ r _ _ w (closed_set hcl hr) hS' hO h)
    · rw [if_neg hw] at h
      exact wpAnyF_first hB hiF ho (Region.noSelect_spec hs) (fun c a w => hQ c a _ _ w) _ listed a w (Region.free_spec ho hfr) hcl hr (.inr ⟨by simpa using hw, rfl⟩) hS (walkH_held hB hs hQ r _ _ w (closed_set hcl hr) hS' hO h)

/-- THE BEGINNING -/
theorem wp_region_order {id : Nat} {a : Act} {w : World} {l : List (Nat × Nat)} {s : List Oper} (H : List Nat) (S : World → Prop) (hm : P.follows .mixedOrders = true)
    (hB : (Region.noSelect s.toArray && l.length == s.length && heldOk .any s.toArray (lastOnes l) l (Array.replicate s.length false) && behindOk .any s.toArray H (lastOnes l)) = true)
    (hQ : ∀ c (a : Act) d v w, Q (.panic c) (a.put d v) w → Q (.panic c) a w)
    (hS : S w.drew) (h : walkH P s.toArray H S Q l a w.drew) : (Code.region id s.toArray true).wp P Q a w := by
  simp only [Bool.and_eq_true, beq_iff_eq] at hB
  refine wp_region_any hm (wpAny_of_F (F := lastOnes l) (S := S) _ _ _ _ ?_)
  have := walkH_held hB.2 hB.1.1.1 hQ l (Array.replicate s.length false) a w.drew (fun j oj _ hl => by
    rcases Nat.lt_or_ge j s.length with h' | h'
    · simp [h'] at hl
    · simp [h'] at hl) (fun _ => hS) hB.1.2 h
  rw [hB.1.1.2] at this
  simpa using this
end
attribute [irreducible] walkH
end Go.Proofs.Ytgloidibckopiaa
