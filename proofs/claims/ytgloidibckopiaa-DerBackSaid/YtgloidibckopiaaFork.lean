/- A region that draws its order, walked by a plan: as in Region, and where two operations may come up, both ways. -/
import Derived.Test.YtgloidibckopiaaRegion
namespace Go.Proofs.Ytgloidibckopiaa

inductive Plan where
  | done
  | step (i m : Nat) (p : Plan)
  | fork (i mi : Nat) (p : Plan) (j mj : Nat) (q : Plan)

def Plan.steps : Plan → Nat
  | .done => 0
  | .step _ _ p => p.steps + 1
  | .fork _ _ p _ _ _ => p.steps + 1
def Plan.lasts : Plan → List Nat
  | .done => []
  | .step i m p => if 2 ≤ m then i :: p.lasts else p.lasts
  | .fork i mi p j mj q => (if 2 ≤ mi then [i] else []) ++ (if 2 ≤ mj then [j] else []) ++ p.lasts ++ q.lasts

def planOk (md : Region.Mode) (ops : Array Oper) (F : List Nat) : Plan → Array Bool → Bool
  | .done, listed => (Region.ready md ops listed) == []
  | .step i 0 p, listed => !F.contains i && (Region.ready md ops listed).contains i && Region.free md ops listed i && planOk md ops F p (listed.setIfInBounds i true)
  | .step i (m + 1) p, listed => (m == 0 || F.contains i) && (Region.ready md ops listed) == [i] && planOk md ops F p (listed.setIfInBounds i true)
  | .fork i mi p j mj q, listed => (mi == 1 || F.contains i) && (mj == 1 || F.contains j) && (Region.ready md ops listed) == [i, j] && p.steps == q.steps && planOk md ops F p (listed.setIfInBounds i true) && planOk md ops F q (listed.setIfInBounds j true)

section
variable {P : Program} {ops : Array Oper} {Q : Exit → Act → World → Prop} {S : World → Prop} {md : Region.Mode} {H : List Nat}

/-- one operation carried out: mode 1: S behind it; else nothing -/
def planOp (P : Program) (ops : Array Oper) (S : World → Prop) (Q : Exit → Act → World → Prop) (i m : Nat) (K : Act → World → Prop) (a : Act) (w : World) : Prop :=
  ∀ o, ops[i]? = some o → if Region.wanted o (yielded ops a.tmps) = true then o.wp P a w (fun a' w' => (m = 1 → S w') ∧ K a' w') Q else K (a.put o.dst undef) w

def walkP (P : Program) (ops : Array Oper) (H : List Nat) (S : World → Prop) (Q : Exit → Act → World → Prop) : Plan → Act → World → Prop
  | .done, a, w => Q .normal a w
  | .step i 0 p, a, w => ∃ o, ops[i]? = some o ∧ if Region.wanted o (yielded ops a.tmps) = true then (∃ v, (∀ w, (H.contains i = true → S w) → (execOp a.eval o).run P w = .ok (.value v) w) ∧ walkP P ops H S Q p (a.put o.dst v) w) else walkP P ops H S Q p (a.put o.dst undef) w
  | .step i (m + 1) p, a, w => planOp P ops S Q i (m + 1) (walkP P ops H S Q p) a w
  | .fork i mi p j mj q, a, w => planOp P ops S Q i mi (walkP P ops H S Q p) a w ∧ planOp P ops S Q j mj (walkP P ops H S Q q) a w

theorem walkP_done {a : Act} {w : World} (h : Q .normal a w) : walkP P ops H S Q .done a w := h

/-- its guard passes it over -/
theorem walkP_skip {i b : Nat} {p : Plan} {a : Act} {w : World} {o : Oper} (ho : ops[i]? = some o) (hw : Region.wanted o (yielded ops a.tmps) = false)
    (h : ∀ K : Act → Prop, (∀ a, walkP P ops H S Q p a w → K a) → K (a.put o.dst undef)) : walkP P ops H S Q (.step i b p) a w := by
  replace h := h _ (fun _ h => h)
  match b with
  | 0 => exact ⟨o, ho, by rw [hw]; exact h⟩
  | b + 1 =>
    intro o' ho'
    rw [ho] at ho'
    cases ho'
    rw [hw]
    exact h

/-- it is taken first -/
theorem walkP_take {i : Nat} {p : Plan} {a : Act} {w : World} {o : Oper} (ho : ops[i]? = some o) (hw : Region.wanted o (yielded ops a.tmps) = true)
    (h : ∃ v, (∀ w, (H.contains i = true → S w) → (execOp a.eval o).run P w = .ok (.value v) w) ∧ ∀ K : Act → Prop, (∀ a, walkP P ops H S Q p a w → K a) → K (a.put o.dst v)) : walkP P ops H S Q (.step i 0 p) a w :=
  let ⟨v, hv, h⟩ := h
  ⟨o, ho, by rw [hw]; exact ⟨v, hv, h _ (fun _ h => h)⟩⟩

/-- it is carried out -/
theorem walkP_do {i m : Nat} {p : Plan} {a : Act} {w : World} {o : Oper} (ho : ops[i]? = some o)
    (h : ∀ K : Act → World → Prop, (∀ a w, (m + 1 = 1 → S w) → walkP P ops H S Q p a w → K a w) → if Region.wanted o (yielded ops a.tmps) = true then o.wp P a w K Q else K (a.put o.dst undef) w) : walkP P ops H S Q (.step i (m + 1) p) a w := by
  intro o' ho'
  rw [ho] at ho'
  cases ho'
  have h1 := h (fun a' w' => (m + 1 = 1 → S w') ∧ walkP P ops H S Q p a' w') (fun _ _ hs hh => ⟨hs, hh⟩)
  split
  · rename_i hw
    rw [if_pos hw] at h1
    exact h1
  · rename_i hw
    rw [if_neg hw] at h1
    exact h1.2

/-- two may come up: both ways -/
theorem walkP_fork {i mi j mj : Nat} {p q : Plan} {a : Act} {w : World} (h1 : walkP P ops H S Q (.step i (mi + 1) p) a w) (h2 : walkP P ops H S Q (.step j (mj + 1) q) a w) :
    walkP P ops H S Q (.fork i (mi + 1) p j (mj + 1) q) a w := ⟨h1, h2⟩

theorem planOp_held {F : List Nat} {i m : Nat} {R R' : Act → World → Prop} {listed : Array Bool} {a : Act} {w : World} (hr : i ∈ Region.ready .any ops listed) (hm : m = 1 ∨ i ∈ F)
    (hS : NoF F listed → S w) (hR : ∀ a w, (NoF F (listed.setIfInBounds i true) → S w) → R a w → R' a w) (h : planOp P ops S Q i m R a w) :
    wpOp P ops Q i (fun a' w' => (NoF F (listed.setIfInBounds i true) → S w') ∧ R' a' w') a w := by
  obtain ⟨hjun, oj, hoj, _⟩ := mem_ready.1 hr
  have hno : i ∈ F → ¬ NoF F (listed.setIfInBounds i true) := fun hin hn => by
    have := hn i hin
    rcases Nat.lt_or_ge i listed.size with h' | h'
    · simp [h'] at this
    · simp [Array.getElem?_eq_none h'] at hjun
  have hback : NoF F (listed.setIfInBounds i true) → NoF F listed := fun hn f hf => by
    by_cases hfj : i = f
    · subst hfj; exact unlisted_false (mem_ready.1 hr).1
    · have := hn f hf
      rwa [getD_set_ne false hfj] at this
  have h1 := h oj hoj
  unfold wpOp
  rw [hoj]
  dsimp only
  split
  · rename_i hw
    rw [if_pos hw] at h1
    refine .inl (Oper.wp_mono (fun a' w' ⟨hs', h'⟩ => ?_) h1)
    have hx : NoF F (listed.setIfInBounds i true) → S w' := fun hn => by
      rcases hm with hm | hm
      · exact hs' hm
      · exact absurd hn (hno hm)
    exact ⟨hx, hR a' w' hx h'⟩
  · rename_i hw
    rw [if_neg hw] at h1
    exact ⟨fun hn => hS (hback hn), hR _ w (fun hn => hS (hback hn)) h1⟩

theorem walkP_held {F : List Nat} (hB : behindOk .any ops H F = true) (hs : Region.noSelect ops = true) (hQ : ∀ c (a : Act) d v w, Q (.panic c) (a.put d v) w → Q (.panic c) a w) :
    ∀ (l : Plan) (listed : Array Bool) (a : Act) (w : World), Closed .any ops listed → (NoF F listed → S w) →
      planOk .any ops F l listed = true → walkP P ops H S Q l a w → wpAnyF P .any ops F Q S l.steps listed a w
  | .done, listed, a, w, _, _, hO, h => ⟨by simpa [planOk] using hO, h⟩
  | .step i (m + 1) p, listed, a, w, hcl, hS, hO, h => by
    simp only [planOk, Bool.and_eq_true, beq_iff_eq, Bool.or_eq_true] at hO
    refine ⟨fun h0 => (by rw [hO.1.2] at h0; cases h0), fun j hj => ?_⟩
    have hr := hj
    rw [hO.1.2] at hj
    have hj : j = i := by simpa using hj
    subst hj
    exact planOp_held hr (hO.1.1.imp (fun e => by omega) (fun e => by simpa using e)) hS (fun a' w' hs' h' => walkP_held hB hs hQ p _ a' w' (closed_set hcl hr) hs' hO.2 h') h
  | .fork i mi p j mj q, listed, a, w, hcl, hS, hO, h => by
    simp only [planOk, Bool.and_eq_true, beq_iff_eq, Bool.or_eq_true] at hO
    obtain ⟨⟨⟨⟨⟨h1, h2⟩, h3⟩, h4⟩, h5⟩, h6⟩ := hO
    refine ⟨fun h0 => (by rw [h3] at h0; cases h0), fun k hk => ?_⟩
    have hr := hk
    rw [h3] at hk
    simp only [List.mem_cons, List.not_mem_nil, or_false] at hk
    rcases hk with rfl | rfl
    · exact planOp_held hr (h1.imp id (fun e => by simpa using e)) hS (fun a' w' hs' h' => walkP_held hB hs hQ p _ a' w' (closed_set hcl hr) hs' h5 h') h.1
    · have : (Plan.fork i mi p k mj q).steps = q.steps + 1 := by simp [Plan.steps, h4]
      show wpOp P ops Q k (fun a' w' => (NoF F (listed.setIfInBounds k true) → S w') ∧ wpAnyF P .any ops F Q S p.steps (listed.setIfInBounds k true) a' w') a w
      rw [h4]
      exact planOp_held hr (h2.imp id (fun e => by simpa using e)) hS (fun a' w' hs' h' => walkP_held hB hs hQ q _ a' w' (closed_set hcl hr) hs' h6 h') h.2
  | .step i 0 r, listed, a, w, hcl, hS, hO, h => by
    simp only [planOk, Bool.and_eq_true, Bool.not_eq_true'] at hO
    obtain ⟨⟨⟨hF, hc⟩, hfr⟩, hO⟩ := hO
    have hiF : i ∉ F := fun hin => by simp [hin] at hF
    have hr : i ∈ Region.ready .any ops listed := by simpa using hc
    obtain ⟨o, ho, h⟩ := h
    have hS' : NoF F (listed.setIfInBounds i true) → S w := fun hn => hS ((noF_set hiF).1 hn)
    by_cases hw : Region.wanted o (yielded ops a.tmps) = true
    · rw [if_pos hw] at h
      obtain ⟨v, hv, h⟩ := h
      exact wpAnyF_first hB hiF ho (Region.noSelect_spec hs) (fun c a w => hQ c a _ _ w) _ listed a w (Region.free_spec ho hfr) hcl hr (.inl ⟨hw, hv⟩) hS (walkP_held hB hs hQ r _ _ w (closed_set hcl hr) hS' hO h)
    · rw [if_neg hw] at h
      exact wpAnyF_first hB hiF ho (Region.noSelect_spec hs) (fun c a w => hQ c a _ _ w) _ listed a w (Region.free_spec ho hfr) hcl hr (.inr ⟨by simpa using hw, rfl⟩) hS (walkP_held hB hs hQ r _ _ w (closed_set hcl hr) hS' hO h)

/-- THE BEGINNING -/
theorem wp_region_plan {id : Nat} {a : Act} {w : World} {s : List Oper} (l : Plan) (H : List Nat) (S : World → Prop) (hm : P.follows .mixedOrders = true)
    (hB : (Region.noSelect s.toArray && l.steps == s.length && planOk .any s.toArray l.lasts l (Array.replicate s.length false) && behindOk .any s.toArray H l.lasts) = true)
    (hQ : ∀ c (a : Act) d v w, Q (.panic c) (a.put d v) w → Q (.panic c) a w)
    (hS : S w.drew) (h : walkP P s.toArray H S Q l a w.drew) : (Code.region id s.toArray true).wp P Q a w := by
  simp only [Bool.and_eq_true, beq_iff_eq] at hB
  refine wp_region_any hm (wpAny_of_F (F := l.lasts) (S := S) _ _ _ _ ?_)
  have := walkP_held hB.2 hB.1.1.1 hQ l (Array.replicate s.length false) a w.drew (fun j oj _ hl => by
    rcases Nat.lt_or_ge j s.length with h' | h'
    · simp [h'] at hl
    · simp [h'] at hl) (fun _ => hS) hB.1.2 h
  rw [hB.1.1.2] at this
  simpa using this
end
attribute [irreducible] walkP
end Go.Proofs.Ytgloidibckopiaa
