/- A range over a function whose iterator keeps state of its own in cells (a captured variable that it writes, variables that it makes anew for each round): the iterator may turn the blocks of T, which lie ahead of the loop; each round spares them, and whatever the iterator has made since the last round. The contract of such an iterator, and the rule for the loop over it. Over any program. -/
import Derived.RangeFuncNested
import Derived.RangeFuncBound
import Derived.RangeFuncCalls
import Derived.RangeFuncLeaves
import Derived.RangeFuncBox
import Derived.Test.YtgloidibckopiaaRows
namespace Go.Proofs.Ytgloidibckopiaa
open Go.RowKit

/-- what the iterator and the loop's own books may turn: a block of T; from block B on, what is no cells -/
def Minor (T : Nat → Prop) (B : Nat) (W : World) (r : Nat) : Prop := T r ∨ (B ≤ r ∧ ∃ o : Obj, W.heap[r]? = some o ∧ o.isCells = false)
/-- a statement on the world that does not mind it -/
def Bears {β : Type} (T : Nat → Prop) (B : Nat) (J : β → World → Prop) : Prop :=
  ∀ s W W' row, J s W → W.grownBy W' row → (∀ r, row = some r → Minor T B W r) → J s W'
/-- what a round leaves alone: of the blocks below U those from M on, those of T, and what is no cells from B on -/
structure Spares (T : Nat → Prop) (B M U : Nat) (W W' : World) : Prop where
  size : W.heap.size ≤ W'.heap.size
  same : ∀ r, r < U → (M ≤ r ∨ Minor T B W r) → W'.heap[r]? = W.heap[r]?

section
variable {T : Nat → Prop} {B M U : Nat}
theorem Spares.refl (W : World) : Spares T B M U W W := ⟨Nat.le_refl _, fun _ _ _ => rfl⟩
theorem Minor.kept {W W' : World} {r : Nat} (h : Minor T B W r) (he : W'.heap[r]? = W.heap[r]?) : Minor T B W' r := by
  rcases h with h | ⟨hb, o, ho, hc⟩
  · exact .inl h
  · exact .inr ⟨hb, o, he.trans ho, hc⟩
theorem Spares.trans {X Y Z : World} (h : Spares T B M U X Y) (k : Spares T B M U Y Z) : Spares T B M U X Z :=
  ⟨Nat.le_trans h.size k.size, fun r hu hr => (k.same r hu (hr.imp id fun hm => hm.kept (h.same r hu hr))).trans (h.same r hu hr)⟩
theorem Spares.grown {W W' : World} {row : Option Nat} (hU : U ≤ W.heap.size) (hg : W.grownBy W' row) (hr : ∀ r, row = some r → r < U → ¬ (M ≤ r ∨ Minor T B W r)) : Spares T B M U W W' :=
  ⟨hg.size, fun r hu hm => hg.block r (Nat.lt_of_lt_of_le hu hU) (fun e => hr r e.symm hu hm)⟩
theorem Spares.alloc {W : World} (hU : U ≤ W.heap.size) (o : Obj) : Spares T B M U W (W.alloc o) := Spares.grown hU (World.grownBy_alloc W o none) (fun r e => by cases e)
theorem Spares.drew (W : World) : Spares T B M U W W.drew := ⟨Nat.le_refl _, fun _ _ _ => rfl⟩
/-- what holds cells, and is none of T, is no minor block -/
theorem not_minor {W : World} {r : Nat} {o : Obj} (hT : ¬ T r) (ho : W.heap[r]? = some o) (hc : o.isCells = true) : ¬ Minor T B W r := by
  rintro (h | ⟨_, o', ho', hc'⟩)
  · exact hT h
  · rw [ho] at ho'
    cases ho'
    rw [hc] at hc'
    cases hc'
theorem Spares.setCell {W : World} {a : Addr} {v u : Value} (hm : a.block < M ∨ U ≤ a.block) (hT : ¬ T a.block) (hc : W.cell? a = some u) : Spares T B M U W (W.setCell a v) := by
  refine ⟨by simp [World.setCell], fun r hu hr => Below.heap_setCell W a v r ?_⟩
  rintro rfl
  rcases hr with hr | hr
  · omega
  · unfold World.cell? at hc
    cases ho : W.heap[a.block]? with
    | none => rw [ho] at hc; simp at hc
    | some o =>
      refine not_minor hT ho ?_ hr
      cases o <;> simp_all [Obj.isCells]

variable {β : Type} {J : β → World → Prop}
theorem Bears.alloc (h : Bears T B J) {s : β} {W : World} (o : Obj) (hs : J s W) : J s (W.alloc o) := h s W _ none hs (World.grownBy_alloc W o none) (fun r e => by cases e)
theorem Bears.put (h : Bears T B J) {s : β} {W : World} {l : Nat} {o : Obj} (o' : Obj) (hs : J s W) (hB : B ≤ l) (hl : W.heap[l]? = some o) (ho : o.isCells = false) : J s (W.putObj l o') :=
  h s W _ (some l) hs (grownBy_putObj' W l o') (fun r e => by cases e; exact .inr ⟨hB, o, hl, ho⟩)
theorem grownBy_of_below {W W' : World} (h : Below W.heap.size W W') : W.grownBy W' none := ⟨h.os, h.tape, h.output, h.size, fun k hk _ => h.block k hk⟩
theorem Bears.below (h : Bears T B J) {s : β} {W W' : World} (hs : J s W) (hb : Below W.heap.size W W') : J s W' := h s W W' none hs (grownBy_of_below hb) (fun r e => by cases e)
theorem Bears.more {B' : Nat} (h : Bears T B J) (hB : B ≤ B') : Bears T B' J := fun s W W' row hs hg hr => h s W W' row hs hg (fun r e => (hr r e).imp id fun ⟨hb, o, ho⟩ => ⟨Nat.le_trans hB hb, o, ho⟩)
theorem Bears.and {J' : β → World → Prop} (h : Bears T B J) (h' : Bears T B J') : Bears T B (fun s W => J s W ∧ J' s W) := fun s W W' row hs hg hr => ⟨h s W W' row hs.1 hg hr, h' s W W' row hs.2 hg hr⟩
theorem bears_pure (p : β → Prop) : Bears T B (fun s _ => p s) := fun _ _ _ _ hs _ _ => hs
theorem bears_below {n : Nat} {w : World} (hn : n ≤ w.heap.size) (hB : n ≤ B) (hT : ∀ r, T r → n ≤ r) : Bears T B (fun (_ : β) W => Below n w W) :=
  fun _ _ _ _ hs hg hr => hs.grown hg (Nat.le_trans hn hs.size) (fun k e => (hr k e).elim (hT k) fun h => Nat.le_trans hB h.1)
/-- a block that lies there and is not turned -/
theorem bears_at {W W' : World} {row : Option Nat} {k : Nat} {o : Obj} (hg : W.grownBy W' row) (hr : ∀ r, row = some r → Minor T B W r) (hk : W.heap[k]? = some o) (hn : ¬ Minor T B W k) : W'.heap[k]? = some o :=
  (hg.block k (Array.getElem?_eq_some_iff.1 hk).1 (fun e => hn (hr k e.symm))).trans hk
theorem bears_boxed {k : Nat} (hT : ¬ T k) (t : TypeId) (v : β → Value) : Bears T B (fun s W => Boxed W k t (v s)) := fun _ _ _ _ hs hg hr => bears_at hg hr hs (not_minor hT hs rfl)
end

/-- the contract of an iterator that may turn the blocks of T: S: all have come; Sp: it was stopped -/
def SeqS {α : Type} (F : Fence) (n : Nat) (P : Program) (g : Nat) (lb : Array Value) (encs : α → Array Value) (T : Nat → Prop) (S Sp : List α → Prop) (w : World) : Prop :=
  ∀ (l : Nat) (J Jx : List α → World → Prop) (W : World), Below w.heap.size w W → Bears T W.heap.size J → Bears T W.heap.size Jx →
    (∀ pre x W0 W1, J pre W0 → Below W0.heap.size W0 W1 → YieldAt F (n - 1) P l (encs x) W1 fun e W' =>
      (e = .returned (.bool true) ∧ J (pre ++ [x]) W' ∧ W1.heap.size ≤ W'.heap.size ∧ ∀ r, r < W1.heap.size → (W0.heap.size ≤ r ∨ T r) → W'.heap[r]? = W1.heap[r]?) ∨ (e = .returned (.bool false) ∧ Jx (pre ++ [x]) W')) →
    J [] W →
    CallsIn F n P g (#[.func (.yield l) #[] #[]] ++ lb) W fun e W' => (∃ v, e = .returned v) ∧ ((∃ xs, S xs ∧ J xs W') ∨ (∃ pre, Sp pre ∧ Jx pre W'))

/-- how a round may be left -/
def roundS {α : Type} (T : Nat → Prop) (B M U : Nat) (I : List α → Nat → World → Prop) (Ix : Code → List α → World → Prop) (xs : List α) (W : World) : Exit → Act → World → Prop
  | .normal, _, W' => Spares T B M U W W' ∧ I xs W'.heap.size W'
  | .ret, _, W' => Spares T B M U W W' ∧ Ix .ret xs W'
  | .exit id, _, W' => Spares T B M U W W' ∧ Ix (.exit id) xs W'
  | .goto t, _, W' => Spares T B M U W W' ∧ Ix (.goto t) xs W'
  | .panic _, _, _ => False
  | .outgrown, _, _ => False

section
variable {F : Fence} {n : Nat} {P : Program}
/-- I pre M W: what the caller holds between two rounds, its own blocks below M; Ix c: a round has left by the jump c -/
theorem wpIn_rangeFunc_state {α : Type} {g : Operand} {ps : Array Tmp} {assign body : Code} {Q : Exit → Act → World → Prop} {a : Act} {w : World}
    (hro : F.round = none) (h1 : F.depth.isSome = true → 1 ≤ n) {gf : Nat} {lb : Array Value} (hg : a.eval g = .func (.func gf) #[] lb) (hFg : F.fn gf) (eg : ∀ args w, (callFunc gf args).run P w = .ok (.enter gf args) w)
    {encs : α → Array Value} {T : Nat → Prop} {S Sp : List α → Prop} {w0 : World} (hseq : SeqS F (n - 1) P gf lb encs T S Sp w0) (hb0 : Below w0.heap.size w0 w) (hT : ∀ r, T r → r < w.heap.size) (hps : ∀ x, (encs x).size = ps.size)
    (I : List α → Nat → World → Prop) (Ix : Code → List α → World → Prop) (hI : ∀ M, Bears T w.heap.size (fun pre W => I pre M W)) (hmono : ∀ pre M M' W, M ≤ M' → I pre M W → I pre M' W) (hIx : ∀ c, Bears T w.heap.size (Ix c)) (h0 : I [] w.heap.size w)
    (Ax : α → Act → World → Prop) (hAx : ∀ x, Bears T w.heap.size (Ax x))
    (hassign : ∀ (l : Nat) (pre : List α) (x : α) (M : Nat) (W : World), w.heap.size ≤ M → M ≤ W.heap.size → I pre M W →
      assign.wpIn (F.inRound l) (n - 1 - 1) P (Exit.then (fun a' W' => Spares T w.heap.size M W.heap.size W W' ∧ I pre M W' ∧ Ax x a' W') (fun _ _ _ => False)) { tmps := (ps.zip (encs x)).foldl (fun t (p, v) => t.setIfInBounds p v) a.tmps, defers := [] } W)
    (hbody : ∀ (l : Nat) (pre : List α) (x : α) (a' : Act) (M U : Nat) (W : World), w.heap.size ≤ M → M ≤ U → U ≤ W.heap.size → I pre M W → Ax x a' W → body.wpIn (F.inRound l) (n - 1 - 1) P (roundS T w.heap.size M U I Ix (pre ++ [x]) W) a' W)
    (hdone : ∀ (D : Nat) (xs : List α) (W : World), w.heap.size ≤ D → S xs → I xs W.heap.size W → W.heap[D]? = some (.deferred (some [])) → Q .normal { a with defers := { target := .collected D, args := #[] } :: a.defers } W)
    (hstop : ∀ (D : Nat) (c : Code) (pre : List α) (W : World), w.heap.size ≤ D → Sp pre → Ix c pre W → W.heap[D]? = some (.deferred (some [])) → c.wpIn F n P Q { a with defers := { target := .collected D, args := #[] } :: a.defers } W) :
    (Code.rangeFunc g ps assign body).wpIn F n P Q a w := by
  refine wpIn_rangeFunc fun fn hfn => ?_
  rw [hro]
  -- the loop's two blocks: D for the rounds' deferred calls, L for its record
  let rec_ : LoopState → Option Code → Loop := fun st pe => { state := st, pending := pe, fn := fn, tmps := a.tmps, params := ps, assign := assign, body := body, defers := w.heap.size }
  obtain ⟨D, hD⟩ : ∃ D, D = w.heap.size := ⟨_, rfl⟩
  obtain ⟨L, hL⟩ : ∃ L, L = w.heap.size + 1 := ⟨_, rfl⟩
  let Book : Obj → World → Prop := fun o W => W.heap[L]? = some o ∧ W.heap[D]? = some (.deferred (some []))
  let w1 : World := (w.alloc (.deferred (some []))).alloc (.loop (rec_ .ready none))
  have hz1 : w1.heap.size = w.heap.size + 1 + 1 := by simp [w1]
  have hbk1 : Book (.loop (rec_ .ready none)) w1 := by
    constructor
    · have := World.alloc_heap_new (w.alloc (.deferred (some []))) (.loop (rec_ .ready none))
      rw [World.size_alloc] at this
      rw [hL]
      exact this
    · rw [hD]
      exact (Below.heap_alloc _ _ _ (by simp)).trans (World.alloc_heap_new w _)
  have hI1 : I [] w1.heap.size w1 := hmono _ w.heap.size _ _ (by omega) ((hI _).alloc _ ((hI _).alloc _ h0))
  have hb1 : Below w0.heap.size w0 w1 := hb0.trans ((((Below.refl _ w).alloc (Nat.le_refl _) _).alloc (by simp) _).mono hb0.size)
  have hDT : ¬ T D := fun h => by have := hT D h; omega
  have hLT : ¬ T L := fun h => by have := hT L h; omega
  -- the books bear what the iterator turns
  have hbook : ∀ (o : Obj) {W W' : World} {row : Option Nat}, Book o W → W.grownBy W' row → (∀ r, row = some r → Minor T w1.heap.size W r) → Book o W' := by
    intro o W W' row hB hg' hr
    refine ⟨bears_at hg' hr hB.1 ?_, bears_at hg' hr hB.2 ?_⟩
    · rintro (h | ⟨h, _⟩)
      · exact hLT h
      · omega
    · rintro (h | ⟨h, _⟩)
      · exact hDT h
      · omega
  have hJ : Bears T w1.heap.size (fun pre W => I pre W.heap.size W ∧ Book (.loop (rec_ .ready none)) W) := fun s W W' row hs hg' hr =>
    ⟨hmono _ _ _ _ hg'.size (((hI W.heap.size).more (by omega)) s W W' row hs.1 hg' hr), hbook _ hs.2 hg' hr⟩
  have hJx : Bears T w1.heap.size (fun pre W => ∃ c, Ix c pre W ∧ Book (.loop (rec_ .done (some c))) W) := fun s W W' row hs hg' hr => by
    obtain ⟨c, hc, hB⟩ := hs
    exact ⟨c, ((hIx c).more (by omega)) s W W' row hc hg' hr, hbook _ hB hg' hr⟩
  -- a turn of the record: what stays
  have put : ∀ {W : World} {o : Obj} (o' : Obj), W.heap[L]? = some o → W.heap[D]? = some (.deferred (some [])) → Book o' (W.putObj L o') := fun o' h1 h2 =>
    ⟨World.putObj_heap_same (Array.getElem?_eq_some_iff.1 h1).1, (World.putObj_heap_other (by omega)).trans h2⟩
  have hround := hseq L _ _ w1 hb1 hJ hJx (fun pre x W0 W hJ1 hbW => ?_) ⟨hI1, hbk1⟩
  · refine ⟨L, [{ target := .collected D, args := #[] }], w1, { target := .fn (.func gf) lb, args := #[.func (.yield L) #[] #[]] }, w1, gf, #[.func (.yield L) #[] #[]] ++ lb, w1, ?_, ?_, ?_, ?_, h1, ?_⟩
    · rw [hL, hD]
      exact run_enterLoop_outer _ _ _ _ _
    · simp only [resolve, hg]
      simp [go_sem]
    · intro f' hf'
      simp [Target.leads] at hf'
      subst hf'
      exact hFg
    · simp [invoke, go_sem, eg]
    · refine hround.mono ?_
      rintro e W2 ⟨⟨v, rfl⟩, (⟨xs, hS, hi, hB⟩ | ⟨pre, hSp, c, hi, hB⟩)⟩
      · refine ⟨none, _, run_endLoop (P := P) hB.1 (by simp [rec_]), ?_⟩
        exact hdone D xs _ (by omega) hS (by rw [World.putObj_size]; exact (hI _).put _ hi (by omega) hB.1 rfl) (put _ hB.1 hB.2).2
      · refine ⟨some c, _, run_endLoop (P := P) hB.1 (by simp [rec_]), ?_⟩
        exact hstop D c pre _ (by omega) hSp ((hIx c).put _ hi (by omega) hB.1 rfl) (put _ hB.1 hB.2).2
  · -- one round
    obtain ⟨hi0, hl0, hd0⟩ := hJ1
    have hLW0 : L < W0.heap.size := (Array.getElem?_eq_some_iff.1 hl0).1
    have hl : W.heap[L]? = some (.loop (rec_ .ready none)) := (hbW.block L hLW0).trans hl0
    have hd : W.heap[D]? = some (.deferred (some [])) := (hbW.block D (by omega)).trans hd0
    have hi : I pre W0.heap.size W := (hI W0.heap.size).below hi0 hbW
    have hMW : W0.heap.size ≤ W.heap.size := hbW.size
    refine ⟨fn, _, assign, body, run_yield (P := P) (args := encs x) hl (hps x), roundIn_of_wpIn hfn ?_⟩
    refine wpIn_mono (hassign L pre x W0.heap.size W (by omega) hMW hi) ?_
    intro e a1 W1 hp
    cases e with
    | normal =>
      obtain ⟨hs1, hi1, hax⟩ := hp
      have hl1 : W1.heap[L]? = some (.loop (rec_ .ready none)) := (hs1.same L (by omega) (.inr (.inr ⟨by omega, _, hl, rfl⟩))).trans hl
      have hd1 : W1.heap[D]? = some (.deferred (some [])) := (hs1.same D (by omega) (.inr (.inr ⟨by omega, _, hd, rfl⟩))).trans hd
      refine ⟨_, run_beginRound hl1 rfl, ?_⟩
      have hb2 := put (.loop { rec_ .ready none with state := .busy }) hl1 hd1
      have hi2 := (hI W0.heap.size).put (.loop { rec_ .ready none with state := .busy }) hi1 (by omega) hl1 rfl
      have hax2 := hAx x a1 W1 _ (some L) hax (grownBy_putObj' W1 L (.loop { rec_ .ready none with state := .busy })) (fun r e => by cases e; exact .inr ⟨by omega, _, hl1, rfl⟩)
      have hzU : W.heap.size ≤ (W1.putObj L (.loop { rec_ .ready none with state := .busy })).heap.size := by rw [World.putObj_size]; exact hs1.size
      refine wpIn_mono (hbody L pre x a1 W0.heap.size W.heap.size _ (by omega) hMW hzU hi2 hax2) ?_
      have tail : ∀ (jump : Option Code) (W3 : World), Spares T w.heap.size W0.heap.size W.heap.size (W1.putObj L (.loop { rec_ .ready none with state := .busy })) W3 →
          W3.heap[L]? = some (.loop { rec_ .ready none with state := .busy }) ∧ Book (.loop (rec_ (if jump.isNone then .ready else .done) jump)) (W3.putObj L (.loop (rec_ (if jump.isNone then .ready else .done) jump))) ∧
          W.heap.size ≤ (W3.putObj L (.loop (rec_ (if jump.isNone then .ready else .done) jump))).heap.size ∧ ∀ r, r < W.heap.size → (W0.heap.size ≤ r ∨ T r) → (W3.putObj L (.loop (rec_ (if jump.isNone then .ready else .done) jump))).heap[r]? = W.heap[r]? := by
        intro jump W3 hs3
        have hl3 : W3.heap[L]? = some (.loop { rec_ .ready none with state := .busy }) := (hs3.same L (by omega) (.inr (.inr ⟨by omega, _, hb2.1, rfl⟩))).trans hb2.1
        have hd3 : W3.heap[D]? = some (.deferred (some [])) := (hs3.same D (by omega) (.inr (.inr ⟨by omega, _, hb2.2, rfl⟩))).trans hb2.2
        refine ⟨hl3, put _ hl3 hd3, ?_, fun r hu hr => ?_⟩
        · rw [World.putObj_size]
          exact Nat.le_trans hzU hs3.size
        · have hne : r ≠ L := by
            rintro rfl
            rcases hr with hr | hr
            · omega
            · exact hLT hr
          have hr' : ∀ {X : World}, (W0.heap.size ≤ r ∨ Minor T w.heap.size X r) := hr.imp id .inl
          rw [World.putObj_heap_other hne, hs3.same r hu hr', World.putObj_heap_other hne, hs1.same r hu hr']
      intro e a3 W3 hp
      cases e with
      | normal =>
        obtain ⟨hs3, hi3⟩ := hp
        obtain ⟨hl3, hB3, hz3, hT3⟩ := tail none W3 hs3
        exact ⟨_, _, run_endRound (P := P) none hl3, .inl ⟨rfl, ⟨by rw [World.putObj_size]; exact (hI _).put _ hi3 (by omega) hl3 rfl, hB3⟩, hz3, hT3⟩⟩
      | ret =>
        obtain ⟨hs3, hi3⟩ := hp
        obtain ⟨hl3, hB3, _, _⟩ := tail (some .ret) W3 hs3
        exact ⟨_, _, run_endRound (P := P) (some .ret) hl3, .inr ⟨rfl, .ret, (hIx _).put _ hi3 (by omega) hl3 rfl, hB3⟩⟩
      | exit id =>
        obtain ⟨hs3, hi3⟩ := hp
        obtain ⟨hl3, hB3, _, _⟩ := tail (some (.exit id)) W3 hs3
        exact ⟨_, _, run_endRound (P := P) (some (.exit id)) hl3, .inr ⟨rfl, .exit id, (hIx _).put _ hi3 (by omega) hl3 rfl, hB3⟩⟩
      | goto t =>
        obtain ⟨hs3, hi3⟩ := hp
        obtain ⟨hl3, hB3, _, _⟩ := tail (some (.goto t)) W3 hs3
        exact ⟨_, _, run_endRound (P := P) (some (.goto t)) hl3, .inr ⟨rfl, .goto t, (hIx _).put _ hi3 (by omega) hl3 rfl, hB3⟩⟩
      | panic ch => exact hp.elim
      | outgrown => exact hp.elim
    | ret => exact hp.elim
    | exit id => exact hp.elim
    | goto t => exact hp.elim
    | panic ch => exact hp.elim
    | outgrown => exact hp.elim
end
end Go.Proofs.Ytgloidibckopiaa
