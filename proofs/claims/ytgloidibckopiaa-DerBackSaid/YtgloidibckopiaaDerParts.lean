/- Layer 14's Parts, walked: the items of a text, or an error. -/
import Derived.Test.YtgloidibckopiaaDerItems
import Derived.Test.YtgloidibckopiaaAppend
import Derived.Maps.AppendAt
namespace Go.Proofs.Ytgloidibckopiaa
open Go.RowKit Go.Shelf
attribute [local irreducible] Calls
attribute [local go_sem] Oper.semAt_some

/-- the texts at which items are read, and the error -/
def partsR (pre : List ByteArray) : List ByteArray → List ByteArray × Int
  | [] => (pre, 0)
  | x :: r => if nx x = none then ([], 2) else if pre.length = 100 then ([], 9) else partsR (pre ++ [x]) r
theorem partsR_ok (xs : List ByteArray) : ∀ pre, (∀ x ∈ xs, nx x ≠ none) → (pre ++ xs).length ≤ 100 → partsR pre xs = (pre ++ xs, 0) := by
  induction xs with
  | nil => intro pre _ _; simp [partsR]
  | cons x r ih =>
    intro pre h hl
    simp only [List.length_append, List.length_cons] at hl
    rw [partsR, if_neg (h x (by simp)), if_neg (by omega), ih _ (fun y hy => h y (by simp [hy])) (by simp; omega)]
    simp
theorem partsR_bad (p : List ByteArray) (x : ByteArray) (t : List ByteArray) : ∀ pre, (∀ y ∈ p, nx y ≠ none) → (pre ++ p).length ≤ 100 →
    partsR pre (p ++ [x] ++ t) = if nx x = none then ([], 2) else if (pre ++ p).length = 100 then ([], 9) else partsR (pre ++ p ++ [x]) t := by
  induction p with
  | nil => intro pre _ _; simp [partsR]
  | cons y r ih =>
    intro pre h hl
    simp only [List.length_append, List.length_cons] at hl
    have := ih (pre ++ [y]) (fun z hz => h z (by simp [hz])) (by simp; omega)
    simp only [List.cons_append, partsR]
    rw [if_neg (h y (by simp)), if_neg (by omega), this]
    simp

def itCells (x : ByteArray) : List Value := [.int .i64 (nxTag x), .string (nxText x), .string (nxRest x)]
def itRow (pre : List ByteArray) : List Value := pre.flatMap itCells
theorem itRow_snoc (pre : List ByteArray) (x : ByteArray) : itRow (pre ++ [x]) = itRow pre ++ itCells x := by simp [itRow]
theorem itRow_length (pre : List ByteArray) : (itRow pre).length = pre.length * 3 := by
  induction pre with
  | nil => rfl
  | cons x r ih => simp only [itRow, List.flatMap_cons, List.length_append, List.length_cons] at *; rw [ih]; simp [itCells]; omega

theorem infoItem : (Try.prog.info? 24).map (fun i => (i.zero, i.size, i.bytes)) = some (some (.agg #[.int .i64 0, .string ⟨#[]⟩, .string ⟨#[]⟩]), 3, 40) := by kernel_rfl

set_option maxRecDepth 100000 in
set_option maxHeartbeats 400000 in
theorem items_any (s : ByteArray) (w : World) : Calls Try.prog 20 #[.string s] w fun e w' => e = .returned (.func (.func 24) #[] #[.pointer (some ⟨w.heap.size, 0, none⟩)]) ∧ w' = w.alloc (.cells #[.string s] 9) := by
  go_enter Try.func20, Try.ntmps20
  go_wp2
  go_ret
  exact ⟨rfl, rfl⟩

/-- between two rounds -/
def PartsI (w : World) (pre : List ByteArray) (M : Nat) (W : World) : Prop :=
  ((∀ x ∈ pre, nx x ≠ none) ∧ pre.length ≤ 100) ∧ Boxed W w.heap.size 35 (.slice none 0 0) ∧ Boxed W (w.heap.size + 1) 25 (.int .i64 0) ∧
    (∃ v, Boxed W (w.heap.size + 2) 35 v ∧ W.ownsRow (w.heap.size + 4) 24 3 v pre.length (itRow pre) ∧ ∀ g, v.ownBlock = some g → g < M) ∧ Below w.heap.size w W
/-- where a round has left -/
def PartsX (w : World) (c : Code) (pre : List ByteArray) (W : World) : Prop :=
  c = .ret ∧ (∃ p x E, pre = p ++ [x] ∧ (∀ y ∈ p, nx y ≠ none) ∧ p.length ≤ 100 ∧ ((nx x = none ∧ E = 2) ∨ (nx x ≠ none ∧ p.length = 100 ∧ E = 9)) ∧ Boxed W (w.heap.size + 1) 25 (.int .i64 E)) ∧ Boxed W w.heap.size 35 (.slice none 0 0) ∧ Below w.heap.size w W

theorem partsI_bears (w : World) (B M : Nat) (hB : w.heap.size ≤ B) : Bears (fun r => r = w.heap.size + 3) B (fun pre W => PartsI w pre M W) := by
  rintro pre W W' row ⟨h1, h2, h3, ⟨v, h4, h5, h6⟩, h7⟩ hg hr
  have box : ∀ {k : Nat} {t : TypeId} {u : Value}, Boxed W k t u → k ≠ w.heap.size + 3 → Boxed W' k t u := fun hb hk => bears_at hg hr hb (not_minor (by simpa using hk) hb rfl)
  refine ⟨h1, box h2 (by omega), box h3 (by omega), ⟨v, box h4 (by omega), h5.kept hg ?_, h6⟩, bears_below (β := Unit) (Nat.le_refl _) hB (by simp) () W W' row h7 hg hr⟩
  cases hv : v.ownBlock with
  | none => exact .inl rfl
  | some g =>
    refine .inr fun e => ?_
    rcases h5.2 with ⟨rfl, _⟩ | ⟨g', cap, cur, rfl, hb, hh, _⟩
    · simp [Value.ownBlock] at hv
    · have : g' = g := by simpa [Value.ownBlock] using hv
      subst this
      exact not_minor (B := B) (T := fun r => r = w.heap.size + 3) (by omega) hh rfl (hr g' e.symm)
theorem partsX_bears (w : World) (B : Nat) (hB : w.heap.size ≤ B) (c : Code) : Bears (fun r => r = w.heap.size + 3) B (PartsX w c) := by
  rintro pre W W' row ⟨h1, ⟨p, x, E, e1, e2, e3, e4, h2⟩, h3, h7⟩ hg hr
  have box : ∀ {k : Nat} {t : TypeId} {u : Value}, Boxed W k t u → k ≠ w.heap.size + 3 → Boxed W' k t u := fun hb hk => bears_at hg hr hb (not_minor (by simpa using hk) hb rfl)
  exact ⟨h1, ⟨p, x, E, e1, e2, e3, e4, box h2 (by omega)⟩, box h3 (by omega), bears_below (β := Unit) (Nat.le_refl _) hB (by simp) () W W' row h7 hg hr⟩

theorem row_block {W : World} {base : Nat} {e : TypeId} {size n g : Nat} {v : Value} {xs : List Value} (h : W.ownsRow base e size v n xs) (hg : v.ownBlock = some g) : base ≤ g ∧ ∃ cur, W.heap[g]? = some (.cells cur e (0, 0)) := by
  rcases h.2 with ⟨rfl, _⟩ | ⟨g', cap, cur, rfl, hb, hh, _⟩
  · simp [Value.ownBlock] at hg
  · have : g' = g := by simpa [Value.ownBlock] using hg
    subst this
    exact ⟨hb, cur, hh⟩
theorem row_weaken {W : World} {base base' : Nat} {e : TypeId} {size n : Nat} {v : Value} {xs : List Value} (h : W.ownsRow base e size v n xs) (hb : base' ≤ base) : W.ownsRow base' e size v n xs := by
  obtain ⟨h1, h2⟩ := h
  refine ⟨h1, ?_⟩
  rcases h2 with h2 | ⟨g', cap, cur, rfl, hb', hh, r⟩
  · exact .inl h2
  · exact .inr ⟨g', cap, cur, rfl, by omega, hh, r⟩

def PartsPost (s : ByteArray) (w : World) (e : Ending) (w' : World) : Prop :=
  ∃ v, e = .returned (.tuple #[v, .int .i64 (partsR [] (chain s)).2]) ∧ w'.ownsRow w.heap.size 24 3 v (partsR [] (chain s)).1.length (itRow (partsR [] (chain s)).1) ∧ Below w.heap.size w w'

set_option maxRecDepth 100000 in
set_option maxHeartbeats 2000000 in
theorem parts_any (s : ByteArray) (w : World) : Calls Try.prog 12 #[.string s] w (PartsPost s w) := by
  refine (callsIn_wide (n := 3)).1 ?_
  obtain ⟨i0, hi, hz0, hz1, hz2⟩ := info_parts infoItem
  refine callsIn_of_wp_marks Try.func12 rfl trivial ?_ rfl
  simp only [Try.ntmps12, List.size_toArray, List.length_cons, List.length_nil, Nat.reduceAdd, Nat.reduceSub, Array.replicate_succ, Array.replicate_zero, List.push_toArray, List.append_toArray, List.nil_append, List.cons_append]
  gi_wp2_with fail
  refine ⟨trivial, ?_⟩
  refine (callsIn_wide.2 (items_any s _)).mono ?_
  rintro e w' ⟨rfl, rfl⟩
  gi_wp2_with fail
  have b0 := Boxed.new w 35 (.slice none 0 0)
  have b1 := Boxed.new (w.alloc (.cells #[.slice none 0 0] 35)) 25 (.int .i64 0)
  have b2 := Boxed.new ((w.alloc (.cells #[.slice none 0 0] 35)).alloc (.cells #[.int .i64 0] 25)) 35 (.slice none 0 0)
  have b3 := Boxed.new (((w.alloc (.cells #[.slice none 0 0] 35)).alloc (.cells #[.int .i64 0] 25)).alloc (.cells #[.slice none 0 0] 35)) 9 (.string s)
  have hB0 : Below w.heap.size w ((((w.alloc (.cells #[.slice none 0 0] 35)).alloc (.cells #[.int .i64 0] 25)).alloc (.cells #[.slice none 0 0] 35)).alloc (.cells #[.string s] 9)) :=
    ((((Below.refl _ w).alloc (Nat.le_refl _) _).alloc (by simp) _).alloc (by simp; omega) _).alloc (by simp; omega) _
  simp only [World.size_alloc] at b1 b2 b3
  replace b0 := ((b0.alloc (.cells #[.int .i64 0] 25)).alloc (.cells #[.slice none 0 0] 35)).alloc (.cells #[.string s] 9)
  replace b1 := (b1.alloc (.cells #[.slice none 0 0] 35)).alloc (.cells #[.string s] 9)
  replace b2 := b2.alloc (.cells #[.string s] 9)
  have hW0 : ((((w.alloc (.cells #[.slice none 0 0] 35)).alloc (.cells #[.int .i64 0] 25)).alloc (.cells #[.slice none 0 0] 35)).alloc (.cells #[.string s] 9)).heap.size = w.heap.size + 4 := by simp
  generalize (((w.alloc (.cells #[.slice none 0 0] 35)).alloc (.cells #[.int .i64 0] 25)).alloc (.cells #[.slice none 0 0] 35)).alloc (.cells #[.string s] 9) = W0 at *
  have hwW : w.heap.size + 4 ≤ W0.heap.size := by omega
  refine wpIn_rangeFunc_state rfl (fun h => by cases h) (gf := 24) (lb := #[.pointer (some ⟨w.heap.size + 3, 0, none⟩)]) rfl trivial (enters_of Try.func24 (by kernel_rfl) rfl)
    (items1_seq _ (w.heap.size + 3) s W0 b3) (Below.refl _ _) (by rintro r rfl; omega) (fun _ => rfl) (PartsI w) (PartsX w)
    (fun M => partsI_bears w _ M (by omega)) (by rintro pre M M' W hM ⟨h1, h2, h3, ⟨v, h4, h5, h6⟩, h7⟩; exact ⟨h1, h2, h3, ⟨v, h4, h5, fun g hg => Nat.lt_of_lt_of_le (h6 g hg) hM⟩, h7⟩)
    (partsX_bears w _ (by omega)) ⟨⟨by simp, by simp⟩, b0, b1, ⟨_, b2, World.ownsRow_nil _ _ _ _, by simp [Value.ownBlock]⟩, hB0⟩
    (fun x a' W => ∃ Bx, w.heap.size + 4 ≤ Bx ∧ W.heap[Bx]? = some (.cells #[.int .i64 (nxTag x), .string (nxText x), .string (nxRest x)] 24 (0, 0)) ∧
      a' = { tmps := #[.string s, undef, .pointer (some ⟨w.heap.size, 0, none⟩), .pointer (some ⟨w.heap.size + 1, 0, none⟩), .pointer (some ⟨w.heap.size + 2, 0, none⟩), .pointer (some ⟨Bx, 0, none⟩), .int .i64 (nxErr x), .string s,
        .func (.func 24) #[] #[.pointer (some ⟨w.heap.size + 3, 0, none⟩)], .agg #[.int .i64 (nxTag x), .string (nxText x), .string (nxRest x)], .int .i64 (nxErr x), undef, undef, undef, undef, undef, undef, undef, undef, undef, undef, undef], defers := [] })
    (fun x => by rintro a' W W' row ⟨Bx, h1, h2, h3⟩ hg hr; exact ⟨Bx, h1, bears_at hg hr h2 (not_minor (by omega) h2 rfl), h3⟩) ?assign ?body ?done ?stop
  case assign =>
    rintro l pre x M W hM hMW hI
    simp only [nxArgs]
    gi_wp2_with fail
    have hnew := World.alloc_heap_new W (.cells #[.int .i64 (nxTag x), .string (nxText x), .string (nxRest x)] 24)
    exact ⟨Spares.alloc (Nat.le_refl _) _, (partsI_bears w W0.heap.size M (by omega)).alloc _ hI, W.heap.size, by omega, hnew, rfl⟩
  case body =>
    rintro l pre x a' M U W hM hMU hU ⟨⟨hok, hlen⟩, h0, h1, ⟨v, h2, hrow, hbl⟩, hB⟩ ⟨Bx, hBx, hx, rfl⟩
    have c0 := h0.cell; have f0 := h0.frozen; have c1 := h1.cell; have f1 := h1.frozen; have c2 := h2.cell; have f2 := h2.frozen
    have x0 : W.cell? ⟨Bx, 0, none⟩ = some (.int .i64 (nxTag x)) := by simp [World.cell?, hx]
    have x1 : W.cell? ⟨Bx, 1, none⟩ = some (.string (nxText x)) := by simp [World.cell?, hx]
    have x2 : W.cell? ⟨Bx, 2, none⟩ = some (.string (nxRest x)) := by simp [World.cell?, hx]
    have HX := Lib.hid hx; clear hx
    have g0 := h0.set (.slice none 0 0)
    have g1 := h1.kept (grownBy_setCell' W w.heap.size (.slice none 0 0)) (by simp)
    have sp : ∀ u, Spares (fun r => r = w.heap.size + 3) W0.heap.size M U W ((W.setCell ⟨w.heap.size, 0, none⟩ (.slice none 0 0)).setCell ⟨w.heap.size + 1, 0, none⟩ u) := fun u =>
      (Spares.setCell (a := ⟨w.heap.size, 0, none⟩) (.inl (by simp; omega)) (by simp) c0).trans (Spares.setCell (a := ⟨w.heap.size + 1, 0, none⟩) (.inl (by simp; omega)) (by simp) g1.cell)
    have px : ∀ E : Int, (nx x = none ∧ E = 2) ∨ (nx x ≠ none ∧ pre.length = 100 ∧ E = 9) → PartsX w .ret (pre ++ [x]) ((W.setCell ⟨w.heap.size, 0, none⟩ (.slice none 0 0)).setCell ⟨w.heap.size + 1, 0, none⟩ (.int .i64 E)) := fun E hE =>
      ⟨rfl, ⟨pre, x, E, rfl, hok, hlen, hE, g1.set _⟩, g0.kept (grownBy_setCell' _ (w.heap.size + 1) _) (by simp), (hB.setCell (p := ⟨w.heap.size, 0, none⟩) (Nat.le_refl _) _).setCell (p := ⟨w.heap.size + 1, 0, none⟩) (by simp) _⟩
    have SP := Lib.hid sp; have PX := Lib.hid px; clear sp px g0 g1
    by_cases hn : nx x = none
    · have he := nxErr_none hn
      gi_wp2_with fail
      exact ⟨SP.out _, PX.out 2 (.inl ⟨hn, rfl⟩)⟩
    · have he := nxErr_ok hn
      obtain ⟨av, cv, rfl⟩ := own_form hrow
      by_cases h100 : pre.length = 100
      · have h100' : ((pre.length : Int) == 100) = true := by simp [h100]
        gi_wp2_with fail
        exact ⟨SP.out _, PX.out 9 (.inr ⟨hn, h100, rfl⟩)⟩
      · have h100' : ((pre.length : Int) == 100) = false := by simp; omega
        gi_wp2_with (gi_at_builtin; refine wpListIn_append_own _ rfl _ _ 35 rfl (w.heap.size + 4) 24 i0 _ 3 40 Try.underlying35 hi hz0 hz1 hz2 rfl (by decide) _ _ _ rfl (hrow.alloc _) ⟨W.heap.size, 0, none⟩ 1 1 (itCells x) rfl rfl (cells_new W (itCells x) 24) (by simp [itCells, Value.oneCell']) (by simp only [maxLen]; omega) (by omega) (by simp; omega) ?_; intro v' w1 hown' hgrow _; obtain ⟨g', cap', rfl⟩ := ownsRow_succ hown'; have hv1 := (h2.alloc _).kept hgrow (h2.not_row (by decide) hrow); have d1 := hv1.cell; have e1 := hv1.frozen)
        replace hgrow : (W.alloc (.cells #[.int .i64 (nxTag x), .string (nxText x), .string (nxRest x)] 24)).grownBy w1 (Value.slice av pre.length cv).ownBlock := hgrow
        have hnr : ∀ {k : Nat} {t : TypeId} {u : Value}, Boxed W k t u → t ≠ 24 → Boxed w1 k t u := fun hb ht => (hb.alloc _).kept hgrow (hb.not_row ht hrow)
        have k0 := hnr h0 (by decide)
        have k1 := hnr h1 (by decide)
        refine ⟨(Spares.alloc hU _).trans ((Spares.grown (by simp; omega) hgrow ?_).trans (Spares.setCell (a := ⟨w.heap.size + 2, 0, none⟩) (.inl (by simp; omega)) (by simp) d1)), ⟨?_, ?_⟩, ?_, ?_, ⟨_, hv1.set _, ?_, ?_⟩, ?_⟩
        · intro r e hu hm
          have hlt := hbl r e
          obtain ⟨hb, cur, hh⟩ := row_block (hrow.alloc (.cells #[.int .i64 (nxTag x), .string (nxText x), .string (nxRest x)] 24)) e
          rcases hm with hm | hm
          · omega
          · exact not_minor (T := fun r => r = w.heap.size + 3) (by omega) hh rfl hm
        · intro y hy
          rcases List.mem_append.1 hy with hy | hy
          · exact hok y hy
          · simp at hy; subst hy; exact hn
        · simp; omega
        · exact k0.kept (grownBy_setCell' _ _ _) (by simp)
        · exact k1.kept (grownBy_setCell' _ _ _) (by simp)
        · rw [itRow_snoc, List.length_append, List.length_singleton]
          exact hown'.kept (grownBy_setCell' w1 _ _) (.inr (hv1.not_row (by decide) hown').symm)
        · intro g e
          obtain ⟨_, cur, hh⟩ := row_block hown' e
          have := (Array.getElem?_eq_some_iff.1 hh).1
          simpa [World.setCell] using this
        · exact ((hB.alloc hB.size _).grown hgrow (by simp; have := hB.size; omega) (fun k e => by have := (row_block hrow e).1; omega)).setCell (p := ⟨w.heap.size + 2, 0, none⟩) (by simp) _
  case done =>
    rintro D ys W hD rfl ⟨⟨hok, hlen⟩, h0, h1, ⟨v, h2, hrow, hbl⟩, hB⟩ hK
    have hr : partsR [] (chain s) = (chain s, 0) := by simpa using partsR_ok (chain s) [] hok (by simpa using hlen)
    have HR := Lib.hid hr; clear hr
    have c0 := h0.cell; have f0 := h0.frozen; have c1 := h1.cell; have f1 := h1.frozen; have c2 := h2.cell
    obtain ⟨av, cv, rfl⟩ := own_form hrow
    gi_wp2_with fail
    have m0 := (h0.set (.slice av (chain s).length cv)).kept (grownBy_setCell' _ (w.heap.size + 1) (.int .i64 0)) (by simp)
    have m1 := (h1.kept (grownBy_setCell' W w.heap.size (.slice av (chain s).length cv)) (by simp)).set (.int .i64 0)
    have hK' := ((KeepsOthers.setCell W ⟨w.heap.size, 0, none⟩ (.slice av (chain s).length cv)).trans (KeepsOthers.setCell _ ⟨w.heap.size + 1, 0, none⟩ (.int .i64 0))).same D _ hK rfl
    have r1 := hrow.kept (grownBy_setCell' W w.heap.size (.slice av (chain s).length cv)) (.inr (h0.not_row (by decide) hrow).symm)
    have r2 := r1.kept (grownBy_setCell' _ (w.heap.size + 1) (.int .i64 0)) (.inr ((h1.kept (grownBy_setCell' W w.heap.size (.slice av (chain s).length cv)) (by simp)).not_row (by decide) r1).symm)
    have B2 := (hB.setCell (p := ⟨w.heap.size, 0, none⟩) (Nat.le_refl _) (.slice av (chain s).length cv)).setCell (p := ⟨w.heap.size + 1, 0, none⟩) (by simp) (.int .i64 0)
    refine ⟨by simp, .inl ⟨_, _, rfl, run_takeDeferred hK', ?_⟩⟩
    have k0 := cell_kept m0.cell (grownBy_putObj' _ D (.deferred none)) (fun r e => by cases e; exact ⟨_, hK', rfl⟩)
    have k1 := cell_kept m1.cell (grownBy_putObj' _ D (.deferred none)) (fun r e => by cases e; exact ⟨_, hK', rfl⟩)
    have r3 := ownsRow_putObj r2 (.deferred none) hK' rfl
    refine ⟨.tuple #[.slice av (chain s).length cv, .int .i64 0], by simp [results, Try.f12, go_sem, k0, k1], ?_⟩
    show PartsPost s w _ _
    unfold PartsPost
    rw [HR.out]
    exact ⟨_, rfl, row_weaken r3 (by omega), B2.trans (belowK_b (w := w) (Nat.le_refl _) _ D _ _ (by omega) hK' rfl rfl)⟩
  case stop =>
    rintro D c pre W hD hpre ⟨rfl, ⟨p, x, E, rfl, hok, hlen, hE, h1⟩, h0, hB⟩ hK
    have hr : partsR [] (chain s) = ([], E) := by
      obtain ⟨t, ht⟩ := hpre
      rw [← ht, partsR_bad p x t [] hok (by simpa using hlen)]
      rcases hE with ⟨e1, rfl⟩ | ⟨e1, e2, rfl⟩
      · rw [if_pos e1]
      · rw [if_neg e1, if_pos (by simpa using e2)]
    have HR := Lib.hid hr; clear hr
    have c0 := h0.cell; have c1 := h1.cell
    gi_wp2_with fail
    refine ⟨by simp, .inl ⟨_, _, rfl, run_takeDeferred hK, ?_⟩⟩
    have k0 := cell_kept c0 (grownBy_putObj' W D (.deferred none)) (fun r e => by cases e; exact ⟨_, hK, rfl⟩)
    have k1 := cell_kept c1 (grownBy_putObj' W D (.deferred none)) (fun r e => by cases e; exact ⟨_, hK, rfl⟩)
    refine ⟨.tuple #[.slice none 0 0, .int .i64 E], by simp [results, Try.f12, go_sem, k0, k1], ?_⟩
    show PartsPost s w _ _
    unfold PartsPost
    rw [HR.out]
    exact ⟨.slice none 0 0, rfl, World.ownsRow_nil _ _ _ _, hB.trans (belowK_b (w := w) (Nat.le_refl _) W D _ _ (by omega) hK rfl rfl)⟩
end Go.Proofs.Ytgloidibckopiaa
