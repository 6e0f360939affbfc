/- Words for memory: a block known whole; what is left alone; what a conversion of a string to bytes leaves; small facts on strings and bits. -/
import Derived.Test.YtgloidibckopiaaRows
import Derived.Below
import Derived.Laws.OwnMore
import Derived.Deep.Draws
import Derived.Laws.Rows
import Derived.Maps.AppendAt
import Derived.Lib.ConvBytes
import Derived.Laws.BitsAllLaws
import Derived.Laws.BitsLemmas
import Derived.Laws.Strings
namespace Go.Proofs.Ytgloidibckopiaa
open Go.RowKit

def Blk (w : World) (g : Nat) (t : TypeId) (cs : Array Value) : Prop := w.heap[g]? = some (.cells cs t (0, 0))

section
variable {w w' : World} {g : Nat} {t : TypeId} {cs : Array Value}
theorem Blk.lt (h : Blk w g t cs) : g < w.heap.size := by
  rcases Nat.lt_or_ge g w.heap.size with hlt | hge
  · exact hlt
  · unfold Blk at h; rw [Array.getElem?_eq_none hge] at h; cases h
theorem Blk.cell (h : Blk w g t cs) (i : Nat) : w.cell? ⟨g, i, none⟩ = cs[i]? := cell_of_row w g i cs t (0, 0) h
theorem Blk.frozen (h : Blk w g t cs) (i : Nat) : w.frozen? ⟨g, i, none⟩ = false := by
  unfold Blk at h
  simp [World.frozen?, h]
theorem Blk.new (w : World) (t : TypeId) (cs : Array Value) : Blk (w.alloc (.cells cs t)) w.heap.size t cs := heap_alloc_new w _
theorem Blk.drew (h : Blk w g t cs) : Blk w.drew g t cs := h
theorem Blk.drewN (h : Blk w g t cs) (n : Nat) : Blk (w.drewN n) g t cs := h
theorem Blk.alloc (h : Blk w g t cs) (o : Obj) : Blk (w.alloc o) g t cs := (Below.heap_alloc w o g h.lt).trans h
theorem Blk.set_ (h : Blk w g t cs) (i : Nat) (u : Value) : Blk (w.setCell ⟨g, i, none⟩ u) g t (cs.setIfInBounds i u) := by
  unfold Blk at h ⊢
  simp [World.setCell, Array.getElem?_modify, h]
theorem Blk.far (h : Blk w g t cs) {p : Addr} (hp : g ≠ p.block) (u : Value) : Blk (w.setCell p u) g t cs := (Below.heap_setCell w p u g hp).trans h
theorem Blk.below {B : Nat} (h : Blk w g t cs) (hb : Below B w w') (hg : g < B) : Blk w' g t cs := (hb.block g hg).trans h
theorem Blk.grown {row : Option Nat} (h : Blk w g t cs) (hb : w.grownBy w' row) (hg : some g ≠ row) : Blk w' g t cs := (hb.block g h.lt hg).trans h
end

section
variable {a w w' : World} {g : Nat}
theorem only_refl (w : World) (g : Nat) : w.grownBy w (some g) := ⟨rfl, rfl, rfl, Nat.le_refl _, fun _ _ _ => rfl⟩
theorem only_drewN {row : Option Nat} (h : a.grownBy w row) (n : Nat) : a.grownBy (w.drewN n) row := ⟨h.os, h.tape, h.output, h.size, h.block⟩
theorem only_drew {row : Option Nat} (h : a.grownBy w row) : a.grownBy w.drew row := ⟨h.os, h.tape, h.output, h.size, h.block⟩
theorem only_alloc {row : Option Nat} (h : a.grownBy w row) (o : Obj) : a.grownBy (w.alloc o) row :=
  ⟨h.os, h.tape, h.output, Nat.le_trans h.size (by simp), fun i hi hne => (Below.heap_alloc w o i (Nat.lt_of_lt_of_le hi h.size)).trans (h.block i hi hne)⟩
theorem only_setCell (h : a.grownBy w (some g)) {p : Addr} (hp : p.block = g ∨ a.heap.size ≤ p.block) (u : Value) : a.grownBy (w.setCell p u) (some g) :=
  ⟨h.os, h.tape, h.output, by simpa [World.setCell] using h.size, fun i hi hne => (Below.heap_setCell w p u i (by
    rintro rfl
    rcases hp with hp | hp
    · exact hne (by rw [hp])
    · omega)).trans (h.block i hi hne)⟩
theorem only_trans {a b c : World} {row : Option Nat} (h : a.grownBy b row) (k : b.grownBy c row) : a.grownBy c row := h.trans k
theorem only_below {B : Nat} (h : Below B a w) (hg : w.grownBy w' (some g)) (hB : B ≤ w.heap.size) (hgB : B ≤ g) : Below B a w' :=
  h.grown hg hB (fun k e => by cases e; exact hgB)
theorem below_drewN {B : Nat} (h : Below B a w) (n : Nat) : Below B a (w.drewN n) := ⟨h.os, h.tape, h.output, h.size, h.block⟩
theorem only_of_below (h : Below a.heap.size a w) (row : Option Nat) : a.grownBy w row := ⟨h.os, h.tape, h.output, h.size, fun i hi _ => h.block i hi⟩
end

theorem Blk.bytes {w : World} {g : Nat} {t : TypeId} {cs : Array Value} (h : Blk w g t cs) (e : TypeId) (s : ByteArray) : Blk (Lib.bytesWorld w e s) g t cs := (Lib.bytesWorld_at_old w e s g h.lt).trans h
theorem bytesWorld_os (w : World) (e : TypeId) (s : ByteArray) : (Lib.bytesWorld w e s).os = w.os ∧ (Lib.bytesWorld w e s).tape = w.tape ∧ (Lib.bytesWorld w e s).output = w.output := by
  unfold Lib.bytesWorld World.freeze
  rw [if_neg (by decide)]
  exact ⟨rfl, rfl, rfl⟩
theorem only_bytes {a w : World} {row : Option Nat} (h : a.grownBy w row) (e : TypeId) (s : ByteArray) : a.grownBy (Lib.bytesWorld w e s) row :=
  ⟨(bytesWorld_os w e s).1.trans h.os, (bytesWorld_os w e s).2.1.trans h.tape, (bytesWorld_os w e s).2.2.trans h.output, Nat.le_trans h.size (by rw [Lib.bytesWorld_size]; omega),
    fun i hi hne => (Lib.bytesWorld_at_old w e s i (Nat.lt_of_lt_of_le hi h.size)).trans (h.block i hi hne)⟩

theorem ofInt_i64 (a : Nat) (ha : a < 9223372036854775808) : (BitVec.ofInt 64 (a : Int)).toNat = a := by
  rw [BitVec.ofInt_natCast, BitVec.toNat_ofNat]; exact Nat.mod_eq_of_lt (by omega)
theorem i64_or_nat (a b : Nat) (ha : a < 9223372036854775808) (hb : b < 9223372036854775808) : bits .or .i64 (a : Int) (b : Int) = ((a ||| b : Nat) : Int) := by
  have hx : a ||| b < 2 ^ 63 := Nat.or_lt_two_pow (by omega) (by omega)
  show IntKind.i64.wrap ((BitVec.ofInt 64 (a : Int) ||| BitVec.ofInt 64 (b : Int)).toNat : Int) = _
  rw [BitVec.toNat_or, ofInt_i64 a ha, ofInt_i64 b hb, IntKind.wrap_i64]
  omega
theorem or_byte (a b : Nat) (ha : a < 281474976710656) (hb : b < 256) : bits .or .i64 ((a : Int) * 256) (wrap64 (b : Int)) = ((a * 256 + b : Nat) : Int) := by
  have h1 : wrap64 (b : Int) = (b : Int) := by unfold wrap64; omega
  have h2 : a <<< 8 ||| b = a <<< 8 + b := (Nat.shiftLeft_add_eq_or_of_lt (by omega) a).symm
  rw [Nat.shiftLeft_eq] at h2
  have h3 := i64_or_nat (a * 256) b (by omega) (by omega)
  rw [h1]
  have h4 : ((a : Int) * 256) = ((a * 256 : Nat) : Int) := by simp
  rw [h4, h3]
  simp only [show (2 : Nat) ^ 8 = 256 from rfl] at h2
  rw [h2]

theorem and_mask24 (x : Int) : bits .and .i64 x 16777215 = ((x % 16777216).toNat : Int) := by
  have h : ((BitVec.ofInt 64 x) &&& (BitVec.ofInt 64 16777215)).toNat = (x % 16777216).toNat := by
    have h2 : (BitVec.ofInt 64 16777215).toNat = 2 ^ 24 - 1 := by decide
    rw [BitVec.toNat_and, h2, Nat.and_two_pow_sub_one_eq_mod, BitVec.toNat_ofInt]
    omega
  show IntKind.i64.wrap (((BitVec.ofInt 64 x) &&& (BitVec.ofInt 64 16777215)).toNat : Int) = _
  rw [h, IntKind.wrap_i64]
  omega
theorem cells_new (w : World) (l : List Value) (t : TypeId) : ∀ j u, l[j]? = some u → (w.alloc (.cells l.toArray t)).cell? ((⟨w.heap.size, 0, none⟩ : Addr).add j) = some u := by
  intro j u hj
  have h : (⟨w.heap.size, 0, none⟩ : Addr).add j = ⟨w.heap.size, j, none⟩ := by
    unfold Addr.add
    by_cases h0 : j = 0
    · subst h0; rfl
    · rw [if_neg h0]; simp
  rw [h, Blk.cell (Blk.new w t l.toArray) j]
  simpa using hj
theorem cells_at (w : World) (l : List Value) (t : TypeId) (g : Nat) (hg : w.heap.size = g) : ∀ j u, l[j]? = some u → (w.alloc (.cells l.toArray t)).cell? ((⟨g, 0, none⟩ : Addr).add j) = some u := by
  subst hg
  exact cells_new w l t
theorem shl_one (k : Nat) (h : k ≤ 7) : Op.shift .shl .i64 1 .i64 (8 * (k : Int)) = pure (.int .i64 ((256 ^ k : Nat) : Int)) := by
  match k, h with
  | 0, _ => rfl
  | 1, _ => rfl
  | 2, _ => rfl
  | 3, _ => rfl
  | 4, _ => rfl
  | 5, _ => rfl
  | 6, _ => rfl
  | 7, _ => rfl
theorem shr_nat (n c : Nat) (h : c ≤ 63) : Op.shift .shr .i64 (n : Int) .i64 (c : Int) = pure (.int .i64 ((n / 2 ^ c : Nat) : Int)) := by
  have hm : min c 64 = c := by omega
  simp only [Op.shift, IntKind.bits, Int.toNat_natCast, hm]
  rw [if_neg (by omega)]
  rw [Int.fdiv_eq_ediv_of_nonneg _ (by have : (0 : Int) < 2 ^ c := Int.pow_pos (by decide); omega)]
  simp
theorem empty_of_size {s : ByteArray} (h : s.size = 0) : s.toList.isEmpty = true := by
  rw [Go.ByteArray.toList_eq, List.isEmpty_iff]
  exact List.eq_nil_of_length_eq_zero (by simpa using h)
theorem nonempty_of_size {s : ByteArray} (h : ¬ s.size = 0) : s.toList.isEmpty = false := by
  rw [Go.ByteArray.toList_eq]
  cases hl : s.data.toList with
  | nil =>
    exfalso
    apply h
    have : s.data.toList.length = 0 := by rw [hl]; rfl
    simpa using this
  | cons x l => rfl

/-- what a step leaves alone: all old blocks but the object's own and its row's -/
structure Keep2 (w w' : World) (g : Nat) (r : Option Nat) : Prop where
  os : w'.os = w.os
  tape : w'.tape = w.tape
  output : w'.output = w.output
  size : w.heap.size ≤ w'.heap.size
  block : ∀ k, k < w.heap.size → k ≠ g → some k ≠ r → w'.heap[k]? = w.heap[k]?
/-- a row's block behind a step: as before, or new -/
def NewRow (n : Nat) (r r' : Option Nat) : Prop := r' = r ∨ ∀ k, r' = some k → n ≤ k
section
variable {w w' w1 : World} {g : Nat} {r r1 : Option Nat}
theorem NewRow.same {n : Nat} : NewRow n r r := .inl rfl
theorem Keep2.refl (w : World) (g : Nat) (r : Option Nat) : Keep2 w w g r := ⟨rfl, rfl, rfl, Nat.le_refl _, fun _ _ _ _ => rfl⟩
theorem Keep2.of_only (h : w.grownBy w' (some g)) (r : Option Nat) : Keep2 w w' g r := ⟨h.os, h.tape, h.output, h.size, fun k hk hg _ => h.block k hk (fun e => hg (by injection e))⟩
theorem Keep2.of_row (h : w.grownBy w' r) (g : Nat) : Keep2 w w' g r := ⟨h.os, h.tape, h.output, h.size, fun k hk _ hr => h.block k hk hr⟩
theorem Keep2.trans (h : Keep2 w w1 g r) (h1 : Keep2 w1 w' g r1) (hn : NewRow w.heap.size r r1) : Keep2 w w' g r :=
  ⟨h1.os.trans h.os, h1.tape.trans h.tape, h1.output.trans h.output, Nat.le_trans h.size h1.size, fun k hk hg hr => by
    refine (h1.block k (Nat.lt_of_lt_of_le hk h.size) hg ?_).trans (h.block k hk hg hr)
    rcases hn with e | e
    · rw [e]; exact hr
    · intro e'
      have := e k e'.symm
      omega⟩
theorem NewRow.trans {r2 : Option Nat} {n m : Nat} (h : NewRow n r r1) (h1 : NewRow m r1 r2) (hnm : n ≤ m) : NewRow n r r2 := by
  rcases h1 with rfl | h1
  · exact h
  · exact .inr fun k hk => Nat.le_trans hnm (h1 k hk)
theorem Keep2.drew (h : Keep2 w w' g r) : Keep2 w w'.drew g r := ⟨h.os, h.tape, h.output, h.size, h.block⟩
theorem Keep2.drewN (h : Keep2 w w' g r) (n : Nat) : Keep2 w (w'.drewN n) g r := ⟨h.os, h.tape, h.output, h.size, h.block⟩
theorem Keep2.alloc (h : Keep2 w w' g r) (o : Obj) : Keep2 w (w'.alloc o) g r :=
  ⟨h.os, h.tape, h.output, Nat.le_trans h.size (by simp), fun i hi hg hne => (Below.heap_alloc w' o i (Nat.lt_of_lt_of_le hi h.size)).trans (h.block i hi hg hne)⟩
theorem Keep2.set_ (h : Keep2 w w' g r) (i : Nat) (u : Value) : Keep2 w (w'.setCell ⟨g, i, none⟩ u) g r :=
  ⟨h.os, h.tape, h.output, by simpa [World.setCell] using h.size, fun k hk hg hr => (Below.heap_setCell w' ⟨g, i, none⟩ u k (by simpa using hg)).trans (h.block k hk hg hr)⟩
theorem Keep2.row (h : Keep2 w w1 g r) (h1 : w1.grownBy w' r1) (hn : NewRow w.heap.size r r1) : Keep2 w w' g r := h.trans (Keep2.of_row h1 g) hn
theorem Blk.keep2 {g' : Nat} {t : TypeId} {cs : Array Value} (h : Blk w g' t cs) (hk : Keep2 w w' g r) (hg : g' ≠ g) (hr : some g' ≠ r) : Blk w' g' t cs := (hk.block g' h.lt hg hr).trans h
theorem Keep2.below {B : Nat} {a : World} (h : Below B a w) (hk : Keep2 w w' g r) (hB : B ≤ w.heap.size) (hg : B ≤ g) (hr : ∀ k, r = some k → B ≤ k) : Below B a w' :=
  h.trans ⟨hk.os, hk.tape, hk.output, hk.size, fun k hlt => hk.block k (by omega) (by omega) (fun e => by have := hr k e.symm; omega)⟩
theorem Blk.ne_ {g' : Nat} {t t' : TypeId} {cs cs' : Array Value} (h : Blk w g t cs) (h' : Blk w g' t' cs') (hne : t ≠ t') : g ≠ g' := by
  rintro rfl
  unfold Blk at h h'
  rw [h] at h'
  injection h' with h'
  injection h' with _ ht
  exact hne ht
theorem own_blk_ne {base : Nat} {e t : TypeId} {size n : Nat} {v : Value} {xs : List Value} {cs : Array Value} (h : w.ownsRow base e size v n xs) (hg : Blk w g t cs) (hne : e ≠ t) : some g ≠ v.ownBlock := by
  rcases h.2 with ⟨rfl, _⟩ | ⟨g', cap, cur, rfl, _, hh, _⟩
  · simp [Value.ownBlock]
  · intro he
    have : g = g' := by simpa [Value.ownBlock] using he
    subst this
    exact Blk.ne_ (t := e) hh hg hne rfl
theorem own_own_ne {base base' : Nat} {e e' : TypeId} {size size' n n' : Nat} {v v' : Value} {xs xs' : List Value} (h : w.ownsRow base e size v n xs) (h' : w.ownsRow base' e' size' v' n' xs') (hne : e ≠ e') : v.ownBlock = none ∨ v.ownBlock ≠ v'.ownBlock := by
  rcases h.2 with ⟨rfl, _⟩ | ⟨g, cap, cur, rfl, _, hh, _⟩
  · exact .inl rfl
  · exact .inr (own_blk_ne (g := g) (t := e) (cs := cur) h' hh (Ne.symm hne))
theorem own_keep2 {base : Nat} {e : TypeId} {size n : Nat} {v : Value} {xs : List Value} (h : w.ownsRow base e size v n xs) (hk : Keep2 w w' g r) (hg : v.ownBlock ≠ some g) (hr : v.ownBlock = none ∨ v.ownBlock ≠ r) : w'.ownsRow base e size v n xs := by
  rcases h.2 with ⟨rfl, rfl⟩ | ⟨g', cap, cur, rfl, hb, hh, rest⟩
  · exact ⟨h.1, .inl ⟨rfl, rfl⟩⟩
  · have hlt : g' < w.heap.size := (Array.getElem?_eq_some_iff.1 hh).1
    refine ⟨h.1, .inr ⟨g', cap, cur, rfl, hb, (hk.block g' hlt ?_ ?_).trans hh, rest⟩⟩
    · intro e'; apply hg; simp [Value.ownBlock, e']
    · rcases hr with hr | hr
      · simp [Value.ownBlock] at hr
      · exact fun e' => hr (by simpa [Value.ownBlock] using e')
theorem own_set {base : Nat} {e : TypeId} {size n : Nat} {v : Value} {xs : List Value} (h : w.ownsRow base e size v n xs) {p : Addr} (hp : v.ownBlock ≠ some p.block) (u : Value) : (w.setCell p u).ownsRow base e size v n xs := by
  rcases h.2 with ⟨rfl, rfl⟩ | ⟨g', cap, cur, rfl, hb, hh, rest⟩
  · exact ⟨h.1, .inl ⟨rfl, rfl⟩⟩
  · exact ⟨h.1, .inr ⟨g', cap, cur, rfl, hb, (Below.heap_setCell w p u g' (fun e' => hp (by simp [Value.ownBlock, e']))).trans hh, rest⟩⟩
end
end Go.Proofs.Ytgloidibckopiaa
