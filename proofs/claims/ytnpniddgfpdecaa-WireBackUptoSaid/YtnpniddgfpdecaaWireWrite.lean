/- Layer 13's writer, walked: NewWriter, Number, Raw, Opaque, Bytes: each comes to the plain functions of WireWords. -/
import Derived.Test.YtnpniddgfpdecaaWireRead
import Derived.Test.YtnpniddgfpdecaaAppend
import Derived.WalkLawsBesides
import Derived.Outline
namespace Go.Proofs.Ytnpniddgfpdecaa
open Go.RowKit
attribute [local irreducible] Calls

abbrev bcells (l : List UInt8) : List Value := l.map fun b => Value.int .u8 b.toNat
theorem bcells_one (l : List UInt8) : ∀ u ∈ bcells l, u.oneCell' = true := fun u hu => by
  obtain ⟨_, _, rfl⟩ := List.mem_map.1 hu
  rfl

/-- a writer: its block, its row -/
structure Wr (w : World) (base g : Nat) (e : Int) (l : List UInt8) (v : Value) : Prop where
  blk : Blk w g 54 #[.int .i64 e, v]
  own : w.ownsRow base 5 1 v l.length (bcells l)

theorem infoU8 : (Try.prog.info? 5).map (fun i => (i.zero, i.size, i.bytes)) = some (some (.int .u8 0), 1, 1) := by kernel_rfl

theorem Wr.ne {w : World} {base g : Nat} {e : Int} {l : List UInt8} {v : Value} (h : Wr w base g e l v) : some g ≠ v.ownBlock := own_blk_ne h.own h.blk (by decide)
theorem Wr.keep {w w' : World} {base g g' : Nat} {r : Option Nat} {e : Int} {l : List UInt8} {v : Value} (h : Wr w base g e l v) (hk : Keep2 w w' g' r) (hg : g ≠ g') (hr : some g ≠ r) (hv : v.ownBlock ≠ some g') (hvr : v.ownBlock = none ∨ v.ownBlock ≠ r) : Wr w' base g e l v :=
  ⟨h.blk.keep2 hk hg hr, own_keep2 h.own hk hv hvr⟩
theorem Wr.only {w w' : World} {base g g' : Nat} {e : Int} {l : List UInt8} {v : Value} (h : Wr w base g e l v) (hk : w.grownBy w' (some g')) (hg : g ≠ g') (hv : v.ownBlock ≠ some g') : Wr w' base g e l v :=
  ⟨h.blk.grown hk (by simpa using hg), h.own.kept hk (.inr hv)⟩

set_option maxHeartbeats 400000 in
theorem wraw_ok (base g : Nat) (l : List UInt8) (s : ByteArray) (v : Value) (w : World) (h : Wr w base g 0 l v) (hl : l.length + s.size ≤ 4294967296) (hbase : base ≤ w.heap.size) :
    Calls Try.prog 20 #[.pointer (some ⟨g, 0, none⟩), .string s] w fun er w' => er = .returned (.tuple #[]) ∧ ∃ v', Wr w' base g 0 (l ++ s.data.toList) v' ∧ Keep2 w w' g v.ownBlock ∧ NewRow w.heap.size v.ownBlock v'.ownBlock := by
  have hc0 : w.cell? ⟨g, 0, none⟩ = some (.int .i64 0) := h.blk.cell 0
  have hc1 : w.cell? ⟨g, 1, none⟩ = some v := h.blk.cell 1
  have hne := h.ne
  have hb := h.blk
  have hown := h.own
  obtain ⟨a0, c0, rfl⟩ := own_form hown
  obtain ⟨i0, hi, hz0, hz1, hz2⟩ := info_parts infoU8
  go_enter Try.func20, Try.ntmps20
  go_wp2_with (at_builtin; refine wpList_append_src rfl (.tmp 14) (.tmp 15) _ _ rfl base 5 i0 _ 1 1 Try.underlying51 hi hz0 hz1 hz2 rfl _ l.length (bcells l) rfl hown (.string s) s.size (byteCells s) rfl (Src.ofString _ Try.underlying9 s) (by simp only [maxLen]; omega) (by omega) hbase ?_; intro v1 w1 hown1 hg1 _ hat1; obtain ⟨a1, c1, rfl⟩ := own_form hown1; have hb1 := hb.grown hg1 hne; have hd1 : w1.cell? ⟨g, 1, none⟩ = some _ := hb1.cell 1; have hf1 := hb1.frozen 1)
  go_end0
  have hlen : l.length + s.size = (l ++ s.data.toList).length := by simp
  have hcells : bcells l ++ byteCells s = bcells (l ++ s.data.toList) := by simp [bcells, byteCells]
  have hne1 := own_blk_ne hown1 hb1 (by decide)
  refine ⟨rfl, .slice a1 (l.length + s.size) c1, ⟨?_, ?_⟩, (Keep2.of_row hg1 g).set_ 1 _, ?_⟩
  · simpa using hb1.set_ 1 (.slice a1 (l.length + s.size) c1)
  · rw [hcells, hlen] at hown1
    rw [hlen] at hne1 ⊢
    exact own_set hown1 (fun e => hne1 e.symm) _
  · rcases hat1 with e | e
    · exact .inl e
    · exact .inr fun k hk => by rw [e] at hk; cases hk; exact Nat.le_refl _

theorem wraw_any (base g : Nat) (e : Int) (l : List UInt8) (s : ByteArray) (v : Value) (w : World) (h : Wr w base g e l v) (hl : l.length + s.size ≤ 4294967296) (hbase : base ≤ w.heap.size) :
    Calls Try.prog 20 #[.pointer (some ⟨g, 0, none⟩), .string s] w fun er w' => er = .returned (.tuple #[]) ∧ ∃ v', Wr w' base g e (wrB e l s) v' ∧ Keep2 w w' g v.ownBlock ∧ NewRow w.heap.size v.ownBlock v'.ownBlock := by
  by_cases he : e = 0
  · subst he
    simpa [wrB] using wraw_ok base g l s v w h hl hbase
  · have hc0 : w.cell? ⟨g, 0, none⟩ = some (.int .i64 e) := h.blk.cell 0
    have he' : (e == 0) = false := by simpa using he
    go_enter Try.func20, Try.ntmps20
    go_wp2
    go_end0
    exact ⟨rfl, v, by simpa [wrB, he] using h, Keep2.refl _ _ _, .inl rfl⟩

theorem newwriter_any (w : World) :
    Calls Try.prog 18 #[] w fun er w' => er = .returned (.pointer (some ⟨w.heap.size, 0, none⟩)) ∧ w' = w.alloc (.cells #[.int .i64 0, .slice none 0 0] 54) := by
  go_enter Try.func18, Try.ntmps18
  go_wp2
  go_ret
  exact ⟨rfl, rfl⟩
theorem newwriter_wr (w : World) : Wr (w.alloc (.cells #[.int .i64 0, .slice none 0 0] 54)) w.heap.size w.heap.size 0 [] (.slice none 0 0) :=
  ⟨Blk.new w _ _, World.ownsRow_nil _ _ _ _⟩

theorem bytes_any (base g : Nat) (e : Int) (l : List UInt8) (v : Value) (w : World) (h : Wr w base g e l v) :
    Calls Try.prog 22 #[.pointer (some ⟨g, 0, none⟩)] w fun er w' => er = .returned (.tuple #[.string (if e = 0 then ⟨l.toArray⟩ else ⟨#[]⟩), .int .i64 e]) ∧ ∃ n, w' = w.drewN n := by
  have hc0 : w.cell? ⟨g, 0, none⟩ = some (.int .i64 e) := h.blk.cell 0
  have hc1 : w.cell? ⟨g, 1, none⟩ = some v := h.blk.cell 1
  have hown := h.own
  obtain ⟨a0, c0, rfl⟩ := own_form hown
  by_cases he : e = 0
  · subst he
    have kc := run_bytes_own (P := Try.prog) Try.underlying51 Try.underlying5 Try.underlying9 hown
    go_enter Try.func22, Try.ntmps22
    go_wp2
    go_ret2
    exact ⟨rfl, 0, rfl⟩
  · have he' : (e != 0) = true := by simpa using he
    go_enter Try.func22, Try.ntmps22
    go_wp2
    go_quiet (fail)
    go_wp2
    go_ret2
    exact ⟨by simp, _, rfl⟩
end Go.Proofs.Ytnpniddgfpdecaa
