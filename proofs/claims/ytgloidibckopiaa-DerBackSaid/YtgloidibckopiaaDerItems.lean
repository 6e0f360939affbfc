/- Layer 14's items: the iterator, walked: it hands on each item, and stops where a round says so or at an error. -/
import Derived.Test.YtgloidibckopiaaGNext
import Derived.Test.YtgloidibckopiaaDerChain
import Derived.Test.YtgloidibckopiaaRange
import Derived.Shelf.Abstract
import Derived.Shelf.RegionOpen
import Derived.WalkKit
import Derived.OwnWalkIn
import Derived.TacticsInMore
import Derived.LoopNIn
import Derived.LoopIn
import Derived.Outline
namespace Go.Proofs.Ytgloidibckopiaa
open Go.RowKit Go.Shelf
attribute [local irreducible] Calls
attribute [local go_sem] Oper.semAt_some

/-- how long the text in a block is -/
def boxLen (B : Nat) (W : World) : Nat := match W.cell? ⟨B, 0, none⟩ with | some (.string s) => s.size | _ => 0
theorem boxLen_of {B : Nat} {W : World} {t : TypeId} {s : ByteArray} (h : Boxed W B t (.string s)) : boxLen B W = s.size := by unfold boxLen; rw [h.cell]
def nxArgs (s : ByteArray) : Array Value := #[.agg #[.int .i64 (nxTag s), .string (nxText s), .string (nxRest s)], .int .i64 (nxErr s)]

theorem empty_facts {s : ByteArray} (h : s.size = 0) : s.toList = [] ∧ s.toList.isEmpty = true := by
  have : s.toList = [] := by rw [ByteArray.toList_eq]; exact List.eq_nil_of_length_eq_zero (by simpa using h)
  rw [this]; exact ⟨rfl, rfl⟩
theorem full_facts {s : ByteArray} (h : ¬ s.size = 0) : ¬ s.toList = [] ∧ s.toList.isEmpty = false := by
  have : ¬ s.toList = [] := by
    rw [ByteArray.toList_eq]
    intro e
    have := congrArg List.length e
    have hl : s.data.toList.length = s.size := by simp
    rw [hl] at this
    exact h this
  exact ⟨this, by cases hs : s.toList with | nil => exact absurd hs this | cons a l => rfl⟩

set_option maxRecDepth 100000 in
set_option maxHeartbeats 2000000 in
theorem items1_seq (n Bs : Nat) (s : ByteArray) (w : World) (hs : Boxed w Bs 9 (.string s)) :
    SeqS Fence.wide n Try.prog 24 #[.pointer (some ⟨Bs, 0, none⟩)] nxArgs (fun r => r = Bs) (fun xs => xs = chain s) (fun pre => pre <+: chain s) w := by
  intro l J Jx W hW hJ hJx hY h0
  have hb : Boxed W Bs 9 (.string s) := (hW.block Bs hs.lt).trans hs
  have HY := Lib.hid hY; clear hY
  refine callsIn_of_wp Try.func24 rfl trivial ?_ rfl
  simp only [Try.ntmps24, List.size_toArray, List.length_cons, List.length_nil, Nat.reduceAdd, Nat.reduceSub, Array.replicate_succ, Array.replicate_zero, List.push_toArray, List.append_toArray, List.nil_append, List.cons_append]
  gi_wp2_with fail
  gi_loopw [3, 4] (fun _ _ wr => ∃ (pre : List ByteArray) (sk : ByteArray), chain s = pre ++ chain sk ∧ Boxed wr Bs 9 (.string sk) ∧ J pre wr) (fun _ _ wr => boxLen Bs wr)
  case atStart => exact ⟨[], s, rfl, hb, h0⟩
  case round =>
    obtain ⟨pre, sk, hx, hbk, hJk⟩ := hrel
    have HX := Lib.hid hx; clear hx
    have hc := hbk.cell
    by_cases hz : sk.size = 0
    · obtain ⟨e1, e2⟩ := empty_facts hz
      gi_wp2_with fail
      go_end0
      exact ⟨⟨_, rfl⟩, .inl ⟨pre, by rw [HX.out, chain_empty hz, List.append_nil], hJk⟩⟩
    · obtain ⟨e1, e2⟩ := full_facts hz
      gi_wp2_with fail
      refine ⟨trivial, (fun h => by cases h), ?_⟩
      refine (callsIn_wide.2 (G.der_Next.calls sk _ _ _ _ _ rfl)).mono ?_
      rintro e w2 ⟨rfl, hB2⟩
      have hB3 : Below wr.heap.size wr (w2.alloc (.cells #[.int .i64 (nxTag sk), .string (nxText sk), .string (nxRest sk)] 24)) := hB2.alloc hB2.size _
      have hbk2 := hbk.kept (grownBy_of_below hB3) (by simp)
      have hnew := World.alloc_heap_new w2 (.cells #[.int .i64 (nxTag sk), .string (nxText sk), .string (nxRest sk)] 24)
      obtain ⟨fn, tmps, assign, body, hy, hR⟩ := HY.out pre sk _ _ hJk hB3
      dsimp only [nxArgs] at hy
      gi_wp2_with fail
      refine ⟨(fun h => by cases h), ?_⟩
      refine hR.mono ?_
      rintro e W3 (⟨rfl, hJ3, hz3, hk3⟩ | ⟨rfl, hJx3⟩)
      · have hx3 : W3.heap[w2.heap.size]? = some (.cells #[.int .i64 (nxTag sk), .string (nxText sk), .string (nxRest sk)] 24) := (hk3 w2.heap.size (by simp) (.inl hB2.size)).trans hnew
        have hs3 : Boxed W3 Bs 9 (.string sk) := (hk3 Bs hbk2.lt (.inr rfl)).trans hbk2
        have c2 : W3.cell? ⟨w2.heap.size, 2, none⟩ = some (.string (nxRest sk)) := by simp [World.cell?, hx3]
        have c3 := hs3.cell
        have f3 := hs3.frozen
        have HH := Lib.hid hx3; clear hx3
        by_cases hn : nx sk = none
        · have he := nxErr_none hn
          gi_wp2_with fail
          refine bodyPost_ret (results_none rfl _ _ _) rfl ?_
          exact ⟨⟨_, rfl⟩, .inl ⟨pre ++ [sk], by rw [HX.out, chain_bad hz hn], hJ3⟩⟩
        · have he := nxErr_ok hn
          gi_wp2_with fail
          go_roundw
          case rel => exact ⟨pre ++ [sk], nxRest sk, by rw [HX.out, chain_ok hz hn, List.append_assoc]; rfl, hs3.set _, hJ _ W3 _ (some Bs) hJ3 (grownBy_setCell' W3 Bs _) (fun r e => by cases e; exact .inl rfl)⟩
          case measure => rw [boxLen_of (hs3.set _), boxLen_of hbk]; exact nxRest_lt hz hn
      · gi_wp2_with fail
        refine bodyPost_ret (results_none rfl _ _ _) rfl ?_
        exact ⟨⟨_, rfl⟩, .inr ⟨pre ++ [sk], by
          rw [HX.out]
          by_cases hn : nx sk = none
          · rw [chain_bad hz hn]; exact List.prefix_refl _
          · rw [chain_ok hz hn]; exact ⟨_, by rw [List.append_assoc]; rfl⟩, hJx3⟩⟩
end Go.Proofs.Ytgloidibckopiaa
