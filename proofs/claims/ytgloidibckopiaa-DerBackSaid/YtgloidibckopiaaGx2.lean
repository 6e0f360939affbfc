/- Printed by wip/tools/gprint.py, a program of mine that runs the print program of the kit with contracts of mine in the place of what that does not take. Lean checks it. -/
import Derived.Test.YtgloidibckopiaaGx0
import Derived.Test.YtgloidibckopiaaGx1
namespace Go.Proofs.Ytgloidibckopiaa.G
open Go.RowKit Go.Proofs.YtgloidibckopiaaW.PrintWords Go.Proofs.YtgloidibckopiaaW.PrintLast Go.Proofs.YtgloidibckopiaaW.PrintMore
attribute [local go_sem] max2_int min2_int max_two min_two max_three min_three max_four min_four   -- for this text's walks alone
set_option linter.unusedVariables false
set_option linter.unusedSimpArgs false

/-! ### der_Strip: function 17 -/
mutual
def der_Strip.l0 : Nat → ByteArray → Int → Bool → List (S24) → Int → Int → Option (ByteArray × Bool × Int)
 | 0, _, _, _, _, _, _ => none
 | k + 1, x6, x7, x8, x21, x22, x23 => if x23 < x22 then (if 0 ≤ x23 then (if x23 < (x21.length : Int) then ((der_wrap.f ((rd_T24 x21 x23).f0) ((rd_T24 x21 x23).f1)).bind fun t143 => (if ((rd_T24 x21 x23).f0) = 163 then (der_Strip.j1 k x6 x7 x8 t143 x21 x22 x23 (!x8) ((rd_T24 x21 x23).f0) ((rd_T24 x21 x23).f1) ((rd_T24 x21 x23).f2)) else (der_Strip.j1 k x6 x7 x8 t143 x21 x22 x23 false ((rd_T24 x21 x23).f0) ((rd_T24 x21 x23).f1) ((rd_T24 x21 x23).f2)))) else (none)) else (none)) else (if x7 > 1 then (some ((⟨#[]⟩ : ByteArray), false, 2)) else (if x7 = 0 then (some ((⟨#[]⟩ : ByteArray), false, 0)) else ((der_wrap.f 48 x6).bind fun t147 => (some (t147, true, 0)))))
def der_Strip.j1 : Nat → ByteArray → Int → Bool → ByteArray → List (S24) → Int → Int → Bool → Int → ByteArray → ByteArray → Option (ByteArray × Bool × Int)
 | 0, _, _, _, _, _, _, _, _, _, _, _ => none
 | k + 1, x6, x7, x8, x11, x21, x22, x23, x38, x143000, x143001, x143002 => if x38 = true then ((der_clean.f k x143001).bind fun bt144 => (if bt144.2.2 = true then (if x6.size + bt144.1.size ≤ 9223372036854775807 then (der_Strip.l0 k (x6 ++ bt144.1) bt144.2.1 true x21 x22 (wrap64 (x23 + 1))) else (none)) else (some ((⟨#[]⟩ : ByteArray), false, 2)))) else (if x6.size + x11.size ≤ 9223372036854775807 then (der_Strip.l0 k (x6 ++ x11) x7 x8 x21 x22 (wrap64 (x23 + 1))) else (none))
end
def der_Strip.f (k : Nat) (a0 : ByteArray) : Option (ByteArray × Bool × Int) := (der_body.f k a0).bind fun bt137 => (if bt137.2 = 0 then (der_Strip.l0 k (⟨#[]⟩ : ByteArray) 0 false bt137.1 (bt137.1.length : Int) 0) else (some ((⟨#[]⟩ : ByteArray), false, bt137.2)))
theorem der_Strip.mono_l : ∀ k, (∀ y0 y1 y2 y3 y4 y5, LeO (der_Strip.l0 k y0 y1 y2 y3 y4 y5) (der_Strip.l0 (k + 1) y0 y1 y2 y3 y4 y5)) ∧ (∀ y0 y1 y2 y3 y4 y5 y6 y7 y8 y9 y10, LeO (der_Strip.j1 k y0 y1 y2 y3 y4 y5 y6 y7 y8 y9 y10) (der_Strip.j1 (k + 1) y0 y1 y2 y3 y4 y5 y6 y7 y8 y9 y10))
 | 0 => ⟨fun _ _ _ _ _ _ r h => by simp [der_Strip.l0] at h, fun _ _ _ _ _ _ _ _ _ _ _ r h => by simp [der_Strip.j1] at h⟩
 | k + 1 => by
  obtain ⟨ih0, ih1⟩ := der_Strip.mono_l k
  refine ⟨?_, ?_⟩
  ·
   intro y0 y1 y2 y3 y4 y5
   unfold der_Strip.l0
   repeat' first
   | (with_reducible exact ih0 _ _ _ _ _ _)
   | (with_reducible exact ih1 _ _ _ _ _ _ _ _ _ _ _)
   | (with_reducible exact der_body.mono _ _)
   | (with_reducible exact der_clean.mono _ _)
   | (with_reducible exact LeO.refl _)
   | (with_reducible exact LeO.none _)
   | (with_reducible refine LeO.ite ?_ ?_)
   | (with_reducible refine LeO.bind ?_ (fun _ => ?_))
   | exact ih0 _ _ _ _ _ _
   | exact ih1 _ _ _ _ _ _ _ _ _ _ _
   | exact der_body.mono _ _
   | exact der_clean.mono _ _
   | exact LeO.none _
   | refine LeO.ite ?_ ?_
   | refine LeO.bind ?_ (fun _ => ?_)
  ·
   intro y0 y1 y2 y3 y4 y5 y6 y7 y8 y9 y10
   unfold der_Strip.j1
   repeat' first
   | (with_reducible exact ih0 _ _ _ _ _ _)
   | (with_reducible exact ih1 _ _ _ _ _ _ _ _ _ _ _)
   | (with_reducible exact der_body.mono _ _)
   | (with_reducible exact der_clean.mono _ _)
   | (with_reducible exact LeO.refl _)
   | (with_reducible exact LeO.none _)
   | (with_reducible refine LeO.ite ?_ ?_)
   | (with_reducible refine LeO.bind ?_ (fun _ => ?_))
   | exact ih0 _ _ _ _ _ _
   | exact ih1 _ _ _ _ _ _ _ _ _ _ _
   | exact der_body.mono _ _
   | exact der_clean.mono _ _
   | exact LeO.none _
   | refine LeO.ite ?_ ?_
   | refine LeO.bind ?_ (fun _ => ?_)
theorem der_Strip.mono : ∀ a0 k, LeO (der_Strip.f k a0) (der_Strip.f (k + 1) a0) := by
 intro a0 k
 obtain ⟨ih0, ih1⟩ := der_Strip.mono_l k
 unfold der_Strip.f
 repeat' first
   | (with_reducible exact ih0 _ _ _ _ _ _)
   | (with_reducible exact ih1 _ _ _ _ _ _ _ _ _ _ _)
   | (with_reducible exact der_body.mono _ _)
   | (with_reducible exact der_clean.mono _ _)
   | (with_reducible exact LeO.refl _)
   | (with_reducible exact LeO.none _)
   | (with_reducible refine LeO.ite ?_ ?_)
   | (with_reducible refine LeO.bind ?_ (fun _ => ?_))
   | exact ih0 _ _ _ _ _ _
   | exact ih1 _ _ _ _ _ _ _ _ _ _ _
   | exact der_body.mono _ _
   | exact der_clean.mono _ _
   | exact LeO.none _
   | refine LeO.ite ?_ ?_
   | refine LeO.bind ?_ (fun _ => ?_)
set_option maxHeartbeats 8000000 in
set_option maxRecDepth 100000 in
theorem der_Strip.calls (k : Nat) (a0 : ByteArray) (r1 : ByteArray) (r2 : Bool) (r3 : Int) (w : World) (h : der_Strip.f k a0 = some (r1, r2, r3)) :
  Calls Try.prog 17 #[.string a0] w fun e w' => e = .returned (.tuple #[.string r1, .bool r2, .int .i64 r3]) ∧ Below w.heap.size w w' := by
 have hu24 := Try.underlying24
 have HB := Aside0.mk (Below.refl w.heap.size w)
 have H : ((der_body.f k a0).bind fun bt137 => (if bt137.2 = 0 then (der_Strip.l0 k (⟨#[]⟩ : ByteArray) 0 false bt137.1 (bt137.1.length : Int) 0) else (some ((⟨#[]⟩ : ByteArray), false, bt137.2)))) = some (r1, r2, r3) := h
 clear h
 replace H := Option.bind_eq_some_iff.mp H
 obtain ⟨⟨t137, t138⟩, A20, H⟩ := H
 replace H : (if t138 = 0 then (der_Strip.l0 k (⟨#[]⟩ : ByteArray) 0 false t137 (t137.length : Int) 0) else (some ((⟨#[]⟩ : ByteArray), false, t138))) = some (r1, r2, r3) := H
 have A2 := Aside0.mk A20
 clear A20
 by_cases c3 : t138 = 0
 ·
  rw [if_pos c3] at H
  have c3b0 : (t138 == 0) = true := beq_iff_eq.mpr c3
  have c3b1 : (t138 != 0) = false := bne_eq_false_iff_eq.mpr c3
  clear c3
  have H' := Aside0.mk H
  clear H
  go_enter Try.func17, Try.ntmps17
  go_wp2_with (first | ((with_reducible refine gate_callee (f := 21) rfl ?_); refine goesL_ (some 15) rfl rfl Try.func21 (by kernel_rfl) rfl #[.string a0] rfl (by (try simp only [List.map_toArray, List.map_cons, List.map_nil]); first | done | rfl | (simp only [List.length_drop, List.length_take]; rfl)) ?_; (with_reducible refine (der_body.calls k a0 t137 t138 _ A2.out).mono ?_); rintro e w4 ⟨v139, rfl, ho0, hb⟩; refine ⟨_, rfl, ?_⟩; have n0_ := Aside0.mk (Kd.R_lower ho0 (below_size (by repeat (first | (with_reducible first | exact HB.out | apply below_alloc | apply pw_below_drewN | apply below_drew1) | exact HB.out)))); have n1_ := Aside0.mk (below_step (by repeat (first | (with_reducible first | exact HB.out | apply below_alloc | apply pw_below_drewN | apply below_drew1) | exact HB.out)) hb); clear HB; have HO140 := n0_; have HB := n1_; clear n0_ n1_; (try clear hb); (try clear hb2); (try clear hk); (try clear hi); (try clear ho0); obtain ⟨Ao5, co5, eo5⟩ := Kd.R_slice HO140.out; subst eo5))
  go_loopg [6, 7, 8, 23] k (fun kq v6 v7 v8 v23 w' => ∃ (x6_1 : ByteArray) (x7_1 : Int) (x8_1 : Bool) (x23_1 : Int), v6 = .string x6_1 ∧ v7 = .int .i64 x7_1 ∧ v8 = .bool x8_1 ∧ v23 = .int .i64 x23_1 ∧ Aside0 (der_Strip.l0 kq x6_1 x7_1 x8_1 t137 (t137.length : Int) x23_1 = some (r1, r2, r3)) ∧ Aside0 (kq ≤ k) ∧ Aside0 (Kd.R k24 24 w' w.heap.size (fun _ => True) (.slice Ao5 t137.length co5) t137) ∧ Aside0 (Below w.heap.size w w'))
  case atStart => exact ⟨((⟨#[]⟩ : ByteArray)), (0), (false), (0), (by first | rfl | (simp; done) | (simp [*]; done)), (by first | rfl | (simp; done) | (simp [*]; done)), (by first | rfl | (simp; done) | (simp [*]; done)), (by first | rfl | (simp; done) | (simp [*]; done)), H', ⟨Nat.le_refl _⟩, ⟨by (with_reducible repeat (first | apply Kd.R_alloc | apply Kd.R_drewN | apply Kd.R_drew)); exact HO140.out⟩, ⟨by repeat (first | (with_reducible first | exact HB.out | apply below_alloc | apply pw_below_drewN | apply below_drew1) | exact HB.out)⟩⟩
  case round =>
   clear H'
   try clear c1
   try clear c2
   try clear p2
   try clear c3
   try clear c3b0
   try clear c3b1
   obtain ⟨x6_1, x7_1, x8_1, x23_1, rfl, rfl, rfl, rfl, HA, HK1, HO_21, HB⟩ := hrel
   cases gk with
   | zero => exact absurd HA.out (by simp [der_Strip.l0])
   | succ k1 =>
    have H := HA.out
    clear HA
    simp only [der_Strip.l0] at H
    by_cases c6 : x23_1 < (t137.length : Int)
    ·
     rw [if_pos c6] at H
     have c6b0 : decide (x23_1 < (t137.length : Int)) = true := decide_eq_true c6
     clear c6
     by_cases c7 : 0 ≤ x23_1
     ·
      rw [if_pos c7] at H
      have c7b0 : decide (0 ≤ x23_1) = true := decide_eq_true c7
      clear c7
      by_cases c8 : x23_1 < (t137.length : Int)
      ·
       rw [if_pos c8] at H
       have c8b0 : decide (x23_1 < (t137.length : Int)) = true := decide_eq_true c8
       clear c8
       replace H := Option.bind_eq_some_iff.mp H
       obtain ⟨t143, A90, H⟩ := H
       replace H : (if ((rd_T24 t137 x23_1).f0) = 163 then (der_Strip.j1 k1 x6_1 x7_1 x8_1 t143 t137 (t137.length : Int) x23_1 (!x8_1) ((rd_T24 t137 x23_1).f0) ((rd_T24 t137 x23_1).f1) ((rd_T24 t137 x23_1).f2)) else (der_Strip.j1 k1 x6_1 x7_1 x8_1 t143 t137 (t137.length : Int) x23_1 false ((rd_T24 t137 x23_1).f0) ((rd_T24 t137 x23_1).f1) ((rd_T24 t137 x23_1).f2))) = some (r1, r2, r3) := H
       have A9 := Aside0.mk A90
       clear A90
       have HC10 := Aside0.mk H
       clear H
       have p141 : 0 ≤ (x23_1 : Int) := of_decide_eq_true (by first | (with_reducible assumption) | assumption)
       have q141 : x23_1 < (t137.length : Int) := of_decide_eq_true (by first | (with_reducible assumption) | assumption)
       obtain ⟨ad141, e141, hx141_0, hx141_1, hx141_2⟩ := at_T24 (Kd.R_reads' HO_21.out).2.2 x23_1 p141 q141
       cases e141
       replace p141 := eq_true p141
       replace q141 := eq_true q141
       go_upto_region 9 with (first | ((with_reducible refine gate_dst (N := 10) rfl ?_); refine box_event ?hg (N := 10) ?hd (cs := #[.int .i64 0, .string (⟨#[]⟩ : ByteArray), .string (⟨#[]⟩ : ByteArray)]) (t := 24) ?hr ?_; (case hd => rfl); (case hg => rfl); (case hr => first | (go_simp; done) | (go_simp; rfl)); intro gb142 hg w11 hbox hb; have n0_ := Aside0.mk (Kd.R_below (Kd.R_elderB (by (with_reducible repeat (first | apply Kd.R_alloc | apply Kd.R_drewN | apply Kd.R_drew)); exact HO_21.out) gb142 (Nat.le_of_eq hg.symm)) hb); have n1_ := Aside0.mk (below_step (by repeat (first | (with_reducible first | exact HB.out | apply below_alloc | apply pw_below_drewN | apply below_drew1) | exact HB.out)) hb); have n2_ := Aside0.mk (hbox); have n3_ := Aside0.mk ((by rw [hg]; exact (below_size (by repeat (first | (with_reducible first | exact HB.out | apply below_alloc | apply pw_below_drewN | apply below_drew1) | exact HB.out))) : w.heap.size ≤ gb142)); have n4_ := Aside0.mk ((by rw [hg]; exact (below_size (by repeat (first | (with_reducible first | exact HB.out | apply below_alloc | apply pw_below_drewN | apply below_drew1) | exact HB.out))) : w.heap.size ≤ gb142)); clear HO_21; clear HB; have HO_21 := n0_; have HB := n1_; have BK142 := n2_; have GW142 := n3_; have GE142 := n4_; clear n0_ n1_ n2_ n3_ n4_; clear hb hbox hg; have hcz12_0 : w11.cell? ⟨gb142, 0, none⟩ = some (.int .i64 0) := (blk_cell BK142.out 0).trans rfl; have hcz12_1 : w11.cell? ⟨gb142, 1, none⟩ = some (.string (⟨#[]⟩ : ByteArray)) := (blk_cell BK142.out 1).trans rfl; have hcz12_2 : w11.cell? ⟨gb142, 2, none⟩ = some (.string (⟨#[]⟩ : ByteArray)) := (blk_cell BK142.out 2).trans rfl; have hfz12_0 := blk_frozen BK142.out 0; have hfz12_1 := blk_frozen BK142.out 1; have hfz12_2 := blk_frozen BK142.out 2) | ((with_reducible refine gate_callee (f := 22) rfl ?_); refine goesL_ (some 31) rfl rfl Try.func22 (by kernel_rfl) rfl #[.int .i64 ((rd_T24 t137 x23_1).f0), .string ((rd_T24 t137 x23_1).f1)] rfl (by (try simp only [List.map_toArray, List.map_cons, List.map_nil]); first | done | rfl | (simp only [List.length_drop, List.length_take]; rfl)) ?_; (with_reducible refine (der_wrap.calls ((rd_T24 t137 x23_1).f0) ((rd_T24 t137 x23_1).f1) t143 _ A9.out).mono ?_); rintro e w13 ⟨rfl, hb⟩; refine ⟨_, rfl, ?_⟩; have n0_ := Aside0.mk (Kd.R_below (by (with_reducible repeat (first | apply Kd.R_alloc | apply Kd.R_drewN | apply Kd.R_drew)); exact (Kd.R_mono (Kd.R_far (p := ⟨gb142, 2, none⟩) (Kd.R_far (p := ⟨gb142, 1, none⟩) (Kd.R_far (p := ⟨gb142, 0, none⟩) (Kd.R_mono HO_21.out (fun k_ hk => (⟨hk, hk.2⟩ : _ ∧ k_ ≠ gb142))) (fun _ hk => hk.2) (.int .i64 ((rd_T24 t137 x23_1).f0))) (fun _ hk => hk.2) (.string ((rd_T24 t137 x23_1).f1))) (fun _ hk => hk.2) (.string ((rd_T24 t137 x23_1).f2))) (fun _ h_ => h_.1))) hb); have n1_ := Aside0.mk (blk_below (g := gb142) (o := .cells #[.int .i64 ((rd_T24 t137 x23_1).f0), .string ((rd_T24 t137 x23_1).f1), .string ((rd_T24 t137 x23_1).f2)] 24 (0, 0)) (by (with_reducible repeat (first | refine blk_drewN ?_ _ | refine blk_drew ?_ | refine blk_alloc ?_ _)); refine blk_put (cs := #[.int .i64 ((rd_T24 t137 x23_1).f0), .string ((rd_T24 t137 x23_1).f1), .string (⟨#[]⟩ : ByteArray)]) ?_ 2 _ rfl; (with_reducible repeat (first | refine blk_drewN ?_ _ | refine blk_drew ?_ | refine blk_alloc ?_ _)); refine blk_put (cs := #[.int .i64 ((rd_T24 t137 x23_1).f0), .string (⟨#[]⟩ : ByteArray), .string (⟨#[]⟩ : ByteArray)]) ?_ 1 _ rfl; (with_reducible repeat (first | refine blk_drewN ?_ _ | refine blk_drew ?_ | refine blk_alloc ?_ _)); refine blk_put (cs := #[.int .i64 0, .string (⟨#[]⟩ : ByteArray), .string (⟨#[]⟩ : ByteArray)]) ?_ 0 _ rfl; (with_reducible repeat (first | refine blk_drewN ?_ _ | refine blk_drew ?_ | refine blk_alloc ?_ _)); exact BK142.out) hb); have n2_ := Aside0.mk (below_step (by repeat (first | (with_reducible first | exact HB.out | apply below_alloc | apply pw_below_drewN | apply below_drew1 | refine below_set ?_ GE142.out) | exact HB.out)) hb); clear HO_21; clear BK142; clear HB; have HO_21 := n0_; have BK142 := n1_; have HB := n2_; clear n0_ n1_ n2_; (try clear hb); (try clear hb2); (try clear hk); (try clear hi)))
       (try simp only [Act.put, List.setIfInBounds_toArray, List.set_cons_zero, List.set_cons_succ])
       go_cut [38] (fun v38 wc => ∃ (kq : Nat) (x38_9 : Bool), v38 = .bool x38_9 ∧ Aside0 (der_Strip.j1 kq x6_1 x7_1 x8_1 t143 t137 (t137.length : Int) x23_1 x38_9 ((rd_T24 t137 x23_1).f0) ((rd_T24 t137 x23_1).f1) ((rd_T24 t137 x23_1).f2) = some (r1, r2, r3)) ∧ Aside0 (kq ≤ k1) ∧ Aside0 (Kd.R k24 24 wc w.heap.size (fun k_ => k_ ≠ gb142) (.slice (some ad141) t137.length co5) t137) ∧ Aside0 (wc.heap[gb142]? = some (.cells #[.int .i64 ((rd_T24 t137 x23_1).f0), .string ((rd_T24 t137 x23_1).f1), .string ((rd_T24 t137 x23_1).f2)] 24 (0, 0))) ∧ Aside0 (Below w.heap.size w wc))
       case first =>
        have H := HC10.out
        clear HC10
        by_cases c14 : ((rd_T24 t137 x23_1).f0) = 163
        ·
         rw [if_pos c14] at H
         have c14b0 : (((rd_T24 t137 x23_1).f0) == 163) = true := beq_iff_eq.mpr c14
         have c14b1 : (((rd_T24 t137 x23_1).f0) != 163) = false := bne_eq_false_iff_eq.mpr c14
         clear c14
         (first | rw [c14b0] | (simp only [i64_w, i32_w]; rw [c14b0]) | skip)
         have H' := Aside0.mk H
         clear H
         have hcz15_0 : w13.cell? ⟨gb142, 0, none⟩ = some (.int .i64 ((rd_T24 t137 x23_1).f0)) := (blk_cell BK142.out 0).trans rfl
         have hcz15_1 : w13.cell? ⟨gb142, 1, none⟩ = some (.string ((rd_T24 t137 x23_1).f1)) := (blk_cell BK142.out 1).trans rfl
         have hcz15_2 : w13.cell? ⟨gb142, 2, none⟩ = some (.string ((rd_T24 t137 x23_1).f2)) := (blk_cell BK142.out 2).trans rfl
         have hfz15_0 := blk_frozen BK142.out 0
         have hfz15_1 := blk_frozen BK142.out 1
         have hfz15_2 := blk_frozen BK142.out 2
         go_wp2
         go_meet
         case rel => exact ⟨_, (!x8_1), (by first | rfl | (simp; done) | (simp [*]; done)), H', ⟨by have := HK1.out; first | omega | exact Nat.le_refl _⟩, ⟨by (with_reducible repeat (first | apply Kd.R_alloc | apply Kd.R_drewN | apply Kd.R_drew)); exact Kd.R_mono HO_21.out (fun _ hk => hk.2)⟩, ⟨by (with_reducible repeat (first | refine blk_drewN ?_ _ | refine blk_drew ?_ | refine blk_alloc ?_ _)); exact BK142.out⟩, ⟨by repeat (first | (with_reducible first | exact HB.out | apply below_alloc | apply pw_below_drewN | apply below_drew1 | refine below_set ?_ GE142.out) | exact HB.out)⟩⟩
        ·
         rw [if_neg c14] at H
         have c14b0 : (((rd_T24 t137 x23_1).f0) == 163) = false := beq_eq_false_iff_ne.mpr c14
         have c14b1 : (((rd_T24 t137 x23_1).f0) != 163) = true := bne_iff_ne.mpr c14
         (first | rw [c14b0] | (simp only [i64_w, i32_w]; rw [c14b0]) | skip)
         have H' := Aside0.mk H
         clear H
         have hcz16_0 : w13.cell? ⟨gb142, 0, none⟩ = some (.int .i64 ((rd_T24 t137 x23_1).f0)) := (blk_cell BK142.out 0).trans rfl
         have hcz16_1 : w13.cell? ⟨gb142, 1, none⟩ = some (.string ((rd_T24 t137 x23_1).f1)) := (blk_cell BK142.out 1).trans rfl
         have hcz16_2 : w13.cell? ⟨gb142, 2, none⟩ = some (.string ((rd_T24 t137 x23_1).f2)) := (blk_cell BK142.out 2).trans rfl
         have hfz16_0 := blk_frozen BK142.out 0
         have hfz16_1 := blk_frozen BK142.out 1
         have hfz16_2 := blk_frozen BK142.out 2
         go_wp2
         go_meet
         case rel => exact ⟨_, (false), (by first | rfl | (simp; done) | (simp [*]; done)), H', ⟨by have := HK1.out; first | omega | exact Nat.le_refl _⟩, ⟨by (with_reducible repeat (first | apply Kd.R_alloc | apply Kd.R_drewN | apply Kd.R_drew)); exact Kd.R_mono HO_21.out (fun _ hk => hk.2)⟩, ⟨by (with_reducible repeat (first | refine blk_drewN ?_ _ | refine blk_drew ?_ | refine blk_alloc ?_ _)); exact BK142.out⟩, ⟨by repeat (first | (with_reducible first | exact HB.out | apply below_alloc | apply pw_below_drewN | apply below_drew1 | refine below_set ?_ GE142.out) | exact HB.out)⟩⟩
       case rest =>
        clear HC10
        try clear c1
        try clear p1
        try clear q1
        try clear hx1
        try clear c2
        try clear p2
        try clear c3
        try clear c3b0
        try clear c3b1
        try clear c6
        try clear c6b0
        try clear c7
        try clear c7b0
        try clear c8
        try clear c8b0
        try clear c14
        try clear c14b0
        try clear c14b1
        try clear p14
        try clear q14
        try clear hx14
        try clear hcz12_0
        try clear hcz12_1
        try clear hcz12_2
        try clear hcz15_0
        try clear hcz15_1
        try clear hcz15_2
        try clear hcz16_0
        try clear hcz16_1
        try clear hcz16_2
        try clear hfz12_0
        try clear hfz12_1
        try clear hfz12_2
        try clear hfz15_0
        try clear hfz15_1
        try clear hfz15_2
        try clear hfz16_0
        try clear hfz16_1
        try clear hfz16_2
        try clear hx141_0
        try clear hx141_1
        try clear hx141_2
        try clear p141
        try clear p2
        try clear q141
        obtain ⟨kq, x38_9, rfl, HA, HJ9, HO_21, BK142, HB⟩ := hcut
        cases kq with
        | zero => exact absurd HA.out (by simp [der_Strip.j1])
        | succ kj9 =>
         have H := HA.out
         clear HA
         simp only [der_Strip.j1] at H
         by_cases c17 : x38_9 = true
         ·
          subst c17
          have H1 : ((der_clean.f kj9 ((rd_T24 t137 x23_1).f1)).bind fun bt144 => (if bt144.2.2 = true then (if x6_1.size + bt144.1.size ≤ 9223372036854775807 then (der_Strip.l0 kj9 (x6_1 ++ bt144.1) bt144.2.1 true t137 (t137.length : Int) (wrap64 (x23_1 + 1))) else (none)) else (some ((⟨#[]⟩ : ByteArray), false, 2)))) = some (r1, r2, r3) := by first | (rw [if_pos rfl] at H; exact H) | (rw [if_pos trivial] at H; exact H)
          clear H
          have H := H1
          clear H1
          replace H := Option.bind_eq_some_iff.mp H
          obtain ⟨⟨t144, t145, t146⟩, A180, H⟩ := H
          replace H : (if t146 = true then (if x6_1.size + t144.size ≤ 9223372036854775807 then (der_Strip.l0 kj9 (x6_1 ++ t144) t145 true t137 (t137.length : Int) (wrap64 (x23_1 + 1))) else (none)) else (some ((⟨#[]⟩ : ByteArray), false, 2))) = some (r1, r2, r3) := H
          have A18 := Aside0.mk A180
          clear A180
          by_cases c19 : t146 = true
          ·
           subst c19
           have H1 : (if x6_1.size + t144.size ≤ 9223372036854775807 then (der_Strip.l0 kj9 (x6_1 ++ t144) t145 true t137 (t137.length : Int) (wrap64 (x23_1 + 1))) else (none)) = some (r1, r2, r3) := by first | (rw [if_pos rfl] at H; exact H) | (rw [if_pos trivial] at H; exact H)
           clear H
           have H := H1
           clear H1
           by_cases c20 : x6_1.size + t144.size ≤ 9223372036854775807
           ·
            rw [if_pos c20] at H
            have c20b0 := eq_true c20
            have c20b1 : decide (x6_1.size + t144.size ≤ 9223372036854775807) = true := decide_eq_true c20
            try have c20b2 : (9223372036854775807 < x6_1.size + t144.size) = False := eq_false (Nat.not_lt.2 c20)
            have H' := Aside0.mk H
            clear H
            have hcz21_0 : wc.cell? ⟨gb142, 0, none⟩ = some (.int .i64 ((rd_T24 t137 x23_1).f0)) := (blk_cell BK142.out 0).trans rfl
            have hcz21_1 : wc.cell? ⟨gb142, 1, none⟩ = some (.string ((rd_T24 t137 x23_1).f1)) := (blk_cell BK142.out 1).trans rfl
            have hcz21_2 : wc.cell? ⟨gb142, 2, none⟩ = some (.string ((rd_T24 t137 x23_1).f2)) := (blk_cell BK142.out 2).trans rfl
            have hfz21_0 := blk_frozen BK142.out 0
            have hfz21_1 := blk_frozen BK142.out 1
            have hfz21_2 := blk_frozen BK142.out 2
            go_wp2_with (first | ((with_reducible refine gate_callee (f := 23) rfl ?_); refine goesL_ (some 42) rfl rfl Try.func23 (by kernel_rfl) rfl #[.string ((rd_T24 t137 x23_1).f1)] rfl (by (try simp only [List.map_toArray, List.map_cons, List.map_nil]); first | done | rfl | (simp only [List.length_drop, List.length_take]; rfl)) ?_; (with_reducible refine (der_clean.calls kj9 ((rd_T24 t137 x23_1).f1) t144 t145 true _ A18.out).mono ?_); rintro e w22 ⟨rfl, hb⟩; refine ⟨_, rfl, ?_⟩; have n0_ := Aside0.mk (Kd.R_below (by (with_reducible repeat (first | apply Kd.R_alloc | apply Kd.R_drewN | apply Kd.R_drew)); exact HO_21.out) hb); have n1_ := Aside0.mk (blk_below (g := gb142) (o := .cells #[.int .i64 ((rd_T24 t137 x23_1).f0), .string ((rd_T24 t137 x23_1).f1), .string ((rd_T24 t137 x23_1).f2)] 24 (0, 0)) (by (with_reducible repeat (first | refine blk_drewN ?_ _ | refine blk_drew ?_ | refine blk_alloc ?_ _)); exact BK142.out) hb); have n2_ := Aside0.mk (below_step (by repeat (first | (with_reducible first | exact HB.out | apply below_alloc | apply pw_below_drewN | apply below_drew1 | refine below_set ?_ GE142.out) | exact HB.out)) hb); clear HO_21; clear BK142; clear HB; have HO_21 := n0_; have BK142 := n1_; have HB := n2_; clear n0_ n1_ n2_; (try clear hb); (try clear hb2); (try clear hk); (try clear hi)))
            go_roundg kj9
            case measure => have := HK1.out; have := HJ9.out; omega
            case rel => exact ⟨(x6_1 ++ t144), (t145), (true), (wrap64 (x23_1 + 1)), (by first | rfl | (simp; done) | (simp [*]; done)), (by first | rfl | (simp; done) | (simp [*]; done)), (by first | rfl | (simp; done) | (simp [*]; done)), (by first | rfl | (simp; done) | (simp [*]; done)), H', ⟨by have := HK1.out; have := HJ9.out; omega⟩, ⟨by (with_reducible repeat (first | apply Kd.R_alloc | apply Kd.R_drewN | apply Kd.R_drew)); exact Kd.R_mono HO_21.out (fun _ hk => trivial)⟩, ⟨by repeat (first | (with_reducible first | exact HB.out | apply below_alloc | apply pw_below_drewN | apply below_drew1 | refine below_set ?_ GE142.out) | exact HB.out)⟩⟩
           ·
            rw [if_neg c20] at H
            exact absurd H (by simp)
          ·
           replace c19 := Bool.eq_false_iff.mpr c19
           subst c19
           have H1 : (some ((⟨#[]⟩ : ByteArray), false, 2)) = some (r1, r2, r3) := by rw [if_neg (show ¬ (false = true) by decide)] at H; exact H
           clear H
           have H := H1
           clear H1
           simp only [Option.some.injEq, Prod.mk.injEq] at H
           obtain ⟨rfl, rfl, rfl⟩ := H
           have hcz23_0 : wc.cell? ⟨gb142, 0, none⟩ = some (.int .i64 ((rd_T24 t137 x23_1).f0)) := (blk_cell BK142.out 0).trans rfl
           have hcz23_1 : wc.cell? ⟨gb142, 1, none⟩ = some (.string ((rd_T24 t137 x23_1).f1)) := (blk_cell BK142.out 1).trans rfl
           have hcz23_2 : wc.cell? ⟨gb142, 2, none⟩ = some (.string ((rd_T24 t137 x23_1).f2)) := (blk_cell BK142.out 2).trans rfl
           have hfz23_0 := blk_frozen BK142.out 0
           have hfz23_1 := blk_frozen BK142.out 1
           have hfz23_2 := blk_frozen BK142.out 2
           go_wp2_with (first | ((with_reducible refine gate_callee (f := 23) rfl ?_); refine goesL_ (some 42) rfl rfl Try.func23 (by kernel_rfl) rfl #[.string ((rd_T24 t137 x23_1).f1)] rfl (by (try simp only [List.map_toArray, List.map_cons, List.map_nil]); first | done | rfl | (simp only [List.length_drop, List.length_take]; rfl)) ?_; (with_reducible refine (der_clean.calls kj9 ((rd_T24 t137 x23_1).f1) t144 t145 false _ A18.out).mono ?_); rintro e w24 ⟨rfl, hb⟩; refine ⟨_, rfl, ?_⟩; have n0_ := Aside0.mk (Kd.R_below (by (with_reducible repeat (first | apply Kd.R_alloc | apply Kd.R_drewN | apply Kd.R_drew)); exact HO_21.out) hb); have n1_ := Aside0.mk (blk_below (g := gb142) (o := .cells #[.int .i64 ((rd_T24 t137 x23_1).f0), .string ((rd_T24 t137 x23_1).f1), .string ((rd_T24 t137 x23_1).f2)] 24 (0, 0)) (by (with_reducible repeat (first | refine blk_drewN ?_ _ | refine blk_drew ?_ | refine blk_alloc ?_ _)); exact BK142.out) hb); have n2_ := Aside0.mk (below_step (by repeat (first | (with_reducible first | exact HB.out | apply below_alloc | apply pw_below_drewN | apply below_drew1 | refine below_set ?_ GE142.out) | exact HB.out)) hb); clear HO_21; clear BK142; clear HB; have HO_21 := n0_; have BK142 := n1_; have HB := n2_; clear n0_ n1_ n2_; (try clear hb); (try clear hb2); (try clear hk); (try clear hi)))
           go_ret3
           exact ⟨by first | rfl | (simp [errW_none, errW_some] <;> rfl) | (simp [*, errW_none, errW_some] <;> rfl), by repeat (first | (with_reducible first | exact HB.out | apply below_alloc | apply pw_below_drewN | apply below_drew1 | refine below_set ?_ GE142.out) | exact HB.out)⟩
         ·
          replace c17 := Bool.eq_false_iff.mpr c17
          subst c17
          have H1 : (if x6_1.size + t143.size ≤ 9223372036854775807 then (der_Strip.l0 kj9 (x6_1 ++ t143) x7_1 x8_1 t137 (t137.length : Int) (wrap64 (x23_1 + 1))) else (none)) = some (r1, r2, r3) := by rw [if_neg (show ¬ (false = true) by decide)] at H; exact H
          clear H
          have H := H1
          clear H1
          by_cases c25 : x6_1.size + t143.size ≤ 9223372036854775807
          ·
           rw [if_pos c25] at H
           have c25b0 := eq_true c25
           have c25b1 : decide (x6_1.size + t143.size ≤ 9223372036854775807) = true := decide_eq_true c25
           try have c25b2 : (9223372036854775807 < x6_1.size + t143.size) = False := eq_false (Nat.not_lt.2 c25)
           have H' := Aside0.mk H
           clear H
           go_wp2
           go_roundg kj9
           case measure => have := HK1.out; have := HJ9.out; omega
           case rel => exact ⟨(x6_1 ++ t143), (x7_1), (x8_1), (wrap64 (x23_1 + 1)), (by first | rfl | (simp; done) | (simp [*]; done)), (by first | rfl | (simp; done) | (simp [*]; done)), (by first | rfl | (simp; done) | (simp [*]; done)), (by first | rfl | (simp; done) | (simp [*]; done)), H', ⟨by have := HK1.out; have := HJ9.out; omega⟩, ⟨by (with_reducible repeat (first | apply Kd.R_alloc | apply Kd.R_drewN | apply Kd.R_drew)); exact Kd.R_mono HO_21.out (fun _ hk => trivial)⟩, ⟨by repeat (first | (with_reducible first | exact HB.out | apply below_alloc | apply pw_below_drewN | apply below_drew1 | refine below_set ?_ GE142.out) | exact HB.out)⟩⟩
          ·
           rw [if_neg c25] at H
           exact absurd H (by simp)
      ·
       rw [if_neg c8] at H
       exact absurd H (by simp)
     ·
      rw [if_neg c7] at H
      exact absurd H (by simp)
    ·
     rw [if_neg c6] at H
     have c6b0 : decide (x23_1 < (t137.length : Int)) = false := decide_eq_false c6
     clear c6
     by_cases c26 : x7_1 > 1
     ·
      rw [if_pos c26] at H
      have c26b0 : decide (1 < x7_1) = true := decide_eq_true c26
      clear c26
      simp only [Option.some.injEq, Prod.mk.injEq] at H
      obtain ⟨rfl, rfl, rfl⟩ := H
      go_wp2
      go_ret3
      exact ⟨by first | rfl | (simp [errW_none, errW_some] <;> rfl) | (simp [*, errW_none, errW_some] <;> rfl), by repeat (first | (with_reducible first | exact HB.out | apply below_alloc | apply pw_below_drewN | apply below_drew1) | exact HB.out)⟩
     ·
      rw [if_neg c26] at H
      have c26b0 : decide (1 < x7_1) = false := decide_eq_false c26
      clear c26
      by_cases c27 : x7_1 = 0
      ·
       rw [if_pos c27] at H
       have c27b0 : (x7_1 == 0) = true := beq_iff_eq.mpr c27
       have c27b1 : (x7_1 != 0) = false := bne_eq_false_iff_eq.mpr c27
       clear c27
       simp only [Option.some.injEq, Prod.mk.injEq] at H
       obtain ⟨rfl, rfl, rfl⟩ := H
       go_wp2
       go_ret3
       exact ⟨by first | rfl | (simp [errW_none, errW_some] <;> rfl) | (simp [*, errW_none, errW_some] <;> rfl), by repeat (first | (with_reducible first | exact HB.out | apply below_alloc | apply pw_below_drewN | apply below_drew1) | exact HB.out)⟩
      ·
       rw [if_neg c27] at H
       have c27b0 : (x7_1 == 0) = false := beq_eq_false_iff_ne.mpr c27
       have c27b1 : (x7_1 != 0) = true := bne_iff_ne.mpr c27
       replace H := Option.bind_eq_some_iff.mp H
       obtain ⟨t147, A280, H⟩ := H
       replace H : (some (t147, true, 0)) = some (r1, r2, r3) := H
       have A28 := Aside0.mk A280
       clear A280
       simp only [Option.some.injEq, Prod.mk.injEq] at H
       obtain ⟨rfl, rfl, rfl⟩ := H
       go_wp2_with (first | ((with_reducible refine gate_callee (f := 22) rfl ?_); refine goesL_ (some 59) rfl rfl Try.func22 (by kernel_rfl) rfl #[.int .i64 48, .string x6_1] rfl (by (try simp only [List.map_toArray, List.map_cons, List.map_nil]); first | done | rfl | (simp only [List.length_drop, List.length_take]; rfl)) ?_; (with_reducible refine (der_wrap.calls 48 x6_1 t147 _ A28.out).mono ?_); rintro e w29 ⟨rfl, hb⟩; refine ⟨_, rfl, ?_⟩; have n0_ := Aside0.mk (Kd.R_below (by (with_reducible repeat (first | apply Kd.R_alloc | apply Kd.R_drewN | apply Kd.R_drew)); exact HO_21.out) hb); have n1_ := Aside0.mk (below_step (by repeat (first | (with_reducible first | exact HB.out | apply below_alloc | apply pw_below_drewN | apply below_drew1) | exact HB.out)) hb); clear HO_21; clear HB; have HO_21 := n0_; have HB := n1_; clear n0_ n1_; (try clear hb); (try clear hb2); (try clear hk); (try clear hi)))
       go_ret3
       exact ⟨by first | rfl | (simp [errW_none, errW_some] <;> rfl) | (simp [*, errW_none, errW_some] <;> rfl), by repeat (first | (with_reducible first | exact HB.out | apply below_alloc | apply pw_below_drewN | apply below_drew1) | exact HB.out)⟩
 ·
  rw [if_neg c3] at H
  have c3b0 : (t138 == 0) = false := beq_eq_false_iff_ne.mpr c3
  have c3b1 : (t138 != 0) = true := bne_iff_ne.mpr c3
  simp only [Option.some.injEq, Prod.mk.injEq] at H
  obtain ⟨rfl, rfl, rfl⟩ := H
  go_enter Try.func17, Try.ntmps17
  go_wp2_with (first | ((with_reducible refine gate_callee (f := 21) rfl ?_); refine goesL_ (some 15) rfl rfl Try.func21 (by kernel_rfl) rfl #[.string a0] rfl (by (try simp only [List.map_toArray, List.map_cons, List.map_nil]); first | done | rfl | (simp only [List.length_drop, List.length_take]; rfl)) ?_; (with_reducible refine (der_body.calls k a0 t137 t138 _ A2.out).mono ?_); rintro e w30 ⟨v139, rfl, ho0, hb⟩; refine ⟨_, rfl, ?_⟩; have n0_ := Aside0.mk (Kd.R_lower ho0 (below_size (by repeat (first | (with_reducible first | exact HB.out | apply below_alloc | apply pw_below_drewN | apply below_drew1) | exact HB.out)))); have n1_ := Aside0.mk (below_step (by repeat (first | (with_reducible first | exact HB.out | apply below_alloc | apply pw_below_drewN | apply below_drew1) | exact HB.out)) hb); clear HB; have HO140 := n0_; have HB := n1_; clear n0_ n1_; (try clear hb); (try clear hb2); (try clear hk); (try clear hi); (try clear ho0)))
  go_ret3
  exact ⟨by first | rfl | (simp [errW_none, errW_some] <;> rfl) | (simp [*, errW_none, errW_some] <;> rfl), by repeat (first | (with_reducible first | exact HB.out | apply below_alloc | apply pw_below_drewN | apply below_drew1) | exact HB.out)⟩

/-! ### engrosserlaw14_item: function 14 -/
def engrosserlaw14_item.f (a0 : Int) (a1 : ByteArray) : Option (ByteArray) := (some (([(a0) % 256] : List Int) : List Int)).bind fun y148 => (if (a1.size : Int) ≥ 256 then ((some (([130, ((a1.size : Int) / 256) % 256, ((a1.size : Int)) % 256] : List Int) : List Int)).bind fun y151 => (if y148.length + y151.length < 140737488355328 then ((some (y148 ++ y151 : List Int)).bind fun y154 => (if (strOfNums y154).size + a1.size ≤ 9223372036854775807 then (some ((strOfNums y154) ++ a1)) else (none))) else (none))) else (if (a1.size : Int) ≥ 128 then ((some (([129, ((a1.size : Int)) % 256] : List Int) : List Int)).bind fun y157 => (if y148.length + y157.length < 140737488355328 then ((some (y148 ++ y157 : List Int)).bind fun y160 => (if (strOfNums y160).size + a1.size ≤ 9223372036854775807 then (some ((strOfNums y160) ++ a1)) else (none))) else (none))) else (if y148.length < 140737488355328 then ((some (y148 ++ [((a1.size : Int)) % 256] : List Int)).bind fun y163 => (if (strOfNums y163).size + a1.size ≤ 9223372036854775807 then (some ((strOfNums y163) ++ a1)) else (none))) else (none))))
set_option maxHeartbeats 8000000 in
set_option maxRecDepth 100000 in
theorem engrosserlaw14_item.calls (a0 : Int) (a1 : ByteArray) (r : ByteArray) (w : World) (h : engrosserlaw14_item.f a0 a1 = some r) :
  Calls Try.prog 14 #[.int .i64 a0, .string a1] w fun e w' => e = .returned (.string r) ∧ Below w.heap.size w w' := by
 have HB := Aside0.mk (Below.refl w.heap.size w)
 have H : ((some (([(a0) % 256] : List Int) : List Int)).bind fun y148 => (if (a1.size : Int) ≥ 256 then ((some (([130, ((a1.size : Int) / 256) % 256, ((a1.size : Int)) % 256] : List Int) : List Int)).bind fun y151 => (if y148.length + y151.length < 140737488355328 then ((some (y148 ++ y151 : List Int)).bind fun y154 => (if (strOfNums y154).size + a1.size ≤ 9223372036854775807 then (some ((strOfNums y154) ++ a1)) else (none))) else (none))) else (if (a1.size : Int) ≥ 128 then ((some (([129, ((a1.size : Int)) % 256] : List Int) : List Int)).bind fun y157 => (if y148.length + y157.length < 140737488355328 then ((some (y148 ++ y157 : List Int)).bind fun y160 => (if (strOfNums y160).size + a1.size ≤ 9223372036854775807 then (some ((strOfNums y160) ++ a1)) else (none))) else (none))) else (if y148.length < 140737488355328 then ((some (y148 ++ [((a1.size : Int)) % 256] : List Int)).bind fun y163 => (if (strOfNums y163).size + a1.size ≤ 9223372036854775807 then (some ((strOfNums y163) ++ a1)) else (none))) else (none))))) = some r := h
 clear h
 obtain ⟨y148, hy148⟩ : ∃ y_ : List Int, y_ = (([(a0) % 256] : List Int)) := ⟨_, rfl⟩
 replace H : (if (a1.size : Int) ≥ 256 then ((some (([130, ((a1.size : Int) / 256) % 256, ((a1.size : Int)) % 256] : List Int) : List Int)).bind fun y151 => (if y148.length + y151.length < 140737488355328 then ((some (y148 ++ y151 : List Int)).bind fun y154 => (if (strOfNums y154).size + a1.size ≤ 9223372036854775807 then (some ((strOfNums y154) ++ a1)) else (none))) else (none))) else (if (a1.size : Int) ≥ 128 then ((some (([129, ((a1.size : Int)) % 256] : List Int) : List Int)).bind fun y157 => (if y148.length + y157.length < 140737488355328 then ((some (y148 ++ y157 : List Int)).bind fun y160 => (if (strOfNums y160).size + a1.size ≤ 9223372036854775807 then (some ((strOfNums y160) ++ a1)) else (none))) else (none))) else (if y148.length < 140737488355328 then ((some (y148 ++ [((a1.size : Int)) % 256] : List Int)).bind fun y163 => (if (strOfNums y163).size + a1.size ≤ 9223372036854775807 then (some ((strOfNums y163) ++ a1)) else (none))) else (none)))) = some r := by first | (rw [hy148]; with_reducible exact H) | (have H2_ := (Option.bind_some _ _).symm.trans H; rw [hy148]; with_reducible exact H2_) | (have H2_ := (Option.bind_some _ _).symm.trans H; with_reducible exact H2_) | with_reducible exact H | (rw [hy148]; exact H) | exact H
 have Ny148 := Aside0.mk hy148
 clear hy148
 by_cases c3 : (a1.size : Int) ≥ 256
 ·
  rw [if_pos c3] at H
  have c3b0 : decide (256 ≤ (a1.size : Int)) = true := decide_eq_true c3
  have c3b1 : decide (256 ≤ a1.size) = true := decide_eq_true (by omega)
  clear c3
  obtain ⟨y151, hy151⟩ : ∃ y_ : List Int, y_ = (([130, ((a1.size : Int) / 256) % 256, ((a1.size : Int)) % 256] : List Int)) := ⟨_, rfl⟩
  replace H : (if y148.length + y151.length < 140737488355328 then ((some (y148 ++ y151 : List Int)).bind fun y154 => (if (strOfNums y154).size + a1.size ≤ 9223372036854775807 then (some ((strOfNums y154) ++ a1)) else (none))) else (none)) = some r := by first | (rw [hy151]; with_reducible exact H) | (have H2_ := (Option.bind_some _ _).symm.trans H; rw [hy151]; with_reducible exact H2_) | (have H2_ := (Option.bind_some _ _).symm.trans H; with_reducible exact H2_) | with_reducible exact H | (rw [hy151]; exact H) | exact H
  have Ny151 := Aside0.mk hy151
  clear hy151
  by_cases c4 : y148.length + y151.length < 140737488355328
  ·
   rw [if_pos c4] at H
   have LMc4 := Aside0.mk c4
   clear c4
   obtain ⟨y154, hy154⟩ : ∃ y_ : List Int, y_ = (y148 ++ y151) := ⟨_, rfl⟩
   replace H : (if (strOfNums y154).size + a1.size ≤ 9223372036854775807 then (some ((strOfNums y154) ++ a1)) else (none)) = some r := by first | (rw [hy154]; with_reducible exact H) | (have H2_ := (Option.bind_some _ _).symm.trans H; rw [hy154]; with_reducible exact H2_) | (have H2_ := (Option.bind_some _ _).symm.trans H; with_reducible exact H2_) | with_reducible exact H | (rw [hy154]; exact H) | exact H
   have Ny154 := Aside0.mk hy154
   clear hy154
   by_cases c5 : (strOfNums y154).size + a1.size ≤ 9223372036854775807
   ·
    rw [if_pos c5] at H
    have c5b0 := eq_true c5
    have c5b1 : decide ((strOfNums y154).size + a1.size ≤ 9223372036854775807) = true := decide_eq_true c5
    try have c5b2 : (9223372036854775807 < (strOfNums y154).size + a1.size) = False := eq_false (Nat.not_lt.2 c5)
    obtain rfl := Option.some.inj H
    go_enter Try.func14, Try.ntmps14
    go_wp2_with (first | ((with_reducible refine gate_dst (N := 11) rfl ?_); refine Kd.R_lit (Kd.int .u8) _ 5 ?hg (N := 11) ?hd (xs := ([(a0) % 256] : List Int)) (inner := [.int .u8 ((a0) % 256)]) (ok := fun _ => True) (okp := fun _ => True) ?hr ?hp (fun _ hk => hk) trivial (Below.refl _ _) (Nat.le_refl _) (by simp) ?_; (case hd => rfl); (case hg => rfl); (case hr => first | (go_simp; done) | (go_simp; rfl)); (case hp => exact (Reps.one (show Kd.M (Kd.int .u8) _ _ _ ((a0) % 256) [.int .u8 ((a0) % 256)] from rfl) (Reps.none _ _))); intro v149 w6 ho7 hb hg_ hnew_; clear hg_ hnew_; (first | rw [← Ny148.out] at ho7 | (simp only [Int.reduceToNat] at ho7; rw [← Ny148.out] at ho7)); have n0_ := Aside0.mk (Kd.R_lower ho7 (below_size (by repeat (first | (with_reducible first | exact HB.out | apply below_alloc | apply pw_below_drewN | apply below_drew1) | exact HB.out)))); have n1_ := Aside0.mk (below_step (by repeat (first | (with_reducible first | exact HB.out | apply below_alloc | apply pw_below_drewN | apply below_drew1) | exact HB.out)) hb); clear HB; have HO150 := n0_; have HB := n1_; clear n0_ n1_; clear hb ho7) | ((with_reducible refine gate_dst (N := 26) rfl ?_); refine Kd.R_lit (Kd.int .u8) _ 5 ?hg (N := 26) ?hd (xs := ([130, ((a1.size : Int) / 256) % 256, ((a1.size : Int)) % 256] : List Int)) (inner := [.int .u8 130, .int .u8 (((a1.size : Int) / 256) % 256), .int .u8 (((a1.size : Int)) % 256)]) (ok := fun _ => True) (okp := fun _ => True) ?hr ?hp (fun _ hk => hk) trivial (Below.refl _ _) (Nat.le_refl _) (by simp) ?_; (case hd => rfl); (case hg => rfl); (case hr => first | (go_simp; done) | (go_simp; rfl)); (case hp => exact (Reps.one (show Kd.M (Kd.int .u8) _ _ _ 130 [.int .u8 130] from rfl) (Reps.one (show Kd.M (Kd.int .u8) _ _ _ (((a1.size : Int) / 256) % 256) [.int .u8 (((a1.size : Int) / 256) % 256)] from rfl) (Reps.one (show Kd.M (Kd.int .u8) _ _ _ (((a1.size : Int)) % 256) [.int .u8 (((a1.size : Int)) % 256)] from rfl) (Reps.none _ _))))); intro v152 w8 ho9 hb hg_ hnew_; clear hg_ hnew_; (first | rw [← Ny151.out] at ho9 | (simp only [Int.reduceToNat] at ho9; rw [← Ny151.out] at ho9)); have n0_ := Aside0.mk (Kd.R_elder' (by (with_reducible repeat (first | apply Kd.R_alloc | apply Kd.R_drewN | apply Kd.R_drew)); exact HO150.out) (Kd.R_base ho9) hb); have n1_ := Aside0.mk (Kd.R_lower (Kd.R_new' ho9 (Kd.R_lt (by (with_reducible repeat (first | apply Kd.R_alloc | apply Kd.R_drewN | apply Kd.R_drew)); exact HO150.out))) (below_size (by repeat (first | (with_reducible first | exact HB.out | apply below_alloc | apply pw_below_drewN | apply below_drew1) | exact HB.out)))); have n2_ := Aside0.mk (below_step (by repeat (first | (with_reducible first | exact HB.out | apply below_alloc | apply pw_below_drewN | apply below_drew1) | exact HB.out)) hb); clear HO150; clear HB; have HO150 := n0_; have HO153 := n1_; have HB := n2_; clear n0_ n1_ n2_; clear hb ho9; obtain ⟨Ao11, co11, eo11⟩ := Kd.R_slice HO153.out; subst eo11) | ((with_reducible refine gate_builtin (b := .append) (xs := #[.tmp 20, .tmp 26]) rfl ?_); at_builtin; refine Kd.R_append_rows (Kd.int .u8) (w0 := w) w.heap.size rfl (.tmp 20) (.tmp 26) 43 5 (.int .u8 0) 1 rfl Try.underlying43 info5 rfl (by decide) (by omega) v149 y148 y151 _ _ _ (fun k_ => some k_ ≠ (.slice Ao11 y151.length co11 : Value).ownBlock) (fun _ => False) rfl rfl ?aO ?aR (fun _ _ h => h) (fun _ h => h.elim) ?aF ?aB ?aS ?aL ?_; (case aR => repeat (first | exact (Kd.R_reads' HO153.out).2.2 | (with_reducible refine Kd.C_alloc ?_ _) | (with_reducible refine Kd.C_drewN ?_ _) | (with_reducible refine Kd.C_drew ?_))); (case aB => exact (by repeat (first | (with_reducible first | exact HB.out | apply below_alloc | apply pw_below_drewN | apply below_drew1) | exact HB.out))); (case aF => exact (fun k_ hk => Kd.fresh' (Kd.R_lt (by (with_reducible repeat (first | apply Kd.R_alloc | apply Kd.R_drewN | apply Kd.R_drew)); exact HO153.out)) k_ hk)); (case aO => exact (by (with_reducible repeat (first | apply Kd.R_alloc | apply Kd.R_drewN | apply Kd.R_drew)); exact Kd.R_mono HO150.out (fun _ hk => hk.2))); (case aS => exact (below_size (by repeat (first | (with_reducible first | exact HB.out | apply below_alloc | apply pw_below_drewN | apply below_drew1) | exact HB.out)))); (case aL => have := LMc4.out; omega); intro v155 w10 ho hb hg hat; rw [← Ny154.out] at ho; have n0_ := Aside0.mk (Kd.R_after (ok := (fun _ => True)) (by (with_reducible repeat (first | apply Kd.R_alloc | apply Kd.R_drewN | apply Kd.R_drew)); exact HO153.out) hg hat); have n1_ := Aside0.mk (hb); have n2_ := Aside0.mk (ho); clear HO153; clear HB; clear HO150; have HO153 := n0_; have HB := n1_; have HO156 := n2_; clear n0_ n1_ n2_; clear ho hb hg hat; have hcv12 := own_string (P := Try.prog) Try.underlying43 Try.underlying5 Try.underlying9 (Kd.own_of_R HO156.out)))
    go_ret
    exact ⟨by first | rfl | (simp [errW_none, errW_some] <;> rfl) | (simp [*, errW_none, errW_some] <;> rfl), by repeat (first | (with_reducible first | exact HB.out | apply below_alloc | apply pw_below_drewN | apply below_drew1) | exact HB.out)⟩
   ·
    rw [if_neg c5] at H
    exact absurd H (by simp)
  ·
   rw [if_neg c4] at H
   exact absurd H (by simp)
 ·
  rw [if_neg c3] at H
  have c3b0 : decide (256 ≤ (a1.size : Int)) = false := decide_eq_false c3
  have c3b1 : decide (256 ≤ a1.size) = false := decide_eq_false (by omega)
  clear c3
  by_cases c13 : (a1.size : Int) ≥ 128
  ·
   rw [if_pos c13] at H
   have c13b0 : decide (128 ≤ (a1.size : Int)) = true := decide_eq_true c13
   have c13b1 : decide (128 ≤ a1.size) = true := decide_eq_true (by omega)
   clear c13
   obtain ⟨y157, hy157⟩ : ∃ y_ : List Int, y_ = (([129, ((a1.size : Int)) % 256] : List Int)) := ⟨_, rfl⟩
   replace H : (if y148.length + y157.length < 140737488355328 then ((some (y148 ++ y157 : List Int)).bind fun y160 => (if (strOfNums y160).size + a1.size ≤ 9223372036854775807 then (some ((strOfNums y160) ++ a1)) else (none))) else (none)) = some r := by first | (rw [hy157]; with_reducible exact H) | (have H2_ := (Option.bind_some _ _).symm.trans H; rw [hy157]; with_reducible exact H2_) | (have H2_ := (Option.bind_some _ _).symm.trans H; with_reducible exact H2_) | with_reducible exact H | (rw [hy157]; exact H) | exact H
   have Ny157 := Aside0.mk hy157
   clear hy157
   by_cases c14 : y148.length + y157.length < 140737488355328
   ·
    rw [if_pos c14] at H
    have LMc14 := Aside0.mk c14
    clear c14
    obtain ⟨y160, hy160⟩ : ∃ y_ : List Int, y_ = (y148 ++ y157) := ⟨_, rfl⟩
    replace H : (if (strOfNums y160).size + a1.size ≤ 9223372036854775807 then (some ((strOfNums y160) ++ a1)) else (none)) = some r := by first | (rw [hy160]; with_reducible exact H) | (have H2_ := (Option.bind_some _ _).symm.trans H; rw [hy160]; with_reducible exact H2_) | (have H2_ := (Option.bind_some _ _).symm.trans H; with_reducible exact H2_) | with_reducible exact H | (rw [hy160]; exact H) | exact H
    have Ny160 := Aside0.mk hy160
    clear hy160
    by_cases c15 : (strOfNums y160).size + a1.size ≤ 9223372036854775807
    ·
     rw [if_pos c15] at H
     have c15b0 := eq_true c15
     have c15b1 : decide ((strOfNums y160).size + a1.size ≤ 9223372036854775807) = true := decide_eq_true c15
     try have c15b2 : (9223372036854775807 < (strOfNums y160).size + a1.size) = False := eq_false (Nat.not_lt.2 c15)
     obtain rfl := Option.some.inj H
     go_enter Try.func14, Try.ntmps14
     go_wp2_with (first | ((with_reducible refine gate_dst (N := 11) rfl ?_); refine Kd.R_lit (Kd.int .u8) _ 5 ?hg (N := 11) ?hd (xs := ([(a0) % 256] : List Int)) (inner := [.int .u8 ((a0) % 256)]) (ok := fun _ => True) (okp := fun _ => True) ?hr ?hp (fun _ hk => hk) trivial (Below.refl _ _) (Nat.le_refl _) (by simp) ?_; (case hd => rfl); (case hg => rfl); (case hr => first | (go_simp; done) | (go_simp; rfl)); (case hp => exact (Reps.one (show Kd.M (Kd.int .u8) _ _ _ ((a0) % 256) [.int .u8 ((a0) % 256)] from rfl) (Reps.none _ _))); intro v149 w16 ho17 hb hg_ hnew_; clear hg_ hnew_; (first | rw [← Ny148.out] at ho17 | (simp only [Int.reduceToNat] at ho17; rw [← Ny148.out] at ho17)); have n0_ := Aside0.mk (Kd.R_lower ho17 (below_size (by repeat (first | (with_reducible first | exact HB.out | apply below_alloc | apply pw_below_drewN | apply below_drew1) | exact HB.out)))); have n1_ := Aside0.mk (below_step (by repeat (first | (with_reducible first | exact HB.out | apply below_alloc | apply pw_below_drewN | apply below_drew1) | exact HB.out)) hb); clear HB; have HO150 := n0_; have HB := n1_; clear n0_ n1_; clear hb ho17) | ((with_reducible refine gate_dst (N := 34) rfl ?_); refine Kd.R_lit (Kd.int .u8) _ 5 ?hg (N := 34) ?hd (xs := ([129, ((a1.size : Int)) % 256] : List Int)) (inner := [.int .u8 129, .int .u8 (((a1.size : Int)) % 256)]) (ok := fun _ => True) (okp := fun _ => True) ?hr ?hp (fun _ hk => hk) trivial (Below.refl _ _) (Nat.le_refl _) (by simp) ?_; (case hd => rfl); (case hg => rfl); (case hr => first | (go_simp; done) | (go_simp; rfl)); (case hp => exact (Reps.one (show Kd.M (Kd.int .u8) _ _ _ 129 [.int .u8 129] from rfl) (Reps.one (show Kd.M (Kd.int .u8) _ _ _ (((a1.size : Int)) % 256) [.int .u8 (((a1.size : Int)) % 256)] from rfl) (Reps.none _ _)))); intro v158 w18 ho19 hb hg_ hnew_; clear hg_ hnew_; (first | rw [← Ny157.out] at ho19 | (simp only [Int.reduceToNat] at ho19; rw [← Ny157.out] at ho19)); have n0_ := Aside0.mk (Kd.R_elder' (by (with_reducible repeat (first | apply Kd.R_alloc | apply Kd.R_drewN | apply Kd.R_drew)); exact HO150.out) (Kd.R_base ho19) hb); have n1_ := Aside0.mk (Kd.R_lower (Kd.R_new' ho19 (Kd.R_lt (by (with_reducible repeat (first | apply Kd.R_alloc | apply Kd.R_drewN | apply Kd.R_drew)); exact HO150.out))) (below_size (by repeat (first | (with_reducible first | exact HB.out | apply below_alloc | apply pw_below_drewN | apply below_drew1) | exact HB.out)))); have n2_ := Aside0.mk (below_step (by repeat (first | (with_reducible first | exact HB.out | apply below_alloc | apply pw_below_drewN | apply below_drew1) | exact HB.out)) hb); clear HO150; clear HB; have HO150 := n0_; have HO159 := n1_; have HB := n2_; clear n0_ n1_ n2_; clear hb ho19; obtain ⟨Ao21, co21, eo21⟩ := Kd.R_slice HO159.out; subst eo21) | ((with_reducible refine gate_builtin (b := .append) (xs := #[.tmp 31, .tmp 34]) rfl ?_); at_builtin; refine Kd.R_append_rows (Kd.int .u8) (w0 := w) w.heap.size rfl (.tmp 31) (.tmp 34) 43 5 (.int .u8 0) 1 rfl Try.underlying43 info5 rfl (by decide) (by omega) v149 y148 y157 _ _ _ (fun k_ => some k_ ≠ (.slice Ao21 y157.length co21 : Value).ownBlock) (fun _ => False) rfl rfl ?aO ?aR (fun _ _ h => h) (fun _ h => h.elim) ?aF ?aB ?aS ?aL ?_; (case aR => repeat (first | exact (Kd.R_reads' HO159.out).2.2 | (with_reducible refine Kd.C_alloc ?_ _) | (with_reducible refine Kd.C_drewN ?_ _) | (with_reducible refine Kd.C_drew ?_))); (case aB => exact (by repeat (first | (with_reducible first | exact HB.out | apply below_alloc | apply pw_below_drewN | apply below_drew1) | exact HB.out))); (case aF => exact (fun k_ hk => Kd.fresh' (Kd.R_lt (by (with_reducible repeat (first | apply Kd.R_alloc | apply Kd.R_drewN | apply Kd.R_drew)); exact HO159.out)) k_ hk)); (case aO => exact (by (with_reducible repeat (first | apply Kd.R_alloc | apply Kd.R_drewN | apply Kd.R_drew)); exact Kd.R_mono HO150.out (fun _ hk => hk.2))); (case aS => exact (below_size (by repeat (first | (with_reducible first | exact HB.out | apply below_alloc | apply pw_below_drewN | apply below_drew1) | exact HB.out)))); (case aL => have := LMc14.out; omega); intro v161 w20 ho hb hg hat; rw [← Ny160.out] at ho; have n0_ := Aside0.mk (Kd.R_after (ok := (fun _ => True)) (by (with_reducible repeat (first | apply Kd.R_alloc | apply Kd.R_drewN | apply Kd.R_drew)); exact HO159.out) hg hat); have n1_ := Aside0.mk (hb); have n2_ := Aside0.mk (ho); clear HO159; clear HB; clear HO150; have HO159 := n0_; have HB := n1_; have HO162 := n2_; clear n0_ n1_ n2_; clear ho hb hg hat; have hcv22 := own_string (P := Try.prog) Try.underlying43 Try.underlying5 Try.underlying9 (Kd.own_of_R HO162.out)))
     go_ret
     exact ⟨by first | rfl | (simp [errW_none, errW_some] <;> rfl) | (simp [*, errW_none, errW_some] <;> rfl), by repeat (first | (with_reducible first | exact HB.out | apply below_alloc | apply pw_below_drewN | apply below_drew1) | exact HB.out)⟩
    ·
     rw [if_neg c15] at H
     exact absurd H (by simp)
   ·
    rw [if_neg c14] at H
    exact absurd H (by simp)
  ·
   rw [if_neg c13] at H
   have c13b0 : decide (128 ≤ (a1.size : Int)) = false := decide_eq_false c13
   have c13b1 : decide (128 ≤ a1.size) = false := decide_eq_false (by omega)
   clear c13
   by_cases c23 : y148.length < 140737488355328
   ·
    rw [if_pos c23] at H
    have LMc23 := Aside0.mk c23
    clear c23
    obtain ⟨y163, hy163⟩ : ∃ y_ : List Int, y_ = (y148 ++ [((a1.size : Int)) % 256]) := ⟨_, rfl⟩
    replace H : (if (strOfNums y163).size + a1.size ≤ 9223372036854775807 then (some ((strOfNums y163) ++ a1)) else (none)) = some r := by first | (rw [hy163]; with_reducible exact H) | (have H2_ := (Option.bind_some _ _).symm.trans H; rw [hy163]; with_reducible exact H2_) | (have H2_ := (Option.bind_some _ _).symm.trans H; with_reducible exact H2_) | with_reducible exact H | (rw [hy163]; exact H) | exact H
    have Ny163 := Aside0.mk hy163
    clear hy163
    by_cases c24 : (strOfNums y163).size + a1.size ≤ 9223372036854775807
    ·
     rw [if_pos c24] at H
     have c24b0 := eq_true c24
     have c24b1 : decide ((strOfNums y163).size + a1.size ≤ 9223372036854775807) = true := decide_eq_true c24
     try have c24b2 : (9223372036854775807 < (strOfNums y163).size + a1.size) = False := eq_false (Nat.not_lt.2 c24)
     obtain rfl := Option.some.inj H
     go_enter Try.func14, Try.ntmps14
     go_wp2_with (first | ((with_reducible refine gate_dst (N := 11) rfl ?_); refine Kd.R_lit (Kd.int .u8) _ 5 ?hg (N := 11) ?hd (xs := ([(a0) % 256] : List Int)) (inner := [.int .u8 ((a0) % 256)]) (ok := fun _ => True) (okp := fun _ => True) ?hr ?hp (fun _ hk => hk) trivial (Below.refl _ _) (Nat.le_refl _) (by simp) ?_; (case hd => rfl); (case hg => rfl); (case hr => first | (go_simp; done) | (go_simp; rfl)); (case hp => exact (Reps.one (show Kd.M (Kd.int .u8) _ _ _ ((a0) % 256) [.int .u8 ((a0) % 256)] from rfl) (Reps.none _ _))); intro v149 w25 ho26 hb hg_ hnew_; clear hg_ hnew_; (first | rw [← Ny148.out] at ho26 | (simp only [Int.reduceToNat] at ho26; rw [← Ny148.out] at ho26)); have n0_ := Aside0.mk (Kd.R_lower ho26 (below_size (by repeat (first | (with_reducible first | exact HB.out | apply below_alloc | apply pw_below_drewN | apply below_drew1) | exact HB.out)))); have n1_ := Aside0.mk (below_step (by repeat (first | (with_reducible first | exact HB.out | apply below_alloc | apply pw_below_drewN | apply below_drew1) | exact HB.out)) hb); clear HB; have HO150 := n0_; have HB := n1_; clear n0_ n1_; clear hb ho26) | ((with_reducible refine gate_builtin (b := .append) (xs := #[.tmp 12, .tmp 15]) rfl ?_); at_builtin; refine Kd.R_append (Kd.int .u8) (w0 := w) w.heap.size rfl (.tmp 12) (.tmp 15) 43 5 (.int .u8 0) 1 rfl Try.underlying43 info5 rfl (by decide) (by omega) v149 y148 (((a1.size : Int)) % 256) [.int .u8 (((a1.size : Int)) % 256)] (fun _ => True) (fun _ => False) rfl rfl ?aP (fun _ hk => hk.elim) ?aF ?aO ?aB ?aS ?aL ?_; (case aP => exact rfl); (case aB => exact (by repeat (first | (with_reducible first | exact HB.out | apply below_alloc | apply pw_below_drewN | apply below_drew1) | exact HB.out))); (case aF => exact (fun _ _ => trivial)); (case aO => exact (by (with_reducible repeat (first | apply Kd.R_alloc | apply Kd.R_drewN | apply Kd.R_drew)); exact HO150.out)); (case aS => exact (below_size (by repeat (first | (with_reducible first | exact HB.out | apply below_alloc | apply pw_below_drewN | apply below_drew1) | exact HB.out)))); (case aL => have := LMc23.out; omega); intro v164 w27 ho hb hg hat; rw [← Ny163.out] at ho; have n0_ := Aside0.mk (hb); have n1_ := Aside0.mk (ho); clear HB; clear HO150; have HB := n0_; have HO165 := n1_; clear n0_ n1_; clear ho hb hg hat; have hcv28 := own_string (P := Try.prog) Try.underlying43 Try.underlying5 Try.underlying9 (Kd.own_of_R HO165.out)))
     go_ret
     exact ⟨by first | rfl | (simp [errW_none, errW_some] <;> rfl) | (simp [*, errW_none, errW_some] <;> rfl), by repeat (first | (with_reducible first | exact HB.out | apply below_alloc | apply pw_below_drewN | apply below_drew1) | exact HB.out)⟩
    ·
     rw [if_neg c24] at H
     exact absurd H (by simp)
   ·
    rw [if_neg c23] at H
    exact absurd H (by simp)

/-! ### engrosserlaw14_cut: function 16 -/
def engrosserlaw14_cut.f (a0 : ByteArray) : Option (ByteArray) := if 0 ≤ (mn (a0.size : Int) 60) then (if (mn (a0.size : Int) 60) ≤ (a0.size : Int) then (some (a0.extract 0 ((mn (a0.size : Int) 60) : Int).toNat)) else (none)) else (none)
set_option maxHeartbeats 8000000 in
set_option maxRecDepth 100000 in
theorem engrosserlaw14_cut.calls (a0 : ByteArray) (r : ByteArray) (w : World) (h : engrosserlaw14_cut.f a0 = some r) :
  Calls Try.prog 16 #[.string a0] w fun e w' => e = .returned (.string r) ∧ Below w.heap.size w w' := by
 have HB := Aside0.mk (Below.refl w.heap.size w)
 have H : (if 0 ≤ (mn (a0.size : Int) 60) then (if (mn (a0.size : Int) 60) ≤ (a0.size : Int) then (some (a0.extract 0 ((mn (a0.size : Int) 60) : Int).toNat)) else (none)) else (none)) = some r := h
 clear h
 obtain ⟨ji2, hji2⟩ : ∃ j_ : Int, (mn (a0.size : Int) 60) = j_ := ⟨_, rfl⟩
 replace H : (if 0 ≤ (ji2) then (if (ji2) ≤ (a0.size : Int) then (some (a0.extract 0 ((ji2) : Int).toNat)) else (none)) else (none)) = some r := by first | (rw [hji2] at H; exact H) | (simp only [hji2] at H ⊢; exact H)
 (try (have hji2h : ji2 ≤ 60 := by (rw [← hji2]; unfold mn; (repeat' split) <;> omega)))
 (try (have hji2g : ji2 ≤ 64 := by omega))
 (try (have hji2l : 0 ≤ ji2 := by (rw [← hji2]; unfold mn; (repeat' split) <;> omega)))
 (try (have hji2m : 0 ≤ ji2 := by omega))
 have hji2_ : (if 60 < (a0.size : Int) then 60 else (a0.size : Int)) = ji2 := hji2
 by_cases c3 : 0 ≤ (ji2)
 ·
  rw [if_pos c3] at H
  have c3b0 := eq_true c3
  have c3b1 : decide (0 ≤ (ji2)) = true := decide_eq_true c3
  clear c3
  by_cases c4 : (ji2) ≤ (a0.size : Int)
  ·
   rw [if_pos c4] at H
   have c4b0 := eq_true c4
   have c4b1 : decide ((ji2) ≤ (a0.size : Int)) = true := decide_eq_true c4
   clear c4
   obtain rfl := Option.some.inj H
   go_enter Try.func16, Try.ntmps16
   go_wp2
   go_ret
   exact ⟨by first | rfl | (simp [errW_none, errW_some] <;> rfl) | (simp only [← hji2]; first | rfl | (simp [errW_none, errW_some] <;> rfl)) | (simp [*, errW_none, errW_some] <;> rfl), by repeat (first | (with_reducible first | exact HB.out | apply below_alloc | apply pw_below_drewN | apply below_drew1) | exact HB.out)⟩
  ·
   rw [if_neg c4] at H
   exact absurd H (by simp)
 ·
  rw [if_neg c3] at H
  exact absurd H (by simp)

end Go.Proofs.Ytgloidibckopiaa.G
