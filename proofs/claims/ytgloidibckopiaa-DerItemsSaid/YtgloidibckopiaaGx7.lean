/- Printed by wip/tools/gprint.py, a program of mine that runs the print program of the kit with contracts of mine in the place of what that does not take. Lean checks it. -/
import Derived.Test.YtgloidibckopiaaGx0
import Derived.Test.YtgloidibckopiaaGx4
import Derived.Test.YtgloidibckopiaaGx5
import Derived.Test.YtgloidibckopiaaGx6
import Derived.Test.YtgloidibckopiaaGNext
import Derived.Test.YtgloidibckopiaaGParts
import Derived.Test.YtgloidibckopiaaGWrap
namespace Go.Proofs.Ytgloidibckopiaa.G
open Go.RowKit Go.Proofs.YtgloidibckopiaaW.PrintWords Go.Proofs.YtgloidibckopiaaW.PrintLast Go.Proofs.YtgloidibckopiaaW.PrintMore
attribute [local go_sem] max2_int min2_int max_two min_two max_three min_three max_four min_four   -- for this text's walks alone
set_option linter.unusedVariables false
set_option linter.unusedSimpArgs false

/-! ### engrosserlaw14_DerItems: function 3 -/
def engrosserlaw14_DerItems.l0 : Nat → Bool → Int → Bool → ByteArray → Int → ByteArray → Int → List (S24) → Int → List (S28) → Int → Int → Int → ByteArray → ByteArray → Int → ByteArray → ByteArray → Option (Bool)
 | 0, _, _, _, _, _, _, _, _, _, _, _, _, _, _, _, _, _, _ => none
 | k + 1, x7, x9, x11, x12, x13, x14, x15, x16, x17, x18, x19, x20, x247000, x247001, x247002, x252000, x252001, x252002 => if x20 < (x16.length : Int) then (if 0 ≤ x20 then (if x20 < (x18.length : Int) then (if ((rd_T24 x16 x20).f0) = ((rd_T28 x18 x20).f0) then (if ((rd_T24 x16 x20).f1).toList = ((rd_T28 x18 x20).f1).toList then (if ((rd_T24 x16 x20).f2).toList = ((rd_T28 x18 x20).f2).toList then (engrosserlaw14_DerItems.l0 k x7 x9 x11 x12 x13 x14 x15 x16 x17 x18 x19 (wrap64 (x20 + 1)) x247000 x247001 x247002 x252000 x252001 x252002) else (some false)) else (some false)) else (some false)) else (none)) else (none)) else (if x7 = true then (if x247000 = x252000 then (if x247001.toList = x252001.toList then (if x247002.toList = x252002.toList then (if x11 = true then (if x9 = 0 then (if x12.toList = x14.toList then (if x13 = x15 then (some (x17 == x19)) else (some false)) else (some false)) else (some false)) else (if x9 = 2 then (if x12.toList = x14.toList then (if x13 = x15 then (some (x17 == x19)) else (some false)) else (some false)) else (some false))) else (some false)) else (some false)) else (some false)) else (some false))
def engrosserlaw14_DerItems.f (k : Nat) (a0 : ByteArray) (a1 : Int) (a2 : ByteArray) : Option (Bool) := (engrosserlaw14_examples.f k).bind fun t241 => (if t241 = true then ((der_Next.f a0).bind fun bt242 => ((engrosserref14_Next.f k a0).bind fun bt247 => ((der_Wrap.f a1 a2).bind fun bt252 => ((engrosserref14_Wrap.f k a1 a2).bind fun bt254 => ((der_Parts.f a0).bind fun bt256 => ((engrosserref14_Parts.f k a0).bind fun bt260 => (if (bt256.1.length : Int) = (bt260.1.length : Int) then (engrosserlaw14_DerItems.l0 k t241 bt242.2.2.2 bt247.2.2.2 bt252.1 bt252.2 bt254.1 bt254.2 bt256.1 bt256.2 bt260.1 bt260.2 0 bt242.1 bt242.2.1 bt242.2.2.1 bt247.1 bt247.2.1 bt247.2.2.1) else (some false)))))))) else (some false))
theorem engrosserlaw14_DerItems.mono_l : ∀ k, (∀ y0 y1 y2 y3 y4 y5 y6 y7 y8 y9 y10 y11 y12 y13 y14 y15 y16 y17, LeO (engrosserlaw14_DerItems.l0 k y0 y1 y2 y3 y4 y5 y6 y7 y8 y9 y10 y11 y12 y13 y14 y15 y16 y17) (engrosserlaw14_DerItems.l0 (k + 1) y0 y1 y2 y3 y4 y5 y6 y7 y8 y9 y10 y11 y12 y13 y14 y15 y16 y17))
 | 0 => fun _ _ _ _ _ _ _ _ _ _ _ _ _ _ _ _ _ _ r h => by simp [engrosserlaw14_DerItems.l0] at h
 | k + 1 => by
  have ih0 := engrosserlaw14_DerItems.mono_l k
  ·
   intro y0 y1 y2 y3 y4 y5 y6 y7 y8 y9 y10 y11 y12 y13 y14 y15 y16 y17
   unfold engrosserlaw14_DerItems.l0
   repeat' first
   | (with_reducible exact ih0 _ _ _ _ _ _ _ _ _ _ _ _ _ _ _ _ _ _)
   | (with_reducible exact engrosserlaw14_examples.mono _)
   | (with_reducible exact engrosserref14_Next.mono _ _)
   | (with_reducible exact engrosserref14_Parts.mono _ _)
   | (with_reducible exact engrosserref14_Wrap.mono _ _ _)
   | (with_reducible exact LeO.refl _)
   | (with_reducible exact LeO.none _)
   | (with_reducible refine LeO.ite ?_ ?_)
   | (with_reducible refine LeO.bind ?_ (fun _ => ?_))
   | exact ih0 _ _ _ _ _ _ _ _ _ _ _ _ _ _ _ _ _ _
   | exact engrosserlaw14_examples.mono _
   | exact engrosserref14_Next.mono _ _
   | exact engrosserref14_Parts.mono _ _
   | exact engrosserref14_Wrap.mono _ _ _
   | exact LeO.none _
   | refine LeO.ite ?_ ?_
   | refine LeO.bind ?_ (fun _ => ?_)
theorem engrosserlaw14_DerItems.mono : ∀ a0 a1 a2 k, LeO (engrosserlaw14_DerItems.f k a0 a1 a2) (engrosserlaw14_DerItems.f (k + 1) a0 a1 a2) := by
 intro a0 a1 a2 k
 have ih0 := engrosserlaw14_DerItems.mono_l k
 unfold engrosserlaw14_DerItems.f
 repeat' first
   | (with_reducible exact ih0 _ _ _ _ _ _ _ _ _ _ _ _ _ _ _ _ _ _)
   | (with_reducible exact engrosserlaw14_examples.mono _)
   | (with_reducible exact engrosserref14_Next.mono _ _)
   | (with_reducible exact engrosserref14_Parts.mono _ _)
   | (with_reducible exact engrosserref14_Wrap.mono _ _ _)
   | (with_reducible exact LeO.refl _)
   | (with_reducible exact LeO.none _)
   | (with_reducible refine LeO.ite ?_ ?_)
   | (with_reducible refine LeO.bind ?_ (fun _ => ?_))
   | exact ih0 _ _ _ _ _ _ _ _ _ _ _ _ _ _ _ _ _ _
   | exact engrosserlaw14_examples.mono _
   | exact engrosserref14_Next.mono _ _
   | exact engrosserref14_Parts.mono _ _
   | exact engrosserref14_Wrap.mono _ _ _
   | exact LeO.none _
   | refine LeO.ite ?_ ?_
   | refine LeO.bind ?_ (fun _ => ?_)
set_option maxHeartbeats 8000000 in
set_option maxRecDepth 100000 in
theorem engrosserlaw14_DerItems.calls (k : Nat) (a0 : ByteArray) (a1 : Int) (a2 : ByteArray) (r : Bool) (w : World) (h : engrosserlaw14_DerItems.f k a0 a1 a2 = some r) :
  Calls Try.prog 3 #[.string a0, .int .i64 a1, .string a2] w fun e w' => e = .returned (.bool r) ∧ Below w.heap.size w w' := by
 have hu24 := Try.underlying24
 have hu28 := Try.underlying28
 have HB := Aside0.mk (Below.refl w.heap.size w)
 have H : ((engrosserlaw14_examples.f k).bind fun t241 => (if t241 = true then ((der_Next.f a0).bind fun bt242 => ((engrosserref14_Next.f k a0).bind fun bt247 => ((der_Wrap.f a1 a2).bind fun bt252 => ((engrosserref14_Wrap.f k a1 a2).bind fun bt254 => ((der_Parts.f a0).bind fun bt256 => ((engrosserref14_Parts.f k a0).bind fun bt260 => (if (bt256.1.length : Int) = (bt260.1.length : Int) then (engrosserlaw14_DerItems.l0 k t241 bt242.2.2.2 bt247.2.2.2 bt252.1 bt252.2 bt254.1 bt254.2 bt256.1 bt256.2 bt260.1 bt260.2 0 bt242.1 bt242.2.1 bt242.2.2.1 bt247.1 bt247.2.1 bt247.2.2.1) else (some false)))))))) else (some false))) = some r := h
 clear h
 replace H := Option.bind_eq_some_iff.mp H
 obtain ⟨t241, A40, H⟩ := H
 replace H : (if t241 = true then ((der_Next.f a0).bind fun bt242 => ((engrosserref14_Next.f k a0).bind fun bt247 => ((der_Wrap.f a1 a2).bind fun bt252 => ((engrosserref14_Wrap.f k a1 a2).bind fun bt254 => ((der_Parts.f a0).bind fun bt256 => ((engrosserref14_Parts.f k a0).bind fun bt260 => (if (bt256.1.length : Int) = (bt260.1.length : Int) then (engrosserlaw14_DerItems.l0 k t241 bt242.2.2.2 bt247.2.2.2 bt252.1 bt252.2 bt254.1 bt254.2 bt256.1 bt256.2 bt260.1 bt260.2 0 bt242.1 bt242.2.1 bt242.2.2.1 bt247.1 bt247.2.1 bt247.2.2.1) else (some false)))))))) else (some false)) = some r := H
 have A4 := Aside0.mk A40
 clear A40
 by_cases c5 : t241 = true
 ·
  subst c5
  have H1 : ((der_Next.f a0).bind fun bt242 => ((engrosserref14_Next.f k a0).bind fun bt247 => ((der_Wrap.f a1 a2).bind fun bt252 => ((engrosserref14_Wrap.f k a1 a2).bind fun bt254 => ((der_Parts.f a0).bind fun bt256 => ((engrosserref14_Parts.f k a0).bind fun bt260 => (if (bt256.1.length : Int) = (bt260.1.length : Int) then (engrosserlaw14_DerItems.l0 k true bt242.2.2.2 bt247.2.2.2 bt252.1 bt252.2 bt254.1 bt254.2 bt256.1 bt256.2 bt260.1 bt260.2 0 bt242.1 bt242.2.1 bt242.2.2.1 bt247.1 bt247.2.1 bt247.2.2.1) else (some false)))))))) = some r := by first | (rw [if_pos rfl] at H; exact H) | (rw [if_pos trivial] at H; exact H)
  clear H
  have H := H1
  clear H1
  replace H := Option.bind_eq_some_iff.mp H
  obtain ⟨⟨t242, t243, t244, t245⟩, A60, H⟩ := H
  replace H : ((engrosserref14_Next.f k a0).bind fun bt247 => ((der_Wrap.f a1 a2).bind fun bt252 => ((engrosserref14_Wrap.f k a1 a2).bind fun bt254 => ((der_Parts.f a0).bind fun bt256 => ((engrosserref14_Parts.f k a0).bind fun bt260 => (if (bt256.1.length : Int) = (bt260.1.length : Int) then (engrosserlaw14_DerItems.l0 k true t245 bt247.2.2.2 bt252.1 bt252.2 bt254.1 bt254.2 bt256.1 bt256.2 bt260.1 bt260.2 0 t242 t243 t244 bt247.1 bt247.2.1 bt247.2.2.1) else (some false))))))) = some r := H
  have A6 := Aside0.mk A60
  clear A60
  replace H := Option.bind_eq_some_iff.mp H
  obtain ⟨⟨t247, t248, t249, t250⟩, A70, H⟩ := H
  replace H : ((der_Wrap.f a1 a2).bind fun bt252 => ((engrosserref14_Wrap.f k a1 a2).bind fun bt254 => ((der_Parts.f a0).bind fun bt256 => ((engrosserref14_Parts.f k a0).bind fun bt260 => (if (bt256.1.length : Int) = (bt260.1.length : Int) then (engrosserlaw14_DerItems.l0 k true t245 t250 bt252.1 bt252.2 bt254.1 bt254.2 bt256.1 bt256.2 bt260.1 bt260.2 0 t242 t243 t244 t247 t248 t249) else (some false)))))) = some r := H
  have A7 := Aside0.mk A70
  clear A70
  replace H := Option.bind_eq_some_iff.mp H
  obtain ⟨⟨t252, t253⟩, A80, H⟩ := H
  replace H : ((engrosserref14_Wrap.f k a1 a2).bind fun bt254 => ((der_Parts.f a0).bind fun bt256 => ((engrosserref14_Parts.f k a0).bind fun bt260 => (if (bt256.1.length : Int) = (bt260.1.length : Int) then (engrosserlaw14_DerItems.l0 k true t245 t250 t252 t253 bt254.1 bt254.2 bt256.1 bt256.2 bt260.1 bt260.2 0 t242 t243 t244 t247 t248 t249) else (some false))))) = some r := H
  have A8 := Aside0.mk A80
  clear A80
  replace H := Option.bind_eq_some_iff.mp H
  obtain ⟨⟨t254, t255⟩, A90, H⟩ := H
  replace H : ((der_Parts.f a0).bind fun bt256 => ((engrosserref14_Parts.f k a0).bind fun bt260 => (if (bt256.1.length : Int) = (bt260.1.length : Int) then (engrosserlaw14_DerItems.l0 k true t245 t250 t252 t253 t254 t255 bt256.1 bt256.2 bt260.1 bt260.2 0 t242 t243 t244 t247 t248 t249) else (some false)))) = some r := H
  have A9 := Aside0.mk A90
  clear A90
  replace H := Option.bind_eq_some_iff.mp H
  obtain ⟨⟨t256, t257⟩, A100, H⟩ := H
  replace H : ((engrosserref14_Parts.f k a0).bind fun bt260 => (if (t256.length : Int) = (bt260.1.length : Int) then (engrosserlaw14_DerItems.l0 k true t245 t250 t252 t253 t254 t255 t256 t257 bt260.1 bt260.2 0 t242 t243 t244 t247 t248 t249) else (some false))) = some r := H
  have A10 := Aside0.mk A100
  clear A100
  replace H := Option.bind_eq_some_iff.mp H
  obtain ⟨⟨t260, t261⟩, A110, H⟩ := H
  replace H : (if (t256.length : Int) = (t260.length : Int) then (engrosserlaw14_DerItems.l0 k true t245 t250 t252 t253 t254 t255 t256 t257 t260 t261 0 t242 t243 t244 t247 t248 t249) else (some false)) = some r := H
  have A11 := Aside0.mk A110
  clear A110
  by_cases c12 : (t256.length : Int) = (t260.length : Int)
  ·
   rw [if_pos c12] at H
   have c12b0 : ((t256.length : Int) == (t260.length : Int)) = true := beq_iff_eq.mpr c12
   have c12b1 : ((t256.length : Int) != (t260.length : Int)) = false := bne_eq_false_iff_eq.mpr c12
   have c12b2 : (t256.length == t260.length) = true := by first | simpa using c12 | (simp at c12 ⊢; omega)
   clear c12
   have H' := Aside0.mk H
   clear H
   go_enter Try.func3, Try.ntmps3
   go_wp2_with (first | (go_at_call 7; (with_reducible refine (engrosserlaw14_examples.calls k  true _ A4.out).mono ?_); rintro e w13 ⟨rfl, hb⟩; have n0_ := Aside0.mk (below_step (by repeat (first | (with_reducible first | exact HB.out | apply below_alloc | apply pw_below_drewN | apply below_drew1) | exact HB.out)) hb); clear HB; have HB := n0_; clear n0_; (try clear hb); (try clear hb2); (try clear hk); (try clear hi)) | (go_at_call 8; (with_reducible refine (der_Next.calls a0 t242 t243 t244 t245 _ A6.out).mono ?_); rintro e w14 ⟨rfl, hb⟩; have n0_ := Aside0.mk (below_step (by repeat (first | (with_reducible first | exact HB.out | apply below_alloc | apply pw_below_drewN | apply below_drew1) | exact HB.out)) hb); clear HB; have HB := n0_; clear n0_; (try clear hb); (try clear hb2); (try clear hk); (try clear hi)) | ((with_reducible refine gate_dst (N := 8) rfl ?_); refine box_event ?hg (N := 8) ?hd (cs := #[.int .i64 0, .string (⟨#[]⟩ : ByteArray), .string (⟨#[]⟩ : ByteArray)]) (t := 24) ?hr ?_; (case hd => rfl); (case hg => rfl); (case hr => first | (go_simp; done) | (go_simp; rfl)); intro gb246 hg w15 hbox hb; have n0_ := Aside0.mk (below_step (by repeat (first | (with_reducible first | exact HB.out | apply below_alloc | apply pw_below_drewN | apply below_drew1) | exact HB.out)) hb); have n1_ := Aside0.mk (hbox); have n2_ := Aside0.mk ((by rw [hg]; exact (below_size (by repeat (first | (with_reducible first | exact HB.out | apply below_alloc | apply pw_below_drewN | apply below_drew1) | exact HB.out))) : w.heap.size ≤ gb246)); have n3_ := Aside0.mk ((by rw [hg]; exact (below_size (by repeat (first | (with_reducible first | exact HB.out | apply below_alloc | apply pw_below_drewN | apply below_drew1) | exact HB.out))) : w.heap.size ≤ gb246)); clear HB; have HB := n0_; have BK246 := n1_; have GW246 := n2_; have GE246 := n3_; clear n0_ n1_ n2_ n3_; clear hb hbox hg; have hcz16_0 : w15.cell? ⟨gb246, 0, none⟩ = some (.int .i64 0) := (blk_cell BK246.out 0).trans rfl; have hcz16_1 : w15.cell? ⟨gb246, 1, none⟩ = some (.string (⟨#[]⟩ : ByteArray)) := (blk_cell BK246.out 1).trans rfl; have hcz16_2 : w15.cell? ⟨gb246, 2, none⟩ = some (.string (⟨#[]⟩ : ByteArray)) := (blk_cell BK246.out 2).trans rfl; have hfz16_0 := blk_frozen BK246.out 0; have hfz16_1 := blk_frozen BK246.out 1; have hfz16_2 := blk_frozen BK246.out 2) | (go_at_call 9; (with_reducible refine (engrosserref14_Next.calls k a0 t247 t248 t249 t250 _ A7.out).mono ?_); rintro e w17 ⟨rfl, hb⟩; have n0_ := Aside0.mk (blk_below (g := gb246) (o := .cells #[.int .i64 t242, .string t243, .string t244] 24 (0, 0)) (by (with_reducible repeat (first | refine blk_drewN ?_ _ | refine blk_drew ?_ | refine blk_alloc ?_ _)); refine blk_put (cs := #[.int .i64 t242, .string t243, .string (⟨#[]⟩ : ByteArray)]) ?_ 2 _ rfl; (with_reducible repeat (first | refine blk_drewN ?_ _ | refine blk_drew ?_ | refine blk_alloc ?_ _)); refine blk_put (cs := #[.int .i64 t242, .string (⟨#[]⟩ : ByteArray), .string (⟨#[]⟩ : ByteArray)]) ?_ 1 _ rfl; (with_reducible repeat (first | refine blk_drewN ?_ _ | refine blk_drew ?_ | refine blk_alloc ?_ _)); refine blk_put (cs := #[.int .i64 0, .string (⟨#[]⟩ : ByteArray), .string (⟨#[]⟩ : ByteArray)]) ?_ 0 _ rfl; (with_reducible repeat (first | refine blk_drewN ?_ _ | refine blk_drew ?_ | refine blk_alloc ?_ _)); exact BK246.out) hb); have n1_ := Aside0.mk (below_step (by repeat (first | (with_reducible first | exact HB.out | apply below_alloc | apply pw_below_drewN | apply below_drew1 | refine below_set ?_ GE246.out) | exact HB.out)) hb); clear BK246; clear HB; have BK246 := n0_; have HB := n1_; clear n0_ n1_; (try clear hb); (try clear hb2); (try clear hk); (try clear hi)) | ((with_reducible refine gate_dst (N := 10) rfl ?_); refine box_event ?hg (N := 10) ?hd (cs := #[.int .i64 0, .string (⟨#[]⟩ : ByteArray), .string (⟨#[]⟩ : ByteArray)]) (t := 28) ?hr ?_; (case hd => rfl); (case hg => rfl); (case hr => first | (go_simp; done) | (go_simp; rfl)); intro gb251 hg w18 hbox hb; have n0_ := Aside0.mk (blk_below (g := gb246) (o := .cells #[.int .i64 t242, .string t243, .string t244] 24 (0, 0)) (by (with_reducible repeat (first | refine blk_drewN ?_ _ | refine blk_drew ?_ | refine blk_alloc ?_ _)); exact BK246.out) hb); have n1_ := Aside0.mk (below_step (by repeat (first | (with_reducible first | exact HB.out | apply below_alloc | apply pw_below_drewN | apply below_drew1 | refine below_set ?_ GE246.out) | exact HB.out)) hb); have n2_ := Aside0.mk (hbox); have n3_ := Aside0.mk ((by rw [hg]; exact (below_size (by repeat (first | (with_reducible first | exact HB.out | apply below_alloc | apply pw_below_drewN | apply below_drew1 | refine below_set ?_ GE246.out) | exact HB.out))) : w.heap.size ≤ gb251)); have n4_ := Aside0.mk ((by rw [hg]; exact (below_size (by repeat (first | (with_reducible first | exact HB.out | apply below_alloc | apply pw_below_drewN | apply below_drew1 | refine below_set ?_ GE246.out) | exact HB.out))) : w.heap.size ≤ gb251)); have n5_ := Aside0.mk ((by rw [hg]; exact Nat.ne_of_lt (blk_lt (g := gb246) (o := .cells #[.int .i64 t242, .string t243, .string t244] 24 (0, 0)) (by (with_reducible repeat (first | refine blk_drewN ?_ _ | refine blk_drew ?_ | refine blk_alloc ?_ _)); exact BK246.out)) : gb246 ≠ gb251)); have n6_ := Aside0.mk ((by rw [hg]; exact Nat.ne_of_gt (blk_lt (g := gb246) (o := .cells #[.int .i64 t242, .string t243, .string t244] 24 (0, 0)) (by (with_reducible repeat (first | refine blk_drewN ?_ _ | refine blk_drew ?_ | refine blk_alloc ?_ _)); exact BK246.out)) : gb251 ≠ gb246)); clear BK246; clear HB; have BK246 := n0_; have HB := n1_; have BK251 := n2_; have GW251 := n3_; have GE251 := n4_; have NB246_251 := n5_; have NB251_246 := n6_; clear n0_ n1_ n2_ n3_ n4_ n5_ n6_; clear hb hbox hg; have hnb19 := NB251_246.out; have hnc19 := NB246_251.out; have hcz20_0 : w18.cell? ⟨gb251, 0, none⟩ = some (.int .i64 0) := (blk_cell BK251.out 0).trans rfl; have hcz20_1 : w18.cell? ⟨gb251, 1, none⟩ = some (.string (⟨#[]⟩ : ByteArray)) := (blk_cell BK251.out 1).trans rfl; have hcz20_2 : w18.cell? ⟨gb251, 2, none⟩ = some (.string (⟨#[]⟩ : ByteArray)) := (blk_cell BK251.out 2).trans rfl; have hfz20_0 := blk_frozen BK251.out 0; have hfz20_1 := blk_frozen BK251.out 1; have hfz20_2 := blk_frozen BK251.out 2) | (go_at_call 10; (with_reducible refine (der_Wrap.calls a1 a2 t252 t253 _ A8.out).mono ?_); rintro e w21 ⟨rfl, hb⟩; have n0_ := Aside0.mk (blk_below (g := gb246) (o := .cells #[.int .i64 t242, .string t243, .string t244] 24 (0, 0)) (by (with_reducible repeat (first | refine blk_drewN ?_ _ | refine blk_drew ?_ | refine blk_alloc ?_ _)); refine blk_far ?_ NB246_251.out _; (with_reducible repeat (first | refine blk_drewN ?_ _ | refine blk_drew ?_ | refine blk_alloc ?_ _)); refine blk_far ?_ NB246_251.out _; (with_reducible repeat (first | refine blk_drewN ?_ _ | refine blk_drew ?_ | refine blk_alloc ?_ _)); refine blk_far ?_ NB246_251.out _; (with_reducible repeat (first | refine blk_drewN ?_ _ | refine blk_drew ?_ | refine blk_alloc ?_ _)); exact BK246.out) hb); have n1_ := Aside0.mk (blk_below (g := gb251) (o := .cells #[.int .i64 t247, .string t248, .string t249] 28 (0, 0)) (by (with_reducible repeat (first | refine blk_drewN ?_ _ | refine blk_drew ?_ | refine blk_alloc ?_ _)); refine blk_put (cs := #[.int .i64 t247, .string t248, .string (⟨#[]⟩ : ByteArray)]) ?_ 2 _ rfl; (with_reducible repeat (first | refine blk_drewN ?_ _ | refine blk_drew ?_ | refine blk_alloc ?_ _)); refine blk_put (cs := #[.int .i64 t247, .string (⟨#[]⟩ : ByteArray), .string (⟨#[]⟩ : ByteArray)]) ?_ 1 _ rfl; (with_reducible repeat (first | refine blk_drewN ?_ _ | refine blk_drew ?_ | refine blk_alloc ?_ _)); refine blk_put (cs := #[.int .i64 0, .string (⟨#[]⟩ : ByteArray), .string (⟨#[]⟩ : ByteArray)]) ?_ 0 _ rfl; (with_reducible repeat (first | refine blk_drewN ?_ _ | refine blk_drew ?_ | refine blk_alloc ?_ _)); exact BK251.out) hb); have n2_ := Aside0.mk (below_step (by repeat (first | (with_reducible first | exact HB.out | apply below_alloc | apply pw_below_drewN | apply below_drew1 | refine below_set ?_ GE246.out | refine below_set ?_ GE251.out) | exact HB.out)) hb); clear BK246; clear BK251; clear HB; have BK246 := n0_; have BK251 := n1_; have HB := n2_; clear n0_ n1_ n2_; (try clear hb); (try clear hb2); (try clear hk); (try clear hi)) | (go_at_call 11; (with_reducible refine (engrosserref14_Wrap.calls k a1 a2 t254 t255 _ A9.out).mono ?_); rintro e w22 ⟨rfl, hb⟩; have n0_ := Aside0.mk (blk_below (g := gb246) (o := .cells #[.int .i64 t242, .string t243, .string t244] 24 (0, 0)) (by (with_reducible repeat (first | refine blk_drewN ?_ _ | refine blk_drew ?_ | refine blk_alloc ?_ _)); exact BK246.out) hb); have n1_ := Aside0.mk (blk_below (g := gb251) (o := .cells #[.int .i64 t247, .string t248, .string t249] 28 (0, 0)) (by (with_reducible repeat (first | refine blk_drewN ?_ _ | refine blk_drew ?_ | refine blk_alloc ?_ _)); exact BK251.out) hb); have n2_ := Aside0.mk (below_step (by repeat (first | (with_reducible first | exact HB.out | apply below_alloc | apply pw_below_drewN | apply below_drew1 | refine below_set ?_ GE246.out | refine below_set ?_ GE251.out) | exact HB.out)) hb); clear BK246; clear BK251; clear HB; have BK246 := n0_; have BK251 := n1_; have HB := n2_; clear n0_ n1_ n2_; (try clear hb); (try clear hb2); (try clear hk); (try clear hi)) | (go_at_call 12; (with_reducible refine (der_Parts.calls a0 t256 t257 _ A10.out).mono ?_); rintro e w23 ⟨v258, rfl, ho0, hb⟩; have n0_ := Aside0.mk (Kd.R_lower (Kd.R_newB ho0 (g := gb246) (o := .cells #[.int .i64 t242, .string t243, .string t244] 24 (0, 0)) (by (with_reducible repeat (first | refine blk_drewN ?_ _ | refine blk_drew ?_ | refine blk_alloc ?_ _)); exact BK246.out)) (below_size (by repeat (first | (with_reducible first | exact HB.out | apply below_alloc | apply pw_below_drewN | apply below_drew1 | refine below_set ?_ GE246.out | refine below_set ?_ GE251.out) | exact HB.out)))); have n1_ := Aside0.mk (blk_below (g := gb246) (o := .cells #[.int .i64 t242, .string t243, .string t244] 24 (0, 0)) (by (with_reducible repeat (first | refine blk_drewN ?_ _ | refine blk_drew ?_ | refine blk_alloc ?_ _)); exact BK246.out) hb); have n2_ := Aside0.mk (blk_below (g := gb251) (o := .cells #[.int .i64 t247, .string t248, .string t249] 28 (0, 0)) (by (with_reducible repeat (first | refine blk_drewN ?_ _ | refine blk_drew ?_ | refine blk_alloc ?_ _)); exact BK251.out) hb); have n3_ := Aside0.mk (below_step (by repeat (first | (with_reducible first | exact HB.out | apply below_alloc | apply pw_below_drewN | apply below_drew1 | refine below_set ?_ GE246.out | refine below_set ?_ GE251.out) | exact HB.out)) hb); clear BK246; clear BK251; clear HB; have HO259 := n0_; have BK246 := n1_; have BK251 := n2_; have HB := n3_; clear n0_ n1_ n2_ n3_; (try clear hb); (try clear hb2); (try clear hk); (try clear hi); (try clear ho0)) | (go_at_call 13; (with_reducible refine (engrosserref14_Parts.calls k a0 t260 t261 _ A11.out).mono ?_); rintro e w24 ⟨v262, rfl, ho0, hb⟩; have n0_ := Aside0.mk (Kd.R_below (by (with_reducible repeat (first | apply Kd.R_alloc | apply Kd.R_drewN | apply Kd.R_drew)); exact HO259.out) hb); have n1_ := Aside0.mk (Kd.R_lower (Kd.R_newB ho0 (g := gb251) (o := .cells #[.int .i64 t247, .string t248, .string t249] 28 (0, 0)) (by (with_reducible repeat (first | refine blk_drewN ?_ _ | refine blk_drew ?_ | refine blk_alloc ?_ _)); exact BK251.out)) (below_size (by repeat (first | (with_reducible first | exact HB.out | apply below_alloc | apply pw_below_drewN | apply below_drew1 | refine below_set ?_ GE246.out | refine below_set ?_ GE251.out) | exact HB.out)))); have n2_ := Aside0.mk (blk_below (g := gb246) (o := .cells #[.int .i64 t242, .string t243, .string t244] 24 (0, 0)) (by (with_reducible repeat (first | refine blk_drewN ?_ _ | refine blk_drew ?_ | refine blk_alloc ?_ _)); exact BK246.out) hb); have n3_ := Aside0.mk (blk_below (g := gb251) (o := .cells #[.int .i64 t247, .string t248, .string t249] 28 (0, 0)) (by (with_reducible repeat (first | refine blk_drewN ?_ _ | refine blk_drew ?_ | refine blk_alloc ?_ _)); exact BK251.out) hb); have n4_ := Aside0.mk (below_step (by repeat (first | (with_reducible first | exact HB.out | apply below_alloc | apply pw_below_drewN | apply below_drew1 | refine below_set ?_ GE246.out | refine below_set ?_ GE251.out) | exact HB.out)) hb); clear HO259; clear BK246; clear BK251; clear HB; have HO259 := n0_; have HO263 := n1_; have BK246 := n2_; have BK251 := n3_; have HB := n4_; clear n0_ n1_ n2_ n3_ n4_; (try clear hb); (try clear hb2); (try clear hk); (try clear hi); (try clear ho0); obtain ⟨Ao25, co25, eo25⟩ := Kd.R_slice HO259.out; subst eo25; obtain ⟨Ao26, co26, eo26⟩ := Kd.R_slice HO263.out; subst eo26))
   repeat (go_quiet (first | (go_at_call 7; (with_reducible refine (engrosserlaw14_examples.calls k  true _ A4.out).mono ?_); rintro e w13 ⟨rfl, hb⟩; have n0_ := Aside0.mk (below_step (by repeat (first | (with_reducible first | exact HB.out | apply below_alloc | apply pw_below_drewN | apply below_drew1) | exact HB.out)) hb); clear HB; have HB := n0_; clear n0_; (try clear hb); (try clear hb2); (try clear hk); (try clear hi)) | (go_at_call 8; (with_reducible refine (der_Next.calls a0 t242 t243 t244 t245 _ A6.out).mono ?_); rintro e w14 ⟨rfl, hb⟩; have n0_ := Aside0.mk (below_step (by repeat (first | (with_reducible first | exact HB.out | apply below_alloc | apply pw_below_drewN | apply below_drew1) | exact HB.out)) hb); clear HB; have HB := n0_; clear n0_; (try clear hb); (try clear hb2); (try clear hk); (try clear hi)) | ((with_reducible refine gate_dst (N := 8) rfl ?_); refine box_event ?hg (N := 8) ?hd (cs := #[.int .i64 0, .string (⟨#[]⟩ : ByteArray), .string (⟨#[]⟩ : ByteArray)]) (t := 24) ?hr ?_; (case hd => rfl); (case hg => rfl); (case hr => first | (go_simp; done) | (go_simp; rfl)); intro gb246 hg w15 hbox hb; have n0_ := Aside0.mk (below_step (by repeat (first | (with_reducible first | exact HB.out | apply below_alloc | apply pw_below_drewN | apply below_drew1) | exact HB.out)) hb); have n1_ := Aside0.mk (hbox); have n2_ := Aside0.mk ((by rw [hg]; exact (below_size (by repeat (first | (with_reducible first | exact HB.out | apply below_alloc | apply pw_below_drewN | apply below_drew1) | exact HB.out))) : w.heap.size ≤ gb246)); have n3_ := Aside0.mk ((by rw [hg]; exact (below_size (by repeat (first | (with_reducible first | exact HB.out | apply below_alloc | apply pw_below_drewN | apply below_drew1) | exact HB.out))) : w.heap.size ≤ gb246)); clear HB; have HB := n0_; have BK246 := n1_; have GW246 := n2_; have GE246 := n3_; clear n0_ n1_ n2_ n3_; clear hb hbox hg; have hcz16_0 : w15.cell? ⟨gb246, 0, none⟩ = some (.int .i64 0) := (blk_cell BK246.out 0).trans rfl; have hcz16_1 : w15.cell? ⟨gb246, 1, none⟩ = some (.string (⟨#[]⟩ : ByteArray)) := (blk_cell BK246.out 1).trans rfl; have hcz16_2 : w15.cell? ⟨gb246, 2, none⟩ = some (.string (⟨#[]⟩ : ByteArray)) := (blk_cell BK246.out 2).trans rfl; have hfz16_0 := blk_frozen BK246.out 0; have hfz16_1 := blk_frozen BK246.out 1; have hfz16_2 := blk_frozen BK246.out 2) | (go_at_call 9; (with_reducible refine (engrosserref14_Next.calls k a0 t247 t248 t249 t250 _ A7.out).mono ?_); rintro e w17 ⟨rfl, hb⟩; have n0_ := Aside0.mk (blk_below (g := gb246) (o := .cells #[.int .i64 t242, .string t243, .string t244] 24 (0, 0)) (by (with_reducible repeat (first | refine blk_drewN ?_ _ | refine blk_drew ?_ | refine blk_alloc ?_ _)); refine blk_put (cs := #[.int .i64 t242, .string t243, .string (⟨#[]⟩ : ByteArray)]) ?_ 2 _ rfl; (with_reducible repeat (first | refine blk_drewN ?_ _ | refine blk_drew ?_ | refine blk_alloc ?_ _)); refine blk_put (cs := #[.int .i64 t242, .string (⟨#[]⟩ : ByteArray), .string (⟨#[]⟩ : ByteArray)]) ?_ 1 _ rfl; (with_reducible repeat (first | refine blk_drewN ?_ _ | refine blk_drew ?_ | refine blk_alloc ?_ _)); refine blk_put (cs := #[.int .i64 0, .string (⟨#[]⟩ : ByteArray), .string (⟨#[]⟩ : ByteArray)]) ?_ 0 _ rfl; (with_reducible repeat (first | refine blk_drewN ?_ _ | refine blk_drew ?_ | refine blk_alloc ?_ _)); exact BK246.out) hb); have n1_ := Aside0.mk (below_step (by repeat (first | (with_reducible first | exact HB.out | apply below_alloc | apply pw_below_drewN | apply below_drew1 | refine below_set ?_ GE246.out) | exact HB.out)) hb); clear BK246; clear HB; have BK246 := n0_; have HB := n1_; clear n0_ n1_; (try clear hb); (try clear hb2); (try clear hk); (try clear hi)) | ((with_reducible refine gate_dst (N := 10) rfl ?_); refine box_event ?hg (N := 10) ?hd (cs := #[.int .i64 0, .string (⟨#[]⟩ : ByteArray), .string (⟨#[]⟩ : ByteArray)]) (t := 28) ?hr ?_; (case hd => rfl); (case hg => rfl); (case hr => first | (go_simp; done) | (go_simp; rfl)); intro gb251 hg w18 hbox hb; have n0_ := Aside0.mk (blk_below (g := gb246) (o := .cells #[.int .i64 t242, .string t243, .string t244] 24 (0, 0)) (by (with_reducible repeat (first | refine blk_drewN ?_ _ | refine blk_drew ?_ | refine blk_alloc ?_ _)); exact BK246.out) hb); have n1_ := Aside0.mk (below_step (by repeat (first | (with_reducible first | exact HB.out | apply below_alloc | apply pw_below_drewN | apply below_drew1 | refine below_set ?_ GE246.out) | exact HB.out)) hb); have n2_ := Aside0.mk (hbox); have n3_ := Aside0.mk ((by rw [hg]; exact (below_size (by repeat (first | (with_reducible first | exact HB.out | apply below_alloc | apply pw_below_drewN | apply below_drew1 | refine below_set ?_ GE246.out) | exact HB.out))) : w.heap.size ≤ gb251)); have n4_ := Aside0.mk ((by rw [hg]; exact (below_size (by repeat (first | (with_reducible first | exact HB.out | apply below_alloc | apply pw_below_drewN | apply below_drew1 | refine below_set ?_ GE246.out) | exact HB.out))) : w.heap.size ≤ gb251)); have n5_ := Aside0.mk ((by rw [hg]; exact Nat.ne_of_lt (blk_lt (g := gb246) (o := .cells #[.int .i64 t242, .string t243, .string t244] 24 (0, 0)) (by (with_reducible repeat (first | refine blk_drewN ?_ _ | refine blk_drew ?_ | refine blk_alloc ?_ _)); exact BK246.out)) : gb246 ≠ gb251)); have n6_ := Aside0.mk ((by rw [hg]; exact Nat.ne_of_gt (blk_lt (g := gb246) (o := .cells #[.int .i64 t242, .string t243, .string t244] 24 (0, 0)) (by (with_reducible repeat (first | refine blk_drewN ?_ _ | refine blk_drew ?_ | refine blk_alloc ?_ _)); exact BK246.out)) : gb251 ≠ gb246)); clear BK246; clear HB; have BK246 := n0_; have HB := n1_; have BK251 := n2_; have GW251 := n3_; have GE251 := n4_; have NB246_251 := n5_; have NB251_246 := n6_; clear n0_ n1_ n2_ n3_ n4_ n5_ n6_; clear hb hbox hg; have hnb19 := NB251_246.out; have hnc19 := NB246_251.out; have hcz20_0 : w18.cell? ⟨gb251, 0, none⟩ = some (.int .i64 0) := (blk_cell BK251.out 0).trans rfl; have hcz20_1 : w18.cell? ⟨gb251, 1, none⟩ = some (.string (⟨#[]⟩ : ByteArray)) := (blk_cell BK251.out 1).trans rfl; have hcz20_2 : w18.cell? ⟨gb251, 2, none⟩ = some (.string (⟨#[]⟩ : ByteArray)) := (blk_cell BK251.out 2).trans rfl; have hfz20_0 := blk_frozen BK251.out 0; have hfz20_1 := blk_frozen BK251.out 1; have hfz20_2 := blk_frozen BK251.out 2) | (go_at_call 10; (with_reducible refine (der_Wrap.calls a1 a2 t252 t253 _ A8.out).mono ?_); rintro e w21 ⟨rfl, hb⟩; have n0_ := Aside0.mk (blk_below (g := gb246) (o := .cells #[.int .i64 t242, .string t243, .string t244] 24 (0, 0)) (by (with_reducible repeat (first | refine blk_drewN ?_ _ | refine blk_drew ?_ | refine blk_alloc ?_ _)); refine blk_far ?_ NB246_251.out _; (with_reducible repeat (first | refine blk_drewN ?_ _ | refine blk_drew ?_ | refine blk_alloc ?_ _)); refine blk_far ?_ NB246_251.out _; (with_reducible repeat (first | refine blk_drewN ?_ _ | refine blk_drew ?_ | refine blk_alloc ?_ _)); refine blk_far ?_ NB246_251.out _; (with_reducible repeat (first | refine blk_drewN ?_ _ | refine blk_drew ?_ | refine blk_alloc ?_ _)); exact BK246.out) hb); have n1_ := Aside0.mk (blk_below (g := gb251) (o := .cells #[.int .i64 t247, .string t248, .string t249] 28 (0, 0)) (by (with_reducible repeat (first | refine blk_drewN ?_ _ | refine blk_drew ?_ | refine blk_alloc ?_ _)); refine blk_put (cs := #[.int .i64 t247, .string t248, .string (⟨#[]⟩ : ByteArray)]) ?_ 2 _ rfl; (with_reducible repeat (first | refine blk_drewN ?_ _ | refine blk_drew ?_ | refine blk_alloc ?_ _)); refine blk_put (cs := #[.int .i64 t247, .string (⟨#[]⟩ : ByteArray), .string (⟨#[]⟩ : ByteArray)]) ?_ 1 _ rfl; (with_reducible repeat (first | refine blk_drewN ?_ _ | refine blk_drew ?_ | refine blk_alloc ?_ _)); refine blk_put (cs := #[.int .i64 0, .string (⟨#[]⟩ : ByteArray), .string (⟨#[]⟩ : ByteArray)]) ?_ 0 _ rfl; (with_reducible repeat (first | refine blk_drewN ?_ _ | refine blk_drew ?_ | refine blk_alloc ?_ _)); exact BK251.out) hb); have n2_ := Aside0.mk (below_step (by repeat (first | (with_reducible first | exact HB.out | apply below_alloc | apply pw_below_drewN | apply below_drew1 | refine below_set ?_ GE246.out | refine below_set ?_ GE251.out) | exact HB.out)) hb); clear BK246; clear BK251; clear HB; have BK246 := n0_; have BK251 := n1_; have HB := n2_; clear n0_ n1_ n2_; (try clear hb); (try clear hb2); (try clear hk); (try clear hi)) | (go_at_call 11; (with_reducible refine (engrosserref14_Wrap.calls k a1 a2 t254 t255 _ A9.out).mono ?_); rintro e w22 ⟨rfl, hb⟩; have n0_ := Aside0.mk (blk_below (g := gb246) (o := .cells #[.int .i64 t242, .string t243, .string t244] 24 (0, 0)) (by (with_reducible repeat (first | refine blk_drewN ?_ _ | refine blk_drew ?_ | refine blk_alloc ?_ _)); exact BK246.out) hb); have n1_ := Aside0.mk (blk_below (g := gb251) (o := .cells #[.int .i64 t247, .string t248, .string t249] 28 (0, 0)) (by (with_reducible repeat (first | refine blk_drewN ?_ _ | refine blk_drew ?_ | refine blk_alloc ?_ _)); exact BK251.out) hb); have n2_ := Aside0.mk (below_step (by repeat (first | (with_reducible first | exact HB.out | apply below_alloc | apply pw_below_drewN | apply below_drew1 | refine below_set ?_ GE246.out | refine below_set ?_ GE251.out) | exact HB.out)) hb); clear BK246; clear BK251; clear HB; have BK246 := n0_; have BK251 := n1_; have HB := n2_; clear n0_ n1_ n2_; (try clear hb); (try clear hb2); (try clear hk); (try clear hi)) | (go_at_call 12; (with_reducible refine (der_Parts.calls a0 t256 t257 _ A10.out).mono ?_); rintro e w23 ⟨v258, rfl, ho0, hb⟩; have n0_ := Aside0.mk (Kd.R_lower (Kd.R_newB ho0 (g := gb246) (o := .cells #[.int .i64 t242, .string t243, .string t244] 24 (0, 0)) (by (with_reducible repeat (first | refine blk_drewN ?_ _ | refine blk_drew ?_ | refine blk_alloc ?_ _)); exact BK246.out)) (below_size (by repeat (first | (with_reducible first | exact HB.out | apply below_alloc | apply pw_below_drewN | apply below_drew1 | refine below_set ?_ GE246.out | refine below_set ?_ GE251.out) | exact HB.out)))); have n1_ := Aside0.mk (blk_below (g := gb246) (o := .cells #[.int .i64 t242, .string t243, .string t244] 24 (0, 0)) (by (with_reducible repeat (first | refine blk_drewN ?_ _ | refine blk_drew ?_ | refine blk_alloc ?_ _)); exact BK246.out) hb); have n2_ := Aside0.mk (blk_below (g := gb251) (o := .cells #[.int .i64 t247, .string t248, .string t249] 28 (0, 0)) (by (with_reducible repeat (first | refine blk_drewN ?_ _ | refine blk_drew ?_ | refine blk_alloc ?_ _)); exact BK251.out) hb); have n3_ := Aside0.mk (below_step (by repeat (first | (with_reducible first | exact HB.out | apply below_alloc | apply pw_below_drewN | apply below_drew1 | refine below_set ?_ GE246.out | refine below_set ?_ GE251.out) | exact HB.out)) hb); clear BK246; clear BK251; clear HB; have HO259 := n0_; have BK246 := n1_; have BK251 := n2_; have HB := n3_; clear n0_ n1_ n2_ n3_; (try clear hb); (try clear hb2); (try clear hk); (try clear hi); (try clear ho0)) | (go_at_call 13; (with_reducible refine (engrosserref14_Parts.calls k a0 t260 t261 _ A11.out).mono ?_); rintro e w24 ⟨v262, rfl, ho0, hb⟩; have n0_ := Aside0.mk (Kd.R_below (by (with_reducible repeat (first | apply Kd.R_alloc | apply Kd.R_drewN | apply Kd.R_drew)); exact HO259.out) hb); have n1_ := Aside0.mk (Kd.R_lower (Kd.R_newB ho0 (g := gb251) (o := .cells #[.int .i64 t247, .string t248, .string t249] 28 (0, 0)) (by (with_reducible repeat (first | refine blk_drewN ?_ _ | refine blk_drew ?_ | refine blk_alloc ?_ _)); exact BK251.out)) (below_size (by repeat (first | (with_reducible first | exact HB.out | apply below_alloc | apply pw_below_drewN | apply below_drew1 | refine below_set ?_ GE246.out | refine below_set ?_ GE251.out) | exact HB.out)))); have n2_ := Aside0.mk (blk_below (g := gb246) (o := .cells #[.int .i64 t242, .string t243, .string t244] 24 (0, 0)) (by (with_reducible repeat (first | refine blk_drewN ?_ _ | refine blk_drew ?_ | refine blk_alloc ?_ _)); exact BK246.out) hb); have n3_ := Aside0.mk (blk_below (g := gb251) (o := .cells #[.int .i64 t247, .string t248, .string t249] 28 (0, 0)) (by (with_reducible repeat (first | refine blk_drewN ?_ _ | refine blk_drew ?_ | refine blk_alloc ?_ _)); exact BK251.out) hb); have n4_ := Aside0.mk (below_step (by repeat (first | (with_reducible first | exact HB.out | apply below_alloc | apply pw_below_drewN | apply below_drew1 | refine below_set ?_ GE246.out | refine below_set ?_ GE251.out) | exact HB.out)) hb); clear HO259; clear BK246; clear BK251; clear HB; have HO259 := n0_; have HO263 := n1_; have BK246 := n2_; have BK251 := n3_; have HB := n4_; clear n0_ n1_ n2_ n3_ n4_; (try clear hb); (try clear hb2); (try clear hk); (try clear hi); (try clear ho0); obtain ⟨Ao25, co25, eo25⟩ := Kd.R_slice HO259.out; subst eo25; obtain ⟨Ao26, co26, eo26⟩ := Kd.R_slice HO263.out; subst eo26)); try go_wp2_with (first | (go_at_call 7; (with_reducible refine (engrosserlaw14_examples.calls k  true _ A4.out).mono ?_); rintro e w13 ⟨rfl, hb⟩; have n0_ := Aside0.mk (below_step (by repeat (first | (with_reducible first | exact HB.out | apply below_alloc | apply pw_below_drewN | apply below_drew1) | exact HB.out)) hb); clear HB; have HB := n0_; clear n0_; (try clear hb); (try clear hb2); (try clear hk); (try clear hi)) | (go_at_call 8; (with_reducible refine (der_Next.calls a0 t242 t243 t244 t245 _ A6.out).mono ?_); rintro e w14 ⟨rfl, hb⟩; have n0_ := Aside0.mk (below_step (by repeat (first | (with_reducible first | exact HB.out | apply below_alloc | apply pw_below_drewN | apply below_drew1) | exact HB.out)) hb); clear HB; have HB := n0_; clear n0_; (try clear hb); (try clear hb2); (try clear hk); (try clear hi)) | ((with_reducible refine gate_dst (N := 8) rfl ?_); refine box_event ?hg (N := 8) ?hd (cs := #[.int .i64 0, .string (⟨#[]⟩ : ByteArray), .string (⟨#[]⟩ : ByteArray)]) (t := 24) ?hr ?_; (case hd => rfl); (case hg => rfl); (case hr => first | (go_simp; done) | (go_simp; rfl)); intro gb246 hg w15 hbox hb; have n0_ := Aside0.mk (below_step (by repeat (first | (with_reducible first | exact HB.out | apply below_alloc | apply pw_below_drewN | apply below_drew1) | exact HB.out)) hb); have n1_ := Aside0.mk (hbox); have n2_ := Aside0.mk ((by rw [hg]; exact (below_size (by repeat (first | (with_reducible first | exact HB.out | apply below_alloc | apply pw_below_drewN | apply below_drew1) | exact HB.out))) : w.heap.size ≤ gb246)); have n3_ := Aside0.mk ((by rw [hg]; exact (below_size (by repeat (first | (with_reducible first | exact HB.out | apply below_alloc | apply pw_below_drewN | apply below_drew1) | exact HB.out))) : w.heap.size ≤ gb246)); clear HB; have HB := n0_; have BK246 := n1_; have GW246 := n2_; have GE246 := n3_; clear n0_ n1_ n2_ n3_; clear hb hbox hg; have hcz16_0 : w15.cell? ⟨gb246, 0, none⟩ = some (.int .i64 0) := (blk_cell BK246.out 0).trans rfl; have hcz16_1 : w15.cell? ⟨gb246, 1, none⟩ = some (.string (⟨#[]⟩ : ByteArray)) := (blk_cell BK246.out 1).trans rfl; have hcz16_2 : w15.cell? ⟨gb246, 2, none⟩ = some (.string (⟨#[]⟩ : ByteArray)) := (blk_cell BK246.out 2).trans rfl; have hfz16_0 := blk_frozen BK246.out 0; have hfz16_1 := blk_frozen BK246.out 1; have hfz16_2 := blk_frozen BK246.out 2) | (go_at_call 9; (with_reducible refine (engrosserref14_Next.calls k a0 t247 t248 t249 t250 _ A7.out).mono ?_); rintro e w17 ⟨rfl, hb⟩; have n0_ := Aside0.mk (blk_below (g := gb246) (o := .cells #[.int .i64 t242, .string t243, .string t244] 24 (0, 0)) (by (with_reducible repeat (first | refine blk_drewN ?_ _ | refine blk_drew ?_ | refine blk_alloc ?_ _)); refine blk_put (cs := #[.int .i64 t242, .string t243, .string (⟨#[]⟩ : ByteArray)]) ?_ 2 _ rfl; (with_reducible repeat (first | refine blk_drewN ?_ _ | refine blk_drew ?_ | refine blk_alloc ?_ _)); refine blk_put (cs := #[.int .i64 t242, .string (⟨#[]⟩ : ByteArray), .string (⟨#[]⟩ : ByteArray)]) ?_ 1 _ rfl; (with_reducible repeat (first | refine blk_drewN ?_ _ | refine blk_drew ?_ | refine blk_alloc ?_ _)); refine blk_put (cs := #[.int .i64 0, .string (⟨#[]⟩ : ByteArray), .string (⟨#[]⟩ : ByteArray)]) ?_ 0 _ rfl; (with_reducible repeat (first | refine blk_drewN ?_ _ | refine blk_drew ?_ | refine blk_alloc ?_ _)); exact BK246.out) hb); have n1_ := Aside0.mk (below_step (by repeat (first | (with_reducible first | exact HB.out | apply below_alloc | apply pw_below_drewN | apply below_drew1 | refine below_set ?_ GE246.out) | exact HB.out)) hb); clear BK246; clear HB; have BK246 := n0_; have HB := n1_; clear n0_ n1_; (try clear hb); (try clear hb2); (try clear hk); (try clear hi)) | ((with_reducible refine gate_dst (N := 10) rfl ?_); refine box_event ?hg (N := 10) ?hd (cs := #[.int .i64 0, .string (⟨#[]⟩ : ByteArray), .string (⟨#[]⟩ : ByteArray)]) (t := 28) ?hr ?_; (case hd => rfl); (case hg => rfl); (case hr => first | (go_simp; done) | (go_simp; rfl)); intro gb251 hg w18 hbox hb; have n0_ := Aside0.mk (blk_below (g := gb246) (o := .cells #[.int .i64 t242, .string t243, .string t244] 24 (0, 0)) (by (with_reducible repeat (first | refine blk_drewN ?_ _ | refine blk_drew ?_ | refine blk_alloc ?_ _)); exact BK246.out) hb); have n1_ := Aside0.mk (below_step (by repeat (first | (with_reducible first | exact HB.out | apply below_alloc | apply pw_below_drewN | apply below_drew1 | refine below_set ?_ GE246.out) | exact HB.out)) hb); have n2_ := Aside0.mk (hbox); have n3_ := Aside0.mk ((by rw [hg]; exact (below_size (by repeat (first | (with_reducible first | exact HB.out | apply below_alloc | apply pw_below_drewN | apply below_drew1 | refine below_set ?_ GE246.out) | exact HB.out))) : w.heap.size ≤ gb251)); have n4_ := Aside0.mk ((by rw [hg]; exact (below_size (by repeat (first | (with_reducible first | exact HB.out | apply below_alloc | apply pw_below_drewN | apply below_drew1 | refine below_set ?_ GE246.out) | exact HB.out))) : w.heap.size ≤ gb251)); have n5_ := Aside0.mk ((by rw [hg]; exact Nat.ne_of_lt (blk_lt (g := gb246) (o := .cells #[.int .i64 t242, .string t243, .string t244] 24 (0, 0)) (by (with_reducible repeat (first | refine blk_drewN ?_ _ | refine blk_drew ?_ | refine blk_alloc ?_ _)); exact BK246.out)) : gb246 ≠ gb251)); have n6_ := Aside0.mk ((by rw [hg]; exact Nat.ne_of_gt (blk_lt (g := gb246) (o := .cells #[.int .i64 t242, .string t243, .string t244] 24 (0, 0)) (by (with_reducible repeat (first | refine blk_drewN ?_ _ | refine blk_drew ?_ | refine blk_alloc ?_ _)); exact BK246.out)) : gb251 ≠ gb246)); clear BK246; clear HB; have BK246 := n0_; have HB := n1_; have BK251 := n2_; have GW251 := n3_; have GE251 := n4_; have NB246_251 := n5_; have NB251_246 := n6_; clear n0_ n1_ n2_ n3_ n4_ n5_ n6_; clear hb hbox hg; have hnb19 := NB251_246.out; have hnc19 := NB246_251.out; have hcz20_0 : w18.cell? ⟨gb251, 0, none⟩ = some (.int .i64 0) := (blk_cell BK251.out 0).trans rfl; have hcz20_1 : w18.cell? ⟨gb251, 1, none⟩ = some (.string (⟨#[]⟩ : ByteArray)) := (blk_cell BK251.out 1).trans rfl; have hcz20_2 : w18.cell? ⟨gb251, 2, none⟩ = some (.string (⟨#[]⟩ : ByteArray)) := (blk_cell BK251.out 2).trans rfl; have hfz20_0 := blk_frozen BK251.out 0; have hfz20_1 := blk_frozen BK251.out 1; have hfz20_2 := blk_frozen BK251.out 2) | (go_at_call 10; (with_reducible refine (der_Wrap.calls a1 a2 t252 t253 _ A8.out).mono ?_); rintro e w21 ⟨rfl, hb⟩; have n0_ := Aside0.mk (blk_below (g := gb246) (o := .cells #[.int .i64 t242, .string t243, .string t244] 24 (0, 0)) (by (with_reducible repeat (first | refine blk_drewN ?_ _ | refine blk_drew ?_ | refine blk_alloc ?_ _)); refine blk_far ?_ NB246_251.out _; (with_reducible repeat (first | refine blk_drewN ?_ _ | refine blk_drew ?_ | refine blk_alloc ?_ _)); refine blk_far ?_ NB246_251.out _; (with_reducible repeat (first | refine blk_drewN ?_ _ | refine blk_drew ?_ | refine blk_alloc ?_ _)); refine blk_far ?_ NB246_251.out _; (with_reducible repeat (first | refine blk_drewN ?_ _ | refine blk_drew ?_ | refine blk_alloc ?_ _)); exact BK246.out) hb); have n1_ := Aside0.mk (blk_below (g := gb251) (o := .cells #[.int .i64 t247, .string t248, .string t249] 28 (0, 0)) (by (with_reducible repeat (first | refine blk_drewN ?_ _ | refine blk_drew ?_ | refine blk_alloc ?_ _)); refine blk_put (cs := #[.int .i64 t247, .string t248, .string (⟨#[]⟩ : ByteArray)]) ?_ 2 _ rfl; (with_reducible repeat (first | refine blk_drewN ?_ _ | refine blk_drew ?_ | refine blk_alloc ?_ _)); refine blk_put (cs := #[.int .i64 t247, .string (⟨#[]⟩ : ByteArray), .string (⟨#[]⟩ : ByteArray)]) ?_ 1 _ rfl; (with_reducible repeat (first | refine blk_drewN ?_ _ | refine blk_drew ?_ | refine blk_alloc ?_ _)); refine blk_put (cs := #[.int .i64 0, .string (⟨#[]⟩ : ByteArray), .string (⟨#[]⟩ : ByteArray)]) ?_ 0 _ rfl; (with_reducible repeat (first | refine blk_drewN ?_ _ | refine blk_drew ?_ | refine blk_alloc ?_ _)); exact BK251.out) hb); have n2_ := Aside0.mk (below_step (by repeat (first | (with_reducible first | exact HB.out | apply below_alloc | apply pw_below_drewN | apply below_drew1 | refine below_set ?_ GE246.out | refine below_set ?_ GE251.out) | exact HB.out)) hb); clear BK246; clear BK251; clear HB; have BK246 := n0_; have BK251 := n1_; have HB := n2_; clear n0_ n1_ n2_; (try clear hb); (try clear hb2); (try clear hk); (try clear hi)) | (go_at_call 11; (with_reducible refine (engrosserref14_Wrap.calls k a1 a2 t254 t255 _ A9.out).mono ?_); rintro e w22 ⟨rfl, hb⟩; have n0_ := Aside0.mk (blk_below (g := gb246) (o := .cells #[.int .i64 t242, .string t243, .string t244] 24 (0, 0)) (by (with_reducible repeat (first | refine blk_drewN ?_ _ | refine blk_drew ?_ | refine blk_alloc ?_ _)); exact BK246.out) hb); have n1_ := Aside0.mk (blk_below (g := gb251) (o := .cells #[.int .i64 t247, .string t248, .string t249] 28 (0, 0)) (by (with_reducible repeat (first | refine blk_drewN ?_ _ | refine blk_drew ?_ | refine blk_alloc ?_ _)); exact BK251.out) hb); have n2_ := Aside0.mk (below_step (by repeat (first | (with_reducible first | exact HB.out | apply below_alloc | apply pw_below_drewN | apply below_drew1 | refine below_set ?_ GE246.out | refine below_set ?_ GE251.out) | exact HB.out)) hb); clear BK246; clear BK251; clear HB; have BK246 := n0_; have BK251 := n1_; have HB := n2_; clear n0_ n1_ n2_; (try clear hb); (try clear hb2); (try clear hk); (try clear hi)) | (go_at_call 12; (with_reducible refine (der_Parts.calls a0 t256 t257 _ A10.out).mono ?_); rintro e w23 ⟨v258, rfl, ho0, hb⟩; have n0_ := Aside0.mk (Kd.R_lower (Kd.R_newB ho0 (g := gb246) (o := .cells #[.int .i64 t242, .string t243, .string t244] 24 (0, 0)) (by (with_reducible repeat (first | refine blk_drewN ?_ _ | refine blk_drew ?_ | refine blk_alloc ?_ _)); exact BK246.out)) (below_size (by repeat (first | (with_reducible first | exact HB.out | apply below_alloc | apply pw_below_drewN | apply below_drew1 | refine below_set ?_ GE246.out | refine below_set ?_ GE251.out) | exact HB.out)))); have n1_ := Aside0.mk (blk_below (g := gb246) (o := .cells #[.int .i64 t242, .string t243, .string t244] 24 (0, 0)) (by (with_reducible repeat (first | refine blk_drewN ?_ _ | refine blk_drew ?_ | refine blk_alloc ?_ _)); exact BK246.out) hb); have n2_ := Aside0.mk (blk_below (g := gb251) (o := .cells #[.int .i64 t247, .string t248, .string t249] 28 (0, 0)) (by (with_reducible repeat (first | refine blk_drewN ?_ _ | refine blk_drew ?_ | refine blk_alloc ?_ _)); exact BK251.out) hb); have n3_ := Aside0.mk (below_step (by repeat (first | (with_reducible first | exact HB.out | apply below_alloc | apply pw_below_drewN | apply below_drew1 | refine below_set ?_ GE246.out | refine below_set ?_ GE251.out) | exact HB.out)) hb); clear BK246; clear BK251; clear HB; have HO259 := n0_; have BK246 := n1_; have BK251 := n2_; have HB := n3_; clear n0_ n1_ n2_ n3_; (try clear hb); (try clear hb2); (try clear hk); (try clear hi); (try clear ho0)) | (go_at_call 13; (with_reducible refine (engrosserref14_Parts.calls k a0 t260 t261 _ A11.out).mono ?_); rintro e w24 ⟨v262, rfl, ho0, hb⟩; have n0_ := Aside0.mk (Kd.R_below (by (with_reducible repeat (first | apply Kd.R_alloc | apply Kd.R_drewN | apply Kd.R_drew)); exact HO259.out) hb); have n1_ := Aside0.mk (Kd.R_lower (Kd.R_newB ho0 (g := gb251) (o := .cells #[.int .i64 t247, .string t248, .string t249] 28 (0, 0)) (by (with_reducible repeat (first | refine blk_drewN ?_ _ | refine blk_drew ?_ | refine blk_alloc ?_ _)); exact BK251.out)) (below_size (by repeat (first | (with_reducible first | exact HB.out | apply below_alloc | apply pw_below_drewN | apply below_drew1 | refine below_set ?_ GE246.out | refine below_set ?_ GE251.out) | exact HB.out)))); have n2_ := Aside0.mk (blk_below (g := gb246) (o := .cells #[.int .i64 t242, .string t243, .string t244] 24 (0, 0)) (by (with_reducible repeat (first | refine blk_drewN ?_ _ | refine blk_drew ?_ | refine blk_alloc ?_ _)); exact BK246.out) hb); have n3_ := Aside0.mk (blk_below (g := gb251) (o := .cells #[.int .i64 t247, .string t248, .string t249] 28 (0, 0)) (by (with_reducible repeat (first | refine blk_drewN ?_ _ | refine blk_drew ?_ | refine blk_alloc ?_ _)); exact BK251.out) hb); have n4_ := Aside0.mk (below_step (by repeat (first | (with_reducible first | exact HB.out | apply below_alloc | apply pw_below_drewN | apply below_drew1 | refine below_set ?_ GE246.out | refine below_set ?_ GE251.out) | exact HB.out)) hb); clear HO259; clear BK246; clear BK251; clear HB; have HO259 := n0_; have HO263 := n1_; have BK246 := n2_; have BK251 := n3_; have HB := n4_; clear n0_ n1_ n2_ n3_ n4_; (try clear hb); (try clear hb2); (try clear hk); (try clear hi); (try clear ho0); obtain ⟨Ao25, co25, eo25⟩ := Kd.R_slice HO259.out; subst eo25; obtain ⟨Ao26, co26, eo26⟩ := Kd.R_slice HO263.out; subst eo26)))
   go_loopg [20] k (fun kq v20 w' => ∃ (x20_1 : Int), v20 = .int .i64 x20_1 ∧ Aside0 (engrosserlaw14_DerItems.l0 kq true t245 t250 t252 t253 t254 t255 t256 t257 t260 t261 x20_1 t242 t243 t244 t247 t248 t249 = some r) ∧ Aside0 (kq ≤ k) ∧ Aside0 (Kd.R k24 24 w' w.heap.size (fun k_ => k_ ≠ gb246) (.slice Ao25 t256.length co25) t256) ∧ Aside0 (Kd.R k28 28 w' w.heap.size (fun k_ => k_ ≠ gb251) (.slice Ao26 t260.length co26) t260) ∧ Aside0 (w'.heap[gb246]? = some (.cells #[.int .i64 t242, .string t243, .string t244] 24 (0, 0))) ∧ Aside0 (w'.heap[gb251]? = some (.cells #[.int .i64 t247, .string t248, .string t249] 28 (0, 0))) ∧ Aside0 (Below w.heap.size w w'))
   case atStart => exact ⟨(0), (by first | rfl | (simp; done) | (simp [*]; done)), H', ⟨Nat.le_refl _⟩, ⟨by (with_reducible repeat (first | apply Kd.R_alloc | apply Kd.R_drewN | apply Kd.R_drew)); exact Kd.R_mono HO259.out (fun _ hk => hk.2)⟩, ⟨by (with_reducible repeat (first | apply Kd.R_alloc | apply Kd.R_drewN | apply Kd.R_drew)); exact Kd.R_mono HO263.out (fun _ hk => hk.2)⟩, ⟨by (with_reducible repeat (first | refine blk_drewN ?_ _ | refine blk_drew ?_ | refine blk_alloc ?_ _)); exact BK246.out⟩, ⟨by (with_reducible repeat (first | refine blk_drewN ?_ _ | refine blk_drew ?_ | refine blk_alloc ?_ _)); exact BK251.out⟩, ⟨by repeat (first | (with_reducible first | exact HB.out | apply below_alloc | apply pw_below_drewN | apply below_drew1 | refine below_set ?_ GE246.out | refine below_set ?_ GE251.out) | exact HB.out)⟩⟩
   case round =>
    clear H'
    try clear c1
    try clear p2
    try clear c3
    try clear c5
    try clear c12
    try clear c12b0
    try clear c12b1
    try clear c12b2
    try clear c19
    try clear hcz16_0
    try clear hcz16_1
    try clear hcz16_2
    try clear hcz20_0
    try clear hcz20_1
    try clear hcz20_2
    try clear hfz16_0
    try clear hfz16_1
    try clear hfz16_2
    try clear hfz20_0
    try clear hfz20_1
    try clear hfz20_2
    obtain ⟨x20_1, rfl, HA, HK1, HO_16, HO_18, BK246, BK251, HB⟩ := hrel
    cases gk with
    | zero => exact absurd HA.out (by simp [engrosserlaw14_DerItems.l0])
    | succ k1 =>
     have H := HA.out
     clear HA
     simp only [engrosserlaw14_DerItems.l0] at H
     by_cases c27 : x20_1 < (t256.length : Int)
     ·
      rw [if_pos c27] at H
      have c27b0 : decide (x20_1 < (t256.length : Int)) = true := decide_eq_true c27
      clear c27
      by_cases c28 : 0 ≤ x20_1
      ·
       rw [if_pos c28] at H
       have c28b0 : decide (0 ≤ x20_1) = true := decide_eq_true c28
       clear c28
       by_cases c29 : x20_1 < (t260.length : Int)
       ·
        rw [if_pos c29] at H
        have c29b0 : decide (x20_1 < (t260.length : Int)) = true := decide_eq_true c29
        clear c29
        by_cases c30 : ((rd_T24 t256 x20_1).f0) = ((rd_T28 t260 x20_1).f0)
        ·
         rw [if_pos c30] at H
         have c30b0 : (((rd_T24 t256 x20_1).f0) == ((rd_T28 t260 x20_1).f0)) = true := beq_iff_eq.mpr c30
         have c30b1 : (((rd_T24 t256 x20_1).f0) != ((rd_T28 t260 x20_1).f0)) = false := bne_eq_false_iff_eq.mpr c30
         clear c30
         by_cases c31 : ((rd_T24 t256 x20_1).f1).toList = ((rd_T28 t260 x20_1).f1).toList
         ·
          rw [if_pos c31] at H
          have c31b0 : (((rd_T24 t256 x20_1).f1).toList == ((rd_T28 t260 x20_1).f1).toList) = true := beq_iff_eq.mpr c31
          have c31b1 : (((rd_T24 t256 x20_1).f1).toList != ((rd_T28 t260 x20_1).f1).toList) = false := bne_eq_false_iff_eq.mpr c31
          clear c31
          by_cases c32 : ((rd_T24 t256 x20_1).f2).toList = ((rd_T28 t260 x20_1).f2).toList
          ·
           rw [if_pos c32] at H
           have c32b0 : (((rd_T24 t256 x20_1).f2).toList == ((rd_T28 t260 x20_1).f2).toList) = true := beq_iff_eq.mpr c32
           have c32b1 : (((rd_T24 t256 x20_1).f2).toList != ((rd_T28 t260 x20_1).f2).toList) = false := bne_eq_false_iff_eq.mpr c32
           clear c32
           have H' := Aside0.mk H
           clear H
           have p264 : 0 ≤ (x20_1 : Int) := of_decide_eq_true (by first | (with_reducible assumption) | assumption)
           have q264 : x20_1 < (t256.length : Int) := of_decide_eq_true (by first | (with_reducible assumption) | assumption)
           obtain ⟨ad264, e264, hx264_0, hx264_1, hx264_2⟩ := at_T24 (Kd.R_reads' HO_16.out).2.2 x20_1 p264 q264
           cases e264
           replace p264 := eq_true p264
           replace q264 := eq_true q264
           have p265 : 0 ≤ (x20_1 : Int) := of_decide_eq_true (by first | (with_reducible assumption) | assumption)
           have q265 : x20_1 < (t260.length : Int) := of_decide_eq_true (by first | (with_reducible assumption) | assumption)
           obtain ⟨ad265, e265, hx265_0, hx265_1, hx265_2⟩ := at_T28 (Kd.R_reads' HO_18.out).2.2 x20_1 p265 q265
           cases e265
           replace p265 := eq_true p265
           replace q265 := eq_true q265
           have p266 : 0 ≤ (x20_1 : Int) := of_decide_eq_true (by first | (with_reducible assumption) | assumption)
           have q266 : x20_1 < (t256.length : Int) := of_decide_eq_true (by first | (with_reducible assumption) | assumption)
           obtain ⟨ad266, e266, hx266_0, hx266_1, hx266_2⟩ := at_T24 (Kd.R_reads' HO_16.out).2.2 x20_1 p266 q266
           obtain rfl : ad264 = ad266 := (by injection e266)
           replace p266 := eq_true p266
           replace q266 := eq_true q266
           have p267 : 0 ≤ (x20_1 : Int) := of_decide_eq_true (by first | (with_reducible assumption) | assumption)
           have q267 : x20_1 < (t260.length : Int) := of_decide_eq_true (by first | (with_reducible assumption) | assumption)
           obtain ⟨ad267, e267, hx267_0, hx267_1, hx267_2⟩ := at_T28 (Kd.R_reads' HO_18.out).2.2 x20_1 p267 q267
           obtain rfl : ad265 = ad267 := (by injection e267)
           replace p267 := eq_true p267
           replace q267 := eq_true q267
           have p268 : 0 ≤ (x20_1 : Int) := of_decide_eq_true (by first | (with_reducible assumption) | assumption)
           have q268 : x20_1 < (t256.length : Int) := of_decide_eq_true (by first | (with_reducible assumption) | assumption)
           obtain ⟨ad268, e268, hx268_0, hx268_1, hx268_2⟩ := at_T24 (Kd.R_reads' HO_16.out).2.2 x20_1 p268 q268
           obtain rfl : ad264 = ad268 := (by injection e268)
           replace p268 := eq_true p268
           replace q268 := eq_true q268
           have p269 : 0 ≤ (x20_1 : Int) := of_decide_eq_true (by first | (with_reducible assumption) | assumption)
           have q269 : x20_1 < (t260.length : Int) := of_decide_eq_true (by first | (with_reducible assumption) | assumption)
           obtain ⟨ad269, e269, hx269_0, hx269_1, hx269_2⟩ := at_T28 (Kd.R_reads' HO_18.out).2.2 x20_1 p269 q269
           obtain rfl : ad265 = ad269 := (by injection e269)
           replace p269 := eq_true p269
           replace q269 := eq_true q269
           go_wp2
           repeat (go_quiet (fail); try go_wp2)
           go_roundg k1
           case measure => have := HK1.out; omega
           case rel => exact ⟨(wrap64 (x20_1 + 1)), (by first | rfl | (simp; done) | (simp [*]; done)), H', ⟨by have := HK1.out; omega⟩, ⟨by (with_reducible repeat (first | apply Kd.R_alloc | apply Kd.R_drewN | apply Kd.R_drew)); exact HO_16.out⟩, ⟨by (with_reducible repeat (first | apply Kd.R_alloc | apply Kd.R_drewN | apply Kd.R_drew)); exact HO_18.out⟩, ⟨by (with_reducible repeat (first | refine blk_drewN ?_ _ | refine blk_drew ?_ | refine blk_alloc ?_ _)); exact BK246.out⟩, ⟨by (with_reducible repeat (first | refine blk_drewN ?_ _ | refine blk_drew ?_ | refine blk_alloc ?_ _)); exact BK251.out⟩, ⟨by repeat (first | (with_reducible first | exact HB.out | apply below_alloc | apply pw_below_drewN | apply below_drew1 | refine below_set ?_ GE246.out | refine below_set ?_ GE251.out) | exact HB.out)⟩⟩
          ·
           rw [if_neg c32] at H
           have c32b0 : (((rd_T24 t256 x20_1).f2).toList == ((rd_T28 t260 x20_1).f2).toList) = false := beq_eq_false_iff_ne.mpr c32
           have c32b1 : (((rd_T24 t256 x20_1).f2).toList != ((rd_T28 t260 x20_1).f2).toList) = true := bne_iff_ne.mpr c32
           obtain rfl := Option.some.inj H
           have p264 : 0 ≤ (x20_1 : Int) := of_decide_eq_true (by first | (with_reducible assumption) | assumption)
           have q264 : x20_1 < (t256.length : Int) := of_decide_eq_true (by first | (with_reducible assumption) | assumption)
           obtain ⟨ad264, e264, hx264_0, hx264_1, hx264_2⟩ := at_T24 (Kd.R_reads' HO_16.out).2.2 x20_1 p264 q264
           cases e264
           replace p264 := eq_true p264
           replace q264 := eq_true q264
           have p265 : 0 ≤ (x20_1 : Int) := of_decide_eq_true (by first | (with_reducible assumption) | assumption)
           have q265 : x20_1 < (t260.length : Int) := of_decide_eq_true (by first | (with_reducible assumption) | assumption)
           obtain ⟨ad265, e265, hx265_0, hx265_1, hx265_2⟩ := at_T28 (Kd.R_reads' HO_18.out).2.2 x20_1 p265 q265
           cases e265
           replace p265 := eq_true p265
           replace q265 := eq_true q265
           have p266 : 0 ≤ (x20_1 : Int) := of_decide_eq_true (by first | (with_reducible assumption) | assumption)
           have q266 : x20_1 < (t256.length : Int) := of_decide_eq_true (by first | (with_reducible assumption) | assumption)
           obtain ⟨ad266, e266, hx266_0, hx266_1, hx266_2⟩ := at_T24 (Kd.R_reads' HO_16.out).2.2 x20_1 p266 q266
           obtain rfl : ad264 = ad266 := (by injection e266)
           replace p266 := eq_true p266
           replace q266 := eq_true q266
           have p267 : 0 ≤ (x20_1 : Int) := of_decide_eq_true (by first | (with_reducible assumption) | assumption)
           have q267 : x20_1 < (t260.length : Int) := of_decide_eq_true (by first | (with_reducible assumption) | assumption)
           obtain ⟨ad267, e267, hx267_0, hx267_1, hx267_2⟩ := at_T28 (Kd.R_reads' HO_18.out).2.2 x20_1 p267 q267
           obtain rfl : ad265 = ad267 := (by injection e267)
           replace p267 := eq_true p267
           replace q267 := eq_true q267
           have p268 : 0 ≤ (x20_1 : Int) := of_decide_eq_true (by first | (with_reducible assumption) | assumption)
           have q268 : x20_1 < (t256.length : Int) := of_decide_eq_true (by first | (with_reducible assumption) | assumption)
           obtain ⟨ad268, e268, hx268_0, hx268_1, hx268_2⟩ := at_T24 (Kd.R_reads' HO_16.out).2.2 x20_1 p268 q268
           obtain rfl : ad264 = ad268 := (by injection e268)
           replace p268 := eq_true p268
           replace q268 := eq_true q268
           have p269 : 0 ≤ (x20_1 : Int) := of_decide_eq_true (by first | (with_reducible assumption) | assumption)
           have q269 : x20_1 < (t260.length : Int) := of_decide_eq_true (by first | (with_reducible assumption) | assumption)
           obtain ⟨ad269, e269, hx269_0, hx269_1, hx269_2⟩ := at_T28 (Kd.R_reads' HO_18.out).2.2 x20_1 p269 q269
           obtain rfl : ad265 = ad269 := (by injection e269)
           replace p269 := eq_true p269
           replace q269 := eq_true q269
           go_wp2
           repeat (go_quiet (fail); try go_wp2)
           go_ret
           exact ⟨by first | rfl | (simp [errW_none, errW_some] <;> rfl) | (simp [*, errW_none, errW_some] <;> rfl), by repeat (first | (with_reducible first | exact HB.out | apply below_alloc | apply pw_below_drewN | apply below_drew1 | refine below_set ?_ GE246.out | refine below_set ?_ GE251.out) | exact HB.out)⟩
         ·
          rw [if_neg c31] at H
          have c31b0 : (((rd_T24 t256 x20_1).f1).toList == ((rd_T28 t260 x20_1).f1).toList) = false := beq_eq_false_iff_ne.mpr c31
          have c31b1 : (((rd_T24 t256 x20_1).f1).toList != ((rd_T28 t260 x20_1).f1).toList) = true := bne_iff_ne.mpr c31
          obtain rfl := Option.some.inj H
          have p264 : 0 ≤ (x20_1 : Int) := of_decide_eq_true (by first | (with_reducible assumption) | assumption)
          have q264 : x20_1 < (t256.length : Int) := of_decide_eq_true (by first | (with_reducible assumption) | assumption)
          obtain ⟨ad264, e264, hx264_0, hx264_1, hx264_2⟩ := at_T24 (Kd.R_reads' HO_16.out).2.2 x20_1 p264 q264
          cases e264
          replace p264 := eq_true p264
          replace q264 := eq_true q264
          have p265 : 0 ≤ (x20_1 : Int) := of_decide_eq_true (by first | (with_reducible assumption) | assumption)
          have q265 : x20_1 < (t260.length : Int) := of_decide_eq_true (by first | (with_reducible assumption) | assumption)
          obtain ⟨ad265, e265, hx265_0, hx265_1, hx265_2⟩ := at_T28 (Kd.R_reads' HO_18.out).2.2 x20_1 p265 q265
          cases e265
          replace p265 := eq_true p265
          replace q265 := eq_true q265
          have p266 : 0 ≤ (x20_1 : Int) := of_decide_eq_true (by first | (with_reducible assumption) | assumption)
          have q266 : x20_1 < (t256.length : Int) := of_decide_eq_true (by first | (with_reducible assumption) | assumption)
          obtain ⟨ad266, e266, hx266_0, hx266_1, hx266_2⟩ := at_T24 (Kd.R_reads' HO_16.out).2.2 x20_1 p266 q266
          obtain rfl : ad264 = ad266 := (by injection e266)
          replace p266 := eq_true p266
          replace q266 := eq_true q266
          have p267 : 0 ≤ (x20_1 : Int) := of_decide_eq_true (by first | (with_reducible assumption) | assumption)
          have q267 : x20_1 < (t260.length : Int) := of_decide_eq_true (by first | (with_reducible assumption) | assumption)
          obtain ⟨ad267, e267, hx267_0, hx267_1, hx267_2⟩ := at_T28 (Kd.R_reads' HO_18.out).2.2 x20_1 p267 q267
          obtain rfl : ad265 = ad267 := (by injection e267)
          replace p267 := eq_true p267
          replace q267 := eq_true q267
          go_wp2
          repeat (go_quiet (fail); try go_wp2)
          go_ret
          exact ⟨by first | rfl | (simp [errW_none, errW_some] <;> rfl) | (simp [*, errW_none, errW_some] <;> rfl), by repeat (first | (with_reducible first | exact HB.out | apply below_alloc | apply pw_below_drewN | apply below_drew1 | refine below_set ?_ GE246.out | refine below_set ?_ GE251.out) | exact HB.out)⟩
        ·
         rw [if_neg c30] at H
         have c30b0 : (((rd_T24 t256 x20_1).f0) == ((rd_T28 t260 x20_1).f0)) = false := beq_eq_false_iff_ne.mpr c30
         have c30b1 : (((rd_T24 t256 x20_1).f0) != ((rd_T28 t260 x20_1).f0)) = true := bne_iff_ne.mpr c30
         obtain rfl := Option.some.inj H
         have p264 : 0 ≤ (x20_1 : Int) := of_decide_eq_true (by first | (with_reducible assumption) | assumption)
         have q264 : x20_1 < (t256.length : Int) := of_decide_eq_true (by first | (with_reducible assumption) | assumption)
         obtain ⟨ad264, e264, hx264_0, hx264_1, hx264_2⟩ := at_T24 (Kd.R_reads' HO_16.out).2.2 x20_1 p264 q264
         cases e264
         replace p264 := eq_true p264
         replace q264 := eq_true q264
         have p265 : 0 ≤ (x20_1 : Int) := of_decide_eq_true (by first | (with_reducible assumption) | assumption)
         have q265 : x20_1 < (t260.length : Int) := of_decide_eq_true (by first | (with_reducible assumption) | assumption)
         obtain ⟨ad265, e265, hx265_0, hx265_1, hx265_2⟩ := at_T28 (Kd.R_reads' HO_18.out).2.2 x20_1 p265 q265
         cases e265
         replace p265 := eq_true p265
         replace q265 := eq_true q265
         go_wp2
         repeat (go_quiet (fail); try go_wp2)
         go_ret
         exact ⟨by first | rfl | (simp [errW_none, errW_some] <;> rfl) | (simp [*, errW_none, errW_some] <;> rfl), by repeat (first | (with_reducible first | exact HB.out | apply below_alloc | apply pw_below_drewN | apply below_drew1 | refine below_set ?_ GE246.out | refine below_set ?_ GE251.out) | exact HB.out)⟩
       ·
        rw [if_neg c29] at H
        exact absurd H (by simp)
      ·
       rw [if_neg c28] at H
       exact absurd H (by simp)
     ·
      rw [if_neg c27] at H
      have c27b0 : decide (x20_1 < (t256.length : Int)) = false := decide_eq_false c27
      clear c27
      by_cases c33 : true = true
      ·
       clear c33
       have H1 : (if t242 = t247 then (if t243.toList = t248.toList then (if t244.toList = t249.toList then (if t250 = true then (if t245 = 0 then (if t252.toList = t254.toList then (if t253 = t255 then (some (t257 == t261)) else (some false)) else (some false)) else (some false)) else (if t245 = 2 then (if t252.toList = t254.toList then (if t253 = t255 then (some (t257 == t261)) else (some false)) else (some false)) else (some false))) else (some false)) else (some false)) else (some false)) = some r := by first | (rw [if_pos rfl] at H; exact H) | (rw [if_pos trivial] at H; exact H)
       clear H
       have H := H1
       clear H1
       by_cases c34 : t242 = t247
       ·
        rw [if_pos c34] at H
        have c34b0 : (t242 == t247) = true := beq_iff_eq.mpr c34
        have c34b1 : (t242 != t247) = false := bne_eq_false_iff_eq.mpr c34
        clear c34
        by_cases c35 : t243.toList = t248.toList
        ·
         rw [if_pos c35] at H
         have c35b0 : (t243.toList == t248.toList) = true := beq_iff_eq.mpr c35
         have c35b1 : (t243.toList != t248.toList) = false := bne_eq_false_iff_eq.mpr c35
         clear c35
         by_cases c36 : t244.toList = t249.toList
         ·
          rw [if_pos c36] at H
          have c36b0 : (t244.toList == t249.toList) = true := beq_iff_eq.mpr c36
          have c36b1 : (t244.toList != t249.toList) = false := bne_eq_false_iff_eq.mpr c36
          clear c36
          by_cases c37 : t250 = true
          ·
           subst c37
           have H1 : (if t245 = 0 then (if t252.toList = t254.toList then (if t253 = t255 then (some (t257 == t261)) else (some false)) else (some false)) else (some false)) = some r := by first | (rw [if_pos rfl] at H; exact H) | (rw [if_pos trivial] at H; exact H)
           clear H
           have H := H1
           clear H1
           by_cases c38 : t245 = 0
           ·
            rw [if_pos c38] at H
            have c38b0 : (t245 == 0) = true := beq_iff_eq.mpr c38
            have c38b1 : (t245 != 0) = false := bne_eq_false_iff_eq.mpr c38
            clear c38
            by_cases c39 : t252.toList = t254.toList
            ·
             rw [if_pos c39] at H
             have c39b0 : (t252.toList == t254.toList) = true := beq_iff_eq.mpr c39
             have c39b1 : (t252.toList != t254.toList) = false := bne_eq_false_iff_eq.mpr c39
             clear c39
             by_cases c40 : t253 = t255
             ·
              rw [if_pos c40] at H
              have c40b0 : (t253 == t255) = true := beq_iff_eq.mpr c40
              have c40b1 : (t253 != t255) = false := bne_eq_false_iff_eq.mpr c40
              clear c40
              obtain rfl := Option.some.inj H
              have hnb41 := NB246_251.out
              have hnc41 := NB251_246.out
              have hcz42_0 : wr.cell? ⟨gb246, 0, none⟩ = some (.int .i64 t242) := (blk_cell BK246.out 0).trans rfl
              have hcz42_1 : wr.cell? ⟨gb246, 1, none⟩ = some (.string t243) := (blk_cell BK246.out 1).trans rfl
              have hcz42_2 : wr.cell? ⟨gb246, 2, none⟩ = some (.string t244) := (blk_cell BK246.out 2).trans rfl
              have hfz42_0 := blk_frozen BK246.out 0
              have hfz42_1 := blk_frozen BK246.out 1
              have hfz42_2 := blk_frozen BK246.out 2
              have hcz43_0 : wr.cell? ⟨gb251, 0, none⟩ = some (.int .i64 t247) := (blk_cell BK251.out 0).trans rfl
              have hcz43_1 : wr.cell? ⟨gb251, 1, none⟩ = some (.string t248) := (blk_cell BK251.out 1).trans rfl
              have hcz43_2 : wr.cell? ⟨gb251, 2, none⟩ = some (.string t249) := (blk_cell BK251.out 2).trans rfl
              have hfz43_0 := blk_frozen BK251.out 0
              have hfz43_1 := blk_frozen BK251.out 1
              have hfz43_2 := blk_frozen BK251.out 2
              go_wp2
              repeat (go_quiet (fail); try go_wp2)
              go_ret
              exact ⟨by first | rfl | (simp [errW_none, errW_some] <;> rfl) | (simp [*, errW_none, errW_some] <;> rfl), by repeat (first | (with_reducible first | exact HB.out | apply below_alloc | apply pw_below_drewN | apply below_drew1 | refine below_set ?_ GE246.out | refine below_set ?_ GE251.out) | exact HB.out)⟩
             ·
              rw [if_neg c40] at H
              have c40b0 : (t253 == t255) = false := beq_eq_false_iff_ne.mpr c40
              have c40b1 : (t253 != t255) = true := bne_iff_ne.mpr c40
              obtain rfl := Option.some.inj H
              have hnb44 := NB246_251.out
              have hnc44 := NB251_246.out
              have hcz45_0 : wr.cell? ⟨gb246, 0, none⟩ = some (.int .i64 t242) := (blk_cell BK246.out 0).trans rfl
              have hcz45_1 : wr.cell? ⟨gb246, 1, none⟩ = some (.string t243) := (blk_cell BK246.out 1).trans rfl
              have hcz45_2 : wr.cell? ⟨gb246, 2, none⟩ = some (.string t244) := (blk_cell BK246.out 2).trans rfl
              have hfz45_0 := blk_frozen BK246.out 0
              have hfz45_1 := blk_frozen BK246.out 1
              have hfz45_2 := blk_frozen BK246.out 2
              have hcz46_0 : wr.cell? ⟨gb251, 0, none⟩ = some (.int .i64 t247) := (blk_cell BK251.out 0).trans rfl
              have hcz46_1 : wr.cell? ⟨gb251, 1, none⟩ = some (.string t248) := (blk_cell BK251.out 1).trans rfl
              have hcz46_2 : wr.cell? ⟨gb251, 2, none⟩ = some (.string t249) := (blk_cell BK251.out 2).trans rfl
              have hfz46_0 := blk_frozen BK251.out 0
              have hfz46_1 := blk_frozen BK251.out 1
              have hfz46_2 := blk_frozen BK251.out 2
              go_wp2
              repeat (go_quiet (fail); try go_wp2)
              go_ret
              exact ⟨by first | rfl | (simp [errW_none, errW_some] <;> rfl) | (simp [*, errW_none, errW_some] <;> rfl), by repeat (first | (with_reducible first | exact HB.out | apply below_alloc | apply pw_below_drewN | apply below_drew1 | refine below_set ?_ GE246.out | refine below_set ?_ GE251.out) | exact HB.out)⟩
            ·
             rw [if_neg c39] at H
             have c39b0 : (t252.toList == t254.toList) = false := beq_eq_false_iff_ne.mpr c39
             have c39b1 : (t252.toList != t254.toList) = true := bne_iff_ne.mpr c39
             obtain rfl := Option.some.inj H
             have hnb47 := NB246_251.out
             have hnc47 := NB251_246.out
             have hcz48_0 : wr.cell? ⟨gb246, 0, none⟩ = some (.int .i64 t242) := (blk_cell BK246.out 0).trans rfl
             have hcz48_1 : wr.cell? ⟨gb246, 1, none⟩ = some (.string t243) := (blk_cell BK246.out 1).trans rfl
             have hcz48_2 : wr.cell? ⟨gb246, 2, none⟩ = some (.string t244) := (blk_cell BK246.out 2).trans rfl
             have hfz48_0 := blk_frozen BK246.out 0
             have hfz48_1 := blk_frozen BK246.out 1
             have hfz48_2 := blk_frozen BK246.out 2
             have hcz49_0 : wr.cell? ⟨gb251, 0, none⟩ = some (.int .i64 t247) := (blk_cell BK251.out 0).trans rfl
             have hcz49_1 : wr.cell? ⟨gb251, 1, none⟩ = some (.string t248) := (blk_cell BK251.out 1).trans rfl
             have hcz49_2 : wr.cell? ⟨gb251, 2, none⟩ = some (.string t249) := (blk_cell BK251.out 2).trans rfl
             have hfz49_0 := blk_frozen BK251.out 0
             have hfz49_1 := blk_frozen BK251.out 1
             have hfz49_2 := blk_frozen BK251.out 2
             go_wp2
             repeat (go_quiet (fail); try go_wp2)
             go_ret
             exact ⟨by first | rfl | (simp [errW_none, errW_some] <;> rfl) | (simp [*, errW_none, errW_some] <;> rfl), by repeat (first | (with_reducible first | exact HB.out | apply below_alloc | apply pw_below_drewN | apply below_drew1 | refine below_set ?_ GE246.out | refine below_set ?_ GE251.out) | exact HB.out)⟩
           ·
            rw [if_neg c38] at H
            have c38b0 : (t245 == 0) = false := beq_eq_false_iff_ne.mpr c38
            have c38b1 : (t245 != 0) = true := bne_iff_ne.mpr c38
            obtain rfl := Option.some.inj H
            have hnb50 := NB246_251.out
            have hnc50 := NB251_246.out
            have hcz51_0 : wr.cell? ⟨gb246, 0, none⟩ = some (.int .i64 t242) := (blk_cell BK246.out 0).trans rfl
            have hcz51_1 : wr.cell? ⟨gb246, 1, none⟩ = some (.string t243) := (blk_cell BK246.out 1).trans rfl
            have hcz51_2 : wr.cell? ⟨gb246, 2, none⟩ = some (.string t244) := (blk_cell BK246.out 2).trans rfl
            have hfz51_0 := blk_frozen BK246.out 0
            have hfz51_1 := blk_frozen BK246.out 1
            have hfz51_2 := blk_frozen BK246.out 2
            have hcz52_0 : wr.cell? ⟨gb251, 0, none⟩ = some (.int .i64 t247) := (blk_cell BK251.out 0).trans rfl
            have hcz52_1 : wr.cell? ⟨gb251, 1, none⟩ = some (.string t248) := (blk_cell BK251.out 1).trans rfl
            have hcz52_2 : wr.cell? ⟨gb251, 2, none⟩ = some (.string t249) := (blk_cell BK251.out 2).trans rfl
            have hfz52_0 := blk_frozen BK251.out 0
            have hfz52_1 := blk_frozen BK251.out 1
            have hfz52_2 := blk_frozen BK251.out 2
            go_wp2
            repeat (go_quiet (fail); try go_wp2)
            go_ret
            exact ⟨by first | rfl | (simp [errW_none, errW_some] <;> rfl) | (simp [*, errW_none, errW_some] <;> rfl), by repeat (first | (with_reducible first | exact HB.out | apply below_alloc | apply pw_below_drewN | apply below_drew1 | refine below_set ?_ GE246.out | refine below_set ?_ GE251.out) | exact HB.out)⟩
          ·
           replace c37 := Bool.eq_false_iff.mpr c37
           subst c37
           have H1 : (if t245 = 2 then (if t252.toList = t254.toList then (if t253 = t255 then (some (t257 == t261)) else (some false)) else (some false)) else (some false)) = some r := by rw [if_neg (show ¬ (false = true) by decide)] at H; exact H
           clear H
           have H := H1
           clear H1
           by_cases c53 : t245 = 2
           ·
            rw [if_pos c53] at H
            have c53b0 : (t245 == 2) = true := beq_iff_eq.mpr c53
            have c53b1 : (t245 != 2) = false := bne_eq_false_iff_eq.mpr c53
            clear c53
            by_cases c54 : t252.toList = t254.toList
            ·
             rw [if_pos c54] at H
             have c54b0 : (t252.toList == t254.toList) = true := beq_iff_eq.mpr c54
             have c54b1 : (t252.toList != t254.toList) = false := bne_eq_false_iff_eq.mpr c54
             clear c54
             by_cases c55 : t253 = t255
             ·
              rw [if_pos c55] at H
              have c55b0 : (t253 == t255) = true := beq_iff_eq.mpr c55
              have c55b1 : (t253 != t255) = false := bne_eq_false_iff_eq.mpr c55
              clear c55
              obtain rfl := Option.some.inj H
              have hnb56 := NB246_251.out
              have hnc56 := NB251_246.out
              have hcz57_0 : wr.cell? ⟨gb246, 0, none⟩ = some (.int .i64 t242) := (blk_cell BK246.out 0).trans rfl
              have hcz57_1 : wr.cell? ⟨gb246, 1, none⟩ = some (.string t243) := (blk_cell BK246.out 1).trans rfl
              have hcz57_2 : wr.cell? ⟨gb246, 2, none⟩ = some (.string t244) := (blk_cell BK246.out 2).trans rfl
              have hfz57_0 := blk_frozen BK246.out 0
              have hfz57_1 := blk_frozen BK246.out 1
              have hfz57_2 := blk_frozen BK246.out 2
              have hcz58_0 : wr.cell? ⟨gb251, 0, none⟩ = some (.int .i64 t247) := (blk_cell BK251.out 0).trans rfl
              have hcz58_1 : wr.cell? ⟨gb251, 1, none⟩ = some (.string t248) := (blk_cell BK251.out 1).trans rfl
              have hcz58_2 : wr.cell? ⟨gb251, 2, none⟩ = some (.string t249) := (blk_cell BK251.out 2).trans rfl
              have hfz58_0 := blk_frozen BK251.out 0
              have hfz58_1 := blk_frozen BK251.out 1
              have hfz58_2 := blk_frozen BK251.out 2
              go_wp2
              repeat (go_quiet (fail); try go_wp2)
              go_ret
              exact ⟨by first | rfl | (simp [errW_none, errW_some] <;> rfl) | (simp [*, errW_none, errW_some] <;> rfl), by repeat (first | (with_reducible first | exact HB.out | apply below_alloc | apply pw_below_drewN | apply below_drew1 | refine below_set ?_ GE246.out | refine below_set ?_ GE251.out) | exact HB.out)⟩
             ·
              rw [if_neg c55] at H
              have c55b0 : (t253 == t255) = false := beq_eq_false_iff_ne.mpr c55
              have c55b1 : (t253 != t255) = true := bne_iff_ne.mpr c55
              obtain rfl := Option.some.inj H
              have hnb59 := NB246_251.out
              have hnc59 := NB251_246.out
              have hcz60_0 : wr.cell? ⟨gb246, 0, none⟩ = some (.int .i64 t242) := (blk_cell BK246.out 0).trans rfl
              have hcz60_1 : wr.cell? ⟨gb246, 1, none⟩ = some (.string t243) := (blk_cell BK246.out 1).trans rfl
              have hcz60_2 : wr.cell? ⟨gb246, 2, none⟩ = some (.string t244) := (blk_cell BK246.out 2).trans rfl
              have hfz60_0 := blk_frozen BK246.out 0
              have hfz60_1 := blk_frozen BK246.out 1
              have hfz60_2 := blk_frozen BK246.out 2
              have hcz61_0 : wr.cell? ⟨gb251, 0, none⟩ = some (.int .i64 t247) := (blk_cell BK251.out 0).trans rfl
              have hcz61_1 : wr.cell? ⟨gb251, 1, none⟩ = some (.string t248) := (blk_cell BK251.out 1).trans rfl
              have hcz61_2 : wr.cell? ⟨gb251, 2, none⟩ = some (.string t249) := (blk_cell BK251.out 2).trans rfl
              have hfz61_0 := blk_frozen BK251.out 0
              have hfz61_1 := blk_frozen BK251.out 1
              have hfz61_2 := blk_frozen BK251.out 2
              go_wp2
              repeat (go_quiet (fail); try go_wp2)
              go_ret
              exact ⟨by first | rfl | (simp [errW_none, errW_some] <;> rfl) | (simp [*, errW_none, errW_some] <;> rfl), by repeat (first | (with_reducible first | exact HB.out | apply below_alloc | apply pw_below_drewN | apply below_drew1 | refine below_set ?_ GE246.out | refine below_set ?_ GE251.out) | exact HB.out)⟩
            ·
             rw [if_neg c54] at H
             have c54b0 : (t252.toList == t254.toList) = false := beq_eq_false_iff_ne.mpr c54
             have c54b1 : (t252.toList != t254.toList) = true := bne_iff_ne.mpr c54
             obtain rfl := Option.some.inj H
             have hnb62 := NB246_251.out
             have hnc62 := NB251_246.out
             have hcz63_0 : wr.cell? ⟨gb246, 0, none⟩ = some (.int .i64 t242) := (blk_cell BK246.out 0).trans rfl
             have hcz63_1 : wr.cell? ⟨gb246, 1, none⟩ = some (.string t243) := (blk_cell BK246.out 1).trans rfl
             have hcz63_2 : wr.cell? ⟨gb246, 2, none⟩ = some (.string t244) := (blk_cell BK246.out 2).trans rfl
             have hfz63_0 := blk_frozen BK246.out 0
             have hfz63_1 := blk_frozen BK246.out 1
             have hfz63_2 := blk_frozen BK246.out 2
             have hcz64_0 : wr.cell? ⟨gb251, 0, none⟩ = some (.int .i64 t247) := (blk_cell BK251.out 0).trans rfl
             have hcz64_1 : wr.cell? ⟨gb251, 1, none⟩ = some (.string t248) := (blk_cell BK251.out 1).trans rfl
             have hcz64_2 : wr.cell? ⟨gb251, 2, none⟩ = some (.string t249) := (blk_cell BK251.out 2).trans rfl
             have hfz64_0 := blk_frozen BK251.out 0
             have hfz64_1 := blk_frozen BK251.out 1
             have hfz64_2 := blk_frozen BK251.out 2
             go_wp2
             repeat (go_quiet (fail); try go_wp2)
             go_ret
             exact ⟨by first | rfl | (simp [errW_none, errW_some] <;> rfl) | (simp [*, errW_none, errW_some] <;> rfl), by repeat (first | (with_reducible first | exact HB.out | apply below_alloc | apply pw_below_drewN | apply below_drew1 | refine below_set ?_ GE246.out | refine below_set ?_ GE251.out) | exact HB.out)⟩
           ·
            rw [if_neg c53] at H
            have c53b0 : (t245 == 2) = false := beq_eq_false_iff_ne.mpr c53
            have c53b1 : (t245 != 2) = true := bne_iff_ne.mpr c53
            obtain rfl := Option.some.inj H
            have hnb65 := NB246_251.out
            have hnc65 := NB251_246.out
            have hcz66_0 : wr.cell? ⟨gb246, 0, none⟩ = some (.int .i64 t242) := (blk_cell BK246.out 0).trans rfl
            have hcz66_1 : wr.cell? ⟨gb246, 1, none⟩ = some (.string t243) := (blk_cell BK246.out 1).trans rfl
            have hcz66_2 : wr.cell? ⟨gb246, 2, none⟩ = some (.string t244) := (blk_cell BK246.out 2).trans rfl
            have hfz66_0 := blk_frozen BK246.out 0
            have hfz66_1 := blk_frozen BK246.out 1
            have hfz66_2 := blk_frozen BK246.out 2
            have hcz67_0 : wr.cell? ⟨gb251, 0, none⟩ = some (.int .i64 t247) := (blk_cell BK251.out 0).trans rfl
            have hcz67_1 : wr.cell? ⟨gb251, 1, none⟩ = some (.string t248) := (blk_cell BK251.out 1).trans rfl
            have hcz67_2 : wr.cell? ⟨gb251, 2, none⟩ = some (.string t249) := (blk_cell BK251.out 2).trans rfl
            have hfz67_0 := blk_frozen BK251.out 0
            have hfz67_1 := blk_frozen BK251.out 1
            have hfz67_2 := blk_frozen BK251.out 2
            go_wp2
            repeat (go_quiet (fail); try go_wp2)
            go_ret
            exact ⟨by first | rfl | (simp [errW_none, errW_some] <;> rfl) | (simp [*, errW_none, errW_some] <;> rfl), by repeat (first | (with_reducible first | exact HB.out | apply below_alloc | apply pw_below_drewN | apply below_drew1 | refine below_set ?_ GE246.out | refine below_set ?_ GE251.out) | exact HB.out)⟩
         ·
          rw [if_neg c36] at H
          have c36b0 : (t244.toList == t249.toList) = false := beq_eq_false_iff_ne.mpr c36
          have c36b1 : (t244.toList != t249.toList) = true := bne_iff_ne.mpr c36
          obtain rfl := Option.some.inj H
          have hnb68 := NB246_251.out
          have hnc68 := NB251_246.out
          have hcz69_0 : wr.cell? ⟨gb246, 0, none⟩ = some (.int .i64 t242) := (blk_cell BK246.out 0).trans rfl
          have hcz69_1 : wr.cell? ⟨gb246, 1, none⟩ = some (.string t243) := (blk_cell BK246.out 1).trans rfl
          have hcz69_2 : wr.cell? ⟨gb246, 2, none⟩ = some (.string t244) := (blk_cell BK246.out 2).trans rfl
          have hfz69_0 := blk_frozen BK246.out 0
          have hfz69_1 := blk_frozen BK246.out 1
          have hfz69_2 := blk_frozen BK246.out 2
          have hcz70_0 : wr.cell? ⟨gb251, 0, none⟩ = some (.int .i64 t247) := (blk_cell BK251.out 0).trans rfl
          have hcz70_1 : wr.cell? ⟨gb251, 1, none⟩ = some (.string t248) := (blk_cell BK251.out 1).trans rfl
          have hcz70_2 : wr.cell? ⟨gb251, 2, none⟩ = some (.string t249) := (blk_cell BK251.out 2).trans rfl
          have hfz70_0 := blk_frozen BK251.out 0
          have hfz70_1 := blk_frozen BK251.out 1
          have hfz70_2 := blk_frozen BK251.out 2
          go_wp2
          repeat (go_quiet (fail); try go_wp2)
          go_ret
          exact ⟨by first | rfl | (simp [errW_none, errW_some] <;> rfl) | (simp [*, errW_none, errW_some] <;> rfl), by repeat (first | (with_reducible first | exact HB.out | apply below_alloc | apply pw_below_drewN | apply below_drew1 | refine below_set ?_ GE246.out | refine below_set ?_ GE251.out) | exact HB.out)⟩
        ·
         rw [if_neg c35] at H
         have c35b0 : (t243.toList == t248.toList) = false := beq_eq_false_iff_ne.mpr c35
         have c35b1 : (t243.toList != t248.toList) = true := bne_iff_ne.mpr c35
         obtain rfl := Option.some.inj H
         have hnb71 := NB246_251.out
         have hnc71 := NB251_246.out
         have hcz72_0 : wr.cell? ⟨gb246, 0, none⟩ = some (.int .i64 t242) := (blk_cell BK246.out 0).trans rfl
         have hcz72_1 : wr.cell? ⟨gb246, 1, none⟩ = some (.string t243) := (blk_cell BK246.out 1).trans rfl
         have hcz72_2 : wr.cell? ⟨gb246, 2, none⟩ = some (.string t244) := (blk_cell BK246.out 2).trans rfl
         have hfz72_0 := blk_frozen BK246.out 0
         have hfz72_1 := blk_frozen BK246.out 1
         have hfz72_2 := blk_frozen BK246.out 2
         have hcz73_0 : wr.cell? ⟨gb251, 0, none⟩ = some (.int .i64 t247) := (blk_cell BK251.out 0).trans rfl
         have hcz73_1 : wr.cell? ⟨gb251, 1, none⟩ = some (.string t248) := (blk_cell BK251.out 1).trans rfl
         have hcz73_2 : wr.cell? ⟨gb251, 2, none⟩ = some (.string t249) := (blk_cell BK251.out 2).trans rfl
         have hfz73_0 := blk_frozen BK251.out 0
         have hfz73_1 := blk_frozen BK251.out 1
         have hfz73_2 := blk_frozen BK251.out 2
         go_wp2
         repeat (go_quiet (fail); try go_wp2)
         go_ret
         exact ⟨by first | rfl | (simp [errW_none, errW_some] <;> rfl) | (simp [*, errW_none, errW_some] <;> rfl), by repeat (first | (with_reducible first | exact HB.out | apply below_alloc | apply pw_below_drewN | apply below_drew1 | refine below_set ?_ GE246.out | refine below_set ?_ GE251.out) | exact HB.out)⟩
       ·
        rw [if_neg c34] at H
        have c34b0 : (t242 == t247) = false := beq_eq_false_iff_ne.mpr c34
        have c34b1 : (t242 != t247) = true := bne_iff_ne.mpr c34
        obtain rfl := Option.some.inj H
        have hnb74 := NB246_251.out
        have hnc74 := NB251_246.out
        have hcz75_0 : wr.cell? ⟨gb246, 0, none⟩ = some (.int .i64 t242) := (blk_cell BK246.out 0).trans rfl
        have hcz75_1 : wr.cell? ⟨gb246, 1, none⟩ = some (.string t243) := (blk_cell BK246.out 1).trans rfl
        have hcz75_2 : wr.cell? ⟨gb246, 2, none⟩ = some (.string t244) := (blk_cell BK246.out 2).trans rfl
        have hfz75_0 := blk_frozen BK246.out 0
        have hfz75_1 := blk_frozen BK246.out 1
        have hfz75_2 := blk_frozen BK246.out 2
        have hcz76_0 : wr.cell? ⟨gb251, 0, none⟩ = some (.int .i64 t247) := (blk_cell BK251.out 0).trans rfl
        have hcz76_1 : wr.cell? ⟨gb251, 1, none⟩ = some (.string t248) := (blk_cell BK251.out 1).trans rfl
        have hcz76_2 : wr.cell? ⟨gb251, 2, none⟩ = some (.string t249) := (blk_cell BK251.out 2).trans rfl
        have hfz76_0 := blk_frozen BK251.out 0
        have hfz76_1 := blk_frozen BK251.out 1
        have hfz76_2 := blk_frozen BK251.out 2
        go_wp2
        repeat (go_quiet (fail); try go_wp2)
        go_ret
        exact ⟨by first | rfl | (simp [errW_none, errW_some] <;> rfl) | (simp [*, errW_none, errW_some] <;> rfl), by repeat (first | (with_reducible first | exact HB.out | apply below_alloc | apply pw_below_drewN | apply below_drew1 | refine below_set ?_ GE246.out | refine below_set ?_ GE251.out) | exact HB.out)⟩
      ·
       exact absurd rfl c33
  ·
   rw [if_neg c12] at H
   have c12b0 : ((t256.length : Int) == (t260.length : Int)) = false := beq_eq_false_iff_ne.mpr c12
   have c12b1 : ((t256.length : Int) != (t260.length : Int)) = true := bne_iff_ne.mpr c12
   have c12b2 : (t256.length == t260.length) = false := by first | simpa using c12 | (simp at c12 ⊢; omega)
   obtain rfl := Option.some.inj H
   go_enter Try.func3, Try.ntmps3
   go_wp2_with (first | (go_at_call 7; (with_reducible refine (engrosserlaw14_examples.calls k  true _ A4.out).mono ?_); rintro e w77 ⟨rfl, hb⟩; have n0_ := Aside0.mk (below_step (by repeat (first | (with_reducible first | exact HB.out | apply below_alloc | apply pw_below_drewN | apply below_drew1) | exact HB.out)) hb); clear HB; have HB := n0_; clear n0_; (try clear hb); (try clear hb2); (try clear hk); (try clear hi)) | (go_at_call 8; (with_reducible refine (der_Next.calls a0 t242 t243 t244 t245 _ A6.out).mono ?_); rintro e w78 ⟨rfl, hb⟩; have n0_ := Aside0.mk (below_step (by repeat (first | (with_reducible first | exact HB.out | apply below_alloc | apply pw_below_drewN | apply below_drew1) | exact HB.out)) hb); clear HB; have HB := n0_; clear n0_; (try clear hb); (try clear hb2); (try clear hk); (try clear hi)) | ((with_reducible refine gate_dst (N := 8) rfl ?_); refine box_event ?hg (N := 8) ?hd (cs := #[.int .i64 0, .string (⟨#[]⟩ : ByteArray), .string (⟨#[]⟩ : ByteArray)]) (t := 24) ?hr ?_; (case hd => rfl); (case hg => rfl); (case hr => first | (go_simp; done) | (go_simp; rfl)); intro gb246 hg w79 hbox hb; have n0_ := Aside0.mk (below_step (by repeat (first | (with_reducible first | exact HB.out | apply below_alloc | apply pw_below_drewN | apply below_drew1) | exact HB.out)) hb); have n1_ := Aside0.mk (hbox); have n2_ := Aside0.mk ((by rw [hg]; exact (below_size (by repeat (first | (with_reducible first | exact HB.out | apply below_alloc | apply pw_below_drewN | apply below_drew1) | exact HB.out))) : w.heap.size ≤ gb246)); have n3_ := Aside0.mk ((by rw [hg]; exact (below_size (by repeat (first | (with_reducible first | exact HB.out | apply below_alloc | apply pw_below_drewN | apply below_drew1) | exact HB.out))) : w.heap.size ≤ gb246)); clear HB; have HB := n0_; have BK246 := n1_; have GW246 := n2_; have GE246 := n3_; clear n0_ n1_ n2_ n3_; clear hb hbox hg; have hcz80_0 : w79.cell? ⟨gb246, 0, none⟩ = some (.int .i64 0) := (blk_cell BK246.out 0).trans rfl; have hcz80_1 : w79.cell? ⟨gb246, 1, none⟩ = some (.string (⟨#[]⟩ : ByteArray)) := (blk_cell BK246.out 1).trans rfl; have hcz80_2 : w79.cell? ⟨gb246, 2, none⟩ = some (.string (⟨#[]⟩ : ByteArray)) := (blk_cell BK246.out 2).trans rfl; have hfz80_0 := blk_frozen BK246.out 0; have hfz80_1 := blk_frozen BK246.out 1; have hfz80_2 := blk_frozen BK246.out 2) | (go_at_call 9; (with_reducible refine (engrosserref14_Next.calls k a0 t247 t248 t249 t250 _ A7.out).mono ?_); rintro e w81 ⟨rfl, hb⟩; have n0_ := Aside0.mk (blk_below (g := gb246) (o := .cells #[.int .i64 t242, .string t243, .string t244] 24 (0, 0)) (by (with_reducible repeat (first | refine blk_drewN ?_ _ | refine blk_drew ?_ | refine blk_alloc ?_ _)); refine blk_put (cs := #[.int .i64 t242, .string t243, .string (⟨#[]⟩ : ByteArray)]) ?_ 2 _ rfl; (with_reducible repeat (first | refine blk_drewN ?_ _ | refine blk_drew ?_ | refine blk_alloc ?_ _)); refine blk_put (cs := #[.int .i64 t242, .string (⟨#[]⟩ : ByteArray), .string (⟨#[]⟩ : ByteArray)]) ?_ 1 _ rfl; (with_reducible repeat (first | refine blk_drewN ?_ _ | refine blk_drew ?_ | refine blk_alloc ?_ _)); refine blk_put (cs := #[.int .i64 0, .string (⟨#[]⟩ : ByteArray), .string (⟨#[]⟩ : ByteArray)]) ?_ 0 _ rfl; (with_reducible repeat (first | refine blk_drewN ?_ _ | refine blk_drew ?_ | refine blk_alloc ?_ _)); exact BK246.out) hb); have n1_ := Aside0.mk (below_step (by repeat (first | (with_reducible first | exact HB.out | apply below_alloc | apply pw_below_drewN | apply below_drew1 | refine below_set ?_ GE246.out) | exact HB.out)) hb); clear BK246; clear HB; have BK246 := n0_; have HB := n1_; clear n0_ n1_; (try clear hb); (try clear hb2); (try clear hk); (try clear hi)) | ((with_reducible refine gate_dst (N := 10) rfl ?_); refine box_event ?hg (N := 10) ?hd (cs := #[.int .i64 0, .string (⟨#[]⟩ : ByteArray), .string (⟨#[]⟩ : ByteArray)]) (t := 28) ?hr ?_; (case hd => rfl); (case hg => rfl); (case hr => first | (go_simp; done) | (go_simp; rfl)); intro gb251 hg w82 hbox hb; have n0_ := Aside0.mk (blk_below (g := gb246) (o := .cells #[.int .i64 t242, .string t243, .string t244] 24 (0, 0)) (by (with_reducible repeat (first | refine blk_drewN ?_ _ | refine blk_drew ?_ | refine blk_alloc ?_ _)); exact BK246.out) hb); have n1_ := Aside0.mk (below_step (by repeat (first | (with_reducible first | exact HB.out | apply below_alloc | apply pw_below_drewN | apply below_drew1 | refine below_set ?_ GE246.out) | exact HB.out)) hb); have n2_ := Aside0.mk (hbox); have n3_ := Aside0.mk ((by rw [hg]; exact (below_size (by repeat (first | (with_reducible first | exact HB.out | apply below_alloc | apply pw_below_drewN | apply below_drew1 | refine below_set ?_ GE246.out) | exact HB.out))) : w.heap.size ≤ gb251)); have n4_ := Aside0.mk ((by rw [hg]; exact (below_size (by repeat (first | (with_reducible first | exact HB.out | apply below_alloc | apply pw_below_drewN | apply below_drew1 | refine below_set ?_ GE246.out) | exact HB.out))) : w.heap.size ≤ gb251)); have n5_ := Aside0.mk ((by rw [hg]; exact Nat.ne_of_lt (blk_lt (g := gb246) (o := .cells #[.int .i64 t242, .string t243, .string t244] 24 (0, 0)) (by (with_reducible repeat (first | refine blk_drewN ?_ _ | refine blk_drew ?_ | refine blk_alloc ?_ _)); exact BK246.out)) : gb246 ≠ gb251)); have n6_ := Aside0.mk ((by rw [hg]; exact Nat.ne_of_gt (blk_lt (g := gb246) (o := .cells #[.int .i64 t242, .string t243, .string t244] 24 (0, 0)) (by (with_reducible repeat (first | refine blk_drewN ?_ _ | refine blk_drew ?_ | refine blk_alloc ?_ _)); exact BK246.out)) : gb251 ≠ gb246)); clear BK246; clear HB; have BK246 := n0_; have HB := n1_; have BK251 := n2_; have GW251 := n3_; have GE251 := n4_; have NB246_251 := n5_; have NB251_246 := n6_; clear n0_ n1_ n2_ n3_ n4_ n5_ n6_; clear hb hbox hg; have hnb83 := NB251_246.out; have hnc83 := NB246_251.out; have hcz84_0 : w82.cell? ⟨gb251, 0, none⟩ = some (.int .i64 0) := (blk_cell BK251.out 0).trans rfl; have hcz84_1 : w82.cell? ⟨gb251, 1, none⟩ = some (.string (⟨#[]⟩ : ByteArray)) := (blk_cell BK251.out 1).trans rfl; have hcz84_2 : w82.cell? ⟨gb251, 2, none⟩ = some (.string (⟨#[]⟩ : ByteArray)) := (blk_cell BK251.out 2).trans rfl; have hfz84_0 := blk_frozen BK251.out 0; have hfz84_1 := blk_frozen BK251.out 1; have hfz84_2 := blk_frozen BK251.out 2) | (go_at_call 10; (with_reducible refine (der_Wrap.calls a1 a2 t252 t253 _ A8.out).mono ?_); rintro e w85 ⟨rfl, hb⟩; have n0_ := Aside0.mk (blk_below (g := gb246) (o := .cells #[.int .i64 t242, .string t243, .string t244] 24 (0, 0)) (by (with_reducible repeat (first | refine blk_drewN ?_ _ | refine blk_drew ?_ | refine blk_alloc ?_ _)); refine blk_far ?_ NB246_251.out _; (with_reducible repeat (first | refine blk_drewN ?_ _ | refine blk_drew ?_ | refine blk_alloc ?_ _)); refine blk_far ?_ NB246_251.out _; (with_reducible repeat (first | refine blk_drewN ?_ _ | refine blk_drew ?_ | refine blk_alloc ?_ _)); refine blk_far ?_ NB246_251.out _; (with_reducible repeat (first | refine blk_drewN ?_ _ | refine blk_drew ?_ | refine blk_alloc ?_ _)); exact BK246.out) hb); have n1_ := Aside0.mk (blk_below (g := gb251) (o := .cells #[.int .i64 t247, .string t248, .string t249] 28 (0, 0)) (by (with_reducible repeat (first | refine blk_drewN ?_ _ | refine blk_drew ?_ | refine blk_alloc ?_ _)); refine blk_put (cs := #[.int .i64 t247, .string t248, .string (⟨#[]⟩ : ByteArray)]) ?_ 2 _ rfl; (with_reducible repeat (first | refine blk_drewN ?_ _ | refine blk_drew ?_ | refine blk_alloc ?_ _)); refine blk_put (cs := #[.int .i64 t247, .string (⟨#[]⟩ : ByteArray), .string (⟨#[]⟩ : ByteArray)]) ?_ 1 _ rfl; (with_reducible repeat (first | refine blk_drewN ?_ _ | refine blk_drew ?_ | refine blk_alloc ?_ _)); refine blk_put (cs := #[.int .i64 0, .string (⟨#[]⟩ : ByteArray), .string (⟨#[]⟩ : ByteArray)]) ?_ 0 _ rfl; (with_reducible repeat (first | refine blk_drewN ?_ _ | refine blk_drew ?_ | refine blk_alloc ?_ _)); exact BK251.out) hb); have n2_ := Aside0.mk (below_step (by repeat (first | (with_reducible first | exact HB.out | apply below_alloc | apply pw_below_drewN | apply below_drew1 | refine below_set ?_ GE246.out | refine below_set ?_ GE251.out) | exact HB.out)) hb); clear BK246; clear BK251; clear HB; have BK246 := n0_; have BK251 := n1_; have HB := n2_; clear n0_ n1_ n2_; (try clear hb); (try clear hb2); (try clear hk); (try clear hi)) | (go_at_call 11; (with_reducible refine (engrosserref14_Wrap.calls k a1 a2 t254 t255 _ A9.out).mono ?_); rintro e w86 ⟨rfl, hb⟩; have n0_ := Aside0.mk (blk_below (g := gb246) (o := .cells #[.int .i64 t242, .string t243, .string t244] 24 (0, 0)) (by (with_reducible repeat (first | refine blk_drewN ?_ _ | refine blk_drew ?_ | refine blk_alloc ?_ _)); exact BK246.out) hb); have n1_ := Aside0.mk (blk_below (g := gb251) (o := .cells #[.int .i64 t247, .string t248, .string t249] 28 (0, 0)) (by (with_reducible repeat (first | refine blk_drewN ?_ _ | refine blk_drew ?_ | refine blk_alloc ?_ _)); exact BK251.out) hb); have n2_ := Aside0.mk (below_step (by repeat (first | (with_reducible first | exact HB.out | apply below_alloc | apply pw_below_drewN | apply below_drew1 | refine below_set ?_ GE246.out | refine below_set ?_ GE251.out) | exact HB.out)) hb); clear BK246; clear BK251; clear HB; have BK246 := n0_; have BK251 := n1_; have HB := n2_; clear n0_ n1_ n2_; (try clear hb); (try clear hb2); (try clear hk); (try clear hi)) | (go_at_call 12; (with_reducible refine (der_Parts.calls a0 t256 t257 _ A10.out).mono ?_); rintro e w87 ⟨v258, rfl, ho0, hb⟩; have n0_ := Aside0.mk (Kd.R_lower (Kd.R_newB ho0 (g := gb246) (o := .cells #[.int .i64 t242, .string t243, .string t244] 24 (0, 0)) (by (with_reducible repeat (first | refine blk_drewN ?_ _ | refine blk_drew ?_ | refine blk_alloc ?_ _)); exact BK246.out)) (below_size (by repeat (first | (with_reducible first | exact HB.out | apply below_alloc | apply pw_below_drewN | apply below_drew1 | refine below_set ?_ GE246.out | refine below_set ?_ GE251.out) | exact HB.out)))); have n1_ := Aside0.mk (blk_below (g := gb246) (o := .cells #[.int .i64 t242, .string t243, .string t244] 24 (0, 0)) (by (with_reducible repeat (first | refine blk_drewN ?_ _ | refine blk_drew ?_ | refine blk_alloc ?_ _)); exact BK246.out) hb); have n2_ := Aside0.mk (blk_below (g := gb251) (o := .cells #[.int .i64 t247, .string t248, .string t249] 28 (0, 0)) (by (with_reducible repeat (first | refine blk_drewN ?_ _ | refine blk_drew ?_ | refine blk_alloc ?_ _)); exact BK251.out) hb); have n3_ := Aside0.mk (below_step (by repeat (first | (with_reducible first | exact HB.out | apply below_alloc | apply pw_below_drewN | apply below_drew1 | refine below_set ?_ GE246.out | refine below_set ?_ GE251.out) | exact HB.out)) hb); clear BK246; clear BK251; clear HB; have HO259 := n0_; have BK246 := n1_; have BK251 := n2_; have HB := n3_; clear n0_ n1_ n2_ n3_; (try clear hb); (try clear hb2); (try clear hk); (try clear hi); (try clear ho0)) | (go_at_call 13; (with_reducible refine (engrosserref14_Parts.calls k a0 t260 t261 _ A11.out).mono ?_); rintro e w88 ⟨v262, rfl, ho0, hb⟩; have n0_ := Aside0.mk (Kd.R_below (by (with_reducible repeat (first | apply Kd.R_alloc | apply Kd.R_drewN | apply Kd.R_drew)); exact HO259.out) hb); have n1_ := Aside0.mk (Kd.R_lower (Kd.R_newB ho0 (g := gb251) (o := .cells #[.int .i64 t247, .string t248, .string t249] 28 (0, 0)) (by (with_reducible repeat (first | refine blk_drewN ?_ _ | refine blk_drew ?_ | refine blk_alloc ?_ _)); exact BK251.out)) (below_size (by repeat (first | (with_reducible first | exact HB.out | apply below_alloc | apply pw_below_drewN | apply below_drew1 | refine below_set ?_ GE246.out | refine below_set ?_ GE251.out) | exact HB.out)))); have n2_ := Aside0.mk (blk_below (g := gb246) (o := .cells #[.int .i64 t242, .string t243, .string t244] 24 (0, 0)) (by (with_reducible repeat (first | refine blk_drewN ?_ _ | refine blk_drew ?_ | refine blk_alloc ?_ _)); exact BK246.out) hb); have n3_ := Aside0.mk (blk_below (g := gb251) (o := .cells #[.int .i64 t247, .string t248, .string t249] 28 (0, 0)) (by (with_reducible repeat (first | refine blk_drewN ?_ _ | refine blk_drew ?_ | refine blk_alloc ?_ _)); exact BK251.out) hb); have n4_ := Aside0.mk (below_step (by repeat (first | (with_reducible first | exact HB.out | apply below_alloc | apply pw_below_drewN | apply below_drew1 | refine below_set ?_ GE246.out | refine below_set ?_ GE251.out) | exact HB.out)) hb); clear HO259; clear BK246; clear BK251; clear HB; have HO259 := n0_; have HO263 := n1_; have BK246 := n2_; have BK251 := n3_; have HB := n4_; clear n0_ n1_ n2_ n3_ n4_; (try clear hb); (try clear hb2); (try clear hk); (try clear hi); (try clear ho0); obtain ⟨Ao89, co89, eo89⟩ := Kd.R_slice HO259.out; subst eo89; obtain ⟨Ao90, co90, eo90⟩ := Kd.R_slice HO263.out; subst eo90))
   repeat (go_quiet (first | (go_at_call 7; (with_reducible refine (engrosserlaw14_examples.calls k  true _ A4.out).mono ?_); rintro e w77 ⟨rfl, hb⟩; have n0_ := Aside0.mk (below_step (by repeat (first | (with_reducible first | exact HB.out | apply below_alloc | apply pw_below_drewN | apply below_drew1) | exact HB.out)) hb); clear HB; have HB := n0_; clear n0_; (try clear hb); (try clear hb2); (try clear hk); (try clear hi)) | (go_at_call 8; (with_reducible refine (der_Next.calls a0 t242 t243 t244 t245 _ A6.out).mono ?_); rintro e w78 ⟨rfl, hb⟩; have n0_ := Aside0.mk (below_step (by repeat (first | (with_reducible first | exact HB.out | apply below_alloc | apply pw_below_drewN | apply below_drew1) | exact HB.out)) hb); clear HB; have HB := n0_; clear n0_; (try clear hb); (try clear hb2); (try clear hk); (try clear hi)) | ((with_reducible refine gate_dst (N := 8) rfl ?_); refine box_event ?hg (N := 8) ?hd (cs := #[.int .i64 0, .string (⟨#[]⟩ : ByteArray), .string (⟨#[]⟩ : ByteArray)]) (t := 24) ?hr ?_; (case hd => rfl); (case hg => rfl); (case hr => first | (go_simp; done) | (go_simp; rfl)); intro gb246 hg w79 hbox hb; have n0_ := Aside0.mk (below_step (by repeat (first | (with_reducible first | exact HB.out | apply below_alloc | apply pw_below_drewN | apply below_drew1) | exact HB.out)) hb); have n1_ := Aside0.mk (hbox); have n2_ := Aside0.mk ((by rw [hg]; exact (below_size (by repeat (first | (with_reducible first | exact HB.out | apply below_alloc | apply pw_below_drewN | apply below_drew1) | exact HB.out))) : w.heap.size ≤ gb246)); have n3_ := Aside0.mk ((by rw [hg]; exact (below_size (by repeat (first | (with_reducible first | exact HB.out | apply below_alloc | apply pw_below_drewN | apply below_drew1) | exact HB.out))) : w.heap.size ≤ gb246)); clear HB; have HB := n0_; have BK246 := n1_; have GW246 := n2_; have GE246 := n3_; clear n0_ n1_ n2_ n3_; clear hb hbox hg; have hcz80_0 : w79.cell? ⟨gb246, 0, none⟩ = some (.int .i64 0) := (blk_cell BK246.out 0).trans rfl; have hcz80_1 : w79.cell? ⟨gb246, 1, none⟩ = some (.string (⟨#[]⟩ : ByteArray)) := (blk_cell BK246.out 1).trans rfl; have hcz80_2 : w79.cell? ⟨gb246, 2, none⟩ = some (.string (⟨#[]⟩ : ByteArray)) := (blk_cell BK246.out 2).trans rfl; have hfz80_0 := blk_frozen BK246.out 0; have hfz80_1 := blk_frozen BK246.out 1; have hfz80_2 := blk_frozen BK246.out 2) | (go_at_call 9; (with_reducible refine (engrosserref14_Next.calls k a0 t247 t248 t249 t250 _ A7.out).mono ?_); rintro e w81 ⟨rfl, hb⟩; have n0_ := Aside0.mk (blk_below (g := gb246) (o := .cells #[.int .i64 t242, .string t243, .string t244] 24 (0, 0)) (by (with_reducible repeat (first | refine blk_drewN ?_ _ | refine blk_drew ?_ | refine blk_alloc ?_ _)); refine blk_put (cs := #[.int .i64 t242, .string t243, .string (⟨#[]⟩ : ByteArray)]) ?_ 2 _ rfl; (with_reducible repeat (first | refine blk_drewN ?_ _ | refine blk_drew ?_ | refine blk_alloc ?_ _)); refine blk_put (cs := #[.int .i64 t242, .string (⟨#[]⟩ : ByteArray), .string (⟨#[]⟩ : ByteArray)]) ?_ 1 _ rfl; (with_reducible repeat (first | refine blk_drewN ?_ _ | refine blk_drew ?_ | refine blk_alloc ?_ _)); refine blk_put (cs := #[.int .i64 0, .string (⟨#[]⟩ : ByteArray), .string (⟨#[]⟩ : ByteArray)]) ?_ 0 _ rfl; (with_reducible repeat (first | refine blk_drewN ?_ _ | refine blk_drew ?_ | refine blk_alloc ?_ _)); exact BK246.out) hb); have n1_ := Aside0.mk (below_step (by repeat (first | (with_reducible first | exact HB.out | apply below_alloc | apply pw_below_drewN | apply below_drew1 | refine below_set ?_ GE246.out) | exact HB.out)) hb); clear BK246; clear HB; have BK246 := n0_; have HB := n1_; clear n0_ n1_; (try clear hb); (try clear hb2); (try clear hk); (try clear hi)) | ((with_reducible refine gate_dst (N := 10) rfl ?_); refine box_event ?hg (N := 10) ?hd (cs := #[.int .i64 0, .string (⟨#[]⟩ : ByteArray), .string (⟨#[]⟩ : ByteArray)]) (t := 28) ?hr ?_; (case hd => rfl); (case hg => rfl); (case hr => first | (go_simp; done) | (go_simp; rfl)); intro gb251 hg w82 hbox hb; have n0_ := Aside0.mk (blk_below (g := gb246) (o := .cells #[.int .i64 t242, .string t243, .string t244] 24 (0, 0)) (by (with_reducible repeat (first | refine blk_drewN ?_ _ | refine blk_drew ?_ | refine blk_alloc ?_ _)); exact BK246.out) hb); have n1_ := Aside0.mk (below_step (by repeat (first | (with_reducible first | exact HB.out | apply below_alloc | apply pw_below_drewN | apply below_drew1 | refine below_set ?_ GE246.out) | exact HB.out)) hb); have n2_ := Aside0.mk (hbox); have n3_ := Aside0.mk ((by rw [hg]; exact (below_size (by repeat (first | (with_reducible first | exact HB.out | apply below_alloc | apply pw_below_drewN | apply below_drew1 | refine below_set ?_ GE246.out) | exact HB.out))) : w.heap.size ≤ gb251)); have n4_ := Aside0.mk ((by rw [hg]; exact (below_size (by repeat (first | (with_reducible first | exact HB.out | apply below_alloc | apply pw_below_drewN | apply below_drew1 | refine below_set ?_ GE246.out) | exact HB.out))) : w.heap.size ≤ gb251)); have n5_ := Aside0.mk ((by rw [hg]; exact Nat.ne_of_lt (blk_lt (g := gb246) (o := .cells #[.int .i64 t242, .string t243, .string t244] 24 (0, 0)) (by (with_reducible repeat (first | refine blk_drewN ?_ _ | refine blk_drew ?_ | refine blk_alloc ?_ _)); exact BK246.out)) : gb246 ≠ gb251)); have n6_ := Aside0.mk ((by rw [hg]; exact Nat.ne_of_gt (blk_lt (g := gb246) (o := .cells #[.int .i64 t242, .string t243, .string t244] 24 (0, 0)) (by (with_reducible repeat (first | refine blk_drewN ?_ _ | refine blk_drew ?_ | refine blk_alloc ?_ _)); exact BK246.out)) : gb251 ≠ gb246)); clear BK246; clear HB; have BK246 := n0_; have HB := n1_; have BK251 := n2_; have GW251 := n3_; have GE251 := n4_; have NB246_251 := n5_; have NB251_246 := n6_; clear n0_ n1_ n2_ n3_ n4_ n5_ n6_; clear hb hbox hg; have hnb83 := NB251_246.out; have hnc83 := NB246_251.out; have hcz84_0 : w82.cell? ⟨gb251, 0, none⟩ = some (.int .i64 0) := (blk_cell BK251.out 0).trans rfl; have hcz84_1 : w82.cell? ⟨gb251, 1, none⟩ = some (.string (⟨#[]⟩ : ByteArray)) := (blk_cell BK251.out 1).trans rfl; have hcz84_2 : w82.cell? ⟨gb251, 2, none⟩ = some (.string (⟨#[]⟩ : ByteArray)) := (blk_cell BK251.out 2).trans rfl; have hfz84_0 := blk_frozen BK251.out 0; have hfz84_1 := blk_frozen BK251.out 1; have hfz84_2 := blk_frozen BK251.out 2) | (go_at_call 10; (with_reducible refine (der_Wrap.calls a1 a2 t252 t253 _ A8.out).mono ?_); rintro e w85 ⟨rfl, hb⟩; have n0_ := Aside0.mk (blk_below (g := gb246) (o := .cells #[.int .i64 t242, .string t243, .string t244] 24 (0, 0)) (by (with_reducible repeat (first | refine blk_drewN ?_ _ | refine blk_drew ?_ | refine blk_alloc ?_ _)); refine blk_far ?_ NB246_251.out _; (with_reducible repeat (first | refine blk_drewN ?_ _ | refine blk_drew ?_ | refine blk_alloc ?_ _)); refine blk_far ?_ NB246_251.out _; (with_reducible repeat (first | refine blk_drewN ?_ _ | refine blk_drew ?_ | refine blk_alloc ?_ _)); refine blk_far ?_ NB246_251.out _; (with_reducible repeat (first | refine blk_drewN ?_ _ | refine blk_drew ?_ | refine blk_alloc ?_ _)); exact BK246.out) hb); have n1_ := Aside0.mk (blk_below (g := gb251) (o := .cells #[.int .i64 t247, .string t248, .string t249] 28 (0, 0)) (by (with_reducible repeat (first | refine blk_drewN ?_ _ | refine blk_drew ?_ | refine blk_alloc ?_ _)); refine blk_put (cs := #[.int .i64 t247, .string t248, .string (⟨#[]⟩ : ByteArray)]) ?_ 2 _ rfl; (with_reducible repeat (first | refine blk_drewN ?_ _ | refine blk_drew ?_ | refine blk_alloc ?_ _)); refine blk_put (cs := #[.int .i64 t247, .string (⟨#[]⟩ : ByteArray), .string (⟨#[]⟩ : ByteArray)]) ?_ 1 _ rfl; (with_reducible repeat (first | refine blk_drewN ?_ _ | refine blk_drew ?_ | refine blk_alloc ?_ _)); refine blk_put (cs := #[.int .i64 0, .string (⟨#[]⟩ : ByteArray), .string (⟨#[]⟩ : ByteArray)]) ?_ 0 _ rfl; (with_reducible repeat (first | refine blk_drewN ?_ _ | refine blk_drew ?_ | refine blk_alloc ?_ _)); exact BK251.out) hb); have n2_ := Aside0.mk (below_step (by repeat (first | (with_reducible first | exact HB.out | apply below_alloc | apply pw_below_drewN | apply below_drew1 | refine below_set ?_ GE246.out | refine below_set ?_ GE251.out) | exact HB.out)) hb); clear BK246; clear BK251; clear HB; have BK246 := n0_; have BK251 := n1_; have HB := n2_; clear n0_ n1_ n2_; (try clear hb); (try clear hb2); (try clear hk); (try clear hi)) | (go_at_call 11; (with_reducible refine (engrosserref14_Wrap.calls k a1 a2 t254 t255 _ A9.out).mono ?_); rintro e w86 ⟨rfl, hb⟩; have n0_ := Aside0.mk (blk_below (g := gb246) (o := .cells #[.int .i64 t242, .string t243, .string t244] 24 (0, 0)) (by (with_reducible repeat (first | refine blk_drewN ?_ _ | refine blk_drew ?_ | refine blk_alloc ?_ _)); exact BK246.out) hb); have n1_ := Aside0.mk (blk_below (g := gb251) (o := .cells #[.int .i64 t247, .string t248, .string t249] 28 (0, 0)) (by (with_reducible repeat (first | refine blk_drewN ?_ _ | refine blk_drew ?_ | refine blk_alloc ?_ _)); exact BK251.out) hb); have n2_ := Aside0.mk (below_step (by repeat (first | (with_reducible first | exact HB.out | apply below_alloc | apply pw_below_drewN | apply below_drew1 | refine below_set ?_ GE246.out | refine below_set ?_ GE251.out) | exact HB.out)) hb); clear BK246; clear BK251; clear HB; have BK246 := n0_; have BK251 := n1_; have HB := n2_; clear n0_ n1_ n2_; (try clear hb); (try clear hb2); (try clear hk); (try clear hi)) | (go_at_call 12; (with_reducible refine (der_Parts.calls a0 t256 t257 _ A10.out).mono ?_); rintro e w87 ⟨v258, rfl, ho0, hb⟩; have n0_ := Aside0.mk (Kd.R_lower (Kd.R_newB ho0 (g := gb246) (o := .cells #[.int .i64 t242, .string t243, .string t244] 24 (0, 0)) (by (with_reducible repeat (first | refine blk_drewN ?_ _ | refine blk_drew ?_ | refine blk_alloc ?_ _)); exact BK246.out)) (below_size (by repeat (first | (with_reducible first | exact HB.out | apply below_alloc | apply pw_below_drewN | apply below_drew1 | refine below_set ?_ GE246.out | refine below_set ?_ GE251.out) | exact HB.out)))); have n1_ := Aside0.mk (blk_below (g := gb246) (o := .cells #[.int .i64 t242, .string t243, .string t244] 24 (0, 0)) (by (with_reducible repeat (first | refine blk_drewN ?_ _ | refine blk_drew ?_ | refine blk_alloc ?_ _)); exact BK246.out) hb); have n2_ := Aside0.mk (blk_below (g := gb251) (o := .cells #[.int .i64 t247, .string t248, .string t249] 28 (0, 0)) (by (with_reducible repeat (first | refine blk_drewN ?_ _ | refine blk_drew ?_ | refine blk_alloc ?_ _)); exact BK251.out) hb); have n3_ := Aside0.mk (below_step (by repeat (first | (with_reducible first | exact HB.out | apply below_alloc | apply pw_below_drewN | apply below_drew1 | refine below_set ?_ GE246.out | refine below_set ?_ GE251.out) | exact HB.out)) hb); clear BK246; clear BK251; clear HB; have HO259 := n0_; have BK246 := n1_; have BK251 := n2_; have HB := n3_; clear n0_ n1_ n2_ n3_; (try clear hb); (try clear hb2); (try clear hk); (try clear hi); (try clear ho0)) | (go_at_call 13; (with_reducible refine (engrosserref14_Parts.calls k a0 t260 t261 _ A11.out).mono ?_); rintro e w88 ⟨v262, rfl, ho0, hb⟩; have n0_ := Aside0.mk (Kd.R_below (by (with_reducible repeat (first | apply Kd.R_alloc | apply Kd.R_drewN | apply Kd.R_drew)); exact HO259.out) hb); have n1_ := Aside0.mk (Kd.R_lower (Kd.R_newB ho0 (g := gb251) (o := .cells #[.int .i64 t247, .string t248, .string t249] 28 (0, 0)) (by (with_reducible repeat (first | refine blk_drewN ?_ _ | refine blk_drew ?_ | refine blk_alloc ?_ _)); exact BK251.out)) (below_size (by repeat (first | (with_reducible first | exact HB.out | apply below_alloc | apply pw_below_drewN | apply below_drew1 | refine below_set ?_ GE246.out | refine below_set ?_ GE251.out) | exact HB.out)))); have n2_ := Aside0.mk (blk_below (g := gb246) (o := .cells #[.int .i64 t242, .string t243, .string t244] 24 (0, 0)) (by (with_reducible repeat (first | refine blk_drewN ?_ _ | refine blk_drew ?_ | refine blk_alloc ?_ _)); exact BK246.out) hb); have n3_ := Aside0.mk (blk_below (g := gb251) (o := .cells #[.int .i64 t247, .string t248, .string t249] 28 (0, 0)) (by (with_reducible repeat (first | refine blk_drewN ?_ _ | refine blk_drew ?_ | refine blk_alloc ?_ _)); exact BK251.out) hb); have n4_ := Aside0.mk (below_step (by repeat (first | (with_reducible first | exact HB.out | apply below_alloc | apply pw_below_drewN | apply below_drew1 | refine below_set ?_ GE246.out | refine below_set ?_ GE251.out) | exact HB.out)) hb); clear HO259; clear BK246; clear BK251; clear HB; have HO259 := n0_; have HO263 := n1_; have BK246 := n2_; have BK251 := n3_; have HB := n4_; clear n0_ n1_ n2_ n3_ n4_; (try clear hb); (try clear hb2); (try clear hk); (try clear hi); (try clear ho0); obtain ⟨Ao89, co89, eo89⟩ := Kd.R_slice HO259.out; subst eo89; obtain ⟨Ao90, co90, eo90⟩ := Kd.R_slice HO263.out; subst eo90)); try go_wp2_with (first | (go_at_call 7; (with_reducible refine (engrosserlaw14_examples.calls k  true _ A4.out).mono ?_); rintro e w77 ⟨rfl, hb⟩; have n0_ := Aside0.mk (below_step (by repeat (first | (with_reducible first | exact HB.out | apply below_alloc | apply pw_below_drewN | apply below_drew1) | exact HB.out)) hb); clear HB; have HB := n0_; clear n0_; (try clear hb); (try clear hb2); (try clear hk); (try clear hi)) | (go_at_call 8; (with_reducible refine (der_Next.calls a0 t242 t243 t244 t245 _ A6.out).mono ?_); rintro e w78 ⟨rfl, hb⟩; have n0_ := Aside0.mk (below_step (by repeat (first | (with_reducible first | exact HB.out | apply below_alloc | apply pw_below_drewN | apply below_drew1) | exact HB.out)) hb); clear HB; have HB := n0_; clear n0_; (try clear hb); (try clear hb2); (try clear hk); (try clear hi)) | ((with_reducible refine gate_dst (N := 8) rfl ?_); refine box_event ?hg (N := 8) ?hd (cs := #[.int .i64 0, .string (⟨#[]⟩ : ByteArray), .string (⟨#[]⟩ : ByteArray)]) (t := 24) ?hr ?_; (case hd => rfl); (case hg => rfl); (case hr => first | (go_simp; done) | (go_simp; rfl)); intro gb246 hg w79 hbox hb; have n0_ := Aside0.mk (below_step (by repeat (first | (with_reducible first | exact HB.out | apply below_alloc | apply pw_below_drewN | apply below_drew1) | exact HB.out)) hb); have n1_ := Aside0.mk (hbox); have n2_ := Aside0.mk ((by rw [hg]; exact (below_size (by repeat (first | (with_reducible first | exact HB.out | apply below_alloc | apply pw_below_drewN | apply below_drew1) | exact HB.out))) : w.heap.size ≤ gb246)); have n3_ := Aside0.mk ((by rw [hg]; exact (below_size (by repeat (first | (with_reducible first | exact HB.out | apply below_alloc | apply pw_below_drewN | apply below_drew1) | exact HB.out))) : w.heap.size ≤ gb246)); clear HB; have HB := n0_; have BK246 := n1_; have GW246 := n2_; have GE246 := n3_; clear n0_ n1_ n2_ n3_; clear hb hbox hg; have hcz80_0 : w79.cell? ⟨gb246, 0, none⟩ = some (.int .i64 0) := (blk_cell BK246.out 0).trans rfl; have hcz80_1 : w79.cell? ⟨gb246, 1, none⟩ = some (.string (⟨#[]⟩ : ByteArray)) := (blk_cell BK246.out 1).trans rfl; have hcz80_2 : w79.cell? ⟨gb246, 2, none⟩ = some (.string (⟨#[]⟩ : ByteArray)) := (blk_cell BK246.out 2).trans rfl; have hfz80_0 := blk_frozen BK246.out 0; have hfz80_1 := blk_frozen BK246.out 1; have hfz80_2 := blk_frozen BK246.out 2) | (go_at_call 9; (with_reducible refine (engrosserref14_Next.calls k a0 t247 t248 t249 t250 _ A7.out).mono ?_); rintro e w81 ⟨rfl, hb⟩; have n0_ := Aside0.mk (blk_below (g := gb246) (o := .cells #[.int .i64 t242, .string t243, .string t244] 24 (0, 0)) (by (with_reducible repeat (first | refine blk_drewN ?_ _ | refine blk_drew ?_ | refine blk_alloc ?_ _)); refine blk_put (cs := #[.int .i64 t242, .string t243, .string (⟨#[]⟩ : ByteArray)]) ?_ 2 _ rfl; (with_reducible repeat (first | refine blk_drewN ?_ _ | refine blk_drew ?_ | refine blk_alloc ?_ _)); refine blk_put (cs := #[.int .i64 t242, .string (⟨#[]⟩ : ByteArray), .string (⟨#[]⟩ : ByteArray)]) ?_ 1 _ rfl; (with_reducible repeat (first | refine blk_drewN ?_ _ | refine blk_drew ?_ | refine blk_alloc ?_ _)); refine blk_put (cs := #[.int .i64 0, .string (⟨#[]⟩ : ByteArray), .string (⟨#[]⟩ : ByteArray)]) ?_ 0 _ rfl; (with_reducible repeat (first | refine blk_drewN ?_ _ | refine blk_drew ?_ | refine blk_alloc ?_ _)); exact BK246.out) hb); have n1_ := Aside0.mk (below_step (by repeat (first | (with_reducible first | exact HB.out | apply below_alloc | apply pw_below_drewN | apply below_drew1 | refine below_set ?_ GE246.out) | exact HB.out)) hb); clear BK246; clear HB; have BK246 := n0_; have HB := n1_; clear n0_ n1_; (try clear hb); (try clear hb2); (try clear hk); (try clear hi)) | ((with_reducible refine gate_dst (N := 10) rfl ?_); refine box_event ?hg (N := 10) ?hd (cs := #[.int .i64 0, .string (⟨#[]⟩ : ByteArray), .string (⟨#[]⟩ : ByteArray)]) (t := 28) ?hr ?_; (case hd => rfl); (case hg => rfl); (case hr => first | (go_simp; done) | (go_simp; rfl)); intro gb251 hg w82 hbox hb; have n0_ := Aside0.mk (blk_below (g := gb246) (o := .cells #[.int .i64 t242, .string t243, .string t244] 24 (0, 0)) (by (with_reducible repeat (first | refine blk_drewN ?_ _ | refine blk_drew ?_ | refine blk_alloc ?_ _)); exact BK246.out) hb); have n1_ := Aside0.mk (below_step (by repeat (first | (with_reducible first | exact HB.out | apply below_alloc | apply pw_below_drewN | apply below_drew1 | refine below_set ?_ GE246.out) | exact HB.out)) hb); have n2_ := Aside0.mk (hbox); have n3_ := Aside0.mk ((by rw [hg]; exact (below_size (by repeat (first | (with_reducible first | exact HB.out | apply below_alloc | apply pw_below_drewN | apply below_drew1 | refine below_set ?_ GE246.out) | exact HB.out))) : w.heap.size ≤ gb251)); have n4_ := Aside0.mk ((by rw [hg]; exact (below_size (by repeat (first | (with_reducible first | exact HB.out | apply below_alloc | apply pw_below_drewN | apply below_drew1 | refine below_set ?_ GE246.out) | exact HB.out))) : w.heap.size ≤ gb251)); have n5_ := Aside0.mk ((by rw [hg]; exact Nat.ne_of_lt (blk_lt (g := gb246) (o := .cells #[.int .i64 t242, .string t243, .string t244] 24 (0, 0)) (by (with_reducible repeat (first | refine blk_drewN ?_ _ | refine blk_drew ?_ | refine blk_alloc ?_ _)); exact BK246.out)) : gb246 ≠ gb251)); have n6_ := Aside0.mk ((by rw [hg]; exact Nat.ne_of_gt (blk_lt (g := gb246) (o := .cells #[.int .i64 t242, .string t243, .string t244] 24 (0, 0)) (by (with_reducible repeat (first | refine blk_drewN ?_ _ | refine blk_drew ?_ | refine blk_alloc ?_ _)); exact BK246.out)) : gb251 ≠ gb246)); clear BK246; clear HB; have BK246 := n0_; have HB := n1_; have BK251 := n2_; have GW251 := n3_; have GE251 := n4_; have NB246_251 := n5_; have NB251_246 := n6_; clear n0_ n1_ n2_ n3_ n4_ n5_ n6_; clear hb hbox hg; have hnb83 := NB251_246.out; have hnc83 := NB246_251.out; have hcz84_0 : w82.cell? ⟨gb251, 0, none⟩ = some (.int .i64 0) := (blk_cell BK251.out 0).trans rfl; have hcz84_1 : w82.cell? ⟨gb251, 1, none⟩ = some (.string (⟨#[]⟩ : ByteArray)) := (blk_cell BK251.out 1).trans rfl; have hcz84_2 : w82.cell? ⟨gb251, 2, none⟩ = some (.string (⟨#[]⟩ : ByteArray)) := (blk_cell BK251.out 2).trans rfl; have hfz84_0 := blk_frozen BK251.out 0; have hfz84_1 := blk_frozen BK251.out 1; have hfz84_2 := blk_frozen BK251.out 2) | (go_at_call 10; (with_reducible refine (der_Wrap.calls a1 a2 t252 t253 _ A8.out).mono ?_); rintro e w85 ⟨rfl, hb⟩; have n0_ := Aside0.mk (blk_below (g := gb246) (o := .cells #[.int .i64 t242, .string t243, .string t244] 24 (0, 0)) (by (with_reducible repeat (first | refine blk_drewN ?_ _ | refine blk_drew ?_ | refine blk_alloc ?_ _)); refine blk_far ?_ NB246_251.out _; (with_reducible repeat (first | refine blk_drewN ?_ _ | refine blk_drew ?_ | refine blk_alloc ?_ _)); refine blk_far ?_ NB246_251.out _; (with_reducible repeat (first | refine blk_drewN ?_ _ | refine blk_drew ?_ | refine blk_alloc ?_ _)); refine blk_far ?_ NB246_251.out _; (with_reducible repeat (first | refine blk_drewN ?_ _ | refine blk_drew ?_ | refine blk_alloc ?_ _)); exact BK246.out) hb); have n1_ := Aside0.mk (blk_below (g := gb251) (o := .cells #[.int .i64 t247, .string t248, .string t249] 28 (0, 0)) (by (with_reducible repeat (first | refine blk_drewN ?_ _ | refine blk_drew ?_ | refine blk_alloc ?_ _)); refine blk_put (cs := #[.int .i64 t247, .string t248, .string (⟨#[]⟩ : ByteArray)]) ?_ 2 _ rfl; (with_reducible repeat (first | refine blk_drewN ?_ _ | refine blk_drew ?_ | refine blk_alloc ?_ _)); refine blk_put (cs := #[.int .i64 t247, .string (⟨#[]⟩ : ByteArray), .string (⟨#[]⟩ : ByteArray)]) ?_ 1 _ rfl; (with_reducible repeat (first | refine blk_drewN ?_ _ | refine blk_drew ?_ | refine blk_alloc ?_ _)); refine blk_put (cs := #[.int .i64 0, .string (⟨#[]⟩ : ByteArray), .string (⟨#[]⟩ : ByteArray)]) ?_ 0 _ rfl; (with_reducible repeat (first | refine blk_drewN ?_ _ | refine blk_drew ?_ | refine blk_alloc ?_ _)); exact BK251.out) hb); have n2_ := Aside0.mk (below_step (by repeat (first | (with_reducible first | exact HB.out | apply below_alloc | apply pw_below_drewN | apply below_drew1 | refine below_set ?_ GE246.out | refine below_set ?_ GE251.out) | exact HB.out)) hb); clear BK246; clear BK251; clear HB; have BK246 := n0_; have BK251 := n1_; have HB := n2_; clear n0_ n1_ n2_; (try clear hb); (try clear hb2); (try clear hk); (try clear hi)) | (go_at_call 11; (with_reducible refine (engrosserref14_Wrap.calls k a1 a2 t254 t255 _ A9.out).mono ?_); rintro e w86 ⟨rfl, hb⟩; have n0_ := Aside0.mk (blk_below (g := gb246) (o := .cells #[.int .i64 t242, .string t243, .string t244] 24 (0, 0)) (by (with_reducible repeat (first | refine blk_drewN ?_ _ | refine blk_drew ?_ | refine blk_alloc ?_ _)); exact BK246.out) hb); have n1_ := Aside0.mk (blk_below (g := gb251) (o := .cells #[.int .i64 t247, .string t248, .string t249] 28 (0, 0)) (by (with_reducible repeat (first | refine blk_drewN ?_ _ | refine blk_drew ?_ | refine blk_alloc ?_ _)); exact BK251.out) hb); have n2_ := Aside0.mk (below_step (by repeat (first | (with_reducible first | exact HB.out | apply below_alloc | apply pw_below_drewN | apply below_drew1 | refine below_set ?_ GE246.out | refine below_set ?_ GE251.out) | exact HB.out)) hb); clear BK246; clear BK251; clear HB; have BK246 := n0_; have BK251 := n1_; have HB := n2_; clear n0_ n1_ n2_; (try clear hb); (try clear hb2); (try clear hk); (try clear hi)) | (go_at_call 12; (with_reducible refine (der_Parts.calls a0 t256 t257 _ A10.out).mono ?_); rintro e w87 ⟨v258, rfl, ho0, hb⟩; have n0_ := Aside0.mk (Kd.R_lower (Kd.R_newB ho0 (g := gb246) (o := .cells #[.int .i64 t242, .string t243, .string t244] 24 (0, 0)) (by (with_reducible repeat (first | refine blk_drewN ?_ _ | refine blk_drew ?_ | refine blk_alloc ?_ _)); exact BK246.out)) (below_size (by repeat (first | (with_reducible first | exact HB.out | apply below_alloc | apply pw_below_drewN | apply below_drew1 | refine below_set ?_ GE246.out | refine below_set ?_ GE251.out) | exact HB.out)))); have n1_ := Aside0.mk (blk_below (g := gb246) (o := .cells #[.int .i64 t242, .string t243, .string t244] 24 (0, 0)) (by (with_reducible repeat (first | refine blk_drewN ?_ _ | refine blk_drew ?_ | refine blk_alloc ?_ _)); exact BK246.out) hb); have n2_ := Aside0.mk (blk_below (g := gb251) (o := .cells #[.int .i64 t247, .string t248, .string t249] 28 (0, 0)) (by (with_reducible repeat (first | refine blk_drewN ?_ _ | refine blk_drew ?_ | refine blk_alloc ?_ _)); exact BK251.out) hb); have n3_ := Aside0.mk (below_step (by repeat (first | (with_reducible first | exact HB.out | apply below_alloc | apply pw_below_drewN | apply below_drew1 | refine below_set ?_ GE246.out | refine below_set ?_ GE251.out) | exact HB.out)) hb); clear BK246; clear BK251; clear HB; have HO259 := n0_; have BK246 := n1_; have BK251 := n2_; have HB := n3_; clear n0_ n1_ n2_ n3_; (try clear hb); (try clear hb2); (try clear hk); (try clear hi); (try clear ho0)) | (go_at_call 13; (with_reducible refine (engrosserref14_Parts.calls k a0 t260 t261 _ A11.out).mono ?_); rintro e w88 ⟨v262, rfl, ho0, hb⟩; have n0_ := Aside0.mk (Kd.R_below (by (with_reducible repeat (first | apply Kd.R_alloc | apply Kd.R_drewN | apply Kd.R_drew)); exact HO259.out) hb); have n1_ := Aside0.mk (Kd.R_lower (Kd.R_newB ho0 (g := gb251) (o := .cells #[.int .i64 t247, .string t248, .string t249] 28 (0, 0)) (by (with_reducible repeat (first | refine blk_drewN ?_ _ | refine blk_drew ?_ | refine blk_alloc ?_ _)); exact BK251.out)) (below_size (by repeat (first | (with_reducible first | exact HB.out | apply below_alloc | apply pw_below_drewN | apply below_drew1 | refine below_set ?_ GE246.out | refine below_set ?_ GE251.out) | exact HB.out)))); have n2_ := Aside0.mk (blk_below (g := gb246) (o := .cells #[.int .i64 t242, .string t243, .string t244] 24 (0, 0)) (by (with_reducible repeat (first | refine blk_drewN ?_ _ | refine blk_drew ?_ | refine blk_alloc ?_ _)); exact BK246.out) hb); have n3_ := Aside0.mk (blk_below (g := gb251) (o := .cells #[.int .i64 t247, .string t248, .string t249] 28 (0, 0)) (by (with_reducible repeat (first | refine blk_drewN ?_ _ | refine blk_drew ?_ | refine blk_alloc ?_ _)); exact BK251.out) hb); have n4_ := Aside0.mk (below_step (by repeat (first | (with_reducible first | exact HB.out | apply below_alloc | apply pw_below_drewN | apply below_drew1 | refine below_set ?_ GE246.out | refine below_set ?_ GE251.out) | exact HB.out)) hb); clear HO259; clear BK246; clear BK251; clear HB; have HO259 := n0_; have HO263 := n1_; have BK246 := n2_; have BK251 := n3_; have HB := n4_; clear n0_ n1_ n2_ n3_ n4_; (try clear hb); (try clear hb2); (try clear hk); (try clear hi); (try clear ho0); obtain ⟨Ao89, co89, eo89⟩ := Kd.R_slice HO259.out; subst eo89; obtain ⟨Ao90, co90, eo90⟩ := Kd.R_slice HO263.out; subst eo90)))
   go_ret
   exact ⟨by first | rfl | (simp [errW_none, errW_some] <;> rfl) | (simp [*, errW_none, errW_some] <;> rfl), by repeat (first | (with_reducible first | exact HB.out | apply below_alloc | apply pw_below_drewN | apply below_drew1 | refine below_set ?_ GE246.out | refine below_set ?_ GE251.out) | exact HB.out)⟩
 ·
  replace c5 := Bool.eq_false_iff.mpr c5
  subst c5
  have H1 : (some false) = some r := by rw [if_neg (show ¬ (false = true) by decide)] at H; exact H
  clear H
  have H := H1
  clear H1
  obtain rfl := Option.some.inj H
  go_enter Try.func3, Try.ntmps3
  go_wp2_with (first | (go_at_call 7; (with_reducible refine (engrosserlaw14_examples.calls k  false _ A4.out).mono ?_); rintro e w91 ⟨rfl, hb⟩; have n0_ := Aside0.mk (below_step (by repeat (first | (with_reducible first | exact HB.out | apply below_alloc | apply pw_below_drewN | apply below_drew1) | exact HB.out)) hb); clear HB; have HB := n0_; clear n0_; (try clear hb); (try clear hb2); (try clear hk); (try clear hi)))
  repeat (go_quiet (first | (go_at_call 7; (with_reducible refine (engrosserlaw14_examples.calls k  false _ A4.out).mono ?_); rintro e w91 ⟨rfl, hb⟩; have n0_ := Aside0.mk (below_step (by repeat (first | (with_reducible first | exact HB.out | apply below_alloc | apply pw_below_drewN | apply below_drew1) | exact HB.out)) hb); clear HB; have HB := n0_; clear n0_; (try clear hb); (try clear hb2); (try clear hk); (try clear hi))); try go_wp2_with (first | (go_at_call 7; (with_reducible refine (engrosserlaw14_examples.calls k  false _ A4.out).mono ?_); rintro e w91 ⟨rfl, hb⟩; have n0_ := Aside0.mk (below_step (by repeat (first | (with_reducible first | exact HB.out | apply below_alloc | apply pw_below_drewN | apply below_drew1) | exact HB.out)) hb); clear HB; have HB := n0_; clear n0_; (try clear hb); (try clear hb2); (try clear hk); (try clear hi))))
  go_ret
  exact ⟨by first | rfl | (simp [errW_none, errW_some] <;> rfl) | (simp [*, errW_none, errW_some] <;> rfl), by repeat (first | (with_reducible first | exact HB.out | apply below_alloc | apply pw_below_drewN | apply below_drew1) | exact HB.out)⟩

/-- THE ONE PURE STATEMENT of engrosserlaw14_DerItems: yours. -/
def engrosserlaw14_DerItems.Pure : Prop := ∀ (a0 : ByteArray) (a1 : Int) (a2 : ByteArray), a0.size ≤ 140737488351232 → (Lit.int .i64 a1).wf = true → a2.size ≤ 140737488351232 → ∃ k, engrosserlaw14_DerItems.f k a0 a1 a2 = some true
theorem engrosserlaw14_DerItems.walk (P : engrosserlaw14_DerItems.Pure) (a0 : ByteArray) (a1 : Int) (a2 : ByteArray) (w : World) (w0 : a0.size ≤ 140737488351232) (w1 : (Lit.int .i64 a1).wf = true) (w2 : a2.size ≤ 140737488351232) :
  Calls Try.prog 3 #[.string a0, .int .i64 a1, .string a2] w fun e w' => e = .returned (.bool true) ∧ Below w.heap.size w w' := by
 obtain ⟨k, h⟩ := P a0 a1 a2 w0 w1 w2
 refine (engrosserlaw14_DerItems.calls k a0 a1 a2 true w h).mono ?_
 rintro e w' ⟨rfl, hd⟩
 exact ⟨rfl, hd⟩

end Go.Proofs.Ytgloidibckopiaa.G
