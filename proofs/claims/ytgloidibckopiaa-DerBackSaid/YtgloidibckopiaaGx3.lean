/- Printed by wip/tools/gprint.py, a program of mine that runs the print program of the kit with contracts of mine in the place of what that does not take. Lean checks it. -/
import Derived.Test.YtgloidibckopiaaGx0
import Derived.Test.YtgloidibckopiaaGx2
import Derived.Test.YtgloidibckopiaaGPoison
namespace Go.Proofs.Ytgloidibckopiaa.G
open Go.RowKit Go.Proofs.YtgloidibckopiaaW.PrintWords Go.Proofs.YtgloidibckopiaaW.PrintLast Go.Proofs.YtgloidibckopiaaW.PrintMore
attribute [local go_sem] max2_int min2_int max_two min_two max_three min_three max_four min_four   -- for this text's walks alone
set_option linter.unusedVariables false
set_option linter.unusedSimpArgs false

/-! ### engrosserlaw14_Cert_bytes: function 18 -/
mutual
def engrosserlaw14_Cert_bytes.j0 : Nat → ByteArray → ByteArray → ByteArray → Bool → List ByteArray → Int → Option (ByteArray)
 | 0, _, _, _, _, _, _ => none
 | k + 1, x3, x167000, x167001, x167002, x167003, x167004 => (engrosserlaw14_item.f 2 (⟨#[7]⟩ : ByteArray)).bind fun t168 => (if x3.size + t168.size ≤ 9223372036854775807 then ((engrosserlaw14_item.f 48 (⟨#[5, 0]⟩ : ByteArray)).bind fun t169 => (if (x3 ++ t168).size + t169.size ≤ 9223372036854775807 then ((engrosserlaw14_item.f 48 (⟨#[]⟩ : ByteArray)).bind fun t170 => (if ((x3 ++ t168) ++ t169).size + t170.size ≤ 9223372036854775807 then ((engrosserlaw14_item.f 48 (⟨#[]⟩ : ByteArray)).bind fun t171 => (if (((x3 ++ t168) ++ t169) ++ t170).size + t171.size ≤ 9223372036854775807 then ((engrosserlaw14_cut.f x167000).bind fun t172 => ((engrosserlaw14_item.f 4 t172).bind fun t173 => ((engrosserlaw14_item.f 48 t173).bind fun t174 => (if ((((x3 ++ t168) ++ t169) ++ t170) ++ t171).size + t174.size ≤ 9223372036854775807 then ((engrosserlaw14_cut.f x167001).bind fun t175 => ((engrosserlaw14_item.f 3 t175).bind fun t176 => ((engrosserlaw14_item.f 48 t176).bind fun t177 => (if (((((x3 ++ t168) ++ t169) ++ t170) ++ t171) ++ t174).size + t177.size ≤ 9223372036854775807 then (engrosserlaw14_Cert_bytes.l0 k ((((((x3 ++ t168) ++ t169) ++ t170) ++ t171) ++ t174) ++ t177) (⟨#[]⟩ : ByteArray) 0 x167000 x167001 x167002 x167003 x167004) else (none))))) else (none))))) else (none))) else (none))) else (none))) else (none))
def engrosserlaw14_Cert_bytes.l0 : Nat → ByteArray → ByteArray → Int → ByteArray → ByteArray → Bool → List ByteArray → Int → Option (ByteArray)
 | 0, _, _, _, _, _, _, _, _ => none
 | k + 1, x3, x4, x5, x167000, x167001, x167002, x167003, x167004 => if x5 < (x167003.length : Int) then (engrosserlaw14_Cert_bytes.j2 k x3 x4 x5 (decide (x5 < 5)) x167000 x167001 x167002 x167003 x167004) else (engrosserlaw14_Cert_bytes.j2 k x3 x4 x5 false x167000 x167001 x167002 x167003 x167004)
def engrosserlaw14_Cert_bytes.j2 : Nat → ByteArray → ByteArray → Int → Bool → ByteArray → ByteArray → Bool → List ByteArray → Int → Option (ByteArray)
 | 0, _, _, _, _, _, _, _, _, _ => none
 | k + 1, x3, x4, x5, x38, x167000, x167001, x167002, x167003, x167004 => if x38 = true then (if x5 = x167004 then ((engrosserlaw14_poison.f).bind fun t178 => (if x4.size + t178.size ≤ 9223372036854775807 then (engrosserlaw14_Cert_bytes.j3 k x3 (x4 ++ t178) x5 x167000 x167001 x167002 x167003 x167004) else (none))) else (engrosserlaw14_Cert_bytes.j3 k x3 x4 x5 x167000 x167001 x167002 x167003 x167004)) else (if x167004 = (mn (x167003.length : Int) 5) then ((engrosserlaw14_poison.f).bind fun t184 => (if x4.size + t184.size ≤ 9223372036854775807 then (engrosserlaw14_Cert_bytes.j4 k x3 (x4 ++ t184)) else (none))) else (engrosserlaw14_Cert_bytes.j4 k x3 x4))
def engrosserlaw14_Cert_bytes.j3 : Nat → ByteArray → ByteArray → Int → ByteArray → ByteArray → Bool → List ByteArray → Int → Option (ByteArray)
 | 0, _, _, _, _, _, _, _, _ => none
 | k + 1, x3, x4, x5, x167000, x167001, x167002, x167003, x167004 => (engrosserlaw14_item.f 6 (⟨#[85, 29, 15]⟩ : ByteArray)).bind fun t179 => (if 0 ≤ x5 then (if x5 < (x167003.length : Int) then ((engrosserlaw14_cut.f (rdOf ByteArray.empty x167003 x5)).bind fun t181 => ((engrosserlaw14_item.f 4 t181).bind fun t182 => (if t179.size + t182.size ≤ 9223372036854775807 then ((engrosserlaw14_item.f 48 (t179 ++ t182)).bind fun t183 => (if x4.size + t183.size ≤ 9223372036854775807 then (engrosserlaw14_Cert_bytes.l0 k x3 (x4 ++ t183) (wrap64 (x5 + 1)) x167000 x167001 x167002 x167003 x167004) else (none))) else (none)))) else (none)) else (none))
def engrosserlaw14_Cert_bytes.j4 : Nat → ByteArray → ByteArray → Option (ByteArray)
 | 0, _, _ => none
 | k + 1, x3, x4 => if x4.toList = ([] : List UInt8) then (engrosserlaw14_Cert_bytes.j5 k x3) else ((engrosserlaw14_item.f 48 x4).bind fun t185 => ((engrosserlaw14_item.f 163 t185).bind fun t186 => (if x3.size + t186.size ≤ 9223372036854775807 then (engrosserlaw14_Cert_bytes.j5 k (x3 ++ t186)) else (none))))
def engrosserlaw14_Cert_bytes.j5 : Nat → ByteArray → Option (ByteArray)
 | 0, _ => none
 | k + 1, x3 => (engrosserlaw14_item.f 48 x3).bind fun t187 => ((engrosserlaw14_item.f 48 (⟨#[5, 0]⟩ : ByteArray)).bind fun t188 => (if t187.size + t188.size ≤ 9223372036854775807 then ((engrosserlaw14_item.f 3 (⟨#[0, 115, 105, 103]⟩ : ByteArray)).bind fun t189 => (if (t187 ++ t188).size + t189.size ≤ 9223372036854775807 then ((engrosserlaw14_item.f 48 ((t187 ++ t188) ++ t189)).bind fun t190 => (some t190)) else (none))) else (none)))
end
def engrosserlaw14_Cert_bytes.f (k : Nat) (a0_0 : ByteArray) (a0_1 : ByteArray) (a0_2 : Bool) (l0_3 : List ByteArray) (a0_4 : Int) : Option (ByteArray) := if a0_2 = true then ((engrosserlaw14_item.f 160 (⟨#[2, 1, 2]⟩ : ByteArray)).bind fun t167 => (engrosserlaw14_Cert_bytes.j0 k t167 a0_0 a0_1 a0_2 l0_3 a0_4)) else (engrosserlaw14_Cert_bytes.j0 k (⟨#[]⟩ : ByteArray) a0_0 a0_1 a0_2 l0_3 a0_4)
theorem engrosserlaw14_Cert_bytes.mono_l : ∀ k, (∀ y0 y1 y2 y3 y4 y5, LeO (engrosserlaw14_Cert_bytes.j0 k y0 y1 y2 y3 y4 y5) (engrosserlaw14_Cert_bytes.j0 (k + 1) y0 y1 y2 y3 y4 y5)) ∧ (∀ y0 y1 y2 y3 y4 y5 y6 y7, LeO (engrosserlaw14_Cert_bytes.l0 k y0 y1 y2 y3 y4 y5 y6 y7) (engrosserlaw14_Cert_bytes.l0 (k + 1) y0 y1 y2 y3 y4 y5 y6 y7)) ∧ (∀ y0 y1 y2 y3 y4 y5 y6 y7 y8, LeO (engrosserlaw14_Cert_bytes.j2 k y0 y1 y2 y3 y4 y5 y6 y7 y8) (engrosserlaw14_Cert_bytes.j2 (k + 1) y0 y1 y2 y3 y4 y5 y6 y7 y8)) ∧ (∀ y0 y1 y2 y3 y4 y5 y6 y7, LeO (engrosserlaw14_Cert_bytes.j3 k y0 y1 y2 y3 y4 y5 y6 y7) (engrosserlaw14_Cert_bytes.j3 (k + 1) y0 y1 y2 y3 y4 y5 y6 y7)) ∧ (∀ y0 y1, LeO (engrosserlaw14_Cert_bytes.j4 k y0 y1) (engrosserlaw14_Cert_bytes.j4 (k + 1) y0 y1)) ∧ (∀ y0, LeO (engrosserlaw14_Cert_bytes.j5 k y0) (engrosserlaw14_Cert_bytes.j5 (k + 1) y0))
 | 0 => ⟨fun _ _ _ _ _ _ r h => by simp [engrosserlaw14_Cert_bytes.j0] at h, fun _ _ _ _ _ _ _ _ r h => by simp [engrosserlaw14_Cert_bytes.l0] at h, fun _ _ _ _ _ _ _ _ _ r h => by simp [engrosserlaw14_Cert_bytes.j2] at h, fun _ _ _ _ _ _ _ _ r h => by simp [engrosserlaw14_Cert_bytes.j3] at h, fun _ _ r h => by simp [engrosserlaw14_Cert_bytes.j4] at h, fun _ r h => by simp [engrosserlaw14_Cert_bytes.j5] at h⟩
 | k + 1 => by
  obtain ⟨ih0, ih1, ih2, ih3, ih4, ih5⟩ := engrosserlaw14_Cert_bytes.mono_l k
  refine ⟨?_, ?_, ?_, ?_, ?_, ?_⟩
  ·
   intro y0 y1 y2 y3 y4 y5
   unfold engrosserlaw14_Cert_bytes.j0
   repeat' first
   | (with_reducible exact ih0 _ _ _ _ _ _)
   | (with_reducible exact ih1 _ _ _ _ _ _ _ _)
   | (with_reducible exact ih2 _ _ _ _ _ _ _ _ _)
   | (with_reducible exact ih3 _ _ _ _ _ _ _ _)
   | (with_reducible exact ih4 _ _)
   | (with_reducible exact ih5 _)
   | (with_reducible exact LeO.refl _)
   | (with_reducible exact LeO.none _)
   | (with_reducible refine LeO.ite ?_ ?_)
   | (with_reducible refine LeO.bind ?_ (fun _ => ?_))
   | exact ih0 _ _ _ _ _ _
   | exact ih1 _ _ _ _ _ _ _ _
   | exact ih2 _ _ _ _ _ _ _ _ _
   | exact ih3 _ _ _ _ _ _ _ _
   | exact ih4 _ _
   | exact ih5 _
   | exact LeO.none _
   | refine LeO.ite ?_ ?_
   | refine LeO.bind ?_ (fun _ => ?_)
  ·
   intro y0 y1 y2 y3 y4 y5 y6 y7
   unfold engrosserlaw14_Cert_bytes.l0
   repeat' first
   | (with_reducible exact ih0 _ _ _ _ _ _)
   | (with_reducible exact ih1 _ _ _ _ _ _ _ _)
   | (with_reducible exact ih2 _ _ _ _ _ _ _ _ _)
   | (with_reducible exact ih3 _ _ _ _ _ _ _ _)
   | (with_reducible exact ih4 _ _)
   | (with_reducible exact ih5 _)
   | (with_reducible exact LeO.refl _)
   | (with_reducible exact LeO.none _)
   | (with_reducible refine LeO.ite ?_ ?_)
   | (with_reducible refine LeO.bind ?_ (fun _ => ?_))
   | exact ih0 _ _ _ _ _ _
   | exact ih1 _ _ _ _ _ _ _ _
   | exact ih2 _ _ _ _ _ _ _ _ _
   | exact ih3 _ _ _ _ _ _ _ _
   | exact ih4 _ _
   | exact ih5 _
   | exact LeO.none _
   | refine LeO.ite ?_ ?_
   | refine LeO.bind ?_ (fun _ => ?_)
  ·
   intro y0 y1 y2 y3 y4 y5 y6 y7 y8
   unfold engrosserlaw14_Cert_bytes.j2
   repeat' first
   | (with_reducible exact ih0 _ _ _ _ _ _)
   | (with_reducible exact ih1 _ _ _ _ _ _ _ _)
   | (with_reducible exact ih2 _ _ _ _ _ _ _ _ _)
   | (with_reducible exact ih3 _ _ _ _ _ _ _ _)
   | (with_reducible exact ih4 _ _)
   | (with_reducible exact ih5 _)
   | (with_reducible exact LeO.refl _)
   | (with_reducible exact LeO.none _)
   | (with_reducible refine LeO.ite ?_ ?_)
   | (with_reducible refine LeO.bind ?_ (fun _ => ?_))
   | exact ih0 _ _ _ _ _ _
   | exact ih1 _ _ _ _ _ _ _ _
   | exact ih2 _ _ _ _ _ _ _ _ _
   | exact ih3 _ _ _ _ _ _ _ _
   | exact ih4 _ _
   | exact ih5 _
   | exact LeO.none _
   | refine LeO.ite ?_ ?_
   | refine LeO.bind ?_ (fun _ => ?_)
  ·
   intro y0 y1 y2 y3 y4 y5 y6 y7
   unfold engrosserlaw14_Cert_bytes.j3
   repeat' first
   | (with_reducible exact ih0 _ _ _ _ _ _)
   | (with_reducible exact ih1 _ _ _ _ _ _ _ _)
   | (with_reducible exact ih2 _ _ _ _ _ _ _ _ _)
   | (with_reducible exact ih3 _ _ _ _ _ _ _ _)
   | (with_reducible exact ih4 _ _)
   | (with_reducible exact ih5 _)
   | (with_reducible exact LeO.refl _)
   | (with_reducible exact LeO.none _)
   | (with_reducible refine LeO.ite ?_ ?_)
   | (with_reducible refine LeO.bind ?_ (fun _ => ?_))
   | exact ih0 _ _ _ _ _ _
   | exact ih1 _ _ _ _ _ _ _ _
   | exact ih2 _ _ _ _ _ _ _ _ _
   | exact ih3 _ _ _ _ _ _ _ _
   | exact ih4 _ _
   | exact ih5 _
   | exact LeO.none _
   | refine LeO.ite ?_ ?_
   | refine LeO.bind ?_ (fun _ => ?_)
  ·
   intro y0 y1
   unfold engrosserlaw14_Cert_bytes.j4
   repeat' first
   | (with_reducible exact ih0 _ _ _ _ _ _)
   | (with_reducible exact ih1 _ _ _ _ _ _ _ _)
   | (with_reducible exact ih2 _ _ _ _ _ _ _ _ _)
   | (with_reducible exact ih3 _ _ _ _ _ _ _ _)
   | (with_reducible exact ih4 _ _)
   | (with_reducible exact ih5 _)
   | (with_reducible exact LeO.refl _)
   | (with_reducible exact LeO.none _)
   | (with_reducible refine LeO.ite ?_ ?_)
   | (with_reducible refine LeO.bind ?_ (fun _ => ?_))
   | exact ih0 _ _ _ _ _ _
   | exact ih1 _ _ _ _ _ _ _ _
   | exact ih2 _ _ _ _ _ _ _ _ _
   | exact ih3 _ _ _ _ _ _ _ _
   | exact ih4 _ _
   | exact ih5 _
   | exact LeO.none _
   | refine LeO.ite ?_ ?_
   | refine LeO.bind ?_ (fun _ => ?_)
  ·
   intro y0
   unfold engrosserlaw14_Cert_bytes.j5
   repeat' first
   | (with_reducible exact ih0 _ _ _ _ _ _)
   | (with_reducible exact ih1 _ _ _ _ _ _ _ _)
   | (with_reducible exact ih2 _ _ _ _ _ _ _ _ _)
   | (with_reducible exact ih3 _ _ _ _ _ _ _ _)
   | (with_reducible exact ih4 _ _)
   | (with_reducible exact ih5 _)
   | (with_reducible exact LeO.refl _)
   | (with_reducible exact LeO.none _)
   | (with_reducible refine LeO.ite ?_ ?_)
   | (with_reducible refine LeO.bind ?_ (fun _ => ?_))
   | exact ih0 _ _ _ _ _ _
   | exact ih1 _ _ _ _ _ _ _ _
   | exact ih2 _ _ _ _ _ _ _ _ _
   | exact ih3 _ _ _ _ _ _ _ _
   | exact ih4 _ _
   | exact ih5 _
   | exact LeO.none _
   | refine LeO.ite ?_ ?_
   | refine LeO.bind ?_ (fun _ => ?_)
theorem engrosserlaw14_Cert_bytes.mono : ∀ a0 a1 a2 a3 a4 k, LeO (engrosserlaw14_Cert_bytes.f k a0 a1 a2 a3 a4) (engrosserlaw14_Cert_bytes.f (k + 1) a0 a1 a2 a3 a4) := by
 intro a0 a1 a2 a3 a4 k
 obtain ⟨ih0, ih1, ih2, ih3, ih4, ih5⟩ := engrosserlaw14_Cert_bytes.mono_l k
 unfold engrosserlaw14_Cert_bytes.f
 repeat' first
   | (with_reducible exact ih0 _ _ _ _ _ _)
   | (with_reducible exact ih1 _ _ _ _ _ _ _ _)
   | (with_reducible exact ih2 _ _ _ _ _ _ _ _ _)
   | (with_reducible exact ih3 _ _ _ _ _ _ _ _)
   | (with_reducible exact ih4 _ _)
   | (with_reducible exact ih5 _)
   | (with_reducible exact LeO.refl _)
   | (with_reducible exact LeO.none _)
   | (with_reducible refine LeO.ite ?_ ?_)
   | (with_reducible refine LeO.bind ?_ (fun _ => ?_))
   | exact ih0 _ _ _ _ _ _
   | exact ih1 _ _ _ _ _ _ _ _
   | exact ih2 _ _ _ _ _ _ _ _ _
   | exact ih3 _ _ _ _ _ _ _ _
   | exact ih4 _ _
   | exact ih5 _
   | exact LeO.none _
   | refine LeO.ite ?_ ?_
   | refine LeO.bind ?_ (fun _ => ?_)
def engrosserlaw14_Cert_bytes.T4 : Bool × List (List Nat × List Nat) := (true, [([], []), ([], []), ([0, 1], [0, 1]), ([1], []), ([2, 3], [2, 3]), ([3], []), ([4, 5], [4, 5]), ([5], []), ([6, 7], [6, 7]), ([], []), ([9], [9]), ([10, 7], [10]), ([11, 11], [11]), ([12, 12], [12]), ([8, 13], [8, 13]), ([], []), ([15], [15]), ([16, 13], [16]), ([17, 17], [17]), ([18, 18], [18]), ([14, 19], [14, 19]), ([20, 19, 0, 1, 2, 3, 4, 5, 6, 7, 8, 9, 10, 11, 12, 13, 14, 15, 16, 17, 18, 19, 20], [0, 20])])
def engrosserlaw14_Cert_bytes.B4 : List Nat := [0, 0, 3, 2, 15, 10, 63, 42, 255, 0, 512, 1706, 3754, 7850, 16383, 0, 32768, 114346, 245418, 507562, 1048575, 2097151]
theorem engrosserlaw14_Cert_bytes.tab4 : rtab .any (opsOf Try.f18 4) = engrosserlaw14_Cert_bytes.T4 := by kernel_rfl
theorem engrosserlaw14_Cert_bytes.bits4 : waitsOk engrosserlaw14_Cert_bytes.T4.2 engrosserlaw14_Cert_bytes.B4 = true := by kernel_rfl
def engrosserlaw14_Cert_bytes.T11 : Bool × List (List Nat × List Nat) := (true, [([], []), ([], []), ([], []), ([2], [2]), ([], []), ([3, 4], [3, 4]), ([5], [5]), ([6, 1], [6]), ([7, 7], [7]), ([1, 8], [1, 8]), ([9, 8], [9]), ([0, 10], [0, 10]), ([11, 10, 0, 1, 2, 3, 4, 5, 6, 7, 8, 9, 10, 11], [0, 11])])
def engrosserlaw14_Cert_bytes.B11 : List Nat := [0, 0, 0, 4, 0, 28, 60, 126, 254, 510, 1022, 2047, 4095]
theorem engrosserlaw14_Cert_bytes.tab11 : rtab .any (opsOf Try.f18 11) = engrosserlaw14_Cert_bytes.T11 := by kernel_rfl
theorem engrosserlaw14_Cert_bytes.bits11 : waitsOk engrosserlaw14_Cert_bytes.T11.2 engrosserlaw14_Cert_bytes.B11 = true := by kernel_rfl
set_option maxHeartbeats 8000000 in
set_option maxRecDepth 100000 in
theorem engrosserlaw14_Cert_bytes.calls (k : Nat) (a0_0 : ByteArray) (a0_1 : ByteArray) (a0_2 : Bool) (A0_3 : Option Addr) (c0_3 : Nat) (l0_3 : List ByteArray) (a0_4 : Int) (r : ByteArray) (w : World) (hr0_3 : Kd.C Kd.string w A0_3 l0_3.length l0_3) (hc0_3 : l0_3.length ≤ c0_3) (h : engrosserlaw14_Cert_bytes.f k a0_0 a0_1 a0_2 l0_3 a0_4 = some r) :
  Calls Try.prog 18 #[.agg #[.string a0_0, .string a0_1, .bool a0_2, .slice A0_3 l0_3.length c0_3, .int .i64 a0_4]] w fun e w' => e = .returned (.string r) ∧ Below w.heap.size w w' := by
 have hu47 := Try.underlying47
 have HR0_3 := Aside0.mk hr0_3
 have HC0_3 := Aside0.mk hc0_3
 clear hr0_3 hc0_3
 have HB := Aside0.mk (Below.refl w.heap.size w)
 have H : (if a0_2 = true then ((engrosserlaw14_item.f 160 (⟨#[2, 1, 2]⟩ : ByteArray)).bind fun t167 => (engrosserlaw14_Cert_bytes.j0 k t167 a0_0 a0_1 a0_2 l0_3 a0_4)) else (engrosserlaw14_Cert_bytes.j0 k (⟨#[]⟩ : ByteArray) a0_0 a0_1 a0_2 l0_3 a0_4)) = some r := h
 clear h
 have HC2 := Aside0.mk H
 clear H
 go_enter Try.func18, Try.ntmps18
 go_upto_if 7 with (first | ((with_reducible refine gate_dst (N := 1) rfl ?_); refine box_event ?hg (N := 1) ?hd (cs := #[.string a0_0, .string a0_1, .bool a0_2, .slice A0_3 l0_3.length c0_3, .int .i64 a0_4]) (t := 47) ?hr ?_; (case hd => rfl); (case hg => rfl); (case hr => first | (go_simp; done) | (go_simp; rfl)); intro gb166 hg w3 hbox hb; have n0_ := Aside0.mk (below_step (by repeat (first | (with_reducible first | exact HB.out | apply below_alloc | apply pw_below_drewN | apply below_drew1) | exact HB.out)) hb); have n1_ := Aside0.mk (hbox); have n2_ := Aside0.mk ((by rw [hg]; exact (below_size (by repeat (first | (with_reducible first | exact HB.out | apply below_alloc | apply pw_below_drewN | apply below_drew1) | exact HB.out))) : w.heap.size ≤ gb166)); have n3_ := Aside0.mk ((by rw [hg]; exact (below_size (by repeat (first | (with_reducible first | exact HB.out | apply below_alloc | apply pw_below_drewN | apply below_drew1) | exact HB.out))) : w.heap.size ≤ gb166)); clear HB; have HB := n0_; have BK166 := n1_; have GW166 := n2_; have GE166 := n3_; clear n0_ n1_ n2_ n3_; clear hb hbox hg; have hcz4_0 : w3.cell? ⟨gb166, 0, none⟩ = some (.string a0_0) := (blk_cell BK166.out 0).trans rfl; have hcz4_1 : w3.cell? ⟨gb166, 1, none⟩ = some (.string a0_1) := (blk_cell BK166.out 1).trans rfl; have hcz4_2 : w3.cell? ⟨gb166, 2, none⟩ = some (.bool a0_2) := (blk_cell BK166.out 2).trans rfl; have hcz4_3 : w3.cell? ⟨gb166, 3, none⟩ = some (.slice A0_3 l0_3.length c0_3) := (blk_cell BK166.out 3).trans rfl; have hcz4_4 : w3.cell? ⟨gb166, 4, none⟩ = some (.int .i64 a0_4) := (blk_cell BK166.out 4).trans rfl; have hfz4_0 := blk_frozen BK166.out 0; have hfz4_1 := blk_frozen BK166.out 1; have hfz4_2 := blk_frozen BK166.out 2; have hfz4_3 := blk_frozen BK166.out 3; have hfz4_4 := blk_frozen BK166.out 4))
 (try simp only [Act.put, List.setIfInBounds_toArray, List.set_cons_zero, List.set_cons_succ])
 go_cut [3] (fun v3 wc => ∃ (kq : Nat) (x3_1 : ByteArray), v3 = .string x3_1 ∧ Aside0 (engrosserlaw14_Cert_bytes.j0 kq x3_1 a0_0 a0_1 a0_2 l0_3 a0_4 = some r) ∧ Aside0 (kq ≤ k) ∧ Aside0 (wc.heap[gb166]? = some (.cells #[.string a0_0, .string a0_1, .bool a0_2, (.slice A0_3 l0_3.length c0_3), .int .i64 a0_4] 47 (0, 0))) ∧ Aside0 (Below w.heap.size w wc))
 case first =>
  have H := HC2.out
  clear HC2
  by_cases c5 : a0_2 = true
  ·
   subst c5
   have H1 : ((engrosserlaw14_item.f 160 (⟨#[2, 1, 2]⟩ : ByteArray)).bind fun t167 => (engrosserlaw14_Cert_bytes.j0 k t167 a0_0 a0_1 true l0_3 a0_4)) = some r := by first | (rw [if_pos rfl] at H; exact H) | (rw [if_pos trivial] at H; exact H)
   clear H
   have H := H1
   clear H1
   replace H := Option.bind_eq_some_iff.mp H
   obtain ⟨t167, A60, H⟩ := H
   replace H : (engrosserlaw14_Cert_bytes.j0 k t167 a0_0 a0_1 true l0_3 a0_4) = some r := H
   have A6 := Aside0.mk A60
   clear A60
   have H' := Aside0.mk H
   clear H
   go_wp2_with (first | ((with_reducible refine gate_callee (f := 14) rfl ?_); refine goesL_ (some 8) rfl rfl Try.func14 (by kernel_rfl) rfl #[.int .i64 160, .string (⟨#[2, 1, 2]⟩ : ByteArray)] rfl (by (try simp only [List.map_toArray, List.map_cons, List.map_nil]); first | done | rfl | (simp only [List.length_drop, List.length_take]; rfl)) ?_; (with_reducible refine (engrosserlaw14_item.calls 160 (⟨#[2, 1, 2]⟩ : ByteArray) t167 _ A6.out).mono ?_); rintro e w7 ⟨rfl, hb⟩; refine ⟨_, rfl, ?_⟩; have n0_ := Aside0.mk (blk_below (g := gb166) (o := .cells #[.string a0_0, .string a0_1, .bool true, .slice A0_3 l0_3.length c0_3, .int .i64 a0_4] 47 (0, 0)) (by (with_reducible repeat (first | refine blk_drewN ?_ _ | refine blk_drew ?_ | refine blk_alloc ?_ _)); exact BK166.out) hb); have n1_ := Aside0.mk (below_step (by repeat (first | (with_reducible first | exact HB.out | apply below_alloc | apply pw_below_drewN | apply below_drew1 | refine below_set ?_ GE166.out) | exact HB.out)) hb); clear BK166; clear HB; have BK166 := n0_; have HB := n1_; clear n0_ n1_; (try clear hb); (try clear hb2); (try clear hk); (try clear hi)))
   go_meet
   case rel => exact ⟨_, (t167), (by first | rfl | (simp; done) | (simp [*]; done)), H', ⟨by first | omega | exact Nat.le_refl _⟩, ⟨by (with_reducible repeat (first | refine blk_drewN ?_ _ | refine blk_drew ?_ | refine blk_alloc ?_ _)); exact BK166.out⟩, ⟨by repeat (first | (with_reducible first | exact HB.out | apply below_alloc | apply pw_below_drewN | apply below_drew1 | refine below_set ?_ GE166.out) | exact HB.out)⟩⟩
  ·
   replace c5 := Bool.eq_false_iff.mpr c5
   subst c5
   have H1 : (engrosserlaw14_Cert_bytes.j0 k (⟨#[]⟩ : ByteArray) a0_0 a0_1 false l0_3 a0_4) = some r := by rw [if_neg (show ¬ (false = true) by decide)] at H; exact H
   clear H
   have H := H1
   clear H1
   have H' := Aside0.mk H
   clear H
   go_wp2
   go_meet
   case rel => exact ⟨_, ((⟨#[]⟩ : ByteArray)), (by first | rfl | (simp; done) | (simp [*]; done)), H', ⟨by first | omega | exact Nat.le_refl _⟩, ⟨by (with_reducible repeat (first | refine blk_drewN ?_ _ | refine blk_drew ?_ | refine blk_alloc ?_ _)); exact BK166.out⟩, ⟨by repeat (first | (with_reducible first | exact HB.out | apply below_alloc | apply pw_below_drewN | apply below_drew1 | refine below_set ?_ GE166.out) | exact HB.out)⟩⟩
 case rest =>
  clear HC2
  try clear c1
  try clear p2
  try clear c5
  try clear hcz4_0
  try clear hcz4_1
  try clear hcz4_2
  try clear hcz4_3
  try clear hcz4_4
  try clear hfz4_0
  try clear hfz4_1
  try clear hfz4_2
  try clear hfz4_3
  try clear hfz4_4
  obtain ⟨kq, x3_1, rfl, HA, HJ1, BK166, HB⟩ := hcut
  cases kq with
  | zero => exact absurd HA.out (by simp [engrosserlaw14_Cert_bytes.j0])
  | succ kj1 =>
   have H := HA.out
   clear HA
   simp only [engrosserlaw14_Cert_bytes.j0] at H
   replace H := Option.bind_eq_some_iff.mp H
   obtain ⟨t168, A80, H⟩ := H
   replace H : (if x3_1.size + t168.size ≤ 9223372036854775807 then ((engrosserlaw14_item.f 48 (⟨#[5, 0]⟩ : ByteArray)).bind fun t169 => (if (x3_1 ++ t168).size + t169.size ≤ 9223372036854775807 then ((engrosserlaw14_item.f 48 (⟨#[]⟩ : ByteArray)).bind fun t170 => (if ((x3_1 ++ t168) ++ t169).size + t170.size ≤ 9223372036854775807 then ((engrosserlaw14_item.f 48 (⟨#[]⟩ : ByteArray)).bind fun t171 => (if (((x3_1 ++ t168) ++ t169) ++ t170).size + t171.size ≤ 9223372036854775807 then ((engrosserlaw14_cut.f a0_0).bind fun t172 => ((engrosserlaw14_item.f 4 t172).bind fun t173 => ((engrosserlaw14_item.f 48 t173).bind fun t174 => (if ((((x3_1 ++ t168) ++ t169) ++ t170) ++ t171).size + t174.size ≤ 9223372036854775807 then ((engrosserlaw14_cut.f a0_1).bind fun t175 => ((engrosserlaw14_item.f 3 t175).bind fun t176 => ((engrosserlaw14_item.f 48 t176).bind fun t177 => (if (((((x3_1 ++ t168) ++ t169) ++ t170) ++ t171) ++ t174).size + t177.size ≤ 9223372036854775807 then (engrosserlaw14_Cert_bytes.l0 kj1 ((((((x3_1 ++ t168) ++ t169) ++ t170) ++ t171) ++ t174) ++ t177) (⟨#[]⟩ : ByteArray) 0 a0_0 a0_1 a0_2 l0_3 a0_4) else (none))))) else (none))))) else (none))) else (none))) else (none))) else (none)) = some r := H
   have A8 := Aside0.mk A80
   clear A80
   by_cases c9 : x3_1.size + t168.size ≤ 9223372036854775807
   ·
    rw [if_pos c9] at H
    have c9b0 := eq_true c9
    have c9b1 : decide (x3_1.size + t168.size ≤ 9223372036854775807) = true := decide_eq_true c9
    try have c9b2 : (9223372036854775807 < x3_1.size + t168.size) = False := eq_false (Nat.not_lt.2 c9)
    replace H := Option.bind_eq_some_iff.mp H
    obtain ⟨t169, A100, H⟩ := H
    replace H : (if (x3_1 ++ t168).size + t169.size ≤ 9223372036854775807 then ((engrosserlaw14_item.f 48 (⟨#[]⟩ : ByteArray)).bind fun t170 => (if ((x3_1 ++ t168) ++ t169).size + t170.size ≤ 9223372036854775807 then ((engrosserlaw14_item.f 48 (⟨#[]⟩ : ByteArray)).bind fun t171 => (if (((x3_1 ++ t168) ++ t169) ++ t170).size + t171.size ≤ 9223372036854775807 then ((engrosserlaw14_cut.f a0_0).bind fun t172 => ((engrosserlaw14_item.f 4 t172).bind fun t173 => ((engrosserlaw14_item.f 48 t173).bind fun t174 => (if ((((x3_1 ++ t168) ++ t169) ++ t170) ++ t171).size + t174.size ≤ 9223372036854775807 then ((engrosserlaw14_cut.f a0_1).bind fun t175 => ((engrosserlaw14_item.f 3 t175).bind fun t176 => ((engrosserlaw14_item.f 48 t176).bind fun t177 => (if (((((x3_1 ++ t168) ++ t169) ++ t170) ++ t171) ++ t174).size + t177.size ≤ 9223372036854775807 then (engrosserlaw14_Cert_bytes.l0 kj1 ((((((x3_1 ++ t168) ++ t169) ++ t170) ++ t171) ++ t174) ++ t177) (⟨#[]⟩ : ByteArray) 0 a0_0 a0_1 a0_2 l0_3 a0_4) else (none))))) else (none))))) else (none))) else (none))) else (none)) = some r := H
    have A10 := Aside0.mk A100
    clear A100
    by_cases c11 : (x3_1 ++ t168).size + t169.size ≤ 9223372036854775807
    ·
     rw [if_pos c11] at H
     have c11b0 := eq_true c11
     have c11b1 : decide ((x3_1 ++ t168).size + t169.size ≤ 9223372036854775807) = true := decide_eq_true c11
     try have c11b2 : (9223372036854775807 < (x3_1 ++ t168).size + t169.size) = False := eq_false (Nat.not_lt.2 c11)
     have c11b2z := c11b2
     (try simp only [ByteArray.size_append] at c11b2z)
     replace H := Option.bind_eq_some_iff.mp H
     obtain ⟨t170, A120, H⟩ := H
     replace H : (if ((x3_1 ++ t168) ++ t169).size + t170.size ≤ 9223372036854775807 then ((engrosserlaw14_item.f 48 (⟨#[]⟩ : ByteArray)).bind fun t171 => (if (((x3_1 ++ t168) ++ t169) ++ t170).size + t171.size ≤ 9223372036854775807 then ((engrosserlaw14_cut.f a0_0).bind fun t172 => ((engrosserlaw14_item.f 4 t172).bind fun t173 => ((engrosserlaw14_item.f 48 t173).bind fun t174 => (if ((((x3_1 ++ t168) ++ t169) ++ t170) ++ t171).size + t174.size ≤ 9223372036854775807 then ((engrosserlaw14_cut.f a0_1).bind fun t175 => ((engrosserlaw14_item.f 3 t175).bind fun t176 => ((engrosserlaw14_item.f 48 t176).bind fun t177 => (if (((((x3_1 ++ t168) ++ t169) ++ t170) ++ t171) ++ t174).size + t177.size ≤ 9223372036854775807 then (engrosserlaw14_Cert_bytes.l0 kj1 ((((((x3_1 ++ t168) ++ t169) ++ t170) ++ t171) ++ t174) ++ t177) (⟨#[]⟩ : ByteArray) 0 a0_0 a0_1 a0_2 l0_3 a0_4) else (none))))) else (none))))) else (none))) else (none)) = some r := H
     have A12 := Aside0.mk A120
     clear A120
     by_cases c13 : ((x3_1 ++ t168) ++ t169).size + t170.size ≤ 9223372036854775807
     ·
      rw [if_pos c13] at H
      have c13b0 := eq_true c13
      have c13b1 : decide (((x3_1 ++ t168) ++ t169).size + t170.size ≤ 9223372036854775807) = true := decide_eq_true c13
      try have c13b2 : (9223372036854775807 < ((x3_1 ++ t168) ++ t169).size + t170.size) = False := eq_false (Nat.not_lt.2 c13)
      have c13b2z := c13b2
      (try simp only [ByteArray.size_append] at c13b2z)
      replace H := Option.bind_eq_some_iff.mp H
      obtain ⟨t171, A140, H⟩ := H
      replace H : (if (((x3_1 ++ t168) ++ t169) ++ t170).size + t171.size ≤ 9223372036854775807 then ((engrosserlaw14_cut.f a0_0).bind fun t172 => ((engrosserlaw14_item.f 4 t172).bind fun t173 => ((engrosserlaw14_item.f 48 t173).bind fun t174 => (if ((((x3_1 ++ t168) ++ t169) ++ t170) ++ t171).size + t174.size ≤ 9223372036854775807 then ((engrosserlaw14_cut.f a0_1).bind fun t175 => ((engrosserlaw14_item.f 3 t175).bind fun t176 => ((engrosserlaw14_item.f 48 t176).bind fun t177 => (if (((((x3_1 ++ t168) ++ t169) ++ t170) ++ t171) ++ t174).size + t177.size ≤ 9223372036854775807 then (engrosserlaw14_Cert_bytes.l0 kj1 ((((((x3_1 ++ t168) ++ t169) ++ t170) ++ t171) ++ t174) ++ t177) (⟨#[]⟩ : ByteArray) 0 a0_0 a0_1 a0_2 l0_3 a0_4) else (none))))) else (none))))) else (none)) = some r := H
      have A14 := Aside0.mk A140
      clear A140
      by_cases c15 : (((x3_1 ++ t168) ++ t169) ++ t170).size + t171.size ≤ 9223372036854775807
      ·
       rw [if_pos c15] at H
       have c15b0 := eq_true c15
       have c15b1 : decide ((((x3_1 ++ t168) ++ t169) ++ t170).size + t171.size ≤ 9223372036854775807) = true := decide_eq_true c15
       try have c15b2 : (9223372036854775807 < (((x3_1 ++ t168) ++ t169) ++ t170).size + t171.size) = False := eq_false (Nat.not_lt.2 c15)
       have c15b2z := c15b2
       (try simp only [ByteArray.size_append] at c15b2z)
       replace H := Option.bind_eq_some_iff.mp H
       obtain ⟨t172, A160, H⟩ := H
       replace H : ((engrosserlaw14_item.f 4 t172).bind fun t173 => ((engrosserlaw14_item.f 48 t173).bind fun t174 => (if ((((x3_1 ++ t168) ++ t169) ++ t170) ++ t171).size + t174.size ≤ 9223372036854775807 then ((engrosserlaw14_cut.f a0_1).bind fun t175 => ((engrosserlaw14_item.f 3 t175).bind fun t176 => ((engrosserlaw14_item.f 48 t176).bind fun t177 => (if (((((x3_1 ++ t168) ++ t169) ++ t170) ++ t171) ++ t174).size + t177.size ≤ 9223372036854775807 then (engrosserlaw14_Cert_bytes.l0 kj1 ((((((x3_1 ++ t168) ++ t169) ++ t170) ++ t171) ++ t174) ++ t177) (⟨#[]⟩ : ByteArray) 0 a0_0 a0_1 a0_2 l0_3 a0_4) else (none))))) else (none)))) = some r := H
       have A16 := Aside0.mk A160
       clear A160
       replace H := Option.bind_eq_some_iff.mp H
       obtain ⟨t173, A170, H⟩ := H
       replace H : ((engrosserlaw14_item.f 48 t173).bind fun t174 => (if ((((x3_1 ++ t168) ++ t169) ++ t170) ++ t171).size + t174.size ≤ 9223372036854775807 then ((engrosserlaw14_cut.f a0_1).bind fun t175 => ((engrosserlaw14_item.f 3 t175).bind fun t176 => ((engrosserlaw14_item.f 48 t176).bind fun t177 => (if (((((x3_1 ++ t168) ++ t169) ++ t170) ++ t171) ++ t174).size + t177.size ≤ 9223372036854775807 then (engrosserlaw14_Cert_bytes.l0 kj1 ((((((x3_1 ++ t168) ++ t169) ++ t170) ++ t171) ++ t174) ++ t177) (⟨#[]⟩ : ByteArray) 0 a0_0 a0_1 a0_2 l0_3 a0_4) else (none))))) else (none))) = some r := H
       have A17 := Aside0.mk A170
       clear A170
       replace H := Option.bind_eq_some_iff.mp H
       obtain ⟨t174, A180, H⟩ := H
       replace H : (if ((((x3_1 ++ t168) ++ t169) ++ t170) ++ t171).size + t174.size ≤ 9223372036854775807 then ((engrosserlaw14_cut.f a0_1).bind fun t175 => ((engrosserlaw14_item.f 3 t175).bind fun t176 => ((engrosserlaw14_item.f 48 t176).bind fun t177 => (if (((((x3_1 ++ t168) ++ t169) ++ t170) ++ t171) ++ t174).size + t177.size ≤ 9223372036854775807 then (engrosserlaw14_Cert_bytes.l0 kj1 ((((((x3_1 ++ t168) ++ t169) ++ t170) ++ t171) ++ t174) ++ t177) (⟨#[]⟩ : ByteArray) 0 a0_0 a0_1 a0_2 l0_3 a0_4) else (none))))) else (none)) = some r := H
       have A18 := Aside0.mk A180
       clear A180
       by_cases c19 : ((((x3_1 ++ t168) ++ t169) ++ t170) ++ t171).size + t174.size ≤ 9223372036854775807
       ·
        rw [if_pos c19] at H
        have c19b0 := eq_true c19
        have c19b1 : decide (((((x3_1 ++ t168) ++ t169) ++ t170) ++ t171).size + t174.size ≤ 9223372036854775807) = true := decide_eq_true c19
        try have c19b2 : (9223372036854775807 < ((((x3_1 ++ t168) ++ t169) ++ t170) ++ t171).size + t174.size) = False := eq_false (Nat.not_lt.2 c19)
        have c19b2z := c19b2
        (try simp only [ByteArray.size_append] at c19b2z)
        replace H := Option.bind_eq_some_iff.mp H
        obtain ⟨t175, A200, H⟩ := H
        replace H : ((engrosserlaw14_item.f 3 t175).bind fun t176 => ((engrosserlaw14_item.f 48 t176).bind fun t177 => (if (((((x3_1 ++ t168) ++ t169) ++ t170) ++ t171) ++ t174).size + t177.size ≤ 9223372036854775807 then (engrosserlaw14_Cert_bytes.l0 kj1 ((((((x3_1 ++ t168) ++ t169) ++ t170) ++ t171) ++ t174) ++ t177) (⟨#[]⟩ : ByteArray) 0 a0_0 a0_1 a0_2 l0_3 a0_4) else (none)))) = some r := H
        have A20 := Aside0.mk A200
        clear A200
        replace H := Option.bind_eq_some_iff.mp H
        obtain ⟨t176, A210, H⟩ := H
        replace H : ((engrosserlaw14_item.f 48 t176).bind fun t177 => (if (((((x3_1 ++ t168) ++ t169) ++ t170) ++ t171) ++ t174).size + t177.size ≤ 9223372036854775807 then (engrosserlaw14_Cert_bytes.l0 kj1 ((((((x3_1 ++ t168) ++ t169) ++ t170) ++ t171) ++ t174) ++ t177) (⟨#[]⟩ : ByteArray) 0 a0_0 a0_1 a0_2 l0_3 a0_4) else (none))) = some r := H
        have A21 := Aside0.mk A210
        clear A210
        replace H := Option.bind_eq_some_iff.mp H
        obtain ⟨t177, A220, H⟩ := H
        replace H : (if (((((x3_1 ++ t168) ++ t169) ++ t170) ++ t171) ++ t174).size + t177.size ≤ 9223372036854775807 then (engrosserlaw14_Cert_bytes.l0 kj1 ((((((x3_1 ++ t168) ++ t169) ++ t170) ++ t171) ++ t174) ++ t177) (⟨#[]⟩ : ByteArray) 0 a0_0 a0_1 a0_2 l0_3 a0_4) else (none)) = some r := H
        have A22 := Aside0.mk A220
        clear A220
        by_cases c23 : (((((x3_1 ++ t168) ++ t169) ++ t170) ++ t171) ++ t174).size + t177.size ≤ 9223372036854775807
        ·
         rw [if_pos c23] at H
         have c23b0 := eq_true c23
         have c23b1 : decide ((((((x3_1 ++ t168) ++ t169) ++ t170) ++ t171) ++ t174).size + t177.size ≤ 9223372036854775807) = true := decide_eq_true c23
         try have c23b2 : (9223372036854775807 < (((((x3_1 ++ t168) ++ t169) ++ t170) ++ t171) ++ t174).size + t177.size) = False := eq_false (Nat.not_lt.2 c23)
         have c23b2z := c23b2
         (try simp only [ByteArray.size_append] at c23b2z)
         have H' := Aside0.mk H
         clear H
         try go_wp2
         have n0_ := Aside0.mk (blk_drew BK166.out)
         have n1_ := Aside0.mk (below_drew1 HB.out)
         clear BK166
         clear HB
         have BK166 := n0_
         have HB := n1_
         clear n0_ n1_
         refine start_ (n := 22) (S := fun w' => w'.cell? ⟨gb166, 0, none⟩ = some (.string a0_0) ∧ w'.cell? ⟨gb166, 1, none⟩ = some (.string a0_1) ∧ w'.cell? ⟨gb166, 2, none⟩ = some (.bool a0_2) ∧ w'.cell? ⟨gb166, 3, none⟩ = some (.slice A0_3 l0_3.length c0_3) ∧ w'.cell? ⟨gb166, 4, none⟩ = some (.int .i64 a0_4)) (ds := []) #[false, false, false, false, false, false, false, false, false, false, false, false, false, false, false, false, false, false, false, false, false, false] (by kernel_rfl) rfl rfl ⟨(blk_cell BK166.out 0).trans rfl, (blk_cell BK166.out 1).trans rfl, (blk_cell BK166.out 2).trans rfl, (blk_cell BK166.out 3).trans rfl, (blk_cell BK166.out 4).trans rfl⟩ (fun hHeld => ?_); refine with_tabW engrosserlaw14_Cert_bytes.tab4 engrosserlaw14_Cert_bytes.bits4 (fun HT_ HW_ => ?_)
         generalize wc.drew = w24 at BK166 HB hHeld ⊢
         refine pure_ (i := 0) (N := some 9) (v := ?_) (a' := ?_) #[true, false, false, false, false, false, false, false, false, false, false, false, false, false, false, false, false, false, false, false, false, false] rfl rfl (any_of HT_.out (by kernel_rfl)) (fun _ _ _ h => h) (Or.inl ⟨by rfl, ?_⟩) ?_ ?_
         rotate_left
         ·
          intro w'
          go_simp
          with_reducible rfl
         rotate_left
         ·
          simp only [Act.put, List.setIfInBounds_toArray, List.set_cons_zero, List.set_cons_succ, i64_w, i32_w]
          rfl
         refine pure_ (i := 9) (N := some 18) (v := ?_) (a' := ?_) #[true, false, false, false, false, false, false, false, false, true, false, false, false, false, false, false, false, false, false, false, false, false] rfl rfl (any_of HT_.out (by kernel_rfl)) (fun _ _ _ h => h) (Or.inl ⟨by rfl, ?_⟩) ?_ ?_
         rotate_left
         ·
          intro w'
          go_simp
          with_reducible rfl
         rotate_left
         ·
          simp only [Act.put, List.setIfInBounds_toArray, List.set_cons_zero, List.set_cons_succ, i64_w, i32_w]
          rfl
         refine pure_ (i := 15) (N := some 24) (v := ?_) (a' := ?_) #[true, false, false, false, false, false, false, false, false, true, false, false, false, false, false, true, false, false, false, false, false, false] rfl rfl (any_of HT_.out (by kernel_rfl)) (fun _ _ _ h => h) (Or.inl ⟨by rfl, ?_⟩) ?_ ?_
         rotate_left
         ·
          intro w'
          go_simp
          with_reducible rfl
         rotate_left
         ·
          simp only [Act.put, List.setIfInBounds_toArray, List.set_cons_zero, List.set_cons_succ, i64_w, i32_w]
          rfl
         refine take_ (i := 10) (N := some 19) (v := ?_) (a' := ?_) #[true, false, false, false, false, false, false, false, false, true, true, false, false, false, false, true, false, false, false, false, false, false] rfl rfl (take_ofW HT_.out HW_.out (by kernel_rfl)) (fun _ _ _ h => h) (Or.inl ⟨by rfl, ?_⟩) hHeld ?_ ?_
         rotate_left
         ·
          rintro w' ⟨s0, s1, s2, s3, s4⟩
          go_simp
          with_reducible rfl
         rotate_left
         ·
          simp only [Act.put, List.setIfInBounds_toArray, List.set_cons_zero, List.set_cons_succ, i64_w, i32_w]
          rfl
         refine take_ (i := 16) (N := some 25) (v := ?_) (a' := ?_) #[true, false, false, false, false, false, false, false, false, true, true, false, false, false, false, true, true, false, false, false, false, false] rfl rfl (take_ofW HT_.out HW_.out (by kernel_rfl)) (fun _ _ _ h => h) (Or.inl ⟨by rfl, ?_⟩) hHeld ?_ ?_
         rotate_left
         ·
          rintro w' ⟨s0, s1, s2, s3, s4⟩
          go_simp
          with_reducible rfl
         rotate_left
         ·
          simp only [Act.put, List.setIfInBounds_toArray, List.set_cons_zero, List.set_cons_succ, i64_w, i32_w]
          rfl
         refine one_ (i := 1) (N := some 10) #[true, true, false, false, false, false, false, false, false, true, true, false, false, false, false, true, true, false, false, false, false, false] rfl rfl (one_of HT_.out (by kernel_rfl)) (by decide) (fun K hK => ?_)
         refine goes_ Try.func14 (by kernel_rfl) rfl #[.int .i64 2, .string (⟨#[7]⟩ : ByteArray)] (by rfl) rfl rfl (by (try simp only [List.map_toArray, List.map_cons, List.map_nil]); first | done | rfl | (simp only [List.length_drop, List.length_take]; rfl)) ?_
         with_reducible refine (engrosserlaw14_item.calls 2 (⟨#[7]⟩ : ByteArray) t168 _ A8.out).mono ?_
         rintro e w25 ⟨rfl, hb⟩
         refine ⟨_, rfl, ?_⟩
         have n0_ := Aside0.mk (blk_below (g := gb166) (o := .cells #[.string a0_0, .string a0_1, .bool a0_2, .slice A0_3 l0_3.length c0_3, .int .i64 a0_4] 47 (0, 0)) (by (with_reducible repeat (first | refine blk_drewN ?_ _ | refine blk_drew ?_ | refine blk_alloc ?_ _)); exact BK166.out) hb)
         have n1_ := Aside0.mk (below_step (by repeat (first | (with_reducible first | exact HB.out | apply below_alloc | apply pw_below_drewN | apply below_drew1 | refine below_set ?_ GE166.out) | exact HB.out)) hb)
         clear BK166
         clear HB
         have BK166 := n0_
         have HB := n1_
         clear n0_ n1_
         (try clear hb)
         (try clear hb2)
         (try clear hk)
         (try clear hi)
         refine hK.out _ _ ⟨(blk_cell BK166.out 0).trans rfl, (blk_cell BK166.out 1).trans rfl, (blk_cell BK166.out 2).trans rfl, (blk_cell BK166.out 3).trans rfl, (blk_cell BK166.out 4).trans rfl⟩ (fun hHeld => ?_)
         clear hK K
         refine norm_ (a' := ?_) ?_ ?_
         rotate_left
         ·
          show Act.put _ (some 10) _ = _
          simp only [Act.put, List.setIfInBounds_toArray, List.set_cons_zero, List.set_cons_succ, i64_w, i32_w]
          rfl
         refine pure_ (i := 2) (N := some 11) (v := ?_) (a' := ?_) #[true, true, true, false, false, false, false, false, false, true, true, false, false, false, false, true, true, false, false, false, false, false] rfl rfl (any_of HT_.out (by kernel_rfl)) (fun _ _ _ h => h) (Or.inl ⟨by rfl, ?_⟩) ?_ ?_
         rotate_left
         ·
          intro w'
          go_simp
          with_reducible rfl
         rotate_left
         ·
          simp only [Act.put, List.setIfInBounds_toArray, List.set_cons_zero, List.set_cons_succ, i64_w, i32_w]
          rfl
         refine one_ (i := 3) (N := some 12) #[true, true, true, true, false, false, false, false, false, true, true, false, false, false, false, true, true, false, false, false, false, false] rfl rfl (one_of HT_.out (by kernel_rfl)) (by decide) (fun K hK => ?_)
         refine goes_ Try.func14 (by kernel_rfl) rfl #[.int .i64 48, .string (⟨#[5, 0]⟩ : ByteArray)] (by rfl) rfl rfl (by (try simp only [List.map_toArray, List.map_cons, List.map_nil]); first | done | rfl | (simp only [List.length_drop, List.length_take]; rfl)) ?_
         with_reducible refine (engrosserlaw14_item.calls 48 (⟨#[5, 0]⟩ : ByteArray) t169 _ A10.out).mono ?_
         rintro e w26 ⟨rfl, hb⟩
         refine ⟨_, rfl, ?_⟩
         have n0_ := Aside0.mk (blk_below (g := gb166) (o := .cells #[.string a0_0, .string a0_1, .bool a0_2, .slice A0_3 l0_3.length c0_3, .int .i64 a0_4] 47 (0, 0)) (by (with_reducible repeat (first | refine blk_drewN ?_ _ | refine blk_drew ?_ | refine blk_alloc ?_ _)); exact BK166.out) hb)
         have n1_ := Aside0.mk (below_step (by repeat (first | (with_reducible first | exact HB.out | apply below_alloc | apply pw_below_drewN | apply below_drew1 | refine below_set ?_ GE166.out) | exact HB.out)) hb)
         clear BK166
         clear HB
         have BK166 := n0_
         have HB := n1_
         clear n0_ n1_
         (try clear hb)
         (try clear hb2)
         (try clear hk)
         (try clear hi)
         refine hK.out _ _ ⟨(blk_cell BK166.out 0).trans rfl, (blk_cell BK166.out 1).trans rfl, (blk_cell BK166.out 2).trans rfl, (blk_cell BK166.out 3).trans rfl, (blk_cell BK166.out 4).trans rfl⟩ (fun hHeld => ?_)
         clear hK K
         refine norm_ (a' := ?_) ?_ ?_
         rotate_left
         ·
          show Act.put _ (some 12) _ = _
          simp only [Act.put, List.setIfInBounds_toArray, List.set_cons_zero, List.set_cons_succ, i64_w, i32_w]
          rfl
         refine pure_ (i := 4) (N := some 13) (v := ?_) (a' := ?_) #[true, true, true, true, true, false, false, false, false, true, true, false, false, false, false, true, true, false, false, false, false, false] rfl rfl (any_of HT_.out (by kernel_rfl)) (fun _ _ _ h => h) (Or.inl ⟨by rfl, ?_⟩) ?_ ?_
         rotate_left
         ·
          intro w'
          go_simp
          with_reducible rfl
         rotate_left
         ·
          simp only [Act.put, List.setIfInBounds_toArray, List.set_cons_zero, List.set_cons_succ, i64_w, i32_w]
          rfl
         refine one_ (i := 5) (N := some 14) #[true, true, true, true, true, true, false, false, false, true, true, false, false, false, false, true, true, false, false, false, false, false] rfl rfl (one_of HT_.out (by kernel_rfl)) (by decide) (fun K hK => ?_)
         refine goes_ Try.func14 (by kernel_rfl) rfl #[.int .i64 48, .string (⟨#[]⟩ : ByteArray)] (by rfl) rfl rfl (by (try simp only [List.map_toArray, List.map_cons, List.map_nil]); first | done | rfl | (simp only [List.length_drop, List.length_take]; rfl)) ?_
         with_reducible refine (engrosserlaw14_item.calls 48 (⟨#[]⟩ : ByteArray) t170 _ A12.out).mono ?_
         rintro e w27 ⟨rfl, hb⟩
         refine ⟨_, rfl, ?_⟩
         have n0_ := Aside0.mk (blk_below (g := gb166) (o := .cells #[.string a0_0, .string a0_1, .bool a0_2, .slice A0_3 l0_3.length c0_3, .int .i64 a0_4] 47 (0, 0)) (by (with_reducible repeat (first | refine blk_drewN ?_ _ | refine blk_drew ?_ | refine blk_alloc ?_ _)); exact BK166.out) hb)
         have n1_ := Aside0.mk (below_step (by repeat (first | (with_reducible first | exact HB.out | apply below_alloc | apply pw_below_drewN | apply below_drew1 | refine below_set ?_ GE166.out) | exact HB.out)) hb)
         clear BK166
         clear HB
         have BK166 := n0_
         have HB := n1_
         clear n0_ n1_
         (try clear hb)
         (try clear hb2)
         (try clear hk)
         (try clear hi)
         refine hK.out _ _ ⟨(blk_cell BK166.out 0).trans rfl, (blk_cell BK166.out 1).trans rfl, (blk_cell BK166.out 2).trans rfl, (blk_cell BK166.out 3).trans rfl, (blk_cell BK166.out 4).trans rfl⟩ (fun hHeld => ?_)
         clear hK K
         refine norm_ (a' := ?_) ?_ ?_
         rotate_left
         ·
          show Act.put _ (some 14) _ = _
          simp only [Act.put, List.setIfInBounds_toArray, List.set_cons_zero, List.set_cons_succ, i64_w, i32_w]
          rfl
         refine pure_ (i := 6) (N := some 15) (v := ?_) (a' := ?_) #[true, true, true, true, true, true, true, false, false, true, true, false, false, false, false, true, true, false, false, false, false, false] rfl rfl (any_of HT_.out (by kernel_rfl)) (fun _ _ _ h => h) (Or.inl ⟨by rfl, ?_⟩) ?_ ?_
         rotate_left
         ·
          intro w'
          go_simp
          with_reducible rfl
         rotate_left
         ·
          simp only [Act.put, List.setIfInBounds_toArray, List.set_cons_zero, List.set_cons_succ, i64_w, i32_w]
          rfl
         refine one_ (i := 7) (N := some 16) #[true, true, true, true, true, true, true, true, false, true, true, false, false, false, false, true, true, false, false, false, false, false] rfl rfl (one_of HT_.out (by kernel_rfl)) (by decide) (fun K hK => ?_)
         refine goes_ Try.func14 (by kernel_rfl) rfl #[.int .i64 48, .string (⟨#[]⟩ : ByteArray)] (by rfl) rfl rfl (by (try simp only [List.map_toArray, List.map_cons, List.map_nil]); first | done | rfl | (simp only [List.length_drop, List.length_take]; rfl)) ?_
         with_reducible refine (engrosserlaw14_item.calls 48 (⟨#[]⟩ : ByteArray) t171 _ A14.out).mono ?_
         rintro e w28 ⟨rfl, hb⟩
         refine ⟨_, rfl, ?_⟩
         have n0_ := Aside0.mk (blk_below (g := gb166) (o := .cells #[.string a0_0, .string a0_1, .bool a0_2, .slice A0_3 l0_3.length c0_3, .int .i64 a0_4] 47 (0, 0)) (by (with_reducible repeat (first | refine blk_drewN ?_ _ | refine blk_drew ?_ | refine blk_alloc ?_ _)); exact BK166.out) hb)
         have n1_ := Aside0.mk (below_step (by repeat (first | (with_reducible first | exact HB.out | apply below_alloc | apply pw_below_drewN | apply below_drew1 | refine below_set ?_ GE166.out) | exact HB.out)) hb)
         clear BK166
         clear HB
         have BK166 := n0_
         have HB := n1_
         clear n0_ n1_
         (try clear hb)
         (try clear hb2)
         (try clear hk)
         (try clear hi)
         refine hK.out _ _ ⟨(blk_cell BK166.out 0).trans rfl, (blk_cell BK166.out 1).trans rfl, (blk_cell BK166.out 2).trans rfl, (blk_cell BK166.out 3).trans rfl, (blk_cell BK166.out 4).trans rfl⟩ (fun hHeld => ?_)
         clear hK K
         refine norm_ (a' := ?_) ?_ ?_
         rotate_left
         ·
          show Act.put _ (some 16) _ = _
          simp only [Act.put, List.setIfInBounds_toArray, List.set_cons_zero, List.set_cons_succ, i64_w, i32_w]
          rfl
         refine pure_ (i := 8) (N := some 17) (v := ?_) (a' := ?_) #[true, true, true, true, true, true, true, true, true, true, true, false, false, false, false, true, true, false, false, false, false, false] rfl rfl (any_of HT_.out (by kernel_rfl)) (fun _ _ _ h => h) (Or.inl ⟨by rfl, ?_⟩) ?_ ?_
         rotate_left
         ·
          intro w'
          go_simp
          with_reducible rfl
         rotate_left
         ·
          simp only [Act.put, List.setIfInBounds_toArray, List.set_cons_zero, List.set_cons_succ, i64_w, i32_w]
          rfl
         refine one_ (i := 11) (N := some 20) #[true, true, true, true, true, true, true, true, true, true, true, true, false, false, false, true, true, false, false, false, false, false] rfl rfl (one_of HT_.out (by kernel_rfl)) (by decide) (fun K hK => ?_)
         refine goes_ Try.func16 (by kernel_rfl) rfl #[.string a0_0] (by rfl) rfl rfl (by (try simp only [List.map_toArray, List.map_cons, List.map_nil]); first | done | rfl | (simp only [List.length_drop, List.length_take]; rfl)) ?_
         with_reducible refine (engrosserlaw14_cut.calls a0_0 t172 _ A16.out).mono ?_
         rintro e w29 ⟨rfl, hb⟩
         refine ⟨_, rfl, ?_⟩
         have n0_ := Aside0.mk (blk_below (g := gb166) (o := .cells #[.string a0_0, .string a0_1, .bool a0_2, .slice A0_3 l0_3.length c0_3, .int .i64 a0_4] 47 (0, 0)) (by (with_reducible repeat (first | refine blk_drewN ?_ _ | refine blk_drew ?_ | refine blk_alloc ?_ _)); exact BK166.out) hb)
         have n1_ := Aside0.mk (below_step (by repeat (first | (with_reducible first | exact HB.out | apply below_alloc | apply pw_below_drewN | apply below_drew1 | refine below_set ?_ GE166.out) | exact HB.out)) hb)
         clear BK166
         clear HB
         have BK166 := n0_
         have HB := n1_
         clear n0_ n1_
         (try clear hb)
         (try clear hb2)
         (try clear hk)
         (try clear hi)
         refine hK.out _ _ ⟨(blk_cell BK166.out 0).trans rfl, (blk_cell BK166.out 1).trans rfl, (blk_cell BK166.out 2).trans rfl, (blk_cell BK166.out 3).trans rfl, (blk_cell BK166.out 4).trans rfl⟩ (fun hHeld => ?_)
         clear hK K
         refine norm_ (a' := ?_) ?_ ?_
         rotate_left
         ·
          show Act.put _ (some 20) _ = _
          simp only [Act.put, List.setIfInBounds_toArray, List.set_cons_zero, List.set_cons_succ, i64_w, i32_w]
          rfl
         refine one_ (i := 12) (N := some 21) #[true, true, true, true, true, true, true, true, true, true, true, true, true, false, false, true, true, false, false, false, false, false] rfl rfl (one_of HT_.out (by kernel_rfl)) (by decide) (fun K hK => ?_)
         refine goes_ Try.func14 (by kernel_rfl) rfl #[.int .i64 4, .string t172] (by rfl) rfl rfl (by (try simp only [List.map_toArray, List.map_cons, List.map_nil]); first | done | rfl | (simp only [List.length_drop, List.length_take]; rfl)) ?_
         with_reducible refine (engrosserlaw14_item.calls 4 t172 t173 _ A17.out).mono ?_
         rintro e w30 ⟨rfl, hb⟩
         refine ⟨_, rfl, ?_⟩
         have n0_ := Aside0.mk (blk_below (g := gb166) (o := .cells #[.string a0_0, .string a0_1, .bool a0_2, .slice A0_3 l0_3.length c0_3, .int .i64 a0_4] 47 (0, 0)) (by (with_reducible repeat (first | refine blk_drewN ?_ _ | refine blk_drew ?_ | refine blk_alloc ?_ _)); exact BK166.out) hb)
         have n1_ := Aside0.mk (below_step (by repeat (first | (with_reducible first | exact HB.out | apply below_alloc | apply pw_below_drewN | apply below_drew1 | refine below_set ?_ GE166.out) | exact HB.out)) hb)
         clear BK166
         clear HB
         have BK166 := n0_
         have HB := n1_
         clear n0_ n1_
         (try clear hb)
         (try clear hb2)
         (try clear hk)
         (try clear hi)
         refine hK.out _ _ ⟨(blk_cell BK166.out 0).trans rfl, (blk_cell BK166.out 1).trans rfl, (blk_cell BK166.out 2).trans rfl, (blk_cell BK166.out 3).trans rfl, (blk_cell BK166.out 4).trans rfl⟩ (fun hHeld => ?_)
         clear hK K
         refine norm_ (a' := ?_) ?_ ?_
         rotate_left
         ·
          show Act.put _ (some 21) _ = _
          simp only [Act.put, List.setIfInBounds_toArray, List.set_cons_zero, List.set_cons_succ, i64_w, i32_w]
          rfl
         refine one_ (i := 13) (N := some 22) #[true, true, true, true, true, true, true, true, true, true, true, true, true, true, false, true, true, false, false, false, false, false] rfl rfl (one_of HT_.out (by kernel_rfl)) (by decide) (fun K hK => ?_)
         refine goes_ Try.func14 (by kernel_rfl) rfl #[.int .i64 48, .string t173] (by rfl) rfl rfl (by (try simp only [List.map_toArray, List.map_cons, List.map_nil]); first | done | rfl | (simp only [List.length_drop, List.length_take]; rfl)) ?_
         with_reducible refine (engrosserlaw14_item.calls 48 t173 t174 _ A18.out).mono ?_
         rintro e w31 ⟨rfl, hb⟩
         refine ⟨_, rfl, ?_⟩
         have n0_ := Aside0.mk (blk_below (g := gb166) (o := .cells #[.string a0_0, .string a0_1, .bool a0_2, .slice A0_3 l0_3.length c0_3, .int .i64 a0_4] 47 (0, 0)) (by (with_reducible repeat (first | refine blk_drewN ?_ _ | refine blk_drew ?_ | refine blk_alloc ?_ _)); exact BK166.out) hb)
         have n1_ := Aside0.mk (below_step (by repeat (first | (with_reducible first | exact HB.out | apply below_alloc | apply pw_below_drewN | apply below_drew1 | refine below_set ?_ GE166.out) | exact HB.out)) hb)
         clear BK166
         clear HB
         have BK166 := n0_
         have HB := n1_
         clear n0_ n1_
         (try clear hb)
         (try clear hb2)
         (try clear hk)
         (try clear hi)
         refine hK.out _ _ ⟨(blk_cell BK166.out 0).trans rfl, (blk_cell BK166.out 1).trans rfl, (blk_cell BK166.out 2).trans rfl, (blk_cell BK166.out 3).trans rfl, (blk_cell BK166.out 4).trans rfl⟩ (fun hHeld => ?_)
         clear hK K
         refine norm_ (a' := ?_) ?_ ?_
         rotate_left
         ·
          show Act.put _ (some 22) _ = _
          simp only [Act.put, List.setIfInBounds_toArray, List.set_cons_zero, List.set_cons_succ, i64_w, i32_w]
          rfl
         refine pure_ (i := 14) (N := some 23) (v := ?_) (a' := ?_) #[true, true, true, true, true, true, true, true, true, true, true, true, true, true, true, true, true, false, false, false, false, false] rfl rfl (any_of HT_.out (by kernel_rfl)) (fun _ _ _ h => h) (Or.inl ⟨by rfl, ?_⟩) ?_ ?_
         rotate_left
         ·
          intro w'
          go_simp
          with_reducible rfl
         rotate_left
         ·
          simp only [Act.put, List.setIfInBounds_toArray, List.set_cons_zero, List.set_cons_succ, i64_w, i32_w]
          rfl
         refine one_ (i := 17) (N := some 26) #[true, true, true, true, true, true, true, true, true, true, true, true, true, true, true, true, true, true, false, false, false, false] rfl rfl (one_of HT_.out (by kernel_rfl)) (by decide) (fun K hK => ?_)
         refine goes_ Try.func16 (by kernel_rfl) rfl #[.string a0_1] (by rfl) rfl rfl (by (try simp only [List.map_toArray, List.map_cons, List.map_nil]); first | done | rfl | (simp only [List.length_drop, List.length_take]; rfl)) ?_
         with_reducible refine (engrosserlaw14_cut.calls a0_1 t175 _ A20.out).mono ?_
         rintro e w32 ⟨rfl, hb⟩
         refine ⟨_, rfl, ?_⟩
         have n0_ := Aside0.mk (blk_below (g := gb166) (o := .cells #[.string a0_0, .string a0_1, .bool a0_2, .slice A0_3 l0_3.length c0_3, .int .i64 a0_4] 47 (0, 0)) (by (with_reducible repeat (first | refine blk_drewN ?_ _ | refine blk_drew ?_ | refine blk_alloc ?_ _)); exact BK166.out) hb)
         have n1_ := Aside0.mk (below_step (by repeat (first | (with_reducible first | exact HB.out | apply below_alloc | apply pw_below_drewN | apply below_drew1 | refine below_set ?_ GE166.out) | exact HB.out)) hb)
         clear BK166
         clear HB
         have BK166 := n0_
         have HB := n1_
         clear n0_ n1_
         (try clear hb)
         (try clear hb2)
         (try clear hk)
         (try clear hi)
         refine hK.out _ _ ⟨(blk_cell BK166.out 0).trans rfl, (blk_cell BK166.out 1).trans rfl, (blk_cell BK166.out 2).trans rfl, (blk_cell BK166.out 3).trans rfl, (blk_cell BK166.out 4).trans rfl⟩ (fun hHeld => ?_)
         clear hK K
         refine norm_ (a' := ?_) ?_ ?_
         rotate_left
         ·
          show Act.put _ (some 26) _ = _
          simp only [Act.put, List.setIfInBounds_toArray, List.set_cons_zero, List.set_cons_succ, i64_w, i32_w]
          rfl
         refine one_ (i := 18) (N := some 27) #[true, true, true, true, true, true, true, true, true, true, true, true, true, true, true, true, true, true, true, false, false, false] rfl rfl (one_of HT_.out (by kernel_rfl)) (by decide) (fun K hK => ?_)
         refine goes_ Try.func14 (by kernel_rfl) rfl #[.int .i64 3, .string t175] (by rfl) rfl rfl (by (try simp only [List.map_toArray, List.map_cons, List.map_nil]); first | done | rfl | (simp only [List.length_drop, List.length_take]; rfl)) ?_
         with_reducible refine (engrosserlaw14_item.calls 3 t175 t176 _ A21.out).mono ?_
         rintro e w33 ⟨rfl, hb⟩
         refine ⟨_, rfl, ?_⟩
         have n0_ := Aside0.mk (blk_below (g := gb166) (o := .cells #[.string a0_0, .string a0_1, .bool a0_2, .slice A0_3 l0_3.length c0_3, .int .i64 a0_4] 47 (0, 0)) (by (with_reducible repeat (first | refine blk_drewN ?_ _ | refine blk_drew ?_ | refine blk_alloc ?_ _)); exact BK166.out) hb)
         have n1_ := Aside0.mk (below_step (by repeat (first | (with_reducible first | exact HB.out | apply below_alloc | apply pw_below_drewN | apply below_drew1 | refine below_set ?_ GE166.out) | exact HB.out)) hb)
         clear BK166
         clear HB
         have BK166 := n0_
         have HB := n1_
         clear n0_ n1_
         (try clear hb)
         (try clear hb2)
         (try clear hk)
         (try clear hi)
         refine hK.out _ _ ⟨(blk_cell BK166.out 0).trans rfl, (blk_cell BK166.out 1).trans rfl, (blk_cell BK166.out 2).trans rfl, (blk_cell BK166.out 3).trans rfl, (blk_cell BK166.out 4).trans rfl⟩ (fun hHeld => ?_)
         clear hK K
         refine norm_ (a' := ?_) ?_ ?_
         rotate_left
         ·
          show Act.put _ (some 27) _ = _
          simp only [Act.put, List.setIfInBounds_toArray, List.set_cons_zero, List.set_cons_succ, i64_w, i32_w]
          rfl
         refine one_ (i := 19) (N := some 28) #[true, true, true, true, true, true, true, true, true, true, true, true, true, true, true, true, true, true, true, true, false, false] rfl rfl (one_of HT_.out (by kernel_rfl)) (by decide) (fun K hK => ?_)
         refine goes_ Try.func14 (by kernel_rfl) rfl #[.int .i64 48, .string t176] (by rfl) rfl rfl (by (try simp only [List.map_toArray, List.map_cons, List.map_nil]); first | done | rfl | (simp only [List.length_drop, List.length_take]; rfl)) ?_
         with_reducible refine (engrosserlaw14_item.calls 48 t176 t177 _ A22.out).mono ?_
         rintro e w34 ⟨rfl, hb⟩
         refine ⟨_, rfl, ?_⟩
         have n0_ := Aside0.mk (blk_below (g := gb166) (o := .cells #[.string a0_0, .string a0_1, .bool a0_2, .slice A0_3 l0_3.length c0_3, .int .i64 a0_4] 47 (0, 0)) (by (with_reducible repeat (first | refine blk_drewN ?_ _ | refine blk_drew ?_ | refine blk_alloc ?_ _)); exact BK166.out) hb)
         have n1_ := Aside0.mk (below_step (by repeat (first | (with_reducible first | exact HB.out | apply below_alloc | apply pw_below_drewN | apply below_drew1 | refine below_set ?_ GE166.out) | exact HB.out)) hb)
         clear BK166
         clear HB
         have BK166 := n0_
         have HB := n1_
         clear n0_ n1_
         (try clear hb)
         (try clear hb2)
         (try clear hk)
         (try clear hi)
         refine hK.out _ _ ⟨(blk_cell BK166.out 0).trans rfl, (blk_cell BK166.out 1).trans rfl, (blk_cell BK166.out 2).trans rfl, (blk_cell BK166.out 3).trans rfl, (blk_cell BK166.out 4).trans rfl⟩ (fun hHeld => ?_)
         clear hK K
         refine norm_ (a' := ?_) ?_ ?_
         rotate_left
         ·
          show Act.put _ (some 28) _ = _
          simp only [Act.put, List.setIfInBounds_toArray, List.set_cons_zero, List.set_cons_succ, i64_w, i32_w]
          rfl
         refine pure_ (i := 20) (N := some 29) (v := ?_) (a' := ?_) #[true, true, true, true, true, true, true, true, true, true, true, true, true, true, true, true, true, true, true, true, true, false] rfl rfl (any_of HT_.out (by kernel_rfl)) (fun _ _ _ h => h) (Or.inl ⟨by rfl, ?_⟩) ?_ ?_
         rotate_left
         ·
          intro w'
          go_simp
          with_reducible rfl
         rotate_left
         ·
          simp only [Act.put, List.setIfInBounds_toArray, List.set_cons_zero, List.set_cons_succ, i64_w, i32_w]
          rfl
         refine pure_ (i := 21) (N := some 3) (v := ?_) (a' := ?_) #[true, true, true, true, true, true, true, true, true, true, true, true, true, true, true, true, true, true, true, true, true, true] rfl rfl (any_of HT_.out (by kernel_rfl)) (fun _ _ _ h => h) (Or.inl ⟨by rfl, ?_⟩) ?_ ?_
         rotate_left
         ·
          intro w'
          go_simp
          with_reducible rfl
         rotate_left
         ·
          simp only [Act.put, List.setIfInBounds_toArray, List.set_cons_zero, List.set_cons_succ, i64_w, i32_w]
          rfl
         refine done_ (done_of HT_.out (by kernel_rfl)) ?_
         try go_wp2
         go_loopg [4, 5] kj1 (fun kq v4 v5 w' => ∃ (x4_2 : ByteArray) (x5_2 : Int), v4 = .string x4_2 ∧ v5 = .int .i64 x5_2 ∧ Aside0 (engrosserlaw14_Cert_bytes.l0 kq ((((((x3_1 ++ t168) ++ t169) ++ t170) ++ t171) ++ t174) ++ t177) x4_2 x5_2 a0_0 a0_1 a0_2 l0_3 a0_4 = some r) ∧ Aside0 (kq ≤ kj1) ∧ Aside0 (w'.heap[gb166]? = some (.cells #[.string a0_0, .string a0_1, .bool a0_2, (.slice A0_3 l0_3.length c0_3), .int .i64 a0_4] 47 (0, 0))) ∧ Aside0 (Below w.heap.size w w'))
         case atStart => exact ⟨((⟨#[]⟩ : ByteArray)), (0), (by first | rfl | (simp; done) | (simp [*]; done)), (by first | rfl | (simp; done) | (simp [*]; done)), H', ⟨Nat.le_refl _⟩, ⟨by (with_reducible repeat (first | refine blk_drewN ?_ _ | refine blk_drew ?_ | refine blk_alloc ?_ _)); exact BK166.out⟩, ⟨by repeat (first | (with_reducible first | exact HB.out | apply below_alloc | apply pw_below_drewN | apply below_drew1 | refine below_set ?_ GE166.out) | exact HB.out)⟩⟩
         case round =>
          clear H'
          try clear c1
          try clear c2
          try clear p2
          try clear c5
          try clear c9
          try clear c9b0
          try clear c9b1
          try clear c9b2
          try clear c11
          try clear c11b0
          try clear c11b1
          try clear c11b2
          try clear c13
          try clear c13b0
          try clear c13b1
          try clear c13b2
          try clear c14
          try clear c15
          try clear c15b0
          try clear c15b1
          try clear c15b2
          try clear c16
          try clear c18
          try clear c19
          try clear c19b0
          try clear c19b1
          try clear c19b2
          try clear c23
          try clear c23b0
          try clear c23b1
          try clear c23b2
          try clear hcz4_0
          try clear hcz4_1
          try clear hcz4_2
          try clear hcz4_3
          try clear hcz4_4
          try clear hfz4_0
          try clear hfz4_1
          try clear hfz4_2
          try clear hfz4_3
          try clear hfz4_4
          try clear p2
          obtain ⟨x4_2, x5_2, rfl, rfl, HA, HK2, BK166, HB⟩ := hrel
          cases gk with
          | zero => exact absurd HA.out (by simp [engrosserlaw14_Cert_bytes.l0])
          | succ k2 =>
           have H := HA.out
           clear HA
           simp only [engrosserlaw14_Cert_bytes.l0] at H
           have HC35 := Aside0.mk H
           clear H
           go_upto_region 7 with (fail)
           go_cut [38] (fun v38 wc => ∃ (kq : Nat) (x38_34 : Bool), v38 = .bool x38_34 ∧ Aside0 (engrosserlaw14_Cert_bytes.j2 kq ((((((x3_1 ++ t168) ++ t169) ++ t170) ++ t171) ++ t174) ++ t177) x4_2 x5_2 x38_34 a0_0 a0_1 a0_2 l0_3 a0_4 = some r) ∧ Aside0 (kq ≤ k2) ∧ Aside0 (wc.heap[gb166]? = some (.cells #[.string a0_0, .string a0_1, .bool a0_2, (.slice A0_3 l0_3.length c0_3), .int .i64 a0_4] 47 (0, 0))) ∧ Aside0 (Below w.heap.size w wc))
           case first =>
            have H := HC35.out
            clear HC35
            by_cases c36 : x5_2 < (l0_3.length : Int)
            ·
             rw [if_pos c36] at H
             have c36b0 : decide (x5_2 < (l0_3.length : Int)) = true := decide_eq_true c36
             clear c36
             (first | rw [c36b0] | (simp only [i64_w, i32_w]; rw [c36b0]) | skip)
             have H' := Aside0.mk H
             clear H
             have hcz37_0 : wr.cell? ⟨gb166, 0, none⟩ = some (.string a0_0) := (blk_cell BK166.out 0).trans rfl
             have hcz37_1 : wr.cell? ⟨gb166, 1, none⟩ = some (.string a0_1) := (blk_cell BK166.out 1).trans rfl
             have hcz37_2 : wr.cell? ⟨gb166, 2, none⟩ = some (.bool a0_2) := (blk_cell BK166.out 2).trans rfl
             have hcz37_3 : wr.cell? ⟨gb166, 3, none⟩ = some (.slice A0_3 l0_3.length c0_3) := (blk_cell BK166.out 3).trans rfl
             have hcz37_4 : wr.cell? ⟨gb166, 4, none⟩ = some (.int .i64 a0_4) := (blk_cell BK166.out 4).trans rfl
             have hfz37_0 := blk_frozen BK166.out 0
             have hfz37_1 := blk_frozen BK166.out 1
             have hfz37_2 := blk_frozen BK166.out 2
             have hfz37_3 := blk_frozen BK166.out 3
             have hfz37_4 := blk_frozen BK166.out 4
             go_wp2
             go_meet
             case rel => exact ⟨_, (decide (x5_2 < 5)), (by first | rfl | (simp; done) | (simp [*]; done)), H', ⟨by have := HJ1.out; have := HK2.out; first | omega | exact Nat.le_refl _⟩, ⟨by (with_reducible repeat (first | refine blk_drewN ?_ _ | refine blk_drew ?_ | refine blk_alloc ?_ _)); exact BK166.out⟩, ⟨by repeat (first | (with_reducible first | exact HB.out | apply below_alloc | apply pw_below_drewN | apply below_drew1 | refine below_set ?_ GE166.out) | exact HB.out)⟩⟩
            ·
             rw [if_neg c36] at H
             have c36b0 : decide (x5_2 < (l0_3.length : Int)) = false := decide_eq_false c36
             clear c36
             (first | rw [c36b0] | (simp only [i64_w, i32_w]; rw [c36b0]) | skip)
             have H' := Aside0.mk H
             clear H
             have hcz38_0 : wr.cell? ⟨gb166, 0, none⟩ = some (.string a0_0) := (blk_cell BK166.out 0).trans rfl
             have hcz38_1 : wr.cell? ⟨gb166, 1, none⟩ = some (.string a0_1) := (blk_cell BK166.out 1).trans rfl
             have hcz38_2 : wr.cell? ⟨gb166, 2, none⟩ = some (.bool a0_2) := (blk_cell BK166.out 2).trans rfl
             have hcz38_3 : wr.cell? ⟨gb166, 3, none⟩ = some (.slice A0_3 l0_3.length c0_3) := (blk_cell BK166.out 3).trans rfl
             have hcz38_4 : wr.cell? ⟨gb166, 4, none⟩ = some (.int .i64 a0_4) := (blk_cell BK166.out 4).trans rfl
             have hfz38_0 := blk_frozen BK166.out 0
             have hfz38_1 := blk_frozen BK166.out 1
             have hfz38_2 := blk_frozen BK166.out 2
             have hfz38_3 := blk_frozen BK166.out 3
             have hfz38_4 := blk_frozen BK166.out 4
             go_wp2
             go_meet
             case rel => exact ⟨_, (false), (by first | rfl | (simp; done) | (simp [*]; done)), H', ⟨by have := HJ1.out; have := HK2.out; first | omega | exact Nat.le_refl _⟩, ⟨by (with_reducible repeat (first | refine blk_drewN ?_ _ | refine blk_drew ?_ | refine blk_alloc ?_ _)); exact BK166.out⟩, ⟨by repeat (first | (with_reducible first | exact HB.out | apply below_alloc | apply pw_below_drewN | apply below_drew1 | refine below_set ?_ GE166.out) | exact HB.out)⟩⟩
           case rest =>
            clear HC35
            try clear c1
            try clear c2
            try clear p2
            try clear c3
            try clear c5
            try clear c9
            try clear c9b0
            try clear c9b1
            try clear c9b2
            try clear c11
            try clear c11b0
            try clear c11b1
            try clear c11b2
            try clear c13
            try clear c13b0
            try clear c13b1
            try clear c13b2
            try clear c14
            try clear c15
            try clear c15b0
            try clear c15b1
            try clear c15b2
            try clear c16
            try clear c18
            try clear c19
            try clear c19b0
            try clear c19b1
            try clear c19b2
            try clear c23
            try clear c23b0
            try clear c23b1
            try clear c23b2
            try clear c36
            try clear c36b0
            try clear hcz37_0
            try clear hcz37_1
            try clear hcz37_2
            try clear hcz37_3
            try clear hcz37_4
            try clear hcz38_0
            try clear hcz38_1
            try clear hcz38_2
            try clear hcz38_3
            try clear hcz38_4
            try clear hcz4_0
            try clear hcz4_1
            try clear hcz4_2
            try clear hcz4_3
            try clear hcz4_4
            try clear hfz37_0
            try clear hfz37_1
            try clear hfz37_2
            try clear hfz37_3
            try clear hfz37_4
            try clear hfz38_0
            try clear hfz38_1
            try clear hfz38_2
            try clear hfz38_3
            try clear hfz38_4
            try clear hfz4_0
            try clear hfz4_1
            try clear hfz4_2
            try clear hfz4_3
            try clear hfz4_4
            try clear p2
            obtain ⟨kq, x38_34, rfl, HA, HJ34, BK166, HB⟩ := hcut
            cases kq with
            | zero => exact absurd HA.out (by simp [engrosserlaw14_Cert_bytes.j2])
            | succ kj34 =>
             have H := HA.out
             clear HA
             simp only [engrosserlaw14_Cert_bytes.j2] at H
             by_cases c39 : x38_34 = true
             ·
              subst c39
              have H1 : (if x5_2 = a0_4 then ((engrosserlaw14_poison.f).bind fun t178 => (if x4_2.size + t178.size ≤ 9223372036854775807 then (engrosserlaw14_Cert_bytes.j3 kj34 ((((((x3_1 ++ t168) ++ t169) ++ t170) ++ t171) ++ t174) ++ t177) (x4_2 ++ t178) x5_2 a0_0 a0_1 a0_2 l0_3 a0_4) else (none))) else (engrosserlaw14_Cert_bytes.j3 kj34 ((((((x3_1 ++ t168) ++ t169) ++ t170) ++ t171) ++ t174) ++ t177) x4_2 x5_2 a0_0 a0_1 a0_2 l0_3 a0_4)) = some r := by first | (rw [if_pos rfl] at H; exact H) | (rw [if_pos trivial] at H; exact H)
              clear H
              have H := H1
              clear H1
              have HC40 := Aside0.mk H
              clear H
              have hcz41_0 : wc.cell? ⟨gb166, 0, none⟩ = some (.string a0_0) := (blk_cell BK166.out 0).trans rfl
              have hcz41_1 : wc.cell? ⟨gb166, 1, none⟩ = some (.string a0_1) := (blk_cell BK166.out 1).trans rfl
              have hcz41_2 : wc.cell? ⟨gb166, 2, none⟩ = some (.bool a0_2) := (blk_cell BK166.out 2).trans rfl
              have hcz41_3 : wc.cell? ⟨gb166, 3, none⟩ = some (.slice A0_3 l0_3.length c0_3) := (blk_cell BK166.out 3).trans rfl
              have hcz41_4 : wc.cell? ⟨gb166, 4, none⟩ = some (.int .i64 a0_4) := (blk_cell BK166.out 4).trans rfl
              have hfz41_0 := blk_frozen BK166.out 0
              have hfz41_1 := blk_frozen BK166.out 1
              have hfz41_2 := blk_frozen BK166.out 2
              have hfz41_3 := blk_frozen BK166.out 3
              have hfz41_4 := blk_frozen BK166.out 4
              go_upto_if 44 with (fail)
              go_cut [4] (fun v4 wc => ∃ (kq : Nat) (x4_39 : ByteArray), v4 = .string x4_39 ∧ Aside0 (engrosserlaw14_Cert_bytes.j3 kq ((((((x3_1 ++ t168) ++ t169) ++ t170) ++ t171) ++ t174) ++ t177) x4_39 x5_2 a0_0 a0_1 a0_2 l0_3 a0_4 = some r) ∧ Aside0 (kq ≤ kj34) ∧ Aside0 (wc.heap[gb166]? = some (.cells #[.string a0_0, .string a0_1, .bool a0_2, (.slice A0_3 l0_3.length c0_3), .int .i64 a0_4] 47 (0, 0))) ∧ Aside0 (Below w.heap.size w wc))
              case first =>
               have H := HC40.out
               clear HC40
               by_cases c42 : x5_2 = a0_4
               ·
                rw [if_pos c42] at H
                have c42b0 : (x5_2 == a0_4) = true := beq_iff_eq.mpr c42
                have c42b1 : (x5_2 != a0_4) = false := bne_eq_false_iff_eq.mpr c42
                clear c42
                (first | rw [c42b0] | (simp only [i64_w, i32_w]; rw [c42b0]) | skip)
                replace H := Option.bind_eq_some_iff.mp H
                obtain ⟨t178, A430, H⟩ := H
                replace H : (if x4_2.size + t178.size ≤ 9223372036854775807 then (engrosserlaw14_Cert_bytes.j3 kj34 ((((((x3_1 ++ t168) ++ t169) ++ t170) ++ t171) ++ t174) ++ t177) (x4_2 ++ t178) x5_2 a0_0 a0_1 a0_2 l0_3 a0_4) else (none)) = some r := H
                have A43 := Aside0.mk A430
                clear A430
                by_cases c44 : x4_2.size + t178.size ≤ 9223372036854775807
                ·
                 rw [if_pos c44] at H
                 have c44b0 := eq_true c44
                 have c44b1 : decide (x4_2.size + t178.size ≤ 9223372036854775807) = true := decide_eq_true c44
                 try have c44b2 : (9223372036854775807 < x4_2.size + t178.size) = False := eq_false (Nat.not_lt.2 c44)
                 have H' := Aside0.mk H
                 clear H
                 go_wp2_with (first | ((with_reducible refine gate_callee (f := 15) rfl ?_); refine goesL_ (some 46) rfl rfl Try.func15 (by kernel_rfl) rfl #[] rfl (by (try simp only [List.map_toArray, List.map_cons, List.map_nil]); first | done | rfl | (simp only [List.length_drop, List.length_take]; rfl)) ?_; (with_reducible refine (engrosserlaw14_poison.calls  t178 _ A43.out).mono ?_); rintro e w45 ⟨rfl, hb⟩; refine ⟨_, rfl, ?_⟩; have n0_ := Aside0.mk (blk_below (g := gb166) (o := .cells #[.string a0_0, .string a0_1, .bool a0_2, .slice A0_3 l0_3.length c0_3, .int .i64 a0_4] 47 (0, 0)) (by (with_reducible repeat (first | refine blk_drewN ?_ _ | refine blk_drew ?_ | refine blk_alloc ?_ _)); exact BK166.out) hb); have n1_ := Aside0.mk (below_step (by repeat (first | (with_reducible first | exact HB.out | apply below_alloc | apply pw_below_drewN | apply below_drew1 | refine below_set ?_ GE166.out) | exact HB.out)) hb); clear BK166; clear HB; have BK166 := n0_; have HB := n1_; clear n0_ n1_; (try clear hb); (try clear hb2); (try clear hk); (try clear hi)))
                 go_meet
                 case rel => exact ⟨_, (x4_2 ++ t178), (by first | rfl | (simp; done) | (simp [*]; done)), H', ⟨by have := HJ1.out; have := HK2.out; have := HJ34.out; first | omega | exact Nat.le_refl _⟩, ⟨by (with_reducible repeat (first | refine blk_drewN ?_ _ | refine blk_drew ?_ | refine blk_alloc ?_ _)); exact BK166.out⟩, ⟨by repeat (first | (with_reducible first | exact HB.out | apply below_alloc | apply pw_below_drewN | apply below_drew1 | refine below_set ?_ GE166.out) | exact HB.out)⟩⟩
                ·
                 rw [if_neg c44] at H
                 exact absurd H (by simp)
               ·
                rw [if_neg c42] at H
                have c42b0 : (x5_2 == a0_4) = false := beq_eq_false_iff_ne.mpr c42
                have c42b1 : (x5_2 != a0_4) = true := bne_iff_ne.mpr c42
                (first | rw [c42b0] | (simp only [i64_w, i32_w]; rw [c42b0]) | skip)
                have H' := Aside0.mk H
                clear H
                go_wp2
                go_meet
                case rel => exact ⟨_, (x4_2), (by first | rfl | (simp; done) | (simp [*]; done)), H', ⟨by have := HJ1.out; have := HK2.out; have := HJ34.out; first | omega | exact Nat.le_refl _⟩, ⟨by (with_reducible repeat (first | refine blk_drewN ?_ _ | refine blk_drew ?_ | refine blk_alloc ?_ _)); exact BK166.out⟩, ⟨by repeat (first | (with_reducible first | exact HB.out | apply below_alloc | apply pw_below_drewN | apply below_drew1 | refine below_set ?_ GE166.out) | exact HB.out)⟩⟩
              case rest =>
               clear HC40
               try clear c1
               try clear c2
               try clear p2
               try clear c3
               try clear c4
               try clear c5
               try clear c9
               try clear c9b0
               try clear c9b1
               try clear c9b2
               try clear c11
               try clear c11b0
               try clear c11b1
               try clear c11b2
               try clear c13
               try clear c13b0
               try clear c13b1
               try clear c13b2
               try clear c14
               try clear c15
               try clear c15b0
               try clear c15b1
               try clear c15b2
               try clear c16
               try clear c18
               try clear c19
               try clear c19b0
               try clear c19b1
               try clear c19b2
               try clear c23
               try clear c23b0
               try clear c23b1
               try clear c23b2
               try clear c36
               try clear c36b0
               try clear c39
               try clear c42
               try clear c42b0
               try clear c42b1
               try clear c44
               try clear c44b0
               try clear c44b1
               try clear c44b2
               try clear hcz37_0
               try clear hcz37_1
               try clear hcz37_2
               try clear hcz37_3
               try clear hcz37_4
               try clear hcz38_0
               try clear hcz38_1
               try clear hcz38_2
               try clear hcz38_3
               try clear hcz38_4
               try clear hcz41_0
               try clear hcz41_1
               try clear hcz41_2
               try clear hcz41_3
               try clear hcz41_4
               try clear hcz4_0
               try clear hcz4_1
               try clear hcz4_2
               try clear hcz4_3
               try clear hcz4_4
               try clear hfz37_0
               try clear hfz37_1
               try clear hfz37_2
               try clear hfz37_3
               try clear hfz37_4
               try clear hfz38_0
               try clear hfz38_1
               try clear hfz38_2
               try clear hfz38_3
               try clear hfz38_4
               try clear hfz41_0
               try clear hfz41_1
               try clear hfz41_2
               try clear hfz41_3
               try clear hfz41_4
               try clear hfz4_0
               try clear hfz4_1
               try clear hfz4_2
               try clear hfz4_3
               try clear hfz4_4
               try clear p2
               obtain ⟨kq, x4_39, rfl, HA, HJ39, BK166, HB⟩ := hcut
               cases kq with
               | zero => exact absurd HA.out (by simp [engrosserlaw14_Cert_bytes.j3])
               | succ kj39 =>
                have H := HA.out
                clear HA
                simp only [engrosserlaw14_Cert_bytes.j3] at H
                replace H := Option.bind_eq_some_iff.mp H
                obtain ⟨t179, A460, H⟩ := H
                replace H : (if 0 ≤ x5_2 then (if x5_2 < (l0_3.length : Int) then ((engrosserlaw14_cut.f (rdOf ByteArray.empty l0_3 x5_2)).bind fun t181 => ((engrosserlaw14_item.f 4 t181).bind fun t182 => (if t179.size + t182.size ≤ 9223372036854775807 then ((engrosserlaw14_item.f 48 (t179 ++ t182)).bind fun t183 => (if x4_39.size + t183.size ≤ 9223372036854775807 then (engrosserlaw14_Cert_bytes.l0 kj39 ((((((x3_1 ++ t168) ++ t169) ++ t170) ++ t171) ++ t174) ++ t177) (x4_39 ++ t183) (wrap64 (x5_2 + 1)) a0_0 a0_1 a0_2 l0_3 a0_4) else (none))) else (none)))) else (none)) else (none)) = some r := H
                have A46 := Aside0.mk A460
                clear A460
                by_cases c47 : 0 ≤ x5_2
                ·
                 rw [if_pos c47] at H
                 have c47b0 : decide (0 ≤ x5_2) = true := decide_eq_true c47
                 clear c47
                 by_cases c48 : x5_2 < (l0_3.length : Int)
                 ·
                  rw [if_pos c48] at H
                  have c48b0 : decide (x5_2 < (l0_3.length : Int)) = true := decide_eq_true c48
                  clear c48
                  replace H := Option.bind_eq_some_iff.mp H
                  obtain ⟨t181, A490, H⟩ := H
                  replace H : ((engrosserlaw14_item.f 4 t181).bind fun t182 => (if t179.size + t182.size ≤ 9223372036854775807 then ((engrosserlaw14_item.f 48 (t179 ++ t182)).bind fun t183 => (if x4_39.size + t183.size ≤ 9223372036854775807 then (engrosserlaw14_Cert_bytes.l0 kj39 ((((((x3_1 ++ t168) ++ t169) ++ t170) ++ t171) ++ t174) ++ t177) (x4_39 ++ t183) (wrap64 (x5_2 + 1)) a0_0 a0_1 a0_2 l0_3 a0_4) else (none))) else (none))) = some r := H
                  have A49 := Aside0.mk A490
                  clear A490
                  replace H := Option.bind_eq_some_iff.mp H
                  obtain ⟨t182, A500, H⟩ := H
                  replace H : (if t179.size + t182.size ≤ 9223372036854775807 then ((engrosserlaw14_item.f 48 (t179 ++ t182)).bind fun t183 => (if x4_39.size + t183.size ≤ 9223372036854775807 then (engrosserlaw14_Cert_bytes.l0 kj39 ((((((x3_1 ++ t168) ++ t169) ++ t170) ++ t171) ++ t174) ++ t177) (x4_39 ++ t183) (wrap64 (x5_2 + 1)) a0_0 a0_1 a0_2 l0_3 a0_4) else (none))) else (none)) = some r := H
                  have A50 := Aside0.mk A500
                  clear A500
                  by_cases c51 : t179.size + t182.size ≤ 9223372036854775807
                  ·
                   rw [if_pos c51] at H
                   have c51b0 := eq_true c51
                   have c51b1 : decide (t179.size + t182.size ≤ 9223372036854775807) = true := decide_eq_true c51
                   try have c51b2 : (9223372036854775807 < t179.size + t182.size) = False := eq_false (Nat.not_lt.2 c51)
                   replace H := Option.bind_eq_some_iff.mp H
                   obtain ⟨t183, A520, H⟩ := H
                   replace H : (if x4_39.size + t183.size ≤ 9223372036854775807 then (engrosserlaw14_Cert_bytes.l0 kj39 ((((((x3_1 ++ t168) ++ t169) ++ t170) ++ t171) ++ t174) ++ t177) (x4_39 ++ t183) (wrap64 (x5_2 + 1)) a0_0 a0_1 a0_2 l0_3 a0_4) else (none)) = some r := H
                   have A52 := Aside0.mk A520
                   clear A520
                   by_cases c53 : x4_39.size + t183.size ≤ 9223372036854775807
                   ·
                    rw [if_pos c53] at H
                    have c53b0 := eq_true c53
                    have c53b1 : decide (x4_39.size + t183.size ≤ 9223372036854775807) = true := decide_eq_true c53
                    try have c53b2 : (9223372036854775807 < x4_39.size + t183.size) = False := eq_false (Nat.not_lt.2 c53)
                    have H' := Aside0.mk H
                    clear H
                    try go_wp2
                    have n0_ := Aside0.mk (blk_drew BK166.out)
                    have n1_ := Aside0.mk (below_drew1 HB.out)
                    clear BK166
                    clear HB
                    have BK166 := n0_
                    have HB := n1_
                    clear n0_ n1_
                    have p180 : 0 ≤ (x5_2 : Int) := of_decide_eq_true (by first | (with_reducible assumption) | assumption)
                    have q180 : x5_2 < (l0_3.length : Int) := of_decide_eq_true (by first | (with_reducible assumption) | assumption)
                    obtain ⟨ad180, e180, hx180_0⟩ := Kd.at_string HR0_3.out x5_2 p180 q180
                    have hw180_0 := hx180_0
                    cases e180
                    replace hx180_0 := (HB.out.cell (World.block_lt_of_cell? w _ hx180_0)).trans hx180_0
                    replace p180 := eq_true p180
                    replace q180 := eq_true q180
                    refine start_ (n := 13) (S := fun w' => w'.cell? ⟨gb166, 0, none⟩ = some (.string a0_0) ∧ w'.cell? ⟨gb166, 1, none⟩ = some (.string a0_1) ∧ w'.cell? ⟨gb166, 2, none⟩ = some (.bool a0_2) ∧ w'.cell? ⟨gb166, 3, none⟩ = some (.slice (some ad180) l0_3.length c0_3) ∧ w'.cell? ⟨gb166, 4, none⟩ = some (.int .i64 a0_4) ∧ w'.cell? (ad180.add (x5_2).toNat) = some (.string (rdOf ByteArray.empty l0_3 x5_2))) (ds := []) #[false, false, false, false, false, false, false, false, false, false, false, false, false] (by kernel_rfl) rfl rfl ⟨(blk_cell BK166.out 0).trans rfl, (blk_cell BK166.out 1).trans rfl, (blk_cell BK166.out 2).trans rfl, (blk_cell BK166.out 3).trans rfl, (blk_cell BK166.out 4).trans rfl, ((HB.out.cell (World.block_lt_of_cell? w _ hw180_0)).trans hw180_0)⟩ (fun hHeld => ?_); refine with_tabW engrosserlaw14_Cert_bytes.tab11 engrosserlaw14_Cert_bytes.bits11 (fun HT_ HW_ => ?_)
                    generalize wc.drew = w54 at BK166 HB hx180_0 hHeld ⊢
                    refine pure_ (i := 0) (N := some 48) (v := ?_) (a' := ?_) #[true, false, false, false, false, false, false, false, false, false, false, false, false] rfl rfl (any_of HT_.out (by kernel_rfl)) (fun _ _ _ h => h) (Or.inl ⟨by rfl, ?_⟩) ?_ ?_
                    rotate_left
                    ·
                     intro w'
                     go_simp
                     with_reducible rfl
                    rotate_left
                    ·
                     simp only [Act.put, List.setIfInBounds_toArray, List.set_cons_zero, List.set_cons_succ, i64_w, i32_w]
                     rfl
                    refine pure_ (i := 2) (N := some 50) (v := ?_) (a' := ?_) #[true, false, true, false, false, false, false, false, false, false, false, false, false] rfl rfl (any_of HT_.out (by kernel_rfl)) (fun _ _ _ h => h) (Or.inl ⟨by rfl, ?_⟩) ?_ ?_
                    rotate_left
                    ·
                     intro w'
                     go_simp
                     with_reducible rfl
                    rotate_left
                    ·
                     simp only [Act.put, List.setIfInBounds_toArray, List.set_cons_zero, List.set_cons_succ, i64_w, i32_w]
                     rfl
                    refine pure_ (i := 4) (N := some 52) (v := ?_) (a' := ?_) #[true, false, true, false, true, false, false, false, false, false, false, false, false] rfl rfl (any_of HT_.out (by kernel_rfl)) (fun _ _ _ h => h) (Or.inl ⟨by rfl, ?_⟩) ?_ ?_
                    rotate_left
                    ·
                     intro w'
                     go_simp
                     with_reducible rfl
                    rotate_left
                    ·
                     simp only [Act.put, List.setIfInBounds_toArray, List.set_cons_zero, List.set_cons_succ, i64_w, i32_w]
                     rfl
                    refine take_ (i := 3) (N := some 51) (v := ?_) (a' := ?_) #[true, false, true, true, true, false, false, false, false, false, false, false, false] rfl rfl (take_ofW HT_.out HW_.out (by kernel_rfl)) (fun _ _ _ h => h) (Or.inl ⟨by rfl, ?_⟩) hHeld ?_ ?_
                    rotate_left
                    ·
                     rintro w' ⟨s0, s1, s2, s3, s4, s5⟩
                     go_simp
                     with_reducible rfl
                    rotate_left
                    ·
                     simp only [Act.put, List.setIfInBounds_toArray, List.set_cons_zero, List.set_cons_succ, i64_w, i32_w]
                     rfl
                    refine pure_ (i := 5) (N := some 53) (v := ?_) (a' := ?_) #[true, false, true, true, true, true, false, false, false, false, false, false, false] rfl rfl (any_of HT_.out (by kernel_rfl)) (fun _ _ _ h => h) (Or.inl ⟨by rfl, ?_⟩) ?_ ?_
                    rotate_left
                    ·
                     intro w'
                     go_simp
                     with_reducible rfl
                    rotate_left
                    ·
                     simp only [Act.put, List.setIfInBounds_toArray, List.set_cons_zero, List.set_cons_succ, i64_w, i32_w]
                     rfl
                    refine take_ (i := 6) (N := some 54) (v := ?_) (a' := ?_) #[true, false, true, true, true, true, true, false, false, false, false, false, false] rfl rfl (take_ofW HT_.out HW_.out (by kernel_rfl)) (fun _ _ _ h => h) (Or.inl ⟨by rfl, ?_⟩) hHeld ?_ ?_
                    rotate_left
                    ·
                     rintro w' ⟨s0, s1, s2, s3, s4, s5⟩
                     go_simp
                     with_reducible rfl
                    rotate_left
                    ·
                     simp only [Act.put, List.setIfInBounds_toArray, List.set_cons_zero, List.set_cons_succ, i64_w, i32_w]
                     rfl
                    refine one_ (i := 1) (N := some 49) #[true, true, true, true, true, true, true, false, false, false, false, false, false] rfl rfl (one_of HT_.out (by kernel_rfl)) (by decide) (fun K hK => ?_)
                    refine goes_ Try.func14 (by kernel_rfl) rfl #[.int .i64 6, .string (⟨#[85, 29, 15]⟩ : ByteArray)] (by rfl) rfl rfl (by (try simp only [List.map_toArray, List.map_cons, List.map_nil]); first | done | rfl | (simp only [List.length_drop, List.length_take]; rfl)) ?_
                    with_reducible refine (engrosserlaw14_item.calls 6 (⟨#[85, 29, 15]⟩ : ByteArray) t179 _ A46.out).mono ?_
                    rintro e w55 ⟨rfl, hb⟩
                    refine ⟨_, rfl, ?_⟩
                    have n0_ := Aside0.mk (blk_below (g := gb166) (o := .cells #[.string a0_0, .string a0_1, .bool a0_2, .slice (some ad180) l0_3.length c0_3, .int .i64 a0_4] 47 (0, 0)) (by (with_reducible repeat (first | refine blk_drewN ?_ _ | refine blk_drew ?_ | refine blk_alloc ?_ _)); exact BK166.out) hb)
                    have n1_ := Aside0.mk (below_step (by repeat (first | (with_reducible first | exact HB.out | apply below_alloc | apply pw_below_drewN | apply below_drew1 | refine below_set ?_ GE166.out) | exact HB.out)) hb)
                    clear BK166
                    clear HB
                    have BK166 := n0_
                    have HB := n1_
                    clear n0_ n1_
                    (try clear hb)
                    (try clear hb2)
                    (try clear hk)
                    (try clear hi)
                    refine hK.out _ _ ⟨(blk_cell BK166.out 0).trans rfl, (blk_cell BK166.out 1).trans rfl, (blk_cell BK166.out 2).trans rfl, (blk_cell BK166.out 3).trans rfl, (blk_cell BK166.out 4).trans rfl, ((HB.out.cell (World.block_lt_of_cell? w _ hw180_0)).trans hw180_0)⟩ (fun hHeld => ?_)
                    clear hK K
                    refine norm_ (a' := ?_) ?_ ?_
                    rotate_left
                    ·
                     show Act.put _ (some 49) _ = _
                     simp only [Act.put, List.setIfInBounds_toArray, List.set_cons_zero, List.set_cons_succ, i64_w, i32_w]
                     rfl
                    refine one_ (i := 7) (N := some 55) #[true, true, true, true, true, true, true, true, false, false, false, false, false] rfl rfl (one_of HT_.out (by kernel_rfl)) (by decide) (fun K hK => ?_)
                    refine goes_ Try.func16 (by kernel_rfl) rfl #[.string (rdOf ByteArray.empty l0_3 x5_2)] (by rfl) rfl rfl (by (try simp only [List.map_toArray, List.map_cons, List.map_nil]); first | done | rfl | (simp only [List.length_drop, List.length_take]; rfl)) ?_
                    with_reducible refine (engrosserlaw14_cut.calls (rdOf ByteArray.empty l0_3 x5_2) t181 _ A49.out).mono ?_
                    rintro e w56 ⟨rfl, hb⟩
                    refine ⟨_, rfl, ?_⟩
                    have n0_ := Aside0.mk (blk_below (g := gb166) (o := .cells #[.string a0_0, .string a0_1, .bool a0_2, .slice (some ad180) l0_3.length c0_3, .int .i64 a0_4] 47 (0, 0)) (by (with_reducible repeat (first | refine blk_drewN ?_ _ | refine blk_drew ?_ | refine blk_alloc ?_ _)); exact BK166.out) hb)
                    have n1_ := Aside0.mk (below_step (by repeat (first | (with_reducible first | exact HB.out | apply below_alloc | apply pw_below_drewN | apply below_drew1 | refine below_set ?_ GE166.out) | exact HB.out)) hb)
                    clear BK166
                    clear HB
                    have BK166 := n0_
                    have HB := n1_
                    clear n0_ n1_
                    (try clear hb)
                    (try clear hb2)
                    (try clear hk)
                    (try clear hi)
                    refine hK.out _ _ ⟨(blk_cell BK166.out 0).trans rfl, (blk_cell BK166.out 1).trans rfl, (blk_cell BK166.out 2).trans rfl, (blk_cell BK166.out 3).trans rfl, (blk_cell BK166.out 4).trans rfl, ((HB.out.cell (World.block_lt_of_cell? w _ hw180_0)).trans hw180_0)⟩ (fun hHeld => ?_)
                    clear hK K
                    refine norm_ (a' := ?_) ?_ ?_
                    rotate_left
                    ·
                     show Act.put _ (some 55) _ = _
                     simp only [Act.put, List.setIfInBounds_toArray, List.set_cons_zero, List.set_cons_succ, i64_w, i32_w]
                     rfl
                    refine one_ (i := 8) (N := some 56) #[true, true, true, true, true, true, true, true, true, false, false, false, false] rfl rfl (one_of HT_.out (by kernel_rfl)) (by decide) (fun K hK => ?_)
                    refine goes_ Try.func14 (by kernel_rfl) rfl #[.int .i64 4, .string t181] (by rfl) rfl rfl (by (try simp only [List.map_toArray, List.map_cons, List.map_nil]); first | done | rfl | (simp only [List.length_drop, List.length_take]; rfl)) ?_
                    with_reducible refine (engrosserlaw14_item.calls 4 t181 t182 _ A50.out).mono ?_
                    rintro e w57 ⟨rfl, hb⟩
                    refine ⟨_, rfl, ?_⟩
                    have n0_ := Aside0.mk (blk_below (g := gb166) (o := .cells #[.string a0_0, .string a0_1, .bool a0_2, .slice (some ad180) l0_3.length c0_3, .int .i64 a0_4] 47 (0, 0)) (by (with_reducible repeat (first | refine blk_drewN ?_ _ | refine blk_drew ?_ | refine blk_alloc ?_ _)); exact BK166.out) hb)
                    have n1_ := Aside0.mk (below_step (by repeat (first | (with_reducible first | exact HB.out | apply below_alloc | apply pw_below_drewN | apply below_drew1 | refine below_set ?_ GE166.out) | exact HB.out)) hb)
                    clear BK166
                    clear HB
                    have BK166 := n0_
                    have HB := n1_
                    clear n0_ n1_
                    (try clear hb)
                    (try clear hb2)
                    (try clear hk)
                    (try clear hi)
                    refine hK.out _ _ ⟨(blk_cell BK166.out 0).trans rfl, (blk_cell BK166.out 1).trans rfl, (blk_cell BK166.out 2).trans rfl, (blk_cell BK166.out 3).trans rfl, (blk_cell BK166.out 4).trans rfl, ((HB.out.cell (World.block_lt_of_cell? w _ hw180_0)).trans hw180_0)⟩ (fun hHeld => ?_)
                    clear hK K
                    refine norm_ (a' := ?_) ?_ ?_
                    rotate_left
                    ·
                     show Act.put _ (some 56) _ = _
                     simp only [Act.put, List.setIfInBounds_toArray, List.set_cons_zero, List.set_cons_succ, i64_w, i32_w]
                     rfl
                    refine pure_ (i := 9) (N := some 57) (v := ?_) (a' := ?_) #[true, true, true, true, true, true, true, true, true, true, false, false, false] rfl rfl (any_of HT_.out (by kernel_rfl)) (fun _ _ _ h => h) (Or.inl ⟨by rfl, ?_⟩) ?_ ?_
                    rotate_left
                    ·
                     intro w'
                     go_simp
                     with_reducible rfl
                    rotate_left
                    ·
                     simp only [Act.put, List.setIfInBounds_toArray, List.set_cons_zero, List.set_cons_succ, i64_w, i32_w]
                     rfl
                    refine one_ (i := 10) (N := some 58) #[true, true, true, true, true, true, true, true, true, true, true, false, false] rfl rfl (one_of HT_.out (by kernel_rfl)) (by decide) (fun K hK => ?_)
                    refine goes_ Try.func14 (by kernel_rfl) rfl #[.int .i64 48, .string (t179 ++ t182)] (by rfl) rfl rfl (by (try simp only [List.map_toArray, List.map_cons, List.map_nil]); first | done | rfl | (simp only [List.length_drop, List.length_take]; rfl)) ?_
                    with_reducible refine (engrosserlaw14_item.calls 48 (t179 ++ t182) t183 _ A52.out).mono ?_
                    rintro e w58 ⟨rfl, hb⟩
                    refine ⟨_, rfl, ?_⟩
                    have n0_ := Aside0.mk (blk_below (g := gb166) (o := .cells #[.string a0_0, .string a0_1, .bool a0_2, .slice (some ad180) l0_3.length c0_3, .int .i64 a0_4] 47 (0, 0)) (by (with_reducible repeat (first | refine blk_drewN ?_ _ | refine blk_drew ?_ | refine blk_alloc ?_ _)); exact BK166.out) hb)
                    have n1_ := Aside0.mk (below_step (by repeat (first | (with_reducible first | exact HB.out | apply below_alloc | apply pw_below_drewN | apply below_drew1 | refine below_set ?_ GE166.out) | exact HB.out)) hb)
                    clear BK166
                    clear HB
                    have BK166 := n0_
                    have HB := n1_
                    clear n0_ n1_
                    (try clear hb)
                    (try clear hb2)
                    (try clear hk)
                    (try clear hi)
                    refine hK.out _ _ ⟨(blk_cell BK166.out 0).trans rfl, (blk_cell BK166.out 1).trans rfl, (blk_cell BK166.out 2).trans rfl, (blk_cell BK166.out 3).trans rfl, (blk_cell BK166.out 4).trans rfl, ((HB.out.cell (World.block_lt_of_cell? w _ hw180_0)).trans hw180_0)⟩ (fun hHeld => ?_)
                    clear hK K
                    refine norm_ (a' := ?_) ?_ ?_
                    rotate_left
                    ·
                     show Act.put _ (some 58) _ = _
                     simp only [Act.put, List.setIfInBounds_toArray, List.set_cons_zero, List.set_cons_succ, i64_w, i32_w]
                     rfl
                    refine pure_ (i := 11) (N := some 59) (v := ?_) (a' := ?_) #[true, true, true, true, true, true, true, true, true, true, true, true, false] rfl rfl (any_of HT_.out (by kernel_rfl)) (fun _ _ _ h => h) (Or.inl ⟨by rfl, ?_⟩) ?_ ?_
                    rotate_left
                    ·
                     intro w'
                     go_simp
                     with_reducible rfl
                    rotate_left
                    ·
                     simp only [Act.put, List.setIfInBounds_toArray, List.set_cons_zero, List.set_cons_succ, i64_w, i32_w]
                     rfl
                    refine pure_ (i := 12) (N := some 4) (v := ?_) (a' := ?_) #[true, true, true, true, true, true, true, true, true, true, true, true, true] rfl rfl (any_of HT_.out (by kernel_rfl)) (fun _ _ _ h => h) (Or.inl ⟨by rfl, ?_⟩) ?_ ?_
                    rotate_left
                    ·
                     intro w'
                     go_simp
                     with_reducible rfl
                    rotate_left
                    ·
                     simp only [Act.put, List.setIfInBounds_toArray, List.set_cons_zero, List.set_cons_succ, i64_w, i32_w]
                     rfl
                    refine done_ (done_of HT_.out (by kernel_rfl)) ?_
                    try go_wp2
                    go_roundg kj39
                    case measure => have := HJ1.out; have := HK2.out; have := HJ34.out; have := HJ39.out; omega
                    case rel => exact ⟨(x4_39 ++ t183), (wrap64 (x5_2 + 1)), (by first | rfl | (simp; done) | (simp [*]; done)), (by first | rfl | (simp; done) | (simp [*]; done)), H', ⟨by have := HJ1.out; have := HK2.out; have := HJ34.out; have := HJ39.out; omega⟩, ⟨by (with_reducible repeat (first | refine blk_drewN ?_ _ | refine blk_drew ?_ | refine blk_alloc ?_ _)); exact BK166.out⟩, ⟨by repeat (first | (with_reducible first | exact HB.out | apply below_alloc | apply pw_below_drewN | apply below_drew1 | refine below_set ?_ GE166.out) | exact HB.out)⟩⟩
                   ·
                    rw [if_neg c53] at H
                    exact absurd H (by simp)
                  ·
                   rw [if_neg c51] at H
                   exact absurd H (by simp)
                 ·
                  rw [if_neg c48] at H
                  exact absurd H (by simp)
                ·
                 rw [if_neg c47] at H
                 exact absurd H (by simp)
             ·
              replace c39 := Bool.eq_false_iff.mpr c39
              subst c39
              have H1 : (if a0_4 = (mn (l0_3.length : Int) 5) then ((engrosserlaw14_poison.f).bind fun t184 => (if x4_2.size + t184.size ≤ 9223372036854775807 then (engrosserlaw14_Cert_bytes.j4 kj34 ((((((x3_1 ++ t168) ++ t169) ++ t170) ++ t171) ++ t174) ++ t177) (x4_2 ++ t184)) else (none))) else (engrosserlaw14_Cert_bytes.j4 kj34 ((((((x3_1 ++ t168) ++ t169) ++ t170) ++ t171) ++ t174) ++ t177) x4_2)) = some r := by rw [if_neg (show ¬ (false = true) by decide)] at H; exact H
              clear H
              have H := H1
              clear H1
              obtain ⟨ji59, hji59⟩ : ∃ j_ : Int, (mn (l0_3.length : Int) 5) = j_ := ⟨_, rfl⟩
              replace H : (if a0_4 = (ji59) then ((engrosserlaw14_poison.f).bind fun t184 => (if x4_2.size + t184.size ≤ 9223372036854775807 then (engrosserlaw14_Cert_bytes.j4 kj34 ((((((x3_1 ++ t168) ++ t169) ++ t170) ++ t171) ++ t174) ++ t177) (x4_2 ++ t184)) else (none))) else (engrosserlaw14_Cert_bytes.j4 kj34 ((((((x3_1 ++ t168) ++ t169) ++ t170) ++ t171) ++ t174) ++ t177) x4_2)) = some r := by first | (rw [hji59] at H; exact H) | (simp only [hji59] at H ⊢; exact H)
              have hji59_ : (if 5 < (l0_3.length : Int) then 5 else (l0_3.length : Int)) = ji59 := hji59
              have HC60 := Aside0.mk H
              clear H
              have hcz61_0 : wc.cell? ⟨gb166, 0, none⟩ = some (.string a0_0) := (blk_cell BK166.out 0).trans rfl
              have hcz61_1 : wc.cell? ⟨gb166, 1, none⟩ = some (.string a0_1) := (blk_cell BK166.out 1).trans rfl
              have hcz61_2 : wc.cell? ⟨gb166, 2, none⟩ = some (.bool a0_2) := (blk_cell BK166.out 2).trans rfl
              have hcz61_3 : wc.cell? ⟨gb166, 3, none⟩ = some (.slice A0_3 l0_3.length c0_3) := (blk_cell BK166.out 3).trans rfl
              have hcz61_4 : wc.cell? ⟨gb166, 4, none⟩ = some (.int .i64 a0_4) := (blk_cell BK166.out 4).trans rfl
              have hfz61_0 := blk_frozen BK166.out 0
              have hfz61_1 := blk_frozen BK166.out 1
              have hfz61_2 := blk_frozen BK166.out 2
              have hfz61_3 := blk_frozen BK166.out 3
              have hfz61_4 := blk_frozen BK166.out 4
              go_upto_if 66 with (fail)
              go_cut [4] (fun v4 wc => ∃ (kq : Nat) (x4_59 : ByteArray), v4 = .string x4_59 ∧ Aside0 (engrosserlaw14_Cert_bytes.j4 kq ((((((x3_1 ++ t168) ++ t169) ++ t170) ++ t171) ++ t174) ++ t177) x4_59 = some r) ∧ Aside0 (kq ≤ kj34) ∧ Aside0 (wc.heap[gb166]? = some (.cells #[.string a0_0, .string a0_1, .bool a0_2, (.slice A0_3 l0_3.length c0_3), .int .i64 a0_4] 47 (0, 0))) ∧ Aside0 (Below w.heap.size w wc))
              case first =>
               have H := HC60.out
               clear HC60
               by_cases c62 : a0_4 = (ji59)
               ·
                rw [if_pos c62] at H
                have c62b0 : (a0_4 == (ji59)) = true := beq_iff_eq.mpr c62
                have c62b1 : (a0_4 != (ji59)) = false := bne_eq_false_iff_eq.mpr c62
                clear c62
                (first | rw [c62b0] | (simp only [i64_w, i32_w]; rw [c62b0]) | skip)
                replace H := Option.bind_eq_some_iff.mp H
                obtain ⟨t184, A630, H⟩ := H
                replace H : (if x4_2.size + t184.size ≤ 9223372036854775807 then (engrosserlaw14_Cert_bytes.j4 kj34 ((((((x3_1 ++ t168) ++ t169) ++ t170) ++ t171) ++ t174) ++ t177) (x4_2 ++ t184)) else (none)) = some r := H
                have A63 := Aside0.mk A630
                clear A630
                by_cases c64 : x4_2.size + t184.size ≤ 9223372036854775807
                ·
                 rw [if_pos c64] at H
                 have c64b0 := eq_true c64
                 have c64b1 : decide (x4_2.size + t184.size ≤ 9223372036854775807) = true := decide_eq_true c64
                 try have c64b2 : (9223372036854775807 < x4_2.size + t184.size) = False := eq_false (Nat.not_lt.2 c64)
                 have H' := Aside0.mk H
                 clear H
                 go_wp2_with (first | ((with_reducible refine gate_callee (f := 15) rfl ?_); refine goesL_ (some 68) rfl rfl Try.func15 (by kernel_rfl) rfl #[] rfl (by (try simp only [List.map_toArray, List.map_cons, List.map_nil]); first | done | rfl | (simp only [List.length_drop, List.length_take]; rfl)) ?_; (with_reducible refine (engrosserlaw14_poison.calls  t184 _ A63.out).mono ?_); rintro e w65 ⟨rfl, hb⟩; refine ⟨_, rfl, ?_⟩; have n0_ := Aside0.mk (blk_below (g := gb166) (o := .cells #[.string a0_0, .string a0_1, .bool a0_2, .slice A0_3 l0_3.length c0_3, .int .i64 a0_4] 47 (0, 0)) (by (with_reducible repeat (first | refine blk_drewN ?_ _ | refine blk_drew ?_ | refine blk_alloc ?_ _)); exact BK166.out) hb); have n1_ := Aside0.mk (below_step (by repeat (first | (with_reducible first | exact HB.out | apply below_alloc | apply pw_below_drewN | apply below_drew1 | refine below_set ?_ GE166.out) | exact HB.out)) hb); clear BK166; clear HB; have BK166 := n0_; have HB := n1_; clear n0_ n1_; (try clear hb); (try clear hb2); (try clear hk); (try clear hi)))
                 go_meet
                 case rel => exact ⟨_, (x4_2 ++ t184), (by first | rfl | (simp; done) | (simp [*]; done)), H', ⟨by have := HJ1.out; have := HK2.out; have := HJ34.out; first | omega | exact Nat.le_refl _⟩, ⟨by (with_reducible repeat (first | refine blk_drewN ?_ _ | refine blk_drew ?_ | refine blk_alloc ?_ _)); exact BK166.out⟩, ⟨by repeat (first | (with_reducible first | exact HB.out | apply below_alloc | apply pw_below_drewN | apply below_drew1 | refine below_set ?_ GE166.out) | exact HB.out)⟩⟩
                ·
                 rw [if_neg c64] at H
                 exact absurd H (by simp)
               ·
                rw [if_neg c62] at H
                have c62b0 : (a0_4 == (ji59)) = false := beq_eq_false_iff_ne.mpr c62
                have c62b1 : (a0_4 != (ji59)) = true := bne_iff_ne.mpr c62
                (first | rw [c62b0] | (simp only [i64_w, i32_w]; rw [c62b0]) | skip)
                have H' := Aside0.mk H
                clear H
                go_wp2
                go_meet
                case rel => exact ⟨_, (x4_2), (by first | rfl | (simp; done) | (simp [*]; done)), H', ⟨by have := HJ1.out; have := HK2.out; have := HJ34.out; first | omega | exact Nat.le_refl _⟩, ⟨by (with_reducible repeat (first | refine blk_drewN ?_ _ | refine blk_drew ?_ | refine blk_alloc ?_ _)); exact BK166.out⟩, ⟨by repeat (first | (with_reducible first | exact HB.out | apply below_alloc | apply pw_below_drewN | apply below_drew1 | refine below_set ?_ GE166.out) | exact HB.out)⟩⟩
              case rest =>
               clear HC60
               try clear c1
               try clear p1
               try clear q1
               try clear hx1
               try clear c2
               try clear p2
               try clear c3
               try clear c4
               try clear c5
               try clear c6
               try clear p6
               try clear c9
               try clear c9b0
               try clear c9b1
               try clear c9b2
               try clear c11
               try clear c11b0
               try clear c11b1
               try clear c11b2
               try clear c13
               try clear c13b0
               try clear c13b1
               try clear c13b2
               try clear c14
               try clear c15
               try clear c15b0
               try clear c15b1
               try clear c15b2
               try clear c16
               try clear c18
               try clear p18
               try clear q18
               try clear hx18
               try clear c19
               try clear c19b0
               try clear c19b1
               try clear c19b2
               try clear c23
               try clear c23b0
               try clear c23b1
               try clear c23b2
               try clear c36
               try clear c36b0
               try clear c39
               try clear c42
               try clear c42b0
               try clear c42b1
               try clear c44
               try clear c44b0
               try clear c44b1
               try clear c44b2
               try clear c47
               try clear c47b0
               try clear c48
               try clear c48b0
               try clear c51
               try clear c51b0
               try clear c51b1
               try clear c51b2
               try clear c53
               try clear c53b0
               try clear c53b1
               try clear c53b2
               try clear c62
               try clear c62b0
               try clear c62b1
               try clear c64
               try clear c64b0
               try clear c64b1
               try clear c64b2
               try clear p64
               try clear hcz37_0
               try clear hcz37_1
               try clear hcz37_2
               try clear hcz37_3
               try clear hcz37_4
               try clear hcz38_0
               try clear hcz38_1
               try clear hcz38_2
               try clear hcz38_3
               try clear hcz38_4
               try clear hcz41_0
               try clear hcz41_1
               try clear hcz41_2
               try clear hcz41_3
               try clear hcz41_4
               try clear hcz4_0
               try clear hcz4_1
               try clear hcz4_2
               try clear hcz4_3
               try clear hcz4_4
               try clear hcz61_0
               try clear hcz61_1
               try clear hcz61_2
               try clear hcz61_3
               try clear hcz61_4
               try clear hfz37_0
               try clear hfz37_1
               try clear hfz37_2
               try clear hfz37_3
               try clear hfz37_4
               try clear hfz38_0
               try clear hfz38_1
               try clear hfz38_2
               try clear hfz38_3
               try clear hfz38_4
               try clear hfz41_0
               try clear hfz41_1
               try clear hfz41_2
               try clear hfz41_3
               try clear hfz41_4
               try clear hfz4_0
               try clear hfz4_1
               try clear hfz4_2
               try clear hfz4_3
               try clear hfz4_4
               try clear hfz61_0
               try clear hfz61_1
               try clear hfz61_2
               try clear hfz61_3
               try clear hfz61_4
               try clear hx180_0
               try clear p180
               try clear p2
               try clear q180
               obtain ⟨kq, x4_59, rfl, HA, HJ59, BK166, HB⟩ := hcut
               cases kq with
               | zero => exact absurd HA.out (by simp [engrosserlaw14_Cert_bytes.j4])
               | succ kj59 =>
                have H := HA.out
                clear HA
                simp only [engrosserlaw14_Cert_bytes.j4] at H
                have HC66 := Aside0.mk H
                clear H
                go_upto_if 71 with (fail)
                go_cut [3] (fun v3 wc => ∃ (kq : Nat) (x3_65 : ByteArray), v3 = .string x3_65 ∧ Aside0 (engrosserlaw14_Cert_bytes.j5 kq x3_65 = some r) ∧ Aside0 (kq ≤ kj59) ∧ Aside0 (wc.heap[gb166]? = some (.cells #[.string a0_0, .string a0_1, .bool a0_2, (.slice A0_3 l0_3.length c0_3), .int .i64 a0_4] 47 (0, 0))) ∧ Aside0 (Below w.heap.size w wc))
                case first =>
                 have H := HC66.out
                 clear HC66
                 by_cases c67 : x4_59.toList = ([] : List UInt8)
                 ·
                  rw [if_pos c67] at H
                  have c67b0 : (x4_59.toList == ([] : List UInt8)) = true := beq_iff_eq.mpr c67
                  have c67b1 : (x4_59.toList != ([] : List UInt8)) = false := bne_eq_false_iff_eq.mpr c67
                  have c67b5 : (!x4_59.toList.isEmpty) = false := by simpa using c67
                  clear c67
                  (first | rw [c67b0] | rw [c67b5] | (simp only [i64_w, i32_w]; rw [c67b0]) | skip)
                  have H' := Aside0.mk H
                  clear H
                  go_wp2
                  go_meet
                  case rel => exact ⟨_, (((((((x3_1 ++ t168) ++ t169) ++ t170) ++ t171) ++ t174) ++ t177)), (by first | rfl | (simp; done) | (simp [*]; done)), H', ⟨by have := HJ1.out; have := HK2.out; have := HJ34.out; have := HJ59.out; first | omega | exact Nat.le_refl _⟩, ⟨by (with_reducible repeat (first | refine blk_drewN ?_ _ | refine blk_drew ?_ | refine blk_alloc ?_ _)); exact BK166.out⟩, ⟨by repeat (first | (with_reducible first | exact HB.out | apply below_alloc | apply pw_below_drewN | apply below_drew1 | refine below_set ?_ GE166.out) | exact HB.out)⟩⟩
                 ·
                  rw [if_neg c67] at H
                  have c67b0 : (x4_59.toList == ([] : List UInt8)) = false := beq_eq_false_iff_ne.mpr c67
                  have c67b1 : (x4_59.toList != ([] : List UInt8)) = true := bne_iff_ne.mpr c67
                  have c67b5 : (!x4_59.toList.isEmpty) = true := by simpa using c67
                  (first | rw [c67b0] | rw [c67b5] | (simp only [i64_w, i32_w]; rw [c67b0]) | skip)
                  replace H := Option.bind_eq_some_iff.mp H
                  obtain ⟨t185, A680, H⟩ := H
                  replace H : ((engrosserlaw14_item.f 163 t185).bind fun t186 => (if ((((((x3_1 ++ t168) ++ t169) ++ t170) ++ t171) ++ t174) ++ t177).size + t186.size ≤ 9223372036854775807 then (engrosserlaw14_Cert_bytes.j5 kj59 (((((((x3_1 ++ t168) ++ t169) ++ t170) ++ t171) ++ t174) ++ t177) ++ t186)) else (none))) = some r := H
                  have A68 := Aside0.mk A680
                  clear A680
                  replace H := Option.bind_eq_some_iff.mp H
                  obtain ⟨t186, A690, H⟩ := H
                  replace H : (if ((((((x3_1 ++ t168) ++ t169) ++ t170) ++ t171) ++ t174) ++ t177).size + t186.size ≤ 9223372036854775807 then (engrosserlaw14_Cert_bytes.j5 kj59 (((((((x3_1 ++ t168) ++ t169) ++ t170) ++ t171) ++ t174) ++ t177) ++ t186)) else (none)) = some r := H
                  have A69 := Aside0.mk A690
                  clear A690
                  by_cases c70 : ((((((x3_1 ++ t168) ++ t169) ++ t170) ++ t171) ++ t174) ++ t177).size + t186.size ≤ 9223372036854775807
                  ·
                   rw [if_pos c70] at H
                   have c70b0 := eq_true c70
                   have c70b1 : decide (((((((x3_1 ++ t168) ++ t169) ++ t170) ++ t171) ++ t174) ++ t177).size + t186.size ≤ 9223372036854775807) = true := decide_eq_true c70
                   try have c70b2 : (9223372036854775807 < ((((((x3_1 ++ t168) ++ t169) ++ t170) ++ t171) ++ t174) ++ t177).size + t186.size) = False := eq_false (Nat.not_lt.2 c70)
                   have c70b2z := c70b2
                   (try simp only [ByteArray.size_append] at c70b2z)
                   have H' := Aside0.mk H
                   clear H
                   go_wp2_with (first | ((with_reducible refine gate_callee (f := 14) rfl ?_); refine goesL_ (some 74) rfl rfl Try.func14 (by kernel_rfl) rfl #[.int .i64 48, .string x4_59] rfl (by (try simp only [List.map_toArray, List.map_cons, List.map_nil]); first | done | rfl | (simp only [List.length_drop, List.length_take]; rfl)) ?_; (with_reducible refine (engrosserlaw14_item.calls 48 x4_59 t185 _ A68.out).mono ?_); rintro e w71 ⟨rfl, hb⟩; refine ⟨_, rfl, ?_⟩; have n0_ := Aside0.mk (blk_below (g := gb166) (o := .cells #[.string a0_0, .string a0_1, .bool a0_2, .slice A0_3 l0_3.length c0_3, .int .i64 a0_4] 47 (0, 0)) (by (with_reducible repeat (first | refine blk_drewN ?_ _ | refine blk_drew ?_ | refine blk_alloc ?_ _)); exact BK166.out) hb); have n1_ := Aside0.mk (below_step (by repeat (first | (with_reducible first | exact HB.out | apply below_alloc | apply pw_below_drewN | apply below_drew1 | refine below_set ?_ GE166.out) | exact HB.out)) hb); clear BK166; clear HB; have BK166 := n0_; have HB := n1_; clear n0_ n1_; (try clear hb); (try clear hb2); (try clear hk); (try clear hi)) | ((with_reducible refine gate_callee (f := 14) rfl ?_); refine goesL_ (some 75) rfl rfl Try.func14 (by kernel_rfl) rfl #[.int .i64 163, .string t185] rfl (by (try simp only [List.map_toArray, List.map_cons, List.map_nil]); first | done | rfl | (simp only [List.length_drop, List.length_take]; rfl)) ?_; (with_reducible refine (engrosserlaw14_item.calls 163 t185 t186 _ A69.out).mono ?_); rintro e w72 ⟨rfl, hb⟩; refine ⟨_, rfl, ?_⟩; have n0_ := Aside0.mk (blk_below (g := gb166) (o := .cells #[.string a0_0, .string a0_1, .bool a0_2, .slice A0_3 l0_3.length c0_3, .int .i64 a0_4] 47 (0, 0)) (by (with_reducible repeat (first | refine blk_drewN ?_ _ | refine blk_drew ?_ | refine blk_alloc ?_ _)); exact BK166.out) hb); have n1_ := Aside0.mk (below_step (by repeat (first | (with_reducible first | exact HB.out | apply below_alloc | apply pw_below_drewN | apply below_drew1 | refine below_set ?_ GE166.out) | exact HB.out)) hb); clear BK166; clear HB; have BK166 := n0_; have HB := n1_; clear n0_ n1_; (try clear hb); (try clear hb2); (try clear hk); (try clear hi)))
                   go_meet
                   case rel => exact ⟨_, (((((((x3_1 ++ t168) ++ t169) ++ t170) ++ t171) ++ t174) ++ t177) ++ t186), (by first | rfl | (simp; done) | (simp [*]; done)), H', ⟨by have := HJ1.out; have := HK2.out; have := HJ34.out; have := HJ59.out; first | omega | exact Nat.le_refl _⟩, ⟨by (with_reducible repeat (first | refine blk_drewN ?_ _ | refine blk_drew ?_ | refine blk_alloc ?_ _)); exact BK166.out⟩, ⟨by repeat (first | (with_reducible first | exact HB.out | apply below_alloc | apply pw_below_drewN | apply below_drew1 | refine below_set ?_ GE166.out) | exact HB.out)⟩⟩
                  ·
                   rw [if_neg c70] at H
                   exact absurd H (by simp)
                case rest =>
                 clear HC66
                 try clear c1
                 try clear p1
                 try clear q1
                 try clear hx1
                 try clear c2
                 try clear p2
                 try clear c3
                 try clear c4
                 try clear c5
                 try clear c6
                 try clear p6
                 try clear c7
                 try clear c9
                 try clear c9b0
                 try clear c9b1
                 try clear c9b2
                 try clear c11
                 try clear c11b0
                 try clear c11b1
                 try clear c11b2
                 try clear c13
                 try clear c13b0
                 try clear c13b1
                 try clear c13b2
                 try clear c14
                 try clear c15
                 try clear c15b0
                 try clear c15b1
                 try clear c15b2
                 try clear c16
                 try clear c18
                 try clear p18
                 try clear q18
                 try clear hx18
                 try clear c19
                 try clear c19b0
                 try clear c19b1
                 try clear c19b2
                 try clear c23
                 try clear c23b0
                 try clear c23b1
                 try clear c23b2
                 try clear c36
                 try clear c36b0
                 try clear c39
                 try clear c42
                 try clear c42b0
                 try clear c42b1
                 try clear c44
                 try clear c44b0
                 try clear c44b1
                 try clear c44b2
                 try clear c47
                 try clear c47b0
                 try clear c48
                 try clear c48b0
                 try clear c51
                 try clear c51b0
                 try clear c51b1
                 try clear c51b2
                 try clear c53
                 try clear c53b0
                 try clear c53b1
                 try clear c53b2
                 try clear c62
                 try clear c62b0
                 try clear c62b1
                 try clear c64
                 try clear c64b0
                 try clear c64b1
                 try clear c64b2
                 try clear p64
                 try clear c67
                 try clear c67b0
                 try clear c67b1
                 try clear c70
                 try clear c70b0
                 try clear c70b1
                 try clear c70b2
                 try clear hcz37_0
                 try clear hcz37_1
                 try clear hcz37_2
                 try clear hcz37_3
                 try clear hcz37_4
                 try clear hcz38_0
                 try clear hcz38_1
                 try clear hcz38_2
                 try clear hcz38_3
                 try clear hcz38_4
                 try clear hcz41_0
                 try clear hcz41_1
                 try clear hcz41_2
                 try clear hcz41_3
                 try clear hcz41_4
                 try clear hcz4_0
                 try clear hcz4_1
                 try clear hcz4_2
                 try clear hcz4_3
                 try clear hcz4_4
                 try clear hcz61_0
                 try clear hcz61_1
                 try clear hcz61_2
                 try clear hcz61_3
                 try clear hcz61_4
                 try clear hfz37_0
                 try clear hfz37_1
                 try clear hfz37_2
                 try clear hfz37_3
                 try clear hfz37_4
                 try clear hfz38_0
                 try clear hfz38_1
                 try clear hfz38_2
                 try clear hfz38_3
                 try clear hfz38_4
                 try clear hfz41_0
                 try clear hfz41_1
                 try clear hfz41_2
                 try clear hfz41_3
                 try clear hfz41_4
                 try clear hfz4_0
                 try clear hfz4_1
                 try clear hfz4_2
                 try clear hfz4_3
                 try clear hfz4_4
                 try clear hfz61_0
                 try clear hfz61_1
                 try clear hfz61_2
                 try clear hfz61_3
                 try clear hfz61_4
                 try clear hx180_0
                 try clear p1
                 try clear p18
                 try clear p180
                 try clear p2
                 try clear p6
                 try clear p64
                 try clear q1
                 try clear q18
                 try clear q180
                 obtain ⟨kq, x3_65, rfl, HA, HJ65, BK166, HB⟩ := hcut
                 cases kq with
                 | zero => exact absurd HA.out (by simp [engrosserlaw14_Cert_bytes.j5])
                 | succ kj65 =>
                  have H := HA.out
                  clear HA
                  simp only [engrosserlaw14_Cert_bytes.j5] at H
                  replace H := Option.bind_eq_some_iff.mp H
                  obtain ⟨t187, A730, H⟩ := H
                  replace H : ((engrosserlaw14_item.f 48 (⟨#[5, 0]⟩ : ByteArray)).bind fun t188 => (if t187.size + t188.size ≤ 9223372036854775807 then ((engrosserlaw14_item.f 3 (⟨#[0, 115, 105, 103]⟩ : ByteArray)).bind fun t189 => (if (t187 ++ t188).size + t189.size ≤ 9223372036854775807 then ((engrosserlaw14_item.f 48 ((t187 ++ t188) ++ t189)).bind fun t190 => (some t190)) else (none))) else (none))) = some r := H
                  have A73 := Aside0.mk A730
                  clear A730
                  replace H := Option.bind_eq_some_iff.mp H
                  obtain ⟨t188, A740, H⟩ := H
                  replace H : (if t187.size + t188.size ≤ 9223372036854775807 then ((engrosserlaw14_item.f 3 (⟨#[0, 115, 105, 103]⟩ : ByteArray)).bind fun t189 => (if (t187 ++ t188).size + t189.size ≤ 9223372036854775807 then ((engrosserlaw14_item.f 48 ((t187 ++ t188) ++ t189)).bind fun t190 => (some t190)) else (none))) else (none)) = some r := H
                  have A74 := Aside0.mk A740
                  clear A740
                  by_cases c75 : t187.size + t188.size ≤ 9223372036854775807
                  ·
                   rw [if_pos c75] at H
                   have c75b0 := eq_true c75
                   have c75b1 : decide (t187.size + t188.size ≤ 9223372036854775807) = true := decide_eq_true c75
                   try have c75b2 : (9223372036854775807 < t187.size + t188.size) = False := eq_false (Nat.not_lt.2 c75)
                   replace H := Option.bind_eq_some_iff.mp H
                   obtain ⟨t189, A760, H⟩ := H
                   replace H : (if (t187 ++ t188).size + t189.size ≤ 9223372036854775807 then ((engrosserlaw14_item.f 48 ((t187 ++ t188) ++ t189)).bind fun t190 => (some t190)) else (none)) = some r := H
                   have A76 := Aside0.mk A760
                   clear A760
                   by_cases c77 : (t187 ++ t188).size + t189.size ≤ 9223372036854775807
                   ·
                    rw [if_pos c77] at H
                    have c77b0 := eq_true c77
                    have c77b1 : decide ((t187 ++ t188).size + t189.size ≤ 9223372036854775807) = true := decide_eq_true c77
                    try have c77b2 : (9223372036854775807 < (t187 ++ t188).size + t189.size) = False := eq_false (Nat.not_lt.2 c77)
                    have c77b2z := c77b2
                    (try simp only [ByteArray.size_append] at c77b2z)
                    replace H := Option.bind_eq_some_iff.mp H
                    obtain ⟨t190, A780, H⟩ := H
                    replace H : (some t190) = some r := H
                    have A78 := Aside0.mk A780
                    clear A780
                    obtain rfl := Option.some.inj H
                    go_wp2_with (first | ((with_reducible refine gate_callee (f := 14) rfl ?_); refine goesL_ (some 78) rfl rfl Try.func14 (by kernel_rfl) rfl #[.int .i64 48, .string x3_65] rfl (by (try simp only [List.map_toArray, List.map_cons, List.map_nil]); first | done | rfl | (simp only [List.length_drop, List.length_take]; rfl)) ?_; (with_reducible refine (engrosserlaw14_item.calls 48 x3_65 t187 _ A73.out).mono ?_); rintro e w79 ⟨rfl, hb⟩; refine ⟨_, rfl, ?_⟩; have n0_ := Aside0.mk (blk_below (g := gb166) (o := .cells #[.string a0_0, .string a0_1, .bool a0_2, .slice A0_3 l0_3.length c0_3, .int .i64 a0_4] 47 (0, 0)) (by (with_reducible repeat (first | refine blk_drewN ?_ _ | refine blk_drew ?_ | refine blk_alloc ?_ _)); exact BK166.out) hb); have n1_ := Aside0.mk (below_step (by repeat (first | (with_reducible first | exact HB.out | apply below_alloc | apply pw_below_drewN | apply below_drew1 | refine below_set ?_ GE166.out) | exact HB.out)) hb); clear BK166; clear HB; have BK166 := n0_; have HB := n1_; clear n0_ n1_; (try clear hb); (try clear hb2); (try clear hk); (try clear hi)) | ((with_reducible refine gate_callee (f := 14) rfl ?_); refine goesL_ (some 79) rfl rfl Try.func14 (by kernel_rfl) rfl #[.int .i64 48, .string (⟨#[5, 0]⟩ : ByteArray)] rfl (by (try simp only [List.map_toArray, List.map_cons, List.map_nil]); first | done | rfl | (simp only [List.length_drop, List.length_take]; rfl)) ?_; (with_reducible refine (engrosserlaw14_item.calls 48 (⟨#[5, 0]⟩ : ByteArray) t188 _ A74.out).mono ?_); rintro e w80 ⟨rfl, hb⟩; refine ⟨_, rfl, ?_⟩; have n0_ := Aside0.mk (blk_below (g := gb166) (o := .cells #[.string a0_0, .string a0_1, .bool a0_2, .slice A0_3 l0_3.length c0_3, .int .i64 a0_4] 47 (0, 0)) (by (with_reducible repeat (first | refine blk_drewN ?_ _ | refine blk_drew ?_ | refine blk_alloc ?_ _)); exact BK166.out) hb); have n1_ := Aside0.mk (below_step (by repeat (first | (with_reducible first | exact HB.out | apply below_alloc | apply pw_below_drewN | apply below_drew1 | refine below_set ?_ GE166.out) | exact HB.out)) hb); clear BK166; clear HB; have BK166 := n0_; have HB := n1_; clear n0_ n1_; (try clear hb); (try clear hb2); (try clear hk); (try clear hi)) | ((with_reducible refine gate_callee (f := 14) rfl ?_); refine goesL_ (some 81) rfl rfl Try.func14 (by kernel_rfl) rfl #[.int .i64 3, .string (⟨#[0, 115, 105, 103]⟩ : ByteArray)] rfl (by (try simp only [List.map_toArray, List.map_cons, List.map_nil]); first | done | rfl | (simp only [List.length_drop, List.length_take]; rfl)) ?_; (with_reducible refine (engrosserlaw14_item.calls 3 (⟨#[0, 115, 105, 103]⟩ : ByteArray) t189 _ A76.out).mono ?_); rintro e w81 ⟨rfl, hb⟩; refine ⟨_, rfl, ?_⟩; have n0_ := Aside0.mk (blk_below (g := gb166) (o := .cells #[.string a0_0, .string a0_1, .bool a0_2, .slice A0_3 l0_3.length c0_3, .int .i64 a0_4] 47 (0, 0)) (by (with_reducible repeat (first | refine blk_drewN ?_ _ | refine blk_drew ?_ | refine blk_alloc ?_ _)); exact BK166.out) hb); have n1_ := Aside0.mk (below_step (by repeat (first | (with_reducible first | exact HB.out | apply below_alloc | apply pw_below_drewN | apply below_drew1 | refine below_set ?_ GE166.out) | exact HB.out)) hb); clear BK166; clear HB; have BK166 := n0_; have HB := n1_; clear n0_ n1_; (try clear hb); (try clear hb2); (try clear hk); (try clear hi)) | ((with_reducible refine gate_callee (f := 14) rfl ?_); refine goesL_ (some 83) rfl rfl Try.func14 (by kernel_rfl) rfl #[.int .i64 48, .string ((t187 ++ t188) ++ t189)] rfl (by (try simp only [List.map_toArray, List.map_cons, List.map_nil]); first | done | rfl | (simp only [List.length_drop, List.length_take]; rfl)) ?_; (with_reducible refine (engrosserlaw14_item.calls 48 ((t187 ++ t188) ++ t189) t190 _ A78.out).mono ?_); rintro e w82 ⟨rfl, hb⟩; refine ⟨_, rfl, ?_⟩; have n0_ := Aside0.mk (blk_below (g := gb166) (o := .cells #[.string a0_0, .string a0_1, .bool a0_2, .slice A0_3 l0_3.length c0_3, .int .i64 a0_4] 47 (0, 0)) (by (with_reducible repeat (first | refine blk_drewN ?_ _ | refine blk_drew ?_ | refine blk_alloc ?_ _)); exact BK166.out) hb); have n1_ := Aside0.mk (below_step (by repeat (first | (with_reducible first | exact HB.out | apply below_alloc | apply pw_below_drewN | apply below_drew1 | refine below_set ?_ GE166.out) | exact HB.out)) hb); clear BK166; clear HB; have BK166 := n0_; have HB := n1_; clear n0_ n1_; (try clear hb); (try clear hb2); (try clear hk); (try clear hi)))
                    go_ret
                    exact ⟨by first | rfl | (simp [errW_none, errW_some] <;> rfl) | (simp only [← hji59]; first | rfl | (simp [errW_none, errW_some] <;> rfl)) | (simp [*, errW_none, errW_some] <;> rfl), by repeat (first | (with_reducible first | exact HB.out | apply below_alloc | apply pw_below_drewN | apply below_drew1 | refine below_set ?_ GE166.out) | exact HB.out)⟩
                   ·
                    rw [if_neg c77] at H
                    exact absurd H (by simp)
                  ·
                   rw [if_neg c75] at H
                   exact absurd H (by simp)
        ·
         rw [if_neg c23] at H
         exact absurd H (by simp)
       ·
        rw [if_neg c19] at H
        exact absurd H (by simp)
      ·
       rw [if_neg c15] at H
       exact absurd H (by simp)
     ·
      rw [if_neg c13] at H
      exact absurd H (by simp)
    ·
     rw [if_neg c11] at H
     exact absurd H (by simp)
   ·
    rw [if_neg c9] at H
    exact absurd H (by simp)

end Go.Proofs.Ytgloidibckopiaa.G
