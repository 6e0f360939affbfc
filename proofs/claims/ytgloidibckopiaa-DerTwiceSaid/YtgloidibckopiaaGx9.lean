/- Printed by wip/tools/gprint.py, a program of mine that runs the print program of the kit with contracts of mine in the place of what that does not take. Lean checks it. -/
import Derived.Test.YtgloidibckopiaaGx0
import Derived.Test.YtgloidibckopiaaGx2
import Derived.Test.YtgloidibckopiaaGx3
import Derived.Test.YtgloidibckopiaaGx4
import Derived.Test.YtgloidibckopiaaGPoison
namespace Go.Proofs.Ytgloidibckopiaa.G
open Go.RowKit Go.Proofs.YtgloidibckopiaaW.PrintWords Go.Proofs.YtgloidibckopiaaW.PrintLast Go.Proofs.YtgloidibckopiaaW.PrintMore
attribute [local go_sem] max2_int min2_int max_two min_two max_three min_three max_four min_four   -- for this text's walks alone
set_option linter.unusedVariables false
set_option linter.unusedSimpArgs false

/-! ### engrosserlaw14_DerTwice: function 5 -/
def engrosserlaw14_DerTwice.j0 : Nat → Int → ByteArray → Bool → Int → ByteArray → Option (Bool)
 | 0, _, _, _, _, _ => none
 | k + 1, x1, x2, x7, x11, x12 => if (x12.size : Int) = 0 then (none) else (if 0 ≤ (Int.tmod x1 (x12.size : Int)) then (if (Int.tmod x1 (x12.size : Int)) ≤ (x12.size : Int) then ((der_Strip.f k (x12.extract 0 ((Int.tmod x1 (x12.size : Int)) : Int).toNat)).bind fun bt318 => (if 0 ≤ (mn (x2.size : Int) 100) then (if (mn (x2.size : Int) 100) ≤ (x2.size : Int) then (if x12.size + (x2.extract 0 ((mn (x2.size : Int) 100) : Int).toNat).size ≤ 9223372036854775807 then ((der_Strip.f k (x12 ++ (x2.extract 0 ((mn (x2.size : Int) 100) : Int).toNat))).bind fun bt321 => (if x7 = true then (if x11 = 2 then (if bt318.2.2 = 2 then (if x2.toList = ([] : List UInt8) then (some true) else (some (bt321.2.2 == 2))) else (some false)) else (some false)) else (some false))) else (none)) else (none)) else (none))) else (none)) else (none))
def engrosserlaw14_DerTwice.f (k : Nat) (a0_0 : ByteArray) (a0_1 : ByteArray) (a0_2 : Bool) (l0_3 : List ByteArray) (a0_4 : Int) (a1 : Int) (a2 : ByteArray) : Option (Bool) := (engrosserlaw14_examples.f k).bind fun t303 => (if t303 = true then ((engrosserlaw14_item.f 2 (⟨#[7]⟩ : ByteArray)).bind fun t304 => ((engrosserlaw14_poison.f).bind fun t305 => ((engrosserlaw14_cut.f a0_0).bind fun t306 => ((engrosserlaw14_item.f 6 t306).bind fun t307 => ((engrosserlaw14_item.f 48 t307).bind fun t308 => (if t305.size + t308.size ≤ 9223372036854775807 then ((engrosserlaw14_poison.f).bind fun t309 => (if (t305 ++ t308).size + t309.size ≤ 9223372036854775807 then ((engrosserlaw14_item.f 48 ((t305 ++ t308) ++ t309)).bind fun t310 => ((engrosserlaw14_item.f 163 t310).bind fun t311 => (if t304.size + t311.size ≤ 9223372036854775807 then ((engrosserlaw14_item.f 48 (t304 ++ t311)).bind fun t312 => ((engrosserlaw14_item.f 48 t312).bind fun t313 => ((der_Strip.f k t313).bind fun bt314 => ((engrosserlaw14_Cert_bytes.f k a0_0 a0_1 a0_2 l0_3 a0_4).bind fun t317 => (if a1 < 0 then (engrosserlaw14_DerTwice.j0 k (wrap64 (-(wrap64 (a1 + 1)))) a2 t303 bt314.2.2 t317) else (engrosserlaw14_DerTwice.j0 k a1 a2 t303 bt314.2.2 t317)))))) else (none)))) else (none))) else (none))))))) else (some false))
theorem engrosserlaw14_DerTwice.mono_l : ∀ k, (∀ y0 y1 y2 y3 y4, LeO (engrosserlaw14_DerTwice.j0 k y0 y1 y2 y3 y4) (engrosserlaw14_DerTwice.j0 (k + 1) y0 y1 y2 y3 y4))
 | 0 => fun _ _ _ _ _ r h => by simp [engrosserlaw14_DerTwice.j0] at h
 | k + 1 => by
  have ih0 := engrosserlaw14_DerTwice.mono_l k
  ·
   intro y0 y1 y2 y3 y4
   unfold engrosserlaw14_DerTwice.j0
   repeat' first
   | (with_reducible exact ih0 _ _ _ _ _)
   | (with_reducible exact der_Strip.mono _ _)
   | (with_reducible exact engrosserlaw14_Cert_bytes.mono _ _ _ _ _ _)
   | (with_reducible exact engrosserlaw14_examples.mono _)
   | (with_reducible exact LeO.refl _)
   | (with_reducible exact LeO.none _)
   | (with_reducible refine LeO.ite ?_ ?_)
   | (with_reducible refine LeO.bind ?_ (fun _ => ?_))
   | exact ih0 _ _ _ _ _
   | exact der_Strip.mono _ _
   | exact engrosserlaw14_Cert_bytes.mono _ _ _ _ _ _
   | exact engrosserlaw14_examples.mono _
   | exact LeO.none _
   | refine LeO.ite ?_ ?_
   | refine LeO.bind ?_ (fun _ => ?_)
theorem engrosserlaw14_DerTwice.mono : ∀ a0 a1 a2 a3 a4 a5 a6 k, LeO (engrosserlaw14_DerTwice.f k a0 a1 a2 a3 a4 a5 a6) (engrosserlaw14_DerTwice.f (k + 1) a0 a1 a2 a3 a4 a5 a6) := by
 intro a0 a1 a2 a3 a4 a5 a6 k
 have ih0 := engrosserlaw14_DerTwice.mono_l k
 unfold engrosserlaw14_DerTwice.f
 repeat' first
   | (with_reducible exact ih0 _ _ _ _ _)
   | (with_reducible exact der_Strip.mono _ _)
   | (with_reducible exact engrosserlaw14_Cert_bytes.mono _ _ _ _ _ _)
   | (with_reducible exact engrosserlaw14_examples.mono _)
   | (with_reducible exact LeO.refl _)
   | (with_reducible exact LeO.none _)
   | (with_reducible refine LeO.ite ?_ ?_)
   | (with_reducible refine LeO.bind ?_ (fun _ => ?_))
   | exact ih0 _ _ _ _ _
   | exact der_Strip.mono _ _
   | exact engrosserlaw14_Cert_bytes.mono _ _ _ _ _ _
   | exact engrosserlaw14_examples.mono _
   | exact LeO.none _
   | refine LeO.ite ?_ ?_
   | refine LeO.bind ?_ (fun _ => ?_)
def engrosserlaw14_DerTwice.T4 : Bool × List (List Nat × List Nat) := (true, [([], []), ([0], []), ([], []), ([2], [2]), ([3, 1], [3]), ([4, 4], [4]), ([5, 5], [5]), ([1, 6], [1, 6]), ([6], []), ([7, 8], [7, 8]), ([9, 8], [9]), ([10, 10], [10]), ([0, 11], [0, 11]), ([12, 11, 0, 1, 2, 3, 4, 5, 6, 7, 8, 9, 10, 11, 12], [12])])
def engrosserlaw14_DerTwice.B4 : List Nat := [0, 1, 0, 4, 15, 31, 63, 127, 127, 511, 1023, 2047, 4095, 8191]
theorem engrosserlaw14_DerTwice.tab4 : rtab .any (opsOf Try.f5 4) = engrosserlaw14_DerTwice.T4 := by kernel_rfl
theorem engrosserlaw14_DerTwice.bits4 : waitsOk engrosserlaw14_DerTwice.T4.2 engrosserlaw14_DerTwice.B4 = true := by kernel_rfl
set_option maxHeartbeats 8000000 in
set_option maxRecDepth 100000 in
theorem engrosserlaw14_DerTwice.calls (k : Nat) (a0_0 : ByteArray) (a0_1 : ByteArray) (a0_2 : Bool) (A0_3 : Option Addr) (c0_3 : Nat) (l0_3 : List ByteArray) (a0_4 : Int) (a1 : Int) (a2 : ByteArray) (r : Bool) (w : World) (hr0_3 : Kd.C Kd.string w A0_3 l0_3.length l0_3) (hc0_3 : l0_3.length ≤ c0_3) (h : engrosserlaw14_DerTwice.f k a0_0 a0_1 a0_2 l0_3 a0_4 a1 a2 = some r) :
  Calls Try.prog 5 #[.agg #[.string a0_0, .string a0_1, .bool a0_2, .slice A0_3 l0_3.length c0_3, .int .i64 a0_4], .int .i64 a1, .string a2] w fun e w' => e = .returned (.bool r) ∧ Below w.heap.size w w' := by
 have hu47 := Try.underlying47
 have HR0_3 := Aside0.mk hr0_3
 have HC0_3 := Aside0.mk hc0_3
 clear hr0_3 hc0_3
 have HB := Aside0.mk (Below.refl w.heap.size w)
 have H : ((engrosserlaw14_examples.f k).bind fun t303 => (if t303 = true then ((engrosserlaw14_item.f 2 (⟨#[7]⟩ : ByteArray)).bind fun t304 => ((engrosserlaw14_poison.f).bind fun t305 => ((engrosserlaw14_cut.f a0_0).bind fun t306 => ((engrosserlaw14_item.f 6 t306).bind fun t307 => ((engrosserlaw14_item.f 48 t307).bind fun t308 => (if t305.size + t308.size ≤ 9223372036854775807 then ((engrosserlaw14_poison.f).bind fun t309 => (if (t305 ++ t308).size + t309.size ≤ 9223372036854775807 then ((engrosserlaw14_item.f 48 ((t305 ++ t308) ++ t309)).bind fun t310 => ((engrosserlaw14_item.f 163 t310).bind fun t311 => (if t304.size + t311.size ≤ 9223372036854775807 then ((engrosserlaw14_item.f 48 (t304 ++ t311)).bind fun t312 => ((engrosserlaw14_item.f 48 t312).bind fun t313 => ((der_Strip.f k t313).bind fun bt314 => ((engrosserlaw14_Cert_bytes.f k a0_0 a0_1 a0_2 l0_3 a0_4).bind fun t317 => (if a1 < 0 then (engrosserlaw14_DerTwice.j0 k (wrap64 (-(wrap64 (a1 + 1)))) a2 t303 bt314.2.2 t317) else (engrosserlaw14_DerTwice.j0 k a1 a2 t303 bt314.2.2 t317)))))) else (none)))) else (none))) else (none))))))) else (some false))) = some r := h
 clear h
 replace H := Option.bind_eq_some_iff.mp H
 obtain ⟨t303, A40, H⟩ := H
 replace H : (if t303 = true then ((engrosserlaw14_item.f 2 (⟨#[7]⟩ : ByteArray)).bind fun t304 => ((engrosserlaw14_poison.f).bind fun t305 => ((engrosserlaw14_cut.f a0_0).bind fun t306 => ((engrosserlaw14_item.f 6 t306).bind fun t307 => ((engrosserlaw14_item.f 48 t307).bind fun t308 => (if t305.size + t308.size ≤ 9223372036854775807 then ((engrosserlaw14_poison.f).bind fun t309 => (if (t305 ++ t308).size + t309.size ≤ 9223372036854775807 then ((engrosserlaw14_item.f 48 ((t305 ++ t308) ++ t309)).bind fun t310 => ((engrosserlaw14_item.f 163 t310).bind fun t311 => (if t304.size + t311.size ≤ 9223372036854775807 then ((engrosserlaw14_item.f 48 (t304 ++ t311)).bind fun t312 => ((engrosserlaw14_item.f 48 t312).bind fun t313 => ((der_Strip.f k t313).bind fun bt314 => ((engrosserlaw14_Cert_bytes.f k a0_0 a0_1 a0_2 l0_3 a0_4).bind fun t317 => (if a1 < 0 then (engrosserlaw14_DerTwice.j0 k (wrap64 (-(wrap64 (a1 + 1)))) a2 t303 bt314.2.2 t317) else (engrosserlaw14_DerTwice.j0 k a1 a2 t303 bt314.2.2 t317)))))) else (none)))) else (none))) else (none))))))) else (some false)) = some r := H
 have A4 := Aside0.mk A40
 clear A40
 by_cases c5 : t303 = true
 ·
  subst c5
  have H1 : ((engrosserlaw14_item.f 2 (⟨#[7]⟩ : ByteArray)).bind fun t304 => ((engrosserlaw14_poison.f).bind fun t305 => ((engrosserlaw14_cut.f a0_0).bind fun t306 => ((engrosserlaw14_item.f 6 t306).bind fun t307 => ((engrosserlaw14_item.f 48 t307).bind fun t308 => (if t305.size + t308.size ≤ 9223372036854775807 then ((engrosserlaw14_poison.f).bind fun t309 => (if (t305 ++ t308).size + t309.size ≤ 9223372036854775807 then ((engrosserlaw14_item.f 48 ((t305 ++ t308) ++ t309)).bind fun t310 => ((engrosserlaw14_item.f 163 t310).bind fun t311 => (if t304.size + t311.size ≤ 9223372036854775807 then ((engrosserlaw14_item.f 48 (t304 ++ t311)).bind fun t312 => ((engrosserlaw14_item.f 48 t312).bind fun t313 => ((der_Strip.f k t313).bind fun bt314 => ((engrosserlaw14_Cert_bytes.f k a0_0 a0_1 a0_2 l0_3 a0_4).bind fun t317 => (if a1 < 0 then (engrosserlaw14_DerTwice.j0 k (wrap64 (-(wrap64 (a1 + 1)))) a2 true bt314.2.2 t317) else (engrosserlaw14_DerTwice.j0 k a1 a2 true bt314.2.2 t317)))))) else (none)))) else (none))) else (none))))))) = some r := by first | (rw [if_pos rfl] at H; exact H) | (rw [if_pos trivial] at H; exact H)
  clear H
  have H := H1
  clear H1
  replace H := Option.bind_eq_some_iff.mp H
  obtain ⟨t304, A60, H⟩ := H
  replace H : ((engrosserlaw14_poison.f).bind fun t305 => ((engrosserlaw14_cut.f a0_0).bind fun t306 => ((engrosserlaw14_item.f 6 t306).bind fun t307 => ((engrosserlaw14_item.f 48 t307).bind fun t308 => (if t305.size + t308.size ≤ 9223372036854775807 then ((engrosserlaw14_poison.f).bind fun t309 => (if (t305 ++ t308).size + t309.size ≤ 9223372036854775807 then ((engrosserlaw14_item.f 48 ((t305 ++ t308) ++ t309)).bind fun t310 => ((engrosserlaw14_item.f 163 t310).bind fun t311 => (if t304.size + t311.size ≤ 9223372036854775807 then ((engrosserlaw14_item.f 48 (t304 ++ t311)).bind fun t312 => ((engrosserlaw14_item.f 48 t312).bind fun t313 => ((der_Strip.f k t313).bind fun bt314 => ((engrosserlaw14_Cert_bytes.f k a0_0 a0_1 a0_2 l0_3 a0_4).bind fun t317 => (if a1 < 0 then (engrosserlaw14_DerTwice.j0 k (wrap64 (-(wrap64 (a1 + 1)))) a2 true bt314.2.2 t317) else (engrosserlaw14_DerTwice.j0 k a1 a2 true bt314.2.2 t317)))))) else (none)))) else (none))) else (none)))))) = some r := H
  have A6 := Aside0.mk A60
  clear A60
  replace H := Option.bind_eq_some_iff.mp H
  obtain ⟨t305, A70, H⟩ := H
  replace H : ((engrosserlaw14_cut.f a0_0).bind fun t306 => ((engrosserlaw14_item.f 6 t306).bind fun t307 => ((engrosserlaw14_item.f 48 t307).bind fun t308 => (if t305.size + t308.size ≤ 9223372036854775807 then ((engrosserlaw14_poison.f).bind fun t309 => (if (t305 ++ t308).size + t309.size ≤ 9223372036854775807 then ((engrosserlaw14_item.f 48 ((t305 ++ t308) ++ t309)).bind fun t310 => ((engrosserlaw14_item.f 163 t310).bind fun t311 => (if t304.size + t311.size ≤ 9223372036854775807 then ((engrosserlaw14_item.f 48 (t304 ++ t311)).bind fun t312 => ((engrosserlaw14_item.f 48 t312).bind fun t313 => ((der_Strip.f k t313).bind fun bt314 => ((engrosserlaw14_Cert_bytes.f k a0_0 a0_1 a0_2 l0_3 a0_4).bind fun t317 => (if a1 < 0 then (engrosserlaw14_DerTwice.j0 k (wrap64 (-(wrap64 (a1 + 1)))) a2 true bt314.2.2 t317) else (engrosserlaw14_DerTwice.j0 k a1 a2 true bt314.2.2 t317)))))) else (none)))) else (none))) else (none))))) = some r := H
  have A7 := Aside0.mk A70
  clear A70
  replace H := Option.bind_eq_some_iff.mp H
  obtain ⟨t306, A80, H⟩ := H
  replace H : ((engrosserlaw14_item.f 6 t306).bind fun t307 => ((engrosserlaw14_item.f 48 t307).bind fun t308 => (if t305.size + t308.size ≤ 9223372036854775807 then ((engrosserlaw14_poison.f).bind fun t309 => (if (t305 ++ t308).size + t309.size ≤ 9223372036854775807 then ((engrosserlaw14_item.f 48 ((t305 ++ t308) ++ t309)).bind fun t310 => ((engrosserlaw14_item.f 163 t310).bind fun t311 => (if t304.size + t311.size ≤ 9223372036854775807 then ((engrosserlaw14_item.f 48 (t304 ++ t311)).bind fun t312 => ((engrosserlaw14_item.f 48 t312).bind fun t313 => ((der_Strip.f k t313).bind fun bt314 => ((engrosserlaw14_Cert_bytes.f k a0_0 a0_1 a0_2 l0_3 a0_4).bind fun t317 => (if a1 < 0 then (engrosserlaw14_DerTwice.j0 k (wrap64 (-(wrap64 (a1 + 1)))) a2 true bt314.2.2 t317) else (engrosserlaw14_DerTwice.j0 k a1 a2 true bt314.2.2 t317)))))) else (none)))) else (none))) else (none)))) = some r := H
  have A8 := Aside0.mk A80
  clear A80
  replace H := Option.bind_eq_some_iff.mp H
  obtain ⟨t307, A90, H⟩ := H
  replace H : ((engrosserlaw14_item.f 48 t307).bind fun t308 => (if t305.size + t308.size ≤ 9223372036854775807 then ((engrosserlaw14_poison.f).bind fun t309 => (if (t305 ++ t308).size + t309.size ≤ 9223372036854775807 then ((engrosserlaw14_item.f 48 ((t305 ++ t308) ++ t309)).bind fun t310 => ((engrosserlaw14_item.f 163 t310).bind fun t311 => (if t304.size + t311.size ≤ 9223372036854775807 then ((engrosserlaw14_item.f 48 (t304 ++ t311)).bind fun t312 => ((engrosserlaw14_item.f 48 t312).bind fun t313 => ((der_Strip.f k t313).bind fun bt314 => ((engrosserlaw14_Cert_bytes.f k a0_0 a0_1 a0_2 l0_3 a0_4).bind fun t317 => (if a1 < 0 then (engrosserlaw14_DerTwice.j0 k (wrap64 (-(wrap64 (a1 + 1)))) a2 true bt314.2.2 t317) else (engrosserlaw14_DerTwice.j0 k a1 a2 true bt314.2.2 t317)))))) else (none)))) else (none))) else (none))) = some r := H
  have A9 := Aside0.mk A90
  clear A90
  replace H := Option.bind_eq_some_iff.mp H
  obtain ⟨t308, A100, H⟩ := H
  replace H : (if t305.size + t308.size ≤ 9223372036854775807 then ((engrosserlaw14_poison.f).bind fun t309 => (if (t305 ++ t308).size + t309.size ≤ 9223372036854775807 then ((engrosserlaw14_item.f 48 ((t305 ++ t308) ++ t309)).bind fun t310 => ((engrosserlaw14_item.f 163 t310).bind fun t311 => (if t304.size + t311.size ≤ 9223372036854775807 then ((engrosserlaw14_item.f 48 (t304 ++ t311)).bind fun t312 => ((engrosserlaw14_item.f 48 t312).bind fun t313 => ((der_Strip.f k t313).bind fun bt314 => ((engrosserlaw14_Cert_bytes.f k a0_0 a0_1 a0_2 l0_3 a0_4).bind fun t317 => (if a1 < 0 then (engrosserlaw14_DerTwice.j0 k (wrap64 (-(wrap64 (a1 + 1)))) a2 true bt314.2.2 t317) else (engrosserlaw14_DerTwice.j0 k a1 a2 true bt314.2.2 t317)))))) else (none)))) else (none))) else (none)) = some r := H
  have A10 := Aside0.mk A100
  clear A100
  by_cases c11 : t305.size + t308.size ≤ 9223372036854775807
  ·
   rw [if_pos c11] at H
   have c11b0 := eq_true c11
   have c11b1 : decide (t305.size + t308.size ≤ 9223372036854775807) = true := decide_eq_true c11
   try have c11b2 : (9223372036854775807 < t305.size + t308.size) = False := eq_false (Nat.not_lt.2 c11)
   replace H := Option.bind_eq_some_iff.mp H
   obtain ⟨t309, A120, H⟩ := H
   replace H : (if (t305 ++ t308).size + t309.size ≤ 9223372036854775807 then ((engrosserlaw14_item.f 48 ((t305 ++ t308) ++ t309)).bind fun t310 => ((engrosserlaw14_item.f 163 t310).bind fun t311 => (if t304.size + t311.size ≤ 9223372036854775807 then ((engrosserlaw14_item.f 48 (t304 ++ t311)).bind fun t312 => ((engrosserlaw14_item.f 48 t312).bind fun t313 => ((der_Strip.f k t313).bind fun bt314 => ((engrosserlaw14_Cert_bytes.f k a0_0 a0_1 a0_2 l0_3 a0_4).bind fun t317 => (if a1 < 0 then (engrosserlaw14_DerTwice.j0 k (wrap64 (-(wrap64 (a1 + 1)))) a2 true bt314.2.2 t317) else (engrosserlaw14_DerTwice.j0 k a1 a2 true bt314.2.2 t317)))))) else (none)))) else (none)) = some r := H
   have A12 := Aside0.mk A120
   clear A120
   by_cases c13 : (t305 ++ t308).size + t309.size ≤ 9223372036854775807
   ·
    rw [if_pos c13] at H
    have c13b0 := eq_true c13
    have c13b1 : decide ((t305 ++ t308).size + t309.size ≤ 9223372036854775807) = true := decide_eq_true c13
    try have c13b2 : (9223372036854775807 < (t305 ++ t308).size + t309.size) = False := eq_false (Nat.not_lt.2 c13)
    have c13b2z := c13b2
    (try simp only [ByteArray.size_append] at c13b2z)
    replace H := Option.bind_eq_some_iff.mp H
    obtain ⟨t310, A140, H⟩ := H
    replace H : ((engrosserlaw14_item.f 163 t310).bind fun t311 => (if t304.size + t311.size ≤ 9223372036854775807 then ((engrosserlaw14_item.f 48 (t304 ++ t311)).bind fun t312 => ((engrosserlaw14_item.f 48 t312).bind fun t313 => ((der_Strip.f k t313).bind fun bt314 => ((engrosserlaw14_Cert_bytes.f k a0_0 a0_1 a0_2 l0_3 a0_4).bind fun t317 => (if a1 < 0 then (engrosserlaw14_DerTwice.j0 k (wrap64 (-(wrap64 (a1 + 1)))) a2 true bt314.2.2 t317) else (engrosserlaw14_DerTwice.j0 k a1 a2 true bt314.2.2 t317)))))) else (none))) = some r := H
    have A14 := Aside0.mk A140
    clear A140
    replace H := Option.bind_eq_some_iff.mp H
    obtain ⟨t311, A150, H⟩ := H
    replace H : (if t304.size + t311.size ≤ 9223372036854775807 then ((engrosserlaw14_item.f 48 (t304 ++ t311)).bind fun t312 => ((engrosserlaw14_item.f 48 t312).bind fun t313 => ((der_Strip.f k t313).bind fun bt314 => ((engrosserlaw14_Cert_bytes.f k a0_0 a0_1 a0_2 l0_3 a0_4).bind fun t317 => (if a1 < 0 then (engrosserlaw14_DerTwice.j0 k (wrap64 (-(wrap64 (a1 + 1)))) a2 true bt314.2.2 t317) else (engrosserlaw14_DerTwice.j0 k a1 a2 true bt314.2.2 t317)))))) else (none)) = some r := H
    have A15 := Aside0.mk A150
    clear A150
    by_cases c16 : t304.size + t311.size ≤ 9223372036854775807
    ·
     rw [if_pos c16] at H
     have c16b0 := eq_true c16
     have c16b1 : decide (t304.size + t311.size ≤ 9223372036854775807) = true := decide_eq_true c16
     try have c16b2 : (9223372036854775807 < t304.size + t311.size) = False := eq_false (Nat.not_lt.2 c16)
     replace H := Option.bind_eq_some_iff.mp H
     obtain ⟨t312, A170, H⟩ := H
     replace H : ((engrosserlaw14_item.f 48 t312).bind fun t313 => ((der_Strip.f k t313).bind fun bt314 => ((engrosserlaw14_Cert_bytes.f k a0_0 a0_1 a0_2 l0_3 a0_4).bind fun t317 => (if a1 < 0 then (engrosserlaw14_DerTwice.j0 k (wrap64 (-(wrap64 (a1 + 1)))) a2 true bt314.2.2 t317) else (engrosserlaw14_DerTwice.j0 k a1 a2 true bt314.2.2 t317))))) = some r := H
     have A17 := Aside0.mk A170
     clear A170
     replace H := Option.bind_eq_some_iff.mp H
     obtain ⟨t313, A180, H⟩ := H
     replace H : ((der_Strip.f k t313).bind fun bt314 => ((engrosserlaw14_Cert_bytes.f k a0_0 a0_1 a0_2 l0_3 a0_4).bind fun t317 => (if a1 < 0 then (engrosserlaw14_DerTwice.j0 k (wrap64 (-(wrap64 (a1 + 1)))) a2 true bt314.2.2 t317) else (engrosserlaw14_DerTwice.j0 k a1 a2 true bt314.2.2 t317)))) = some r := H
     have A18 := Aside0.mk A180
     clear A180
     replace H := Option.bind_eq_some_iff.mp H
     obtain ⟨⟨t314, t315, t316⟩, A190, H⟩ := H
     replace H : ((engrosserlaw14_Cert_bytes.f k a0_0 a0_1 a0_2 l0_3 a0_4).bind fun t317 => (if a1 < 0 then (engrosserlaw14_DerTwice.j0 k (wrap64 (-(wrap64 (a1 + 1)))) a2 true t316 t317) else (engrosserlaw14_DerTwice.j0 k a1 a2 true t316 t317))) = some r := H
     have A19 := Aside0.mk A190
     clear A190
     replace H := Option.bind_eq_some_iff.mp H
     obtain ⟨t317, A200, H⟩ := H
     replace H : (if a1 < 0 then (engrosserlaw14_DerTwice.j0 k (wrap64 (-(wrap64 (a1 + 1)))) a2 true t316 t317) else (engrosserlaw14_DerTwice.j0 k a1 a2 true t316 t317)) = some r := H
     have A20 := Aside0.mk A200
     clear A200
     have HC21 := Aside0.mk H
     clear H
     go_enter Try.func5, Try.ntmps5
     try go_wp2_with (first | ((with_reducible refine gate_dst (N := 3) rfl ?_); refine box_event ?hg (N := 3) ?hd (cs := #[.string a0_0, .string a0_1, .bool a0_2, .slice A0_3 l0_3.length c0_3, .int .i64 a0_4]) (t := 47) ?hr ?_; (case hd => rfl); (case hg => rfl); (case hr => first | (go_simp; done) | (go_simp; rfl)); intro gb302 hg w22 hbox hb; have n0_ := Aside0.mk (below_step (by repeat (first | (with_reducible first | exact HB.out | apply below_alloc | apply pw_below_drewN | apply below_drew1) | exact HB.out)) hb); have n1_ := Aside0.mk (hbox); have n2_ := Aside0.mk ((by rw [hg]; exact (below_size (by repeat (first | (with_reducible first | exact HB.out | apply below_alloc | apply pw_below_drewN | apply below_drew1) | exact HB.out))) : w.heap.size ≤ gb302)); have n3_ := Aside0.mk ((by rw [hg]; exact (below_size (by repeat (first | (with_reducible first | exact HB.out | apply below_alloc | apply pw_below_drewN | apply below_drew1) | exact HB.out))) : w.heap.size ≤ gb302)); clear HB; have HB := n0_; have BK302 := n1_; have GW302 := n2_; have GE302 := n3_; clear n0_ n1_ n2_ n3_; clear hb hbox hg) | ((with_reducible refine gate_callee (f := 7) rfl ?_); refine goesL_ (some 19) rfl rfl Try.func7 (by kernel_rfl) rfl #[] rfl (by (try simp only [List.map_toArray, List.map_cons, List.map_nil]); first | done | rfl | (simp only [List.length_drop, List.length_take]; rfl)) ?_; (with_reducible refine (engrosserlaw14_examples.calls k  true _ A4.out).mono ?_); rintro e w23 ⟨rfl, hb⟩; refine ⟨_, rfl, ?_⟩; have n0_ := Aside0.mk (blk_below (g := gb302) (o := .cells #[.string a0_0, .string a0_1, .bool a0_2, .slice A0_3 l0_3.length c0_3, .int .i64 a0_4] 47 (0, 0)) (by (with_reducible repeat (first | refine blk_drewN ?_ _ | refine blk_drew ?_ | refine blk_alloc ?_ _)); exact BK302.out) hb); have n1_ := Aside0.mk (below_step (by repeat (first | (with_reducible first | exact HB.out | apply below_alloc | apply pw_below_drewN | apply below_drew1 | refine below_set ?_ GE302.out) | exact HB.out)) hb); clear BK302; clear HB; have BK302 := n0_; have HB := n1_; clear n0_ n1_; (try clear hb); (try clear hb2); (try clear hk); (try clear hi)))
     have n0_ := Aside0.mk (blk_drew BK302.out)
     have n1_ := Aside0.mk (below_drew1 HB.out)
     clear BK302
     clear HB
     have BK302 := n0_
     have HB := n1_
     clear n0_ n1_
     refine start_ (n := 14) (S := fun w' => w'.cell? ⟨gb302, 0, none⟩ = some (.string a0_0) ∧ w'.cell? ⟨gb302, 1, none⟩ = some (.string a0_1) ∧ w'.cell? ⟨gb302, 2, none⟩ = some (.bool a0_2) ∧ w'.cell? ⟨gb302, 3, none⟩ = some (.slice A0_3 l0_3.length c0_3) ∧ w'.cell? ⟨gb302, 4, none⟩ = some (.int .i64 a0_4)) (ds := []) #[false, false, false, false, false, false, false, false, false, false, false, false, false, false] (by kernel_rfl) rfl rfl ⟨(blk_cell BK302.out 0).trans rfl, (blk_cell BK302.out 1).trans rfl, (blk_cell BK302.out 2).trans rfl, (blk_cell BK302.out 3).trans rfl, (blk_cell BK302.out 4).trans rfl⟩ (fun hHeld => ?_); refine with_tabW engrosserlaw14_DerTwice.tab4 engrosserlaw14_DerTwice.bits4 (fun HT_ HW_ => ?_)
     generalize w23.drew = w24 at BK302 HB hHeld ⊢
     refine pure_ (i := 2) (N := some 24) (v := ?_) (a' := ?_) #[false, false, true, false, false, false, false, false, false, false, false, false, false, false] rfl rfl (any_of HT_.out (by kernel_rfl)) (fun _ _ _ h => h) (Or.inl ⟨by rfl, ?_⟩) ?_ ?_
     rotate_left
     ·
      intro w'
      go_simp
      with_reducible rfl
     rotate_left
     ·
      simp only [Act.put, List.setIfInBounds_toArray, List.set_cons_zero, List.set_cons_succ, i64_w, i32_w]
      rfl
     refine take_ (i := 3) (N := some 25) (v := ?_) (a' := ?_) #[false, false, true, true, false, false, false, false, false, false, false, false, false, false] rfl rfl (take_ofW HT_.out HW_.out (by kernel_rfl)) (fun _ _ _ h => h) (Or.inl ⟨by rfl, ?_⟩) hHeld ?_ ?_
     rotate_left
     ·
      rintro w' ⟨s0, s1, s2, s3, s4⟩
      go_simp
      with_reducible rfl
     rotate_left
     ·
      simp only [Act.put, List.setIfInBounds_toArray, List.set_cons_zero, List.set_cons_succ, i64_w, i32_w]
      rfl
     refine one_ (i := 0) (N := some 22) #[true, false, true, true, false, false, false, false, false, false, false, false, false, false] rfl rfl (one_of HT_.out (by kernel_rfl)) (by decide) (fun K hK => ?_)
     refine goes_ Try.func14 (by kernel_rfl) rfl #[.int .i64 2, .string (⟨#[7]⟩ : ByteArray)] (by rfl) rfl rfl (by (try simp only [List.map_toArray, List.map_cons, List.map_nil]); first | done | rfl | (simp only [List.length_drop, List.length_take]; rfl)) ?_
     with_reducible refine (engrosserlaw14_item.calls 2 (⟨#[7]⟩ : ByteArray) t304 _ A6.out).mono ?_
     rintro e w25 ⟨rfl, hb⟩
     refine ⟨_, rfl, ?_⟩
     have n0_ := Aside0.mk (blk_below (g := gb302) (o := .cells #[.string a0_0, .string a0_1, .bool a0_2, .slice A0_3 l0_3.length c0_3, .int .i64 a0_4] 47 (0, 0)) (by (with_reducible repeat (first | refine blk_drewN ?_ _ | refine blk_drew ?_ | refine blk_alloc ?_ _)); exact BK302.out) hb)
     have n1_ := Aside0.mk (below_step (by repeat (first | (with_reducible first | exact HB.out | apply below_alloc | apply pw_below_drewN | apply below_drew1 | refine below_set ?_ GE302.out) | exact HB.out)) hb)
     clear BK302
     clear HB
     have BK302 := n0_
     have HB := n1_
     clear n0_ n1_
     (try clear hb)
     (try clear hb2)
     (try clear hk)
     (try clear hi)
     refine hK.out _ _ ⟨(blk_cell BK302.out 0).trans rfl, (blk_cell BK302.out 1).trans rfl, (blk_cell BK302.out 2).trans rfl, (blk_cell BK302.out 3).trans rfl, (blk_cell BK302.out 4).trans rfl⟩ (fun hHeld => ?_)
     clear hK K
     refine norm_ (a' := ?_) ?_ ?_
     rotate_left
     ·
      show Act.put _ (some 22) _ = _
      simp only [Act.put, List.setIfInBounds_toArray, List.set_cons_zero, List.set_cons_succ, i64_w, i32_w]
      rfl
     refine one_ (i := 1) (N := some 23) #[true, true, true, true, false, false, false, false, false, false, false, false, false, false] rfl rfl (one_of HT_.out (by kernel_rfl)) (by decide) (fun K hK => ?_)
     refine goes_ Try.func15 (by kernel_rfl) rfl #[] (by rfl) rfl rfl (by (try simp only [List.map_toArray, List.map_cons, List.map_nil]); first | done | rfl | (simp only [List.length_drop, List.length_take]; rfl)) ?_
     with_reducible refine (engrosserlaw14_poison.calls  t305 _ A7.out).mono ?_
     rintro e w26 ⟨rfl, hb⟩
     refine ⟨_, rfl, ?_⟩
     have n0_ := Aside0.mk (blk_below (g := gb302) (o := .cells #[.string a0_0, .string a0_1, .bool a0_2, .slice A0_3 l0_3.length c0_3, .int .i64 a0_4] 47 (0, 0)) (by (with_reducible repeat (first | refine blk_drewN ?_ _ | refine blk_drew ?_ | refine blk_alloc ?_ _)); exact BK302.out) hb)
     have n1_ := Aside0.mk (below_step (by repeat (first | (with_reducible first | exact HB.out | apply below_alloc | apply pw_below_drewN | apply below_drew1 | refine below_set ?_ GE302.out) | exact HB.out)) hb)
     clear BK302
     clear HB
     have BK302 := n0_
     have HB := n1_
     clear n0_ n1_
     (try clear hb)
     (try clear hb2)
     (try clear hk)
     (try clear hi)
     refine hK.out _ _ ⟨(blk_cell BK302.out 0).trans rfl, (blk_cell BK302.out 1).trans rfl, (blk_cell BK302.out 2).trans rfl, (blk_cell BK302.out 3).trans rfl, (blk_cell BK302.out 4).trans rfl⟩ (fun hHeld => ?_)
     clear hK K
     refine norm_ (a' := ?_) ?_ ?_
     rotate_left
     ·
      show Act.put _ (some 23) _ = _
      simp only [Act.put, List.setIfInBounds_toArray, List.set_cons_zero, List.set_cons_succ, i64_w, i32_w]
      rfl
     refine one_ (i := 4) (N := some 26) #[true, true, true, true, true, false, false, false, false, false, false, false, false, false] rfl rfl (one_of HT_.out (by kernel_rfl)) (by decide) (fun K hK => ?_)
     refine goes_ Try.func16 (by kernel_rfl) rfl #[.string a0_0] (by rfl) rfl rfl (by (try simp only [List.map_toArray, List.map_cons, List.map_nil]); first | done | rfl | (simp only [List.length_drop, List.length_take]; rfl)) ?_
     with_reducible refine (engrosserlaw14_cut.calls a0_0 t306 _ A8.out).mono ?_
     rintro e w27 ⟨rfl, hb⟩
     refine ⟨_, rfl, ?_⟩
     have n0_ := Aside0.mk (blk_below (g := gb302) (o := .cells #[.string a0_0, .string a0_1, .bool a0_2, .slice A0_3 l0_3.length c0_3, .int .i64 a0_4] 47 (0, 0)) (by (with_reducible repeat (first | refine blk_drewN ?_ _ | refine blk_drew ?_ | refine blk_alloc ?_ _)); exact BK302.out) hb)
     have n1_ := Aside0.mk (below_step (by repeat (first | (with_reducible first | exact HB.out | apply below_alloc | apply pw_below_drewN | apply below_drew1 | refine below_set ?_ GE302.out) | exact HB.out)) hb)
     clear BK302
     clear HB
     have BK302 := n0_
     have HB := n1_
     clear n0_ n1_
     (try clear hb)
     (try clear hb2)
     (try clear hk)
     (try clear hi)
     refine hK.out _ _ ⟨(blk_cell BK302.out 0).trans rfl, (blk_cell BK302.out 1).trans rfl, (blk_cell BK302.out 2).trans rfl, (blk_cell BK302.out 3).trans rfl, (blk_cell BK302.out 4).trans rfl⟩ (fun hHeld => ?_)
     clear hK K
     refine norm_ (a' := ?_) ?_ ?_
     rotate_left
     ·
      show Act.put _ (some 26) _ = _
      simp only [Act.put, List.setIfInBounds_toArray, List.set_cons_zero, List.set_cons_succ, i64_w, i32_w]
      rfl
     refine one_ (i := 5) (N := some 27) #[true, true, true, true, true, true, false, false, false, false, false, false, false, false] rfl rfl (one_of HT_.out (by kernel_rfl)) (by decide) (fun K hK => ?_)
     refine goes_ Try.func14 (by kernel_rfl) rfl #[.int .i64 6, .string t306] (by rfl) rfl rfl (by (try simp only [List.map_toArray, List.map_cons, List.map_nil]); first | done | rfl | (simp only [List.length_drop, List.length_take]; rfl)) ?_
     with_reducible refine (engrosserlaw14_item.calls 6 t306 t307 _ A9.out).mono ?_
     rintro e w28 ⟨rfl, hb⟩
     refine ⟨_, rfl, ?_⟩
     have n0_ := Aside0.mk (blk_below (g := gb302) (o := .cells #[.string a0_0, .string a0_1, .bool a0_2, .slice A0_3 l0_3.length c0_3, .int .i64 a0_4] 47 (0, 0)) (by (with_reducible repeat (first | refine blk_drewN ?_ _ | refine blk_drew ?_ | refine blk_alloc ?_ _)); exact BK302.out) hb)
     have n1_ := Aside0.mk (below_step (by repeat (first | (with_reducible first | exact HB.out | apply below_alloc | apply pw_below_drewN | apply below_drew1 | refine below_set ?_ GE302.out) | exact HB.out)) hb)
     clear BK302
     clear HB
     have BK302 := n0_
     have HB := n1_
     clear n0_ n1_
     (try clear hb)
     (try clear hb2)
     (try clear hk)
     (try clear hi)
     refine hK.out _ _ ⟨(blk_cell BK302.out 0).trans rfl, (blk_cell BK302.out 1).trans rfl, (blk_cell BK302.out 2).trans rfl, (blk_cell BK302.out 3).trans rfl, (blk_cell BK302.out 4).trans rfl⟩ (fun hHeld => ?_)
     clear hK K
     refine norm_ (a' := ?_) ?_ ?_
     rotate_left
     ·
      show Act.put _ (some 27) _ = _
      simp only [Act.put, List.setIfInBounds_toArray, List.set_cons_zero, List.set_cons_succ, i64_w, i32_w]
      rfl
     refine one_ (i := 6) (N := some 28) #[true, true, true, true, true, true, true, false, false, false, false, false, false, false] rfl rfl (one_of HT_.out (by kernel_rfl)) (by decide) (fun K hK => ?_)
     refine goes_ Try.func14 (by kernel_rfl) rfl #[.int .i64 48, .string t307] (by rfl) rfl rfl (by (try simp only [List.map_toArray, List.map_cons, List.map_nil]); first | done | rfl | (simp only [List.length_drop, List.length_take]; rfl)) ?_
     with_reducible refine (engrosserlaw14_item.calls 48 t307 t308 _ A10.out).mono ?_
     rintro e w29 ⟨rfl, hb⟩
     refine ⟨_, rfl, ?_⟩
     have n0_ := Aside0.mk (blk_below (g := gb302) (o := .cells #[.string a0_0, .string a0_1, .bool a0_2, .slice A0_3 l0_3.length c0_3, .int .i64 a0_4] 47 (0, 0)) (by (with_reducible repeat (first | refine blk_drewN ?_ _ | refine blk_drew ?_ | refine blk_alloc ?_ _)); exact BK302.out) hb)
     have n1_ := Aside0.mk (below_step (by repeat (first | (with_reducible first | exact HB.out | apply below_alloc | apply pw_below_drewN | apply below_drew1 | refine below_set ?_ GE302.out) | exact HB.out)) hb)
     clear BK302
     clear HB
     have BK302 := n0_
     have HB := n1_
     clear n0_ n1_
     (try clear hb)
     (try clear hb2)
     (try clear hk)
     (try clear hi)
     refine hK.out _ _ ⟨(blk_cell BK302.out 0).trans rfl, (blk_cell BK302.out 1).trans rfl, (blk_cell BK302.out 2).trans rfl, (blk_cell BK302.out 3).trans rfl, (blk_cell BK302.out 4).trans rfl⟩ (fun hHeld => ?_)
     clear hK K
     refine norm_ (a' := ?_) ?_ ?_
     rotate_left
     ·
      show Act.put _ (some 28) _ = _
      simp only [Act.put, List.setIfInBounds_toArray, List.set_cons_zero, List.set_cons_succ, i64_w, i32_w]
      rfl
     refine pure_ (i := 7) (N := some 29) (v := ?_) (a' := ?_) #[true, true, true, true, true, true, true, true, false, false, false, false, false, false] rfl rfl (any_of HT_.out (by kernel_rfl)) (fun _ _ _ h => h) (Or.inl ⟨by rfl, ?_⟩) ?_ ?_
     rotate_left
     ·
      intro w'
      go_simp
      with_reducible rfl
     rotate_left
     ·
      simp only [Act.put, List.setIfInBounds_toArray, List.set_cons_zero, List.set_cons_succ, i64_w, i32_w]
      rfl
     refine one_ (i := 8) (N := some 30) #[true, true, true, true, true, true, true, true, true, false, false, false, false, false] rfl rfl (one_of HT_.out (by kernel_rfl)) (by decide) (fun K hK => ?_)
     refine goes_ Try.func15 (by kernel_rfl) rfl #[] (by rfl) rfl rfl (by (try simp only [List.map_toArray, List.map_cons, List.map_nil]); first | done | rfl | (simp only [List.length_drop, List.length_take]; rfl)) ?_
     with_reducible refine (engrosserlaw14_poison.calls  t309 _ A12.out).mono ?_
     rintro e w30 ⟨rfl, hb⟩
     refine ⟨_, rfl, ?_⟩
     have n0_ := Aside0.mk (blk_below (g := gb302) (o := .cells #[.string a0_0, .string a0_1, .bool a0_2, .slice A0_3 l0_3.length c0_3, .int .i64 a0_4] 47 (0, 0)) (by (with_reducible repeat (first | refine blk_drewN ?_ _ | refine blk_drew ?_ | refine blk_alloc ?_ _)); exact BK302.out) hb)
     have n1_ := Aside0.mk (below_step (by repeat (first | (with_reducible first | exact HB.out | apply below_alloc | apply pw_below_drewN | apply below_drew1 | refine below_set ?_ GE302.out) | exact HB.out)) hb)
     clear BK302
     clear HB
     have BK302 := n0_
     have HB := n1_
     clear n0_ n1_
     (try clear hb)
     (try clear hb2)
     (try clear hk)
     (try clear hi)
     refine hK.out _ _ ⟨(blk_cell BK302.out 0).trans rfl, (blk_cell BK302.out 1).trans rfl, (blk_cell BK302.out 2).trans rfl, (blk_cell BK302.out 3).trans rfl, (blk_cell BK302.out 4).trans rfl⟩ (fun hHeld => ?_)
     clear hK K
     refine norm_ (a' := ?_) ?_ ?_
     rotate_left
     ·
      show Act.put _ (some 30) _ = _
      simp only [Act.put, List.setIfInBounds_toArray, List.set_cons_zero, List.set_cons_succ, i64_w, i32_w]
      rfl
     refine pure_ (i := 9) (N := some 31) (v := ?_) (a' := ?_) #[true, true, true, true, true, true, true, true, true, true, false, false, false, false] rfl rfl (any_of HT_.out (by kernel_rfl)) (fun _ _ _ h => h) (Or.inl ⟨by rfl, ?_⟩) ?_ ?_
     rotate_left
     ·
      intro w'
      go_simp
      with_reducible rfl
     rotate_left
     ·
      simp only [Act.put, List.setIfInBounds_toArray, List.set_cons_zero, List.set_cons_succ, i64_w, i32_w]
      rfl
     refine one_ (i := 10) (N := some 32) #[true, true, true, true, true, true, true, true, true, true, true, false, false, false] rfl rfl (one_of HT_.out (by kernel_rfl)) (by decide) (fun K hK => ?_)
     refine goes_ Try.func14 (by kernel_rfl) rfl #[.int .i64 48, .string ((t305 ++ t308) ++ t309)] (by rfl) rfl rfl (by (try simp only [List.map_toArray, List.map_cons, List.map_nil]); first | done | rfl | (simp only [List.length_drop, List.length_take]; rfl)) ?_
     with_reducible refine (engrosserlaw14_item.calls 48 ((t305 ++ t308) ++ t309) t310 _ A14.out).mono ?_
     rintro e w31 ⟨rfl, hb⟩
     refine ⟨_, rfl, ?_⟩
     have n0_ := Aside0.mk (blk_below (g := gb302) (o := .cells #[.string a0_0, .string a0_1, .bool a0_2, .slice A0_3 l0_3.length c0_3, .int .i64 a0_4] 47 (0, 0)) (by (with_reducible repeat (first | refine blk_drewN ?_ _ | refine blk_drew ?_ | refine blk_alloc ?_ _)); exact BK302.out) hb)
     have n1_ := Aside0.mk (below_step (by repeat (first | (with_reducible first | exact HB.out | apply below_alloc | apply pw_below_drewN | apply below_drew1 | refine below_set ?_ GE302.out) | exact HB.out)) hb)
     clear BK302
     clear HB
     have BK302 := n0_
     have HB := n1_
     clear n0_ n1_
     (try clear hb)
     (try clear hb2)
     (try clear hk)
     (try clear hi)
     refine hK.out _ _ ⟨(blk_cell BK302.out 0).trans rfl, (blk_cell BK302.out 1).trans rfl, (blk_cell BK302.out 2).trans rfl, (blk_cell BK302.out 3).trans rfl, (blk_cell BK302.out 4).trans rfl⟩ (fun hHeld => ?_)
     clear hK K
     refine norm_ (a' := ?_) ?_ ?_
     rotate_left
     ·
      show Act.put _ (some 32) _ = _
      simp only [Act.put, List.setIfInBounds_toArray, List.set_cons_zero, List.set_cons_succ, i64_w, i32_w]
      rfl
     refine one_ (i := 11) (N := some 33) #[true, true, true, true, true, true, true, true, true, true, true, true, false, false] rfl rfl (one_of HT_.out (by kernel_rfl)) (by decide) (fun K hK => ?_)
     refine goes_ Try.func14 (by kernel_rfl) rfl #[.int .i64 163, .string t310] (by rfl) rfl rfl (by (try simp only [List.map_toArray, List.map_cons, List.map_nil]); first | done | rfl | (simp only [List.length_drop, List.length_take]; rfl)) ?_
     with_reducible refine (engrosserlaw14_item.calls 163 t310 t311 _ A15.out).mono ?_
     rintro e w32 ⟨rfl, hb⟩
     refine ⟨_, rfl, ?_⟩
     have n0_ := Aside0.mk (blk_below (g := gb302) (o := .cells #[.string a0_0, .string a0_1, .bool a0_2, .slice A0_3 l0_3.length c0_3, .int .i64 a0_4] 47 (0, 0)) (by (with_reducible repeat (first | refine blk_drewN ?_ _ | refine blk_drew ?_ | refine blk_alloc ?_ _)); exact BK302.out) hb)
     have n1_ := Aside0.mk (below_step (by repeat (first | (with_reducible first | exact HB.out | apply below_alloc | apply pw_below_drewN | apply below_drew1 | refine below_set ?_ GE302.out) | exact HB.out)) hb)
     clear BK302
     clear HB
     have BK302 := n0_
     have HB := n1_
     clear n0_ n1_
     (try clear hb)
     (try clear hb2)
     (try clear hk)
     (try clear hi)
     refine hK.out _ _ ⟨(blk_cell BK302.out 0).trans rfl, (blk_cell BK302.out 1).trans rfl, (blk_cell BK302.out 2).trans rfl, (blk_cell BK302.out 3).trans rfl, (blk_cell BK302.out 4).trans rfl⟩ (fun hHeld => ?_)
     clear hK K
     refine norm_ (a' := ?_) ?_ ?_
     rotate_left
     ·
      show Act.put _ (some 33) _ = _
      simp only [Act.put, List.setIfInBounds_toArray, List.set_cons_zero, List.set_cons_succ, i64_w, i32_w]
      rfl
     refine pure_ (i := 12) (N := some 34) (v := ?_) (a' := ?_) #[true, true, true, true, true, true, true, true, true, true, true, true, true, false] rfl rfl (any_of HT_.out (by kernel_rfl)) (fun _ _ _ h => h) (Or.inl ⟨by rfl, ?_⟩) ?_ ?_
     rotate_left
     ·
      intro w'
      go_simp
      with_reducible rfl
     rotate_left
     ·
      simp only [Act.put, List.setIfInBounds_toArray, List.set_cons_zero, List.set_cons_succ, i64_w, i32_w]
      rfl
     refine pure_ (i := 13) (N := some 8) (v := ?_) (a' := ?_) #[true, true, true, true, true, true, true, true, true, true, true, true, true, true] rfl rfl (any_of HT_.out (by kernel_rfl)) (fun _ _ _ h => h) (Or.inl ⟨by rfl, ?_⟩) ?_ ?_
     rotate_left
     ·
      intro w'
      go_simp
      with_reducible rfl
     rotate_left
     ·
      simp only [Act.put, List.setIfInBounds_toArray, List.set_cons_zero, List.set_cons_succ, i64_w, i32_w]
      rfl
     refine done_ (done_of HT_.out (by kernel_rfl)) ?_
     go_upto_if 46 with (first | ((with_reducible refine gate_callee (f := 14) rfl ?_); refine goesL_ (some 37) rfl rfl Try.func14 (by kernel_rfl) rfl #[.int .i64 48, .string (t304 ++ t311)] rfl (by (try simp only [List.map_toArray, List.map_cons, List.map_nil]); first | done | rfl | (simp only [List.length_drop, List.length_take]; rfl)) ?_; (with_reducible refine (engrosserlaw14_item.calls 48 (t304 ++ t311) t312 _ A17.out).mono ?_); rintro e w33 ⟨rfl, hb⟩; refine ⟨_, rfl, ?_⟩; have n0_ := Aside0.mk (blk_below (g := gb302) (o := .cells #[.string a0_0, .string a0_1, .bool a0_2, .slice A0_3 l0_3.length c0_3, .int .i64 a0_4] 47 (0, 0)) (by (with_reducible repeat (first | refine blk_drewN ?_ _ | refine blk_drew ?_ | refine blk_alloc ?_ _)); exact BK302.out) hb); have n1_ := Aside0.mk (below_step (by repeat (first | (with_reducible first | exact HB.out | apply below_alloc | apply pw_below_drewN | apply below_drew1 | refine below_set ?_ GE302.out) | exact HB.out)) hb); clear BK302; clear HB; have BK302 := n0_; have HB := n1_; clear n0_ n1_; (try clear hb); (try clear hb2); (try clear hk); (try clear hi)) | ((with_reducible refine gate_callee (f := 14) rfl ?_); refine goesL_ (some 38) rfl rfl Try.func14 (by kernel_rfl) rfl #[.int .i64 48, .string t312] rfl (by (try simp only [List.map_toArray, List.map_cons, List.map_nil]); first | done | rfl | (simp only [List.length_drop, List.length_take]; rfl)) ?_; (with_reducible refine (engrosserlaw14_item.calls 48 t312 t313 _ A18.out).mono ?_); rintro e w34 ⟨rfl, hb⟩; refine ⟨_, rfl, ?_⟩; have n0_ := Aside0.mk (blk_below (g := gb302) (o := .cells #[.string a0_0, .string a0_1, .bool a0_2, .slice A0_3 l0_3.length c0_3, .int .i64 a0_4] 47 (0, 0)) (by (with_reducible repeat (first | refine blk_drewN ?_ _ | refine blk_drew ?_ | refine blk_alloc ?_ _)); exact BK302.out) hb); have n1_ := Aside0.mk (below_step (by repeat (first | (with_reducible first | exact HB.out | apply below_alloc | apply pw_below_drewN | apply below_drew1 | refine below_set ?_ GE302.out) | exact HB.out)) hb); clear BK302; clear HB; have BK302 := n0_; have HB := n1_; clear n0_ n1_; (try clear hb); (try clear hb2); (try clear hk); (try clear hi)) | ((with_reducible refine gate_callee (f := 17) rfl ?_); refine goesL_ (some 39) rfl rfl Try.func17 (by kernel_rfl) rfl #[.string t313] rfl (by (try simp only [List.map_toArray, List.map_cons, List.map_nil]); first | done | rfl | (simp only [List.length_drop, List.length_take]; rfl)) ?_; (with_reducible refine (der_Strip.calls k t313 t314 t315 t316 _ A19.out).mono ?_); rintro e w35 ⟨rfl, hb⟩; refine ⟨_, rfl, ?_⟩; have n0_ := Aside0.mk (blk_below (g := gb302) (o := .cells #[.string a0_0, .string a0_1, .bool a0_2, .slice A0_3 l0_3.length c0_3, .int .i64 a0_4] 47 (0, 0)) (by (with_reducible repeat (first | refine blk_drewN ?_ _ | refine blk_drew ?_ | refine blk_alloc ?_ _)); exact BK302.out) hb); have n1_ := Aside0.mk (below_step (by repeat (first | (with_reducible first | exact HB.out | apply below_alloc | apply pw_below_drewN | apply below_drew1 | refine below_set ?_ GE302.out) | exact HB.out)) hb); clear BK302; clear HB; have BK302 := n0_; have HB := n1_; clear n0_ n1_; (try clear hb); (try clear hb2); (try clear hk); (try clear hi); have hcz36_0 : w35.cell? ⟨gb302, 0, none⟩ = some (.string a0_0) := (blk_cell BK302.out 0).trans rfl; have hcz36_1 : w35.cell? ⟨gb302, 1, none⟩ = some (.string a0_1) := (blk_cell BK302.out 1).trans rfl; have hcz36_2 : w35.cell? ⟨gb302, 2, none⟩ = some (.bool a0_2) := (blk_cell BK302.out 2).trans rfl; have hcz36_3 : w35.cell? ⟨gb302, 3, none⟩ = some (.slice A0_3 l0_3.length c0_3) := (blk_cell BK302.out 3).trans rfl; have hcz36_4 : w35.cell? ⟨gb302, 4, none⟩ = some (.int .i64 a0_4) := (blk_cell BK302.out 4).trans rfl; have hfz36_0 := blk_frozen BK302.out 0; have hfz36_1 := blk_frozen BK302.out 1; have hfz36_2 := blk_frozen BK302.out 2; have hfz36_3 := blk_frozen BK302.out 3; have hfz36_4 := blk_frozen BK302.out 4) | ((with_reducible refine gate_callee (f := 18) rfl ?_); refine goesL_ (some 44) rfl rfl Try.func18 (by kernel_rfl) rfl #[.agg #[.string a0_0, .string a0_1, .bool a0_2, .slice A0_3 l0_3.length c0_3, .int .i64 a0_4]] rfl (by (try simp only [List.map_toArray, List.map_cons, List.map_nil]); first | done | rfl | (simp only [List.length_drop, List.length_take]; rfl)) ?_; (with_reducible refine (engrosserlaw14_Cert_bytes.calls k a0_0 a0_1 a0_2 _ _ l0_3 a0_4 t317 _ ?side1 ?side2 A20.out).mono ?_); (case side1 => repeat (first | exact (Kd.C_below HR0_3.out HB.out) | (with_reducible refine Kd.C_alloc ?_ _) | (with_reducible refine Kd.C_drewN ?_ _) | (with_reducible refine Kd.C_drew ?_))); (case side2 => exact HC0_3.out); rintro e w37 ⟨rfl, hb⟩; refine ⟨_, rfl, ?_⟩; have n0_ := Aside0.mk (blk_below (g := gb302) (o := .cells #[.string a0_0, .string a0_1, .bool a0_2, .slice A0_3 l0_3.length c0_3, .int .i64 a0_4] 47 (0, 0)) (by (with_reducible repeat (first | refine blk_drewN ?_ _ | refine blk_drew ?_ | refine blk_alloc ?_ _)); exact BK302.out) hb); have n1_ := Aside0.mk (below_step (by repeat (first | (with_reducible first | exact HB.out | apply below_alloc | apply pw_below_drewN | apply below_drew1 | refine below_set ?_ GE302.out) | exact HB.out)) hb); clear BK302; clear HB; have BK302 := n0_; have HB := n1_; clear n0_ n1_; (try clear hb); (try clear hb2); (try clear hk); (try clear hi)))
     (try simp only [Act.put, List.setIfInBounds_toArray, List.set_cons_zero, List.set_cons_succ])
     go_cut [1] (fun v1 wc => ∃ (kq : Nat) (x1_20 : Int), v1 = .int .i64 x1_20 ∧ Aside0 (engrosserlaw14_DerTwice.j0 kq x1_20 a2 true t316 t317 = some r) ∧ Aside0 (kq ≤ k) ∧ Aside0 (wc.heap[gb302]? = some (.cells #[.string a0_0, .string a0_1, .bool a0_2, (.slice A0_3 l0_3.length c0_3), .int .i64 a0_4] 47 (0, 0))) ∧ Aside0 (Below w.heap.size w wc))
     case first =>
      have H := HC21.out
      clear HC21
      by_cases c38 : a1 < 0
      ·
       rw [if_pos c38] at H
       have c38b0 : decide (a1 < 0) = true := decide_eq_true c38
       clear c38
       (first | rw [c38b0] | (simp only [i64_w, i32_w]; rw [c38b0]) | skip)
       have H' := Aside0.mk H
       clear H
       go_wp2
       go_meet
       case rel => exact ⟨_, (wrap64 (-(wrap64 (a1 + 1)))), (by first | rfl | (simp; done) | (simp [*]; done)), H', ⟨by first | omega | exact Nat.le_refl _⟩, ⟨by (with_reducible repeat (first | refine blk_drewN ?_ _ | refine blk_drew ?_ | refine blk_alloc ?_ _)); exact BK302.out⟩, ⟨by repeat (first | (with_reducible first | exact HB.out | apply below_alloc | apply pw_below_drewN | apply below_drew1 | refine below_set ?_ GE302.out) | exact HB.out)⟩⟩
      ·
       rw [if_neg c38] at H
       have c38b0 : decide (a1 < 0) = false := decide_eq_false c38
       clear c38
       (first | rw [c38b0] | (simp only [i64_w, i32_w]; rw [c38b0]) | skip)
       have H' := Aside0.mk H
       clear H
       go_wp2
       go_meet
       case rel => exact ⟨_, (a1), (by first | rfl | (simp; done) | (simp [*]; done)), H', ⟨by first | omega | exact Nat.le_refl _⟩, ⟨by (with_reducible repeat (first | refine blk_drewN ?_ _ | refine blk_drew ?_ | refine blk_alloc ?_ _)); exact BK302.out⟩, ⟨by repeat (first | (with_reducible first | exact HB.out | apply below_alloc | apply pw_below_drewN | apply below_drew1 | refine below_set ?_ GE302.out) | exact HB.out)⟩⟩
     case rest =>
      clear HC21
      try clear c1
      try clear p2
      try clear c3
      try clear c5
      try clear p6
      try clear c7
      try clear c11
      try clear c11b0
      try clear c11b1
      try clear c11b2
      try clear c13
      try clear c13b0
      try clear c13b1
      try clear c13b2
      try clear c14
      try clear c15
      try clear c16
      try clear c16b0
      try clear c16b1
      try clear c16b2
      try clear c17
      try clear c18
      try clear c38
      try clear c38b0
      try clear hcz36_0
      try clear hcz36_1
      try clear hcz36_2
      try clear hcz36_3
      try clear hcz36_4
      try clear hfz36_0
      try clear hfz36_1
      try clear hfz36_2
      try clear hfz36_3
      try clear hfz36_4
      obtain ⟨kq, x1_20, rfl, HA, HJ20, BK302, HB⟩ := hcut
      cases kq with
      | zero => exact absurd HA.out (by simp [engrosserlaw14_DerTwice.j0])
      | succ kj20 =>
       have H := HA.out
       clear HA
       simp only [engrosserlaw14_DerTwice.j0] at H
       by_cases c39 : (t317.size : Int) = 0
       ·
        rw [if_pos c39] at H
        exact absurd H (by simp)
       ·
        rw [if_neg c39] at H
        have c39b0 : ((t317.size : Int) == 0) = false := beq_eq_false_iff_ne.mpr c39
        have c39b1 : ((t317.size : Int) != 0) = true := bne_iff_ne.mpr c39
        obtain ⟨ji40, hji40⟩ : ∃ j_ : Int, (Int.tmod x1_20 (t317.size : Int)) = j_ := ⟨_, rfl⟩
        replace H : (if 0 ≤ (ji40) then (if (ji40) ≤ (t317.size : Int) then ((der_Strip.f kj20 (t317.extract 0 ((ji40) : Int).toNat)).bind fun bt318 => (if 0 ≤ (mn (a2.size : Int) 100) then (if (mn (a2.size : Int) 100) ≤ (a2.size : Int) then (if t317.size + (a2.extract 0 ((mn (a2.size : Int) 100) : Int).toNat).size ≤ 9223372036854775807 then ((der_Strip.f kj20 (t317 ++ (a2.extract 0 ((mn (a2.size : Int) 100) : Int).toNat))).bind fun bt321 => (if true = true then (if t316 = 2 then (if bt318.2.2 = 2 then (if a2.toList = ([] : List UInt8) then (some true) else (some (bt321.2.2 == 2))) else (some false)) else (some false)) else (some false))) else (none)) else (none)) else (none))) else (none)) else (none)) = some r := by first | (rw [hji40] at H; exact H) | (simp only [hji40] at H ⊢; exact H)
        by_cases c41 : 0 ≤ (ji40)
        ·
         rw [if_pos c41] at H
         have c41b0 := eq_true c41
         have c41b1 : decide (0 ≤ (ji40)) = true := decide_eq_true c41
         clear c41
         by_cases c42 : (ji40) ≤ (t317.size : Int)
         ·
          rw [if_pos c42] at H
          have c42b0 := eq_true c42
          have c42b1 : decide ((ji40) ≤ (t317.size : Int)) = true := decide_eq_true c42
          clear c42
          replace H := Option.bind_eq_some_iff.mp H
          obtain ⟨⟨t318, t319, t320⟩, A430, H⟩ := H
          replace H : (if 0 ≤ (mn (a2.size : Int) 100) then (if (mn (a2.size : Int) 100) ≤ (a2.size : Int) then (if t317.size + (a2.extract 0 ((mn (a2.size : Int) 100) : Int).toNat).size ≤ 9223372036854775807 then ((der_Strip.f kj20 (t317 ++ (a2.extract 0 ((mn (a2.size : Int) 100) : Int).toNat))).bind fun bt321 => (if true = true then (if t316 = 2 then (if t320 = 2 then (if a2.toList = ([] : List UInt8) then (some true) else (some (bt321.2.2 == 2))) else (some false)) else (some false)) else (some false))) else (none)) else (none)) else (none)) = some r := H
          have A43 := Aside0.mk A430
          clear A430
          obtain ⟨ji44, hji44⟩ : ∃ j_ : Int, (mn (a2.size : Int) 100) = j_ := ⟨_, rfl⟩
          replace H : (if 0 ≤ (ji44) then (if (ji44) ≤ (a2.size : Int) then (if t317.size + (a2.extract 0 ((ji44) : Int).toNat).size ≤ 9223372036854775807 then ((der_Strip.f kj20 (t317 ++ (a2.extract 0 ((ji44) : Int).toNat))).bind fun bt321 => (if true = true then (if t316 = 2 then (if t320 = 2 then (if a2.toList = ([] : List UInt8) then (some true) else (some (bt321.2.2 == 2))) else (some false)) else (some false)) else (some false))) else (none)) else (none)) else (none)) = some r := by first | (rw [hji44] at H; exact H) | (simp only [hji44] at H ⊢; exact H)
          (try rw [hji44] at A43)
          have hji44_ : (if 100 < (a2.size : Int) then 100 else (a2.size : Int)) = ji44 := hji44
          by_cases c45 : 0 ≤ (ji44)
          ·
           rw [if_pos c45] at H
           have c45b0 := eq_true c45
           have c45b1 : decide (0 ≤ (ji44)) = true := decide_eq_true c45
           clear c45
           by_cases c46 : (ji44) ≤ (a2.size : Int)
           ·
            rw [if_pos c46] at H
            have c46b0 := eq_true c46
            have c46b1 : decide ((ji44) ≤ (a2.size : Int)) = true := decide_eq_true c46
            clear c46
            by_cases c47 : t317.size + (a2.extract 0 ((ji44) : Int).toNat).size ≤ 9223372036854775807
            ·
             rw [if_pos c47] at H
             have c47b0 := eq_true c47
             have c47b1 : decide (t317.size + (a2.extract 0 ((ji44) : Int).toNat).size ≤ 9223372036854775807) = true := decide_eq_true c47
             try have c47b2 : (9223372036854775807 < t317.size + (a2.extract 0 ((ji44) : Int).toNat).size) = False := eq_false (Nat.not_lt.2 c47)
             replace H := Option.bind_eq_some_iff.mp H
             obtain ⟨⟨t321, t322, t323⟩, A480, H⟩ := H
             replace H : (if true = true then (if t316 = 2 then (if t320 = 2 then (if a2.toList = ([] : List UInt8) then (some true) else (some (t323 == 2))) else (some false)) else (some false)) else (some false)) = some r := H
             have A48 := Aside0.mk A480
             clear A480
             by_cases c49 : true = true
             ·
              clear c49
              have H1 : (if t316 = 2 then (if t320 = 2 then (if a2.toList = ([] : List UInt8) then (some true) else (some (t323 == 2))) else (some false)) else (some false)) = some r := by first | (rw [if_pos rfl] at H; exact H) | (rw [if_pos trivial] at H; exact H)
              clear H
              have H := H1
              clear H1
              by_cases c50 : t316 = 2
              ·
               rw [if_pos c50] at H
               have c50b0 : (t316 == 2) = true := beq_iff_eq.mpr c50
               have c50b1 : (t316 != 2) = false := bne_eq_false_iff_eq.mpr c50
               clear c50
               by_cases c51 : t320 = 2
               ·
                rw [if_pos c51] at H
                have c51b0 : (t320 == 2) = true := beq_iff_eq.mpr c51
                have c51b1 : (t320 != 2) = false := bne_eq_false_iff_eq.mpr c51
                clear c51
                by_cases c52 : a2.toList = ([] : List UInt8)
                ·
                 rw [if_pos c52] at H
                 have c52b0 : (a2.toList == ([] : List UInt8)) = true := beq_iff_eq.mpr c52
                 have c52b1 : (a2.toList != ([] : List UInt8)) = false := bne_eq_false_iff_eq.mpr c52
                 have c52b5 : (!a2.toList.isEmpty) = false := by simpa using c52
                 clear c52
                 obtain rfl := Option.some.inj H
                 go_wp2_with (first | ((with_reducible refine gate_callee (f := 17) rfl ?_); refine goesL_ (some 57) rfl rfl Try.func17 (by kernel_rfl) rfl #[.string (t317.extract 0 ((ji40) : Int).toNat)] rfl (by (try simp only [List.map_toArray, List.map_cons, List.map_nil]); first | done | (simp only [hji40]; rfl) | rfl | (simp only [List.length_drop, List.length_take]; rfl)) ?_; (with_reducible refine (der_Strip.calls kj20 (t317.extract 0 ((ji40) : Int).toNat) t318 t319 t320 _ A43.out).mono ?_); rintro e w53 ⟨rfl, hb⟩; refine ⟨_, rfl, ?_⟩; have n0_ := Aside0.mk (blk_below (g := gb302) (o := .cells #[.string a0_0, .string a0_1, .bool a0_2, .slice A0_3 l0_3.length c0_3, .int .i64 a0_4] 47 (0, 0)) (by (with_reducible repeat (first | refine blk_drewN ?_ _ | refine blk_drew ?_ | refine blk_alloc ?_ _)); exact BK302.out) hb); have n1_ := Aside0.mk (below_step (by repeat (first | (with_reducible first | exact HB.out | apply below_alloc | apply pw_below_drewN | apply below_drew1 | refine below_set ?_ GE302.out) | exact HB.out)) hb); clear BK302; clear HB; have BK302 := n0_; have HB := n1_; clear n0_ n1_; (try clear hb); (try clear hb2); (try clear hk); (try clear hi)) | ((with_reducible refine gate_callee (f := 17) rfl ?_); refine goesL_ (some 69) rfl rfl Try.func17 (by kernel_rfl) rfl #[.string (t317 ++ (a2.extract 0 ((ji44) : Int).toNat))] rfl (by (try simp only [List.map_toArray, List.map_cons, List.map_nil]); first | done | (simp only [hji44]; rfl) | rfl | (simp only [List.length_drop, List.length_take]; rfl)) ?_; (with_reducible refine (der_Strip.calls kj20 (t317 ++ (a2.extract 0 ((ji44) : Int).toNat)) t321 t322 t323 _ A48.out).mono ?_); rintro e w54 ⟨rfl, hb⟩; refine ⟨_, rfl, ?_⟩; have n0_ := Aside0.mk (blk_below (g := gb302) (o := .cells #[.string a0_0, .string a0_1, .bool a0_2, .slice A0_3 l0_3.length c0_3, .int .i64 a0_4] 47 (0, 0)) (by (with_reducible repeat (first | refine blk_drewN ?_ _ | refine blk_drew ?_ | refine blk_alloc ?_ _)); exact BK302.out) hb); have n1_ := Aside0.mk (below_step (by repeat (first | (with_reducible first | exact HB.out | apply below_alloc | apply pw_below_drewN | apply below_drew1 | refine below_set ?_ GE302.out) | exact HB.out)) hb); clear BK302; clear HB; have BK302 := n0_; have HB := n1_; clear n0_ n1_; (try clear hb); (try clear hb2); (try clear hk); (try clear hi)))
                 go_ret
                 exact ⟨by first | rfl | (simp [errW_none, errW_some] <;> rfl) | (simp only [← hji40, ← hji44]; first | rfl | (simp [errW_none, errW_some] <;> rfl)) | (simp [*, errW_none, errW_some] <;> rfl), by repeat (first | (with_reducible first | exact HB.out | apply below_alloc | apply pw_below_drewN | apply below_drew1 | refine below_set ?_ GE302.out) | exact HB.out)⟩
                ·
                 rw [if_neg c52] at H
                 have c52b0 : (a2.toList == ([] : List UInt8)) = false := beq_eq_false_iff_ne.mpr c52
                 have c52b1 : (a2.toList != ([] : List UInt8)) = true := bne_iff_ne.mpr c52
                 have c52b5 : (!a2.toList.isEmpty) = true := by simpa using c52
                 obtain rfl := Option.some.inj H
                 go_wp2_with (first | ((with_reducible refine gate_callee (f := 17) rfl ?_); refine goesL_ (some 57) rfl rfl Try.func17 (by kernel_rfl) rfl #[.string (t317.extract 0 ((ji40) : Int).toNat)] rfl (by (try simp only [List.map_toArray, List.map_cons, List.map_nil]); first | done | (simp only [hji40]; rfl) | rfl | (simp only [List.length_drop, List.length_take]; rfl)) ?_; (with_reducible refine (der_Strip.calls kj20 (t317.extract 0 ((ji40) : Int).toNat) t318 t319 t320 _ A43.out).mono ?_); rintro e w55 ⟨rfl, hb⟩; refine ⟨_, rfl, ?_⟩; have n0_ := Aside0.mk (blk_below (g := gb302) (o := .cells #[.string a0_0, .string a0_1, .bool a0_2, .slice A0_3 l0_3.length c0_3, .int .i64 a0_4] 47 (0, 0)) (by (with_reducible repeat (first | refine blk_drewN ?_ _ | refine blk_drew ?_ | refine blk_alloc ?_ _)); exact BK302.out) hb); have n1_ := Aside0.mk (below_step (by repeat (first | (with_reducible first | exact HB.out | apply below_alloc | apply pw_below_drewN | apply below_drew1 | refine below_set ?_ GE302.out) | exact HB.out)) hb); clear BK302; clear HB; have BK302 := n0_; have HB := n1_; clear n0_ n1_; (try clear hb); (try clear hb2); (try clear hk); (try clear hi)) | ((with_reducible refine gate_callee (f := 17) rfl ?_); refine goesL_ (some 69) rfl rfl Try.func17 (by kernel_rfl) rfl #[.string (t317 ++ (a2.extract 0 ((ji44) : Int).toNat))] rfl (by (try simp only [List.map_toArray, List.map_cons, List.map_nil]); first | done | (simp only [hji44]; rfl) | rfl | (simp only [List.length_drop, List.length_take]; rfl)) ?_; (with_reducible refine (der_Strip.calls kj20 (t317 ++ (a2.extract 0 ((ji44) : Int).toNat)) t321 t322 t323 _ A48.out).mono ?_); rintro e w56 ⟨rfl, hb⟩; refine ⟨_, rfl, ?_⟩; have n0_ := Aside0.mk (blk_below (g := gb302) (o := .cells #[.string a0_0, .string a0_1, .bool a0_2, .slice A0_3 l0_3.length c0_3, .int .i64 a0_4] 47 (0, 0)) (by (with_reducible repeat (first | refine blk_drewN ?_ _ | refine blk_drew ?_ | refine blk_alloc ?_ _)); exact BK302.out) hb); have n1_ := Aside0.mk (below_step (by repeat (first | (with_reducible first | exact HB.out | apply below_alloc | apply pw_below_drewN | apply below_drew1 | refine below_set ?_ GE302.out) | exact HB.out)) hb); clear BK302; clear HB; have BK302 := n0_; have HB := n1_; clear n0_ n1_; (try clear hb); (try clear hb2); (try clear hk); (try clear hi)))
                 go_ret
                 exact ⟨by first | rfl | (simp [errW_none, errW_some] <;> rfl) | (simp only [← hji40, ← hji44]; first | rfl | (simp [errW_none, errW_some] <;> rfl)) | (simp [*, errW_none, errW_some] <;> rfl), by repeat (first | (with_reducible first | exact HB.out | apply below_alloc | apply pw_below_drewN | apply below_drew1 | refine below_set ?_ GE302.out) | exact HB.out)⟩
               ·
                rw [if_neg c51] at H
                have c51b0 : (t320 == 2) = false := beq_eq_false_iff_ne.mpr c51
                have c51b1 : (t320 != 2) = true := bne_iff_ne.mpr c51
                obtain rfl := Option.some.inj H
                go_wp2_with (first | ((with_reducible refine gate_callee (f := 17) rfl ?_); refine goesL_ (some 57) rfl rfl Try.func17 (by kernel_rfl) rfl #[.string (t317.extract 0 ((ji40) : Int).toNat)] rfl (by (try simp only [List.map_toArray, List.map_cons, List.map_nil]); first | done | (simp only [hji40]; rfl) | rfl | (simp only [List.length_drop, List.length_take]; rfl)) ?_; (with_reducible refine (der_Strip.calls kj20 (t317.extract 0 ((ji40) : Int).toNat) t318 t319 t320 _ A43.out).mono ?_); rintro e w57 ⟨rfl, hb⟩; refine ⟨_, rfl, ?_⟩; have n0_ := Aside0.mk (blk_below (g := gb302) (o := .cells #[.string a0_0, .string a0_1, .bool a0_2, .slice A0_3 l0_3.length c0_3, .int .i64 a0_4] 47 (0, 0)) (by (with_reducible repeat (first | refine blk_drewN ?_ _ | refine blk_drew ?_ | refine blk_alloc ?_ _)); exact BK302.out) hb); have n1_ := Aside0.mk (below_step (by repeat (first | (with_reducible first | exact HB.out | apply below_alloc | apply pw_below_drewN | apply below_drew1 | refine below_set ?_ GE302.out) | exact HB.out)) hb); clear BK302; clear HB; have BK302 := n0_; have HB := n1_; clear n0_ n1_; (try clear hb); (try clear hb2); (try clear hk); (try clear hi)) | ((with_reducible refine gate_callee (f := 17) rfl ?_); refine goesL_ (some 69) rfl rfl Try.func17 (by kernel_rfl) rfl #[.string (t317 ++ (a2.extract 0 ((ji44) : Int).toNat))] rfl (by (try simp only [List.map_toArray, List.map_cons, List.map_nil]); first | done | (simp only [hji44]; rfl) | rfl | (simp only [List.length_drop, List.length_take]; rfl)) ?_; (with_reducible refine (der_Strip.calls kj20 (t317 ++ (a2.extract 0 ((ji44) : Int).toNat)) t321 t322 t323 _ A48.out).mono ?_); rintro e w58 ⟨rfl, hb⟩; refine ⟨_, rfl, ?_⟩; have n0_ := Aside0.mk (blk_below (g := gb302) (o := .cells #[.string a0_0, .string a0_1, .bool a0_2, .slice A0_3 l0_3.length c0_3, .int .i64 a0_4] 47 (0, 0)) (by (with_reducible repeat (first | refine blk_drewN ?_ _ | refine blk_drew ?_ | refine blk_alloc ?_ _)); exact BK302.out) hb); have n1_ := Aside0.mk (below_step (by repeat (first | (with_reducible first | exact HB.out | apply below_alloc | apply pw_below_drewN | apply below_drew1 | refine below_set ?_ GE302.out) | exact HB.out)) hb); clear BK302; clear HB; have BK302 := n0_; have HB := n1_; clear n0_ n1_; (try clear hb); (try clear hb2); (try clear hk); (try clear hi)))
                go_ret
                exact ⟨by first | rfl | (simp [errW_none, errW_some] <;> rfl) | (simp only [← hji40, ← hji44]; first | rfl | (simp [errW_none, errW_some] <;> rfl)) | (simp [*, errW_none, errW_some] <;> rfl), by repeat (first | (with_reducible first | exact HB.out | apply below_alloc | apply pw_below_drewN | apply below_drew1 | refine below_set ?_ GE302.out) | exact HB.out)⟩
              ·
               rw [if_neg c50] at H
               have c50b0 : (t316 == 2) = false := beq_eq_false_iff_ne.mpr c50
               have c50b1 : (t316 != 2) = true := bne_iff_ne.mpr c50
               obtain rfl := Option.some.inj H
               go_wp2_with (first | ((with_reducible refine gate_callee (f := 17) rfl ?_); refine goesL_ (some 57) rfl rfl Try.func17 (by kernel_rfl) rfl #[.string (t317.extract 0 ((ji40) : Int).toNat)] rfl (by (try simp only [List.map_toArray, List.map_cons, List.map_nil]); first | done | (simp only [hji40]; rfl) | rfl | (simp only [List.length_drop, List.length_take]; rfl)) ?_; (with_reducible refine (der_Strip.calls kj20 (t317.extract 0 ((ji40) : Int).toNat) t318 t319 t320 _ A43.out).mono ?_); rintro e w59 ⟨rfl, hb⟩; refine ⟨_, rfl, ?_⟩; have n0_ := Aside0.mk (blk_below (g := gb302) (o := .cells #[.string a0_0, .string a0_1, .bool a0_2, .slice A0_3 l0_3.length c0_3, .int .i64 a0_4] 47 (0, 0)) (by (with_reducible repeat (first | refine blk_drewN ?_ _ | refine blk_drew ?_ | refine blk_alloc ?_ _)); exact BK302.out) hb); have n1_ := Aside0.mk (below_step (by repeat (first | (with_reducible first | exact HB.out | apply below_alloc | apply pw_below_drewN | apply below_drew1 | refine below_set ?_ GE302.out) | exact HB.out)) hb); clear BK302; clear HB; have BK302 := n0_; have HB := n1_; clear n0_ n1_; (try clear hb); (try clear hb2); (try clear hk); (try clear hi)) | ((with_reducible refine gate_callee (f := 17) rfl ?_); refine goesL_ (some 69) rfl rfl Try.func17 (by kernel_rfl) rfl #[.string (t317 ++ (a2.extract 0 ((ji44) : Int).toNat))] rfl (by (try simp only [List.map_toArray, List.map_cons, List.map_nil]); first | done | (simp only [hji44]; rfl) | rfl | (simp only [List.length_drop, List.length_take]; rfl)) ?_; (with_reducible refine (der_Strip.calls kj20 (t317 ++ (a2.extract 0 ((ji44) : Int).toNat)) t321 t322 t323 _ A48.out).mono ?_); rintro e w60 ⟨rfl, hb⟩; refine ⟨_, rfl, ?_⟩; have n0_ := Aside0.mk (blk_below (g := gb302) (o := .cells #[.string a0_0, .string a0_1, .bool a0_2, .slice A0_3 l0_3.length c0_3, .int .i64 a0_4] 47 (0, 0)) (by (with_reducible repeat (first | refine blk_drewN ?_ _ | refine blk_drew ?_ | refine blk_alloc ?_ _)); exact BK302.out) hb); have n1_ := Aside0.mk (below_step (by repeat (first | (with_reducible first | exact HB.out | apply below_alloc | apply pw_below_drewN | apply below_drew1 | refine below_set ?_ GE302.out) | exact HB.out)) hb); clear BK302; clear HB; have BK302 := n0_; have HB := n1_; clear n0_ n1_; (try clear hb); (try clear hb2); (try clear hk); (try clear hi)))
               go_ret
               exact ⟨by first | rfl | (simp [errW_none, errW_some] <;> rfl) | (simp only [← hji40, ← hji44]; first | rfl | (simp [errW_none, errW_some] <;> rfl)) | (simp [*, errW_none, errW_some] <;> rfl), by repeat (first | (with_reducible first | exact HB.out | apply below_alloc | apply pw_below_drewN | apply below_drew1 | refine below_set ?_ GE302.out) | exact HB.out)⟩
             ·
              exact absurd rfl c49
            ·
             rw [if_neg c47] at H
             exact absurd H (by simp)
           ·
            rw [if_neg c46] at H
            exact absurd H (by simp)
          ·
           rw [if_neg c45] at H
           exact absurd H (by simp)
         ·
          rw [if_neg c42] at H
          exact absurd H (by simp)
        ·
         rw [if_neg c41] at H
         exact absurd H (by simp)
    ·
     rw [if_neg c16] at H
     exact absurd H (by simp)
   ·
    rw [if_neg c13] at H
    exact absurd H (by simp)
  ·
   rw [if_neg c11] at H
   exact absurd H (by simp)
 ·
  replace c5 := Bool.eq_false_iff.mpr c5
  subst c5
  have H1 : (some false) = some r := by rw [if_neg (show ¬ (false = true) by decide)] at H; exact H
  clear H
  have H := H1
  clear H1
  obtain rfl := Option.some.inj H
  go_enter Try.func5, Try.ntmps5
  go_wp2_with (first | ((with_reducible refine gate_dst (N := 3) rfl ?_); refine box_event ?hg (N := 3) ?hd (cs := #[.string a0_0, .string a0_1, .bool a0_2, .slice A0_3 l0_3.length c0_3, .int .i64 a0_4]) (t := 47) ?hr ?_; (case hd => rfl); (case hg => rfl); (case hr => first | (go_simp; done) | (go_simp; rfl)); intro gb302 hg w63 hbox hb; have n0_ := Aside0.mk (below_step (by repeat (first | (with_reducible first | exact HB.out | apply below_alloc | apply pw_below_drewN | apply below_drew1) | exact HB.out)) hb); have n1_ := Aside0.mk (hbox); have n2_ := Aside0.mk ((by rw [hg]; exact (below_size (by repeat (first | (with_reducible first | exact HB.out | apply below_alloc | apply pw_below_drewN | apply below_drew1) | exact HB.out))) : w.heap.size ≤ gb302)); have n3_ := Aside0.mk ((by rw [hg]; exact (below_size (by repeat (first | (with_reducible first | exact HB.out | apply below_alloc | apply pw_below_drewN | apply below_drew1) | exact HB.out))) : w.heap.size ≤ gb302)); clear HB; have HB := n0_; have BK302 := n1_; have GW302 := n2_; have GE302 := n3_; clear n0_ n1_ n2_ n3_; clear hb hbox hg) | ((with_reducible refine gate_callee (f := 7) rfl ?_); refine goesL_ (some 19) rfl rfl Try.func7 (by kernel_rfl) rfl #[] rfl (by (try simp only [List.map_toArray, List.map_cons, List.map_nil]); first | done | rfl | (simp only [List.length_drop, List.length_take]; rfl)) ?_; (with_reducible refine (engrosserlaw14_examples.calls k  false _ A4.out).mono ?_); rintro e w64 ⟨rfl, hb⟩; refine ⟨_, rfl, ?_⟩; have n0_ := Aside0.mk (blk_below (g := gb302) (o := .cells #[.string a0_0, .string a0_1, .bool a0_2, .slice A0_3 l0_3.length c0_3, .int .i64 a0_4] 47 (0, 0)) (by (with_reducible repeat (first | refine blk_drewN ?_ _ | refine blk_drew ?_ | refine blk_alloc ?_ _)); exact BK302.out) hb); have n1_ := Aside0.mk (below_step (by repeat (first | (with_reducible first | exact HB.out | apply below_alloc | apply pw_below_drewN | apply below_drew1 | refine below_set ?_ GE302.out) | exact HB.out)) hb); clear BK302; clear HB; have BK302 := n0_; have HB := n1_; clear n0_ n1_; (try clear hb); (try clear hb2); (try clear hk); (try clear hi)))
  go_ret
  exact ⟨by first | rfl | (simp [errW_none, errW_some] <;> rfl) | (simp [*, errW_none, errW_some] <;> rfl), by repeat (first | (with_reducible first | exact HB.out | apply below_alloc | apply pw_below_drewN | apply below_drew1 | refine below_set ?_ GE302.out) | exact HB.out)⟩

end Go.Proofs.Ytgloidibckopiaa.G
