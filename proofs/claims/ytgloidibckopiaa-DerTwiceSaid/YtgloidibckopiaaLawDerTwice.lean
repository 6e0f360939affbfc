/- DerTwice: the row. The walk is printed (wip/tools/gprint.py), the plain law is mine; here the arguments are opened and handed back. -/
import Derived.Test.YtgloidibckopiaaRows
import Derived.Test.YtgloidibckopiaaGx9
import Derived.Test.YtgloidibckopiaaPureDerTwice
import Derived.WalkKit
import Derived.ProofKit
import Derived.OpenShut
import Derived.ShutString
import Derived.ChangeOld
import Derived.Below
import Derived.SizedLaws
import Derived.SliceStrings
import Derived.Lib.SmallJoins
namespace Go.Proofs.Ytgloidibckopiaa.derTwice
open Go.Joins Go.Deep Go.ChangeShapes Go.WideShapes Go.ChangeAt Go.RowKit Go.Proofs.YtgloidibckopiaaW.PrintWords
open Go.ChangeMaps (open_string shut_string)
theorem own : ownKnob Try.prog.godebug = none := by kernel_rfl
theorem laid : laidOutB Try.prog = true := by kernel_rfl
/-- a list of strings that is only read -/
theorem strs_row {H : Type} {enc : TypeId × Value → H} {W : World} {A : Option Addr} {n c : Nat} {d : DataW H} {p : List MemPlace}
    (h : DataW.Trod enc Try.prog W 0 (fun _ => true) true 42 (.slice A n c) d p) : ∃ l : List ByteArray, n = l.length ∧ Kd.C Kd.string W A l.length l ∧ l.length ≤ c ∧ l.length ≤ 9223372036854775807 := by
  obtain ⟨fuel, hf⟩ := h
  rcases open_strings Try.underlying42 Try.underlying9 (by kernel_rfl) hf with ⟨hcs, _⟩ | ⟨a, l, c', ss, hcs, _, hl, hm, hz, _, hcell, _⟩
  · simp [Value.cells] at hcs
    obtain ⟨rfl, rfl, rfl⟩ := hcs
    exact ⟨[], rfl, Kd.C_of_reads (d := ByteArray.empty) ⟨rfl, by simp, fun h => by simp at h⟩, by simp, by simp⟩
  · simp [Value.cells] at hcs
    obtain ⟨rfl, rfl, rfl⟩ := hcs
    simp only [if_true] at hz
    have hlen : (ss.take n).length = n := by rw [List.length_take]; omega
    refine ⟨ss.take n, hlen.symm, Kd.C_of_reads (d := ByteArray.empty) ⟨rfl, ?_, fun hn => ⟨a, rfl, fun j hj => ?_⟩⟩, by omega, by unfold maxLen at hm; omega⟩
    · rw [hlen]; unfold maxLen at hm; omega
    · rw [hlen] at hj
      rw [hcell j (by omega)]
      congr 2
      rw [List.getD_eq_getElem?_getD, List.getD_eq_getElem?_getD, List.getElem?_take, if_pos hj]
/-- a certificate that is handed over: its five parts, each as it reads (turned from the worked opener of a struct) -/
theorem cert_row {H : Type} {enc : TypeId × Value → H} {W : World} {base : Nat} {F0 F1 F2 F3 F4 : Field} {v : Value} {d : DataW H} {p : List MemPlace} (hs : Try.prog.underlying 47 = some (.struct #[F0, F1, F2, F3, F4]))
    (hone : oneCellFields Try.prog #[F0, F1, F2, F3, F4] = true) (hv : Value.okWide Try.prog W .any base 47 v) (h : DataW.Trod enc Try.prog W 0 (fun _ => true) true 47 v d p) :
    ∃ (v0 v1 v2 v3 v4 : Value) (y0 y1 y2 y3 y4 : DataW H × List MemPlace) (n : Nat), v = .agg #[v0, v1, v2, v3, v4] ∧
      DataW.trod enc Try.prog W 0 (fun _ => true) true n F0.type [v0] = some y0 ∧ DataW.trod enc Try.prog W 0 (fun _ => true) true n F1.type [v1] = some y1 ∧ DataW.trod enc Try.prog W 0 (fun _ => true) true n F2.type [v2] = some y2 ∧
      DataW.trod enc Try.prog W 0 (fun _ => true) true n F3.type [v3] = some y3 ∧ DataW.trod enc Try.prog W 0 (fun _ => true) true n F4.type [v4] = some y4 := by
  obtain ⟨cs, rfl, hsz⟩ := okWide_struct hs hv
  have h5 : cs.size = 5 := hsz.trans (by kernel_rfl)
  obtain ⟨l⟩ := cs
  obtain ⟨fuel, hf⟩ := h
  obtain ⟨xs, n, _, _, _, hlen, hg⟩ := DataW.trod_struct hs hf
  obtain ⟨o0, k0⟩ := hone_of hone 0 F0 rfl
  obtain ⟨o1, k1⟩ := hone_of hone 1 F1 rfl
  obtain ⟨o2, k2⟩ := hone_of hone 2 F2 rfl
  obtain ⟨o3, k3⟩ := hone_of hone 3 F3 rfl
  obtain ⟨o4, k4⟩ := hone_of hone 4 F4 rfl
  match l, h5, xs, hlen with
  | [c0, c1, c2, c3, c4], _, [y0, y1, y2, y3, y4], _ =>
    refine ⟨c0, c1, c2, c3, c4, y0, y1, y2, y3, y4, n, rfl, ?_, ?_, ?_, ?_, ?_⟩
    · simpa [Value.cells, o0, k0] using hg 0 F0 rfl
    · simpa [Value.cells, o1, k1] using hg 1 F1 rfl
    · simpa [Value.cells, o2, k2] using hg 2 F2 rfl
    · simpa [Value.cells, o3, k3] using hg 3 F3 rfl
    · simpa [Value.cells, o4, k4] using hg 4 F4 rfl
set_option maxRecDepth 100000 in
theorem lifted (os : Os) (started : os.Started) (H : Type) (enc : TypeId × Value → H) :
    ReturnsInHanded {} Try.checked os 5 .any (Rows.derTwiceSpec.pre6 enc Try.prog Try.f5 Rows.derTwiceRow.domain false) (Rows.derTwiceSpec.post enc Try.prog Try.f5 false true false false) := by
  refine returnsInHanded_of_change_sized (C := Try.checked) own started (by kernel_rfl) Try.func5
    (ChangeSpec.witness6 (enc := enc) (C := Try.checked) false ⟨#[], #[.agg #[.string ByteArray.empty, .string ByteArray.empty, .bool false, .slice none 0 0, .int .i64 0], .int .i64 0, .string ByteArray.empty], []⟩ 8 (by kernel_rfl) (by kernel_rfl) (by kernel_rfl) (by kernel_rfl)) ?_
  intro W base args ds gs before hval0 hW hcnd hsz0 _
  have hsz : (DataW.weightsEach Try.prog (Try.f5.params.toList ++ Rows.derTwiceSpec.plain.varTypes Try.prog) (ds ++ gs)).all (· ≤ reachBytes) = true := hsz0
  have hval : ∀ (j : Nat) t v, Try.f5.params[j]? = some t → args[j]? = some v → Value.okWide Try.prog W .any base t v := hval0
  have hW' := hW
  obtain ⟨p, q, hA0, hV, rfl, hfz, hnd⟩ := hW
  have hA : DataW.TrodAll enc Try.prog W 0 (fun _ => true) true Try.f5.params.toList args.toList ds p := hA0
  rw [Try.params5] at hA hval hsz
  obtain ⟨v0, vs0, d0, ds0, p0, q0, hargs, rfl, rfl, h0, r0⟩ := trodAll_cons hA
  obtain ⟨v1, vs1, d1, ds1, p1, q1, rfl, rfl, rfl, h1, r1⟩ := trodAll_cons r0
  obtain ⟨v2, vs2, d2, ds2, p2, q2, rfl, rfl, rfl, h2, r2⟩ := trodAll_cons r1
  obtain ⟨rfl, rfl, rfl⟩ := trodAll_nil r2
  obtain rfl : args = #[v0, v1, v2] := by cases args; simp_all
  obtain ⟨rfl, rfl⟩ := trodVars_none hV
  have hv0 := hval 0 47 v0 rfl rfl
  have k0 := h0
  have lt0 : ∀ x ∈ p0, x.block < W.heap.size := by obtain ⟨m, hm⟩ := k0; exact DataW.trod_lt m _ _ _ hm
  obtain ⟨f0, f1, f2, f3, f4, x0, x1, x2, x3, x4, m, rfl, t0, t1, t2, t3, t4⟩ := cert_row Try.underlying47 (by kernel_rfl) hv0 h0
  obtain ⟨s0, e0, _⟩ := DataW.trod_string Try.underlying9 t0
  obtain ⟨s1, e1, _⟩ := DataW.trod_string Try.underlying9 t1
  obtain ⟨s2, e2, _⟩ := DataW.trod_bool Try.underlying4 t2
  obtain ⟨A3, n3, c3, e3⟩ : ∃ A n c, f3 = .slice A n c := by
    rcases open_strings Try.underlying42 Try.underlying9 (by kernel_rfl) t3 with ⟨hcs, _⟩ | ⟨a, l, c', ss, hcs, _⟩
    · exact ⟨_, _, _, by simpa using hcs⟩
    · exact ⟨_, _, _, by simpa using hcs⟩
  obtain ⟨s4, e4, _⟩ := DataW.trod_int Try.underlying3 t4
  simp at e0 e1 e2 e4
  subst e0; subst e1; subst e2; subst e3; subst e4
  obtain ⟨l3, rfl, R3, C3, _⟩ := strs_row (A := A3) (n := n3) (c := c3) ⟨m, t3⟩
  obtain ⟨a1, rfl, rfl, rfl, w1⟩ := open_int Try.underlying3 (hval 1 3 v1 rfl rfl) h1
  obtain ⟨a2, rfl, rfl, rfl, y2⟩ := open_string Try.underlying9 (hval 2 9 v2 rfl rfl) h2
  have b1 := w1
  simp [Lit.wf, IntKind.min, IntKind.max, IntKind.signed, IntKind.bits] at b1
  clear hA0 hval0 hsz0 hsz
  refine (G.engrosserlaw14_DerTwice.calls 440 s0 s1 s2 A3 c3 l3 s4 a1 a2 true W R3 C3 (Pure.twice_pure s0 s1 s2 l3 s4 a1 (by omega) a2)).mono fun e W' ⟨he, bel⟩ => ?_
  subst he
  exact ⟨_, rfl, _, _, _, [], _, [], hW', trodAll_mk1 (shut_bool Try.underlying4 _), (trodAll_cons_mk (Below.trod laid (by kernel_rfl) (of_decide_eq_true (by kernel_rfl)) k0 bel lt0) (trodAll_cons_mk (shut_int Try.underlying3 w1) (trodAll_cons_mk (shut_string Try.underlying9 y2) trodAll_mk0))), rfl, bel.frame _, fun h => by cases h⟩
theorem over : Rows.derTwiceRow.holds Try.pinned (OpenSpec.ofChange Rows.derTwiceSpec) :=
  OpenClaim.holds_of_wide 5 Try.f5 rfl rfl rfl rfl rfl rfl rfl ⟨rfl, rfl, rfl, rfl, rfl⟩ rfl rfl rfl rfl rfl (by kernel_rfl) Try.func5 (by kernel_rfl)
    (of_decide_eq_true (by kernel_rfl)) (by unfold Func.isWrapper; first | (rw [if_pos (by decide +kernel)]; kernel_rfl) | (rw [if_neg (by decide +kernel)]; exact ⟨rfl, rfl⟩))
    (fun os started H enc _ => lifted os started H enc)
theorem proved : Rows.DerTwiceSaid := over
#print axioms proved
end Go.Proofs.Ytgloidibckopiaa.derTwice
namespace Go.Proofs.Ytgloidibckopiaa
theorem derTwice_holds : Rows.DerTwiceSaid := derTwice.proved
end Go.Proofs.Ytgloidibckopiaa
