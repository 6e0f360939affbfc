/- 'string([]byte{b})': one byte; a row of the call's own that is written out. Over any program. -/
import Derived.Test.YtgloidibckopiaaAppend
import Derived.Test.YtgloidibckopiaaHeap
namespace Go.Proofs.Ytgloidibckopiaa
section
variable {P : Program}
theorem run_conv_one (w : World) {src e dst : TypeId} (hs : P.underlying src = some (.slice e)) (he : P.underlying e = some (.int .u8)) (hd : P.underlying dst = some .string) (x : Int) (b : UInt8) (hx : x = (b.toNat : Int)) :
    (convert src dst (.slice (some ⟨w.heap.size, 0, none⟩) 1 1)).run P (w.alloc (.cells #[.int .u8 x] e)) = .ok (.string ⟨#[b]⟩) (w.alloc (.cells #[.int .u8 x] e)) := by
  subst hx
  have := run_convert_bytes_back (P := P) (w.alloc (.cells #[.int .u8 (b.toNat : Int)] e)) src dst e ⟨w.heap.size, 0, none⟩ 1 [b] hs he hd (fun j hj => by
    have h := cells_new w [Value.int .u8 (b.toNat : Int)] e j (.int .u8 (b.toNat : Int))
    simp only [List.length_singleton] at hj
    obtain rfl : j = 0 := by omega
    exact h rfl)
  simpa using this
theorem run_conv_at {w : World} {src e dst : TypeId} (hs : P.underlying src = some (.slice e)) (he : P.underlying e = some (.int .u8)) (hd : P.underlying dst = some .string) (g : Nat) (x : Int) (b : UInt8) (hc : w.cell? ⟨g, 0, none⟩ = some (.int .u8 x)) (hx : x = (b.toNat : Int)) :
    (convert src dst (.slice (some ⟨g, 0, none⟩) 1 1)).run P w = .ok (.string ⟨#[b]⟩) w := by
  subst hx
  have := run_convert_bytes_back (P := P) w src dst e ⟨g, 0, none⟩ 1 [b] hs he hd (fun j hj => by
    simp only [List.length_singleton] at hj
    obtain rfl : j = 0 := by omega
    exact hc)
  simpa using this
theorem own_lit (w : World) (base : Nat) (e : TypeId) (l : List Value) (n size : Nat) (hb : base ≤ w.heap.size) (hn : n ≤ maxLen) (hl : l.length = n * size) : (w.alloc (.cells l.toArray e)).ownsRow base e size (.slice (some ⟨w.heap.size, 0, none⟩) n n) n l :=
  ⟨hl, .inr ⟨w.heap.size, n, l.toArray, rfl, hb, heap_alloc_new w _, Nat.le_refl _, hn, by simpa using hl, by simp [← hl]⟩⟩
end
end Go.Proofs.Ytgloidibckopiaa
