/- Turning a slice of bytes into a text: what the conversion gives. No condition. -/
import Derived.Test.YtngfkajfbgfncaaGround
namespace Go.Proofs.Ytngfkajfbgfncaa
open Go.RowKit
theorem conv_one (w : World) (n : Int) : (convert 22 9 (.slice (some ⟨w.heap.size, 0, none⟩) 1 1)).run Try.prog (w.alloc (.cells #[.int .u8 n] 5)) = .ok (.string ⟨#[UInt8.ofNat n.toNat]⟩) (w.alloc (.cells #[.int .u8 n] 5)) := by
  have h := run_convert_bytes_arg (P := Try.prog) (w.alloc (.cells #[.int .u8 n] 5)) 22 5 Try.underlying22 Try.underlying5 w.heap.size 0 1 1 [n] rfl (by
    intro i hi
    obtain rfl : i = 0 := by omega
    have hh := heap_alloc_new w (.cells #[.int .u8 n] 5)
    unfold World.cell?
    rw [hh]
    rfl) 9 Try.underlying9
  exact h
end Go.Proofs.Ytngfkajfbgfncaa
