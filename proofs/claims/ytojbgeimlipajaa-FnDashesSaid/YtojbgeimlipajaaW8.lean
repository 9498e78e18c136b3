/- Walks: the source of numbers. -/
import Derived.Test.YtojbgeimlipajaaW7
namespace Go.Proofs.Ytojbgeimlipajaa
open Go.RowKit Fl

-- l00From (11)
theorem from_any (a : Option Addr) (len cap : Nat) (w : World) :
    Calls Try.prog 11 #[.slice a len cap] w fun e w' => e = .returned (.pointer (some ⟨w.heap.size, 0, none⟩)) ∧ w' = w.alloc (.cells #[.slice a len cap, .int .i64 0, .int .u64 0] 52) := by
  go_enter Try.func11, Try.ntmps11
  go_wp2
  go_ret
  exact ⟨rfl, rfl⟩
end Go.Proofs.Ytojbgeimlipajaa
