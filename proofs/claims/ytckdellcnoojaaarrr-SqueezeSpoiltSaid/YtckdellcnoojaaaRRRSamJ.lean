/- math/bits.Mul of 8 and 512. -/
import Derived.Test.YtckdellcnoojaaaRRRSamI
namespace Go.Proofs.YtckdellcnoojaaaRRR
open Go.RowKit

set_option maxRecDepth 100000 in
set_option maxHeartbeats 2000000 in
theorem mul64_page (w : World) : Calls Try.prog 72 #[.int .u64 8, .int .u64 512] w fun e w' => e = .returned (.tuple #[.int .u64 0, .int .u64 4096]) ∧ w = w' := by
  go_enter Try.func72, Try.ntmps72
  go_wp2
  go_ret2
  exact ⟨rfl, rfl⟩
set_option maxRecDepth 100000 in
set_option maxHeartbeats 2000000 in
theorem mul_page (w : World) : Calls Try.prog 67 #[.int .u64 8, .int .u64 512] w fun e w' => e = .returned (.tuple #[.int .u64 0, .int .u64 4096]) ∧ w = w' := by
  have H := Lib.hid (mul64_page w)
  go_enter Try.func67, Try.ntmps67
  go_wp2_with (go_at_call 72; refine H.out.mono ?_; rintro e w2 ⟨rfl, rfl⟩)
  go_ret2
  exact ⟨rfl, rfl⟩
end Go.Proofs.YtckdellcnoojaaaRRR
