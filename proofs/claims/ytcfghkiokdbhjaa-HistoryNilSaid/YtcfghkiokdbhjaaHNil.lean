/- HistoryNil: the walk. -/
import Derived.Test.YtcfghkiokdbhjaaTab
import Derived.Test.YtcfghkiokdbhjaaEngK

namespace Go.Proofs.Ytcfghkiokdbhjaa
open Go.Eng

theorem historyNil_ok (n : Int) (a0 a1 a2 a3 a4 a5 a6 a7 a8 a9 i : Int) (w : World) :
    Calls Try.prog 8 #[.int .u8 n, .agg #[.int .u8 a0, .int .u8 a1, .int .u8 a2, .int .u64 a3, .int .i64 a4, .int .i64 a5, .int .i64 a6, .int .u8 a7, .int .u64 a8, .int .u64 a9], .int .i64 i] w
      fun e w' => e = .returned (.bool true) ∧ Chg (fun _ _ => False) w w' :=
  runA FALL_ok F8_ok 1000 true [.int .u8 (.v n), .agg [.int .u8 (.v a0), .int .u8 (.v a1), .int .u8 (.v a2), .int .u64 (.v a3), .int .i64 (.v a4), .int .i64 (.v a5), .int .i64 (.v a6), .int .u8 (.v a7), .int .u64 (.v a8), .int .u64 (.v a9)], .int .i64 (.v i)]
    rfl rfl (by kernel_rfl) w

end Go.Proofs.Ytcfghkiokdbhjaa
