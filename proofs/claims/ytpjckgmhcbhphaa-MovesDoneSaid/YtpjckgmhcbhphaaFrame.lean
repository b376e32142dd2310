/-
  What the laws on moves are given, opened.
-/
import Derived.Test.YtpjckgmhcbhphaaBase
import Derived.Test.YtpjckgmhcbhphaaOpen
namespace Go.Proofs.Ytpjckgmhcbhphaa
open Go Go.ChangeShapes Go.WideShapes Go.ChangeAt Go.RowKit

theorem own : ownKnob Try.prog.godebug = none := by kernel_rfl

theorem opens_pl (w : World) : Opens Try.prog w 24 plcC PlOk :=
  opens_to (opens_two Try.underlying24 rfl (by kernel_rfl) (by kernel_rfl) (opens_bool Try.underlying4) (opens_int Try.underlying3)) (fun x => x) (fun _ => rfl) (fun _ h => h.2)
theorem opens_mv (w : World) : Opens Try.prog w 32 mvC MvOk :=
  opens_to (opens_two Try.underlying32 rfl (by kernel_rfl) (by kernel_rfl) (opens_pl w) (opens_pl w)) (fun x => x) (fun _ => rfl) (fun _ h => h)
theorem opens_u64 (w : World) : Opens Try.prog w 39 u64C VlOk := opens_int Try.underlying39
end Go.Proofs.Ytpjckgmhcbhphaa
