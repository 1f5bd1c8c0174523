/- The sum of abc, reckoned. -/
import Derived.Test.YtgcambjoeaijkaaDoorDig1
import Derived.KernelRfl
namespace Go.Proofs.YtgcambjoeaijkaaDoor.Dig
open Go Go.RowKit Go.Proofs.YtgcambjoeaijkaaDoor.Mem
theorem sha_abc : (sha [97, 98, 99]).take 4 = [0xba, 0x78, 0x16, 0xbf] := by kernel_rfl
end Go.Proofs.YtgcambjoeaijkaaDoor.Dig
