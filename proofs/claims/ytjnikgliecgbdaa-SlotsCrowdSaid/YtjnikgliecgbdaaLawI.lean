/- The chapter's example: the model's run. -/
import Derived.Test.YtjnikgliecgbdaaLawH
namespace Go.Proofs.Ytjnikgliecgbdaa
open Go.RowKit

def liveA : MS := ((startMS 1 7 5).call 0 1 []).runT 0 50
def liveB : MS := (liveA.call 0 1 []).runT 0 50
def liveC : MS := (liveB.call 0 1 []).runT 0 50
theorem liveA_ret : (liveA.th 0).ret 0 = 6 := by kernel_rfl
theorem liveA_end : (liveA.th 0).frames = [] := by kernel_rfl
theorem liveB_ret : (liveB.th 0).ret 0 = 7 := by kernel_rfl
theorem liveB_end : (liveB.th 0).frames = [] := by kernel_rfl
theorem liveC_ret : (liveC.th 0).ret 0 = 0 := by kernel_rfl
theorem liveC_end : (liveC.th 0).frames = [] := by kernel_rfl
end Go.Proofs.Ytjnikgliecgbdaa
