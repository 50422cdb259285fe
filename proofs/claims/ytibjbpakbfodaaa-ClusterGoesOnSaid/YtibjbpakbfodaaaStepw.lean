/- cluster.Step, walked, whatever the event. -/
import Derived.Test.YtibjbpakbfodaaaStepA
import Derived.Test.YtibjbpakbfodaaaStepB
import Derived.Test.YtibjbpakbfodaaaStepC
import Derived.Test.YtibjbpakbfodaaaStepD
import Derived.Test.YtibjbpakbfodaaaThru
namespace Go.Proofs.Ytibjbpakbfodaaa
open Go.RowKit

theorem step_says : StepSays := by
  intro w Q W ev h0 hQ hn hm
  by_cases h1 : ev.kind = 1 ∨ ev.kind = 2 ∨ ev.kind = 3 ∨ ev.kind = 7
  · exact step_acts h0 hQ hn hm h1
  by_cases h4 : ev.kind = 4
  · exact step_4 h0 hQ hn hm h4
  by_cases h5 : ev.kind = 5
  · exact step_5 h0 hQ hn hm h5
  by_cases h6 : ev.kind = 6
  · exact step_6 h0 hQ hn hm h6
  · exact step_other h0 hQ hn hm ⟨h1, by omega⟩
end Go.Proofs.Ytibjbpakbfodaaa
