/- A region that begins with a select of one case, with a default, in one goroutine. -/
import Derived.Test.YtmhmlneobbgadaaGreatDoorVcFe
import Derived.Conc.LoneCalls
namespace Go.Vc
open Go Go.RowKit

section
variable {P : Program} {fr : Frame} {cs : List Frame} {w w1 : World} {es : Array Event} {q cap s r : Nat} {buf : Array Value} {c : CommCase} {v : Value}
theorem step_sel_send (h : stepG P true (Conc.G fr cs) w = .comm (Conc.G fr cs) #[c] false .select w1 es) (hq : c.chan = .chan (some q)) (hs : c.send = some v) (hc : w1.heap[q]? = some (.chan cap buf false s r false)) (hroom : buf.size < cap) :
    step P (lone fr cs w) = .next (lone (fr.finish (.tuple #[goInt 0, .bool false])) cs { w1 with heap := w1.heap.setIfInBounds q (.chan cap (buf.push v) false (s + 1) r false) }) := by
  have hp := Conc.partners_alone (c := q) false
  show step P (Conc.solo (Conc.G fr cs) w) = _
  rw [step, Conc.stepT_solo rfl]
  simp [runT, Conc.solo, Conc.G, lone, Array.swapAt!, Array.swapAt, h, GStep.es, communicate, ways, hq, hs, hc, hp, hroom, choose, Sem.run, Question.forced, bind, Sem.bind, pure, Goroutine.finishComm, commResult] at h ⊢
theorem step_sel_recv (h : stepG P true (Conc.G fr cs) w = .comm (Conc.G fr cs) #[c] false .select w1 es) (hq : c.chan = .chan (some q)) (hs : c.send = none) (hc : w1.heap[q]? = some (.chan cap buf false s r false)) (hsome : 0 < buf.size) :
    step P (lone fr cs w) = .next (lone (fr.finish (.tuple #[goInt 0, .bool true, buf.getD 0 undef])) cs { w1 with heap := w1.heap.setIfInBounds q (.chan cap (buf.extract 1 buf.size) false s (r + 1) false) }) := by
  have hp := Conc.partners_alone (c := q) true
  show step P (Conc.solo (Conc.G fr cs) w) = _
  rw [step, Conc.stepT_solo rfl]
  simp [runT, Conc.solo, Conc.G, lone, Array.swapAt!, Array.swapAt, h, GStep.es, communicate, ways, hq, hs, hc, hp, hsome, choose, Sem.run, Question.forced, bind, Sem.bind, pure, Goroutine.finishComm, commResult] at h ⊢
theorem step_sel_none (h : stepG P true (Conc.G fr cs) w = .comm (Conc.G fr cs) #[c] false .select w1 es) (hq : c.chan = .chan (some q)) (hs : c.send = none) (hc : w1.heap[q]? = some (.chan cap #[] false s r false)) :
    step P (lone fr cs w) = .next (lone (fr.finish (.tuple #[goInt (-1), .bool false, c.zero])) cs w1) := by
  have hp := Conc.partners_alone (c := q) true
  show step P (Conc.solo (Conc.G fr cs) w) = _
  rw [step, Conc.stepT_solo rfl]
  simp [runT, Conc.solo, Conc.G, lone, Array.swapAt!, Array.swapAt, h, GStep.es, communicate, ways, hq, hs, hc, hp, Goroutine.finishComm, commResult] at h ⊢
end
end Go.Vc
