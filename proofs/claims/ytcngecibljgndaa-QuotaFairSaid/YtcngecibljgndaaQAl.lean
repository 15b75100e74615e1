/- alive: true, without a premise. -/
import Derived.Test.YtcngecibljgndaaQT
import Derived.Test.YtcngecibljgndaaQW
import Derived.Test.YtcngecibljgndaaQOpen
namespace Go.Proofs.Ytcngecibljgndaa
open Go.RowKit Go.Shelf

theorem tabledOK : TabledOK := fun w n ao cap ss hI hl hn hs => tabled_calls w n ao cap ss hI hl hn hs
theorem aliveOK : AliveOK := fun _ w2 hx => (alive_calls tabledOK w2).mono (fun _ _ ⟨he, hx'⟩ => ⟨he, hx.trans hx'⟩)
end Go.Proofs.Ytcngecibljgndaa
