/- Messages: from the arguments as trees to plain data. -/
import Derived.Test.YtbmcgfdopaaiiaaZT
import Derived.Test.YtbmcgfdopaaiiaaZEArgs
set_option linter.all false
namespace Go.Proofs.Ytbmcgfdopaaiiaa
open Go.Am

theorem lways_avs (avs : List AV) (h : Shapes Try.prog [36] avs) (st : St) : ASpec Try.prog 6 avs st fun v st' => v = .bool true ∧ st' = st := by
  obtain ⟨a0, r, rfl, h0, h⟩ := shapes_cons h
  obtain rfl := shapes_nil h
  obtain ⟨m, rfl, _⟩ := ms_of (h0.inv (by kernel_rfl) (by kernel_rfl))
  exact lways_spec m st
end Go.Proofs.Ytbmcgfdopaaiiaa
