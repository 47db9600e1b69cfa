/- RecordReads: from the arguments as trees to plain data. -/
import Derived.Test.YtchaakjbedkndaaZR
import Derived.Test.YtchaakjbedkndaaZAmRead
import Derived.KernelRfl
set_option linter.all false
namespace Go.Proofs.Ytchaakjbedkndaa
open Go.Am

theorem lreads_avs (avs : List AV) (h : Shapes Try.prog [22] avs) (st : St) : ASpec Try.prog 3 avs st fun v st' => v = .bool true ∧ st' = st := by
  obtain ⟨a0, r, rfl, h0, h⟩ := shapes_cons h
  obtain rfl := shapes_nil h
  obtain ⟨l, rfl, _⟩ := ctok_bytes (elem_1 (h0.inv (by kernel_rfl) (by kernel_rfl)))
  exact lreads_spec l st
end Go.Proofs.Ytchaakjbedkndaa
