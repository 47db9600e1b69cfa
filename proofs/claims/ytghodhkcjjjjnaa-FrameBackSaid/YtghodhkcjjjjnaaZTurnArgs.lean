/- FrameBack: from the arguments as trees to plain data. -/
import Derived.Test.YtghodhkcjjjjnaaZTurn
import Derived.Test.YtghodhkcjjjjnaaZAmRead
import Derived.KernelRfl
set_option linter.all false
namespace Go.Proofs.Ytghodhkcjjjjnaa
open Go.Am

theorem fback_avs (avs : List AV) (h : Shapes Try.prog [22, 3, 3, 28, 3, 22] avs) (st : St) : ASpec Try.prog 6 avs st fun v st' => v = .bool true ∧ st' = st := by
  obtain ⟨a0, r, rfl, h0, h⟩ := shapes_cons h
  obtain ⟨a1, r, rfl, h1, h⟩ := shapes_cons h
  obtain ⟨a2, r, rfl, h2, h⟩ := shapes_cons h
  obtain ⟨a3, r, rfl, h3, h⟩ := shapes_cons h
  obtain ⟨a4, r, rfl, h4, h⟩ := shapes_cons h
  obtain ⟨a5, r, rfl, h5, h⟩ := shapes_cons h
  obtain rfl := shapes_nil h
  obtain ⟨l, rfl, _⟩ := ctok_bytes (elem_1 (h0.inv (by kernel_rfl) (by kernel_rfl)))
  obtain ⟨n1, rfl, _⟩ := ctok_i64 (elem_1 (h1.inv (by kernel_rfl) (by kernel_rfl)))
  obtain ⟨n2, rfl, _⟩ := ctok_i64 (elem_1 (h2.inv (by kernel_rfl) (by kernel_rfl)))
  obtain ⟨n3, rfl⟩ := ctok_u32 (elem_1 (h3.inv (by kernel_rfl) (by kernel_rfl)))
  obtain ⟨n4, rfl, hp⟩ := ctok_i64 (elem_1 (h4.inv (by kernel_rfl) (by kernel_rfl)))
  obtain ⟨l5, rfl, _⟩ := ctok_bytes (elem_1 (h5.inv (by kernel_rfl) (by kernel_rfl)))
  exact fback_spec l n1 n2 n3 n4 l5 hp st
end Go.Proofs.Ytghodhkcjjjjnaa
