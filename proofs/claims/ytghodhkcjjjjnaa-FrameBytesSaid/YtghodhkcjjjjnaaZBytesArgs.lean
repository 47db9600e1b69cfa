/- FrameBytes: from the arguments as trees to plain data. -/
import Derived.Test.YtghodhkcjjjjnaaZRef4
import Derived.Test.YtghodhkcjjjjnaaZAmRead
import Derived.KernelRfl
set_option linter.all false
namespace Go.Proofs.Ytghodhkcjjjjnaa
open Go.Am

theorem frame_of {a : AV} (h : ElemS (some 6) [.int .i64, .int .i64, .int .i64, .int .i64, .int .u32, .sl none [.int .u8]] a) : ∃ f : Fr, a = frA f := by
  obtain ⟨r, rfl, g⟩ := elem_k h
  obtain ⟨a0, r, rfl, h0, g⟩ := cells_cons g
  obtain ⟨a1, r, rfl, h1, g⟩ := cells_cons g
  obtain ⟨a2, r, rfl, h2, g⟩ := cells_cons g
  obtain ⟨a3, r, rfl, h3, g⟩ := cells_cons g
  obtain ⟨a4, r, rfl, h4, g⟩ := cells_cons g
  obtain ⟨a5, r, rfl, h5, g⟩ := cells_cons g
  obtain rfl := cells_nil g
  obtain ⟨n0, rfl, _⟩ := ctok_i64 h0
  obtain ⟨n1, rfl, _⟩ := ctok_i64 h1
  obtain ⟨n2, rfl, _⟩ := ctok_i64 h2
  obtain ⟨n3, rfl, _⟩ := ctok_i64 h3
  obtain ⟨n4, rfl⟩ := ctok_u32 h4
  obtain ⟨n5, rfl, _⟩ := ctok_bytes h5
  exact ⟨⟨n0, n1, n2, n3, n4, n5⟩, rfl⟩

theorem fbytes_avs (avs : List AV) (h : Shapes Try.prog [33, 33, 22] avs) (st : St) : ASpec Try.prog 5 avs st fun v st' => v = .bool true ∧ st' = st := by
  obtain ⟨a0, r, rfl, h0, h⟩ := shapes_cons h
  obtain ⟨a1, r, rfl, h1, h⟩ := shapes_cons h
  obtain ⟨a2, r, rfl, h2, h⟩ := shapes_cons h
  obtain rfl := shapes_nil h
  obtain ⟨f, rfl⟩ := frame_of (h0.inv (by kernel_rfl) (by kernel_rfl))
  obtain ⟨g, rfl⟩ := frame_of (h1.inv (by kernel_rfl) (by kernel_rfl))
  obtain ⟨b, rfl, _⟩ := ctok_bytes (elem_1 (h2.inv (by kernel_rfl) (by kernel_rfl)))
  exact fbytes_spec f g b st
end Go.Proofs.Ytghodhkcjjjjnaa
