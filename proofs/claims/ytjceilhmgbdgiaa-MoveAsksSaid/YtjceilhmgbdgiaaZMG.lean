/- Moves: from arguments as trees to plain data. -/
import Derived.Test.YtjceilhmgbdgiaaZMF
import Derived.Test.YtjceilhmgbdgiaaZMArgs
set_option linter.all false
namespace Go.Proofs.Ytjceilhmgbdgiaa
open Go.Am

def vlCT : List CT := [.int .u8, .int .u8, .int .u8, .int .u8, .int .u8, .int .u8, .int .u8, .int .u8]
def mvCT : List CT := [.int .i8, .int .i64, .int .i64, .int .i64, .int .i64, .int .i64, .int .i64, .int .i64, .sl (some 8) vlCT]
theorem vl_of {a : AV} (h : ElemS (some 8) vlCT a) : ∃ v : Vl, a = vlA v ∧ True := by
  obtain ⟨xs, rfl, hh⟩ := elem_k h
  clear h
  have h := hh
  obtain ⟨a0, xs, rfl, h0, h⟩ := cells_cons h
  obtain ⟨a1, xs, rfl, h1, h⟩ := cells_cons h
  obtain ⟨a2, xs, rfl, h2, h⟩ := cells_cons h
  obtain ⟨a3, xs, rfl, h3, h⟩ := cells_cons h
  obtain ⟨a4, xs, rfl, h4, h⟩ := cells_cons h
  obtain ⟨a5, xs, rfl, h5, h⟩ := cells_cons h
  obtain ⟨a6, xs, rfl, h6, h⟩ := cells_cons h
  obtain ⟨a7, xs, rfl, h7, h⟩ := cells_cons h
  obtain rfl := cells_nil h
  obtain ⟨v0, rfl⟩ := ctok_u8 h0
  obtain ⟨v1, rfl⟩ := ctok_u8 h1
  obtain ⟨v2, rfl⟩ := ctok_u8 h2
  obtain ⟨v3, rfl⟩ := ctok_u8 h3
  obtain ⟨v4, rfl⟩ := ctok_u8 h4
  obtain ⟨v5, rfl⟩ := ctok_u8 h5
  obtain ⟨v6, rfl⟩ := ctok_u8 h6
  obtain ⟨v7, rfl⟩ := ctok_u8 h7
  exact ⟨⟨v0, v1, v2, v3, v4, v5, v6, v7⟩, rfl, trivial⟩
theorem mv_of {a : AV} (h : ElemS (some 9) mvCT a) : ∃ m : Mv, a = .agg (mvC m) ∧ True := by
  obtain ⟨xs, rfl, hh⟩ := elem_k h
  clear h
  have h := hh
  obtain ⟨a0, xs, rfl, h0, h⟩ := cells_cons h
  obtain ⟨a1, xs, rfl, h1, h⟩ := cells_cons h
  obtain ⟨a2, xs, rfl, h2, h⟩ := cells_cons h
  obtain ⟨a3, xs, rfl, h3, h⟩ := cells_cons h
  obtain ⟨a4, xs, rfl, h4, h⟩ := cells_cons h
  obtain ⟨a5, xs, rfl, h5, h⟩ := cells_cons h
  obtain ⟨a6, xs, rfl, h6, h⟩ := cells_cons h
  obtain ⟨a7, xs, rfl, h7, h⟩ := cells_cons h
  obtain ⟨a8, xs, rfl, h8, h⟩ := cells_cons h
  obtain rfl := cells_nil h
  obtain ⟨x0, rfl, _⟩ := ctok_i8 h0
  obtain ⟨x1, rfl, _⟩ := ctok_i64 h1
  obtain ⟨x2, rfl, _⟩ := ctok_i64 h2
  obtain ⟨x3, rfl, _⟩ := ctok_i64 h3
  obtain ⟨x4, rfl, _⟩ := ctok_i64 h4
  obtain ⟨x5, rfl, _⟩ := ctok_i64 h5
  obtain ⟨x6, rfl, _⟩ := ctok_i64 h6
  obtain ⟨x7, rfl, _⟩ := ctok_i64 h7
  obtain ⟨x8, rfl, _, _⟩ := ctok_slOf (f := vlA) h8 (fun e he => vl_of he)
  exact ⟨⟨x0, ⟨x1, x2, x3⟩, x4, x5, x6, x7, x8⟩, rfl, trivial⟩
theorem lticks_avs (avs : List AV) (h : Shapes Try.prog [31] avs) (st : St) : ASpec Try.prog 4 avs st fun v st' => v = .bool true ∧ st' = st := by
  obtain ⟨a0, r, rfl, h0, h⟩ := shapes_cons h
  obtain rfl := shapes_nil h
  obtain ⟨m, rfl, _⟩ := mv_of (h0.inv (by kernel_rfl) (by kernel_rfl))
  exact lticks_spec m st
theorem lasks_avs (avs : List AV) (h : Shapes Try.prog [23, 3, 25, 26] avs) (st : St) : ASpec Try.prog 3 avs st fun v st' => v = .bool true ∧ st' = st := by
  obtain ⟨a0, r, rfl, h0, h⟩ := shapes_cons h
  obtain ⟨a1, r, rfl, h1, h⟩ := shapes_cons h
  obtain ⟨a2, r, rfl, h2, h⟩ := shapes_cons h
  obtain ⟨a3, r, rfl, h3, h⟩ := shapes_cons h
  obtain rfl := shapes_nil h
  obtain ⟨xs, rfl, k⟩ := elem_k (h0.inv (sz := some 2) (l := [.int .i64, .int .i64]) (by kernel_rfl) (by kernel_rfl))
  obtain ⟨c0, xs, rfl, k0, k⟩ := cells_cons k
  obtain ⟨c1, xs, rfl, k1, k⟩ := cells_cons k
  obtain rfl := cells_nil k
  obtain ⟨s, rfl, _⟩ := ctok_i64 k0
  obtain ⟨t, rfl, _⟩ := ctok_i64 k1
  obtain ⟨f, rfl, _⟩ := ctok_i64 (elem_1 (h1.inv (by kernel_rfl) (by kernel_rfl)))
  obtain ⟨ys, rfl, k⟩ := elem_k (h2.inv (sz := some 3) (l := [.int .i64, .int .i64, .int .i64]) (by kernel_rfl) (by kernel_rfl))
  obtain ⟨d0, ys, rfl, k0, k⟩ := cells_cons k
  obtain ⟨d1, ys, rfl, k1, k⟩ := cells_cons k
  obtain ⟨d2, ys, rfl, k2, k⟩ := cells_cons k
  obtain rfl := cells_nil k
  obtain ⟨n0, rfl, _⟩ := ctok_i64 k0
  obtain ⟨n1, rfl, _⟩ := ctok_i64 k1
  obtain ⟨n2, rfl, _⟩ := ctok_i64 k2
  obtain ⟨l, rfl, _, _⟩ := ctok_slOf (f := fun m : Ms => .agg (msC m)) (elem_1 (h3.inv (by kernel_rfl) (by kernel_rfl))) (fun e he => ms_of he)
  exact lasks_spec s t f ⟨n0, n1, n2⟩ l st
end Go.Proofs.Ytjceilhmgbdgiaa
