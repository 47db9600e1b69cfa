/- Messages: from arguments as trees to plain data. -/
import Derived.Test.YtjceilhmgbdgiaaZA
import Derived.Test.YtjceilhmgbdgiaaZAmRead
import Derived.KernelRfl
set_option linter.all false
namespace Go.Proofs.Ytjceilhmgbdgiaa
open Go.Am

def wrCT : List CT := [.int .i64, .int .u8, .int .u8, .int .u8, .int .u8, .int .u8, .int .u8, .int .u8, .int .u8]
def msCT : List CT := [.int .i8, .int .i64, .int .i64, .int .i64, .int .i64, .int .i64, .int .i64, .int .i64, .int .i64, .int .i8, .int .i64, .int .u8, .int .u8, .int .u8, .int .u8, .int .u8, .int .u8, .int .u8, .int .u8, .int .i64, .bool, .int .i64, .int .i64, .sl (some 9) wrCT]
def knCT : List CT := [.int .i64, .int .i64, .int .i64, .int .i64, .int .i64, .int .i64, .int .i64]
theorem wr_of {a : AV} (h : ElemS (some 9) wrCT a) : ∃ w : Wr, a = wrA w ∧ True := by
  obtain ⟨xs, rfl, hh⟩ := elem_k h
  clear h
  have h := hh
  obtain ⟨a0, xs, rfl, h0, h⟩ := cells_cons h
  obtain ⟨a1, xs, rfl, h1, h⟩ := cells_cons h
  obtain ⟨a2, xs, rfl, h2, h⟩ := cells_cons h
  obtain ⟨a3, xs, rfl, h3, h⟩ := cells_cons h
  obtain ⟨a4, xs, rfl, h4, h⟩ := cells_cons h
  obtain ⟨a5, xs, rfl, h5, h⟩ := cells_cons h
  obtain ⟨a6, xs, rfl, h6, h⟩ := cells_cons h
  obtain ⟨a7, xs, rfl, h7, h⟩ := cells_cons h
  obtain ⟨a8, xs, rfl, h8, h⟩ := cells_cons h
  obtain rfl := cells_nil h
  obtain ⟨n, rfl, _⟩ := ctok_i64 h0
  obtain ⟨v0, rfl⟩ := ctok_u8 h1
  obtain ⟨v1, rfl⟩ := ctok_u8 h2
  obtain ⟨v2, rfl⟩ := ctok_u8 h3
  obtain ⟨v3, rfl⟩ := ctok_u8 h4
  obtain ⟨v4, rfl⟩ := ctok_u8 h5
  obtain ⟨v5, rfl⟩ := ctok_u8 h6
  obtain ⟨v6, rfl⟩ := ctok_u8 h7
  obtain ⟨v7, rfl⟩ := ctok_u8 h8
  exact ⟨⟨n, v0, v1, v2, v3, v4, v5, v6, v7⟩, rfl, trivial⟩
theorem ms_of {a : AV} (h : ElemS (some 24) msCT a) : ∃ m : Ms, a = .agg (msC m) ∧ True := by
  obtain ⟨xs, rfl, hh⟩ := elem_k h
  clear h
  have h := hh
  obtain ⟨a0, xs, rfl, h0, h⟩ := cells_cons h
  obtain ⟨a1, xs, rfl, h1, h⟩ := cells_cons h
  obtain ⟨a2, xs, rfl, h2, h⟩ := cells_cons h
  obtain ⟨a3, xs, rfl, h3, h⟩ := cells_cons h
  obtain ⟨a4, xs, rfl, h4, h⟩ := cells_cons h
  obtain ⟨a5, xs, rfl, h5, h⟩ := cells_cons h
  obtain ⟨a6, xs, rfl, h6, h⟩ := cells_cons h
  obtain ⟨a7, xs, rfl, h7, h⟩ := cells_cons h
  obtain ⟨a8, xs, rfl, h8, h⟩ := cells_cons h
  obtain ⟨a9, xs, rfl, h9, h⟩ := cells_cons h
  obtain ⟨a10, xs, rfl, h10, h⟩ := cells_cons h
  obtain ⟨a11, xs, rfl, h11, h⟩ := cells_cons h
  obtain ⟨a12, xs, rfl, h12, h⟩ := cells_cons h
  obtain ⟨a13, xs, rfl, h13, h⟩ := cells_cons h
  obtain ⟨a14, xs, rfl, h14, h⟩ := cells_cons h
  obtain ⟨a15, xs, rfl, h15, h⟩ := cells_cons h
  obtain ⟨a16, xs, rfl, h16, h⟩ := cells_cons h
  obtain ⟨a17, xs, rfl, h17, h⟩ := cells_cons h
  obtain ⟨a18, xs, rfl, h18, h⟩ := cells_cons h
  obtain ⟨a19, xs, rfl, h19, h⟩ := cells_cons h
  obtain ⟨a20, xs, rfl, h20, h⟩ := cells_cons h
  obtain ⟨a21, xs, rfl, h21, h⟩ := cells_cons h
  obtain ⟨a22, xs, rfl, h22, h⟩ := cells_cons h
  obtain ⟨a23, xs, rfl, h23, h⟩ := cells_cons h
  obtain rfl := cells_nil h
  obtain ⟨x0, rfl, _⟩ := ctok_i8 h0
  obtain ⟨x1, rfl, _⟩ := ctok_i64 h1
  obtain ⟨x2, rfl, _⟩ := ctok_i64 h2
  obtain ⟨x3, rfl, _⟩ := ctok_i64 h3
  obtain ⟨x4, rfl, _⟩ := ctok_i64 h4
  obtain ⟨x5, rfl, _⟩ := ctok_i64 h5
  obtain ⟨x6, rfl, _⟩ := ctok_i64 h6
  obtain ⟨x7, rfl, _⟩ := ctok_i64 h7
  obtain ⟨x8, rfl, _⟩ := ctok_i64 h8
  obtain ⟨x9, rfl, _⟩ := ctok_i8 h9
  obtain ⟨x10, rfl, _⟩ := ctok_i64 h10
  obtain ⟨x11, rfl⟩ := ctok_u8 h11
  obtain ⟨x12, rfl⟩ := ctok_u8 h12
  obtain ⟨x13, rfl⟩ := ctok_u8 h13
  obtain ⟨x14, rfl⟩ := ctok_u8 h14
  obtain ⟨x15, rfl⟩ := ctok_u8 h15
  obtain ⟨x16, rfl⟩ := ctok_u8 h16
  obtain ⟨x17, rfl⟩ := ctok_u8 h17
  obtain ⟨x18, rfl⟩ := ctok_u8 h18
  obtain ⟨x19, rfl, _⟩ := ctok_i64 h19
  obtain ⟨x20, rfl⟩ := ctok_bool.1 h20
  obtain ⟨x21, rfl, _⟩ := ctok_i64 h21
  obtain ⟨x22, rfl, _⟩ := ctok_i64 h22
  obtain ⟨x23, rfl, _, _⟩ := ctok_slOf (f := wrA) h23 (fun e he => wr_of he)
  exact ⟨⟨x0, x1, x2, x3, x4, ⟨x5, x6, x7⟩, x8, x9, x10, ⟨x11, x12, x13, x14, x15, x16, x17, x18⟩, x19, x20, x21, x22, x23⟩, rfl, trivial⟩
end Go.Proofs.Ytjceilhmgbdgiaa
