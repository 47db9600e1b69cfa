/- Records: from the arguments as trees to plain data. -/
import Derived.Test.YtchaakjbedkndaaZW
import Derived.Test.YtchaakjbedkndaaZAmRead
import Derived.KernelRfl
set_option linter.all false
namespace Go.Proofs.Ytchaakjbedkndaa
open Go.Am

def wrCT : List CT := [.int .i64, .int .u8, .int .u8, .int .u8, .int .u8, .int .u8, .int .u8, .int .u8, .int .u8]
def nmCT : List CT := [.int .i64, .int .i64, .int .i64]
def rcCT : List CT := [.int .i8, .int .i64, .int .i64, .int .i64, .bool, .sl (some 9) wrCT, .int .i64, .int .i64, .int .i64, .int .i64, .int .i64, .int .i64]
theorem wr_of {a : AV} (h : ElemS (some 9) wrCT a) : ∃ w : Wr, a = wrA w ∧ True := by
  obtain ⟨xs, rfl, hh⟩ := elem_k h
  clear h
  have h := hh
  obtain ⟨a0, xs, rfl, h0, h⟩ := cells_cons h
  obtain ⟨a1, xs, rfl, h1, h⟩ := cells_cons h
  obtain ⟨a2, xs, rfl, h2, h⟩ := cells_cons h
  obtain ⟨a3, xs, rfl, h3, h⟩ := cells_cons h
  obtain ⟨a4, xs, rfl, h4, h⟩ := cells_cons h
  obtain ⟨a5, xs, rfl, h5, h⟩ := cells_cons h
  obtain ⟨a6, xs, rfl, h6, h⟩ := cells_cons h
  obtain ⟨a7, xs, rfl, h7, h⟩ := cells_cons h
  obtain ⟨a8, xs, rfl, h8, h⟩ := cells_cons h
  obtain rfl := cells_nil h
  obtain ⟨n, rfl, _⟩ := ctok_i64 h0
  obtain ⟨v0, rfl⟩ := ctok_u8 h1
  obtain ⟨v1, rfl⟩ := ctok_u8 h2
  obtain ⟨v2, rfl⟩ := ctok_u8 h3
  obtain ⟨v3, rfl⟩ := ctok_u8 h4
  obtain ⟨v4, rfl⟩ := ctok_u8 h5
  obtain ⟨v5, rfl⟩ := ctok_u8 h6
  obtain ⟨v6, rfl⟩ := ctok_u8 h7
  obtain ⟨v7, rfl⟩ := ctok_u8 h8
  exact ⟨⟨n, v0, v1, v2, v3, v4, v5, v6, v7⟩, rfl, trivial⟩
theorem nm_of {a : AV} (h : ElemS (some 3) nmCT a) : ∃ n : Nm, a = .agg (nmC n) := by
  obtain ⟨xs, rfl, hh⟩ := elem_k h
  clear h
  have h := hh
  obtain ⟨a0, xs, rfl, h0, h⟩ := cells_cons h
  obtain ⟨a1, xs, rfl, h1, h⟩ := cells_cons h
  obtain ⟨a2, xs, rfl, h2, h⟩ := cells_cons h
  obtain rfl := cells_nil h
  obtain ⟨n, rfl, _⟩ := ctok_i64 h0
  obtain ⟨i, rfl, _⟩ := ctok_i64 h1
  obtain ⟨t, rfl, _⟩ := ctok_i64 h2
  exact ⟨⟨n, i, t⟩, rfl⟩
theorem rc_of {a : AV} (h : ElemS (some 12) rcCT a) : ∃ r : Rc, a = .agg (rcC r) ∧ -128 ≤ r.kind ∧ r.kind ≤ 127 := by
  obtain ⟨xs, rfl, hh⟩ := elem_k h
  clear h
  have h := hh
  obtain ⟨a0, xs, rfl, h0, h⟩ := cells_cons h
  obtain ⟨a1, xs, rfl, h1, h⟩ := cells_cons h
  obtain ⟨a2, xs, rfl, h2, h⟩ := cells_cons h
  obtain ⟨a3, xs, rfl, h3, h⟩ := cells_cons h
  obtain ⟨a4, xs, rfl, h4, h⟩ := cells_cons h
  obtain ⟨a5, xs, rfl, h5, h⟩ := cells_cons h
  obtain ⟨a6, xs, rfl, h6, h⟩ := cells_cons h
  obtain ⟨a7, xs, rfl, h7, h⟩ := cells_cons h
  obtain ⟨a8, xs, rfl, h8, h⟩ := cells_cons h
  obtain ⟨a9, xs, rfl, h9, h⟩ := cells_cons h
  obtain ⟨a10, xs, rfl, h10, h⟩ := cells_cons h
  obtain ⟨a11, xs, rfl, h11, h⟩ := cells_cons h
  obtain rfl := cells_nil h
  obtain ⟨k, rfl, hk⟩ := ctok_i8 h0
  obtain ⟨n1, rfl, _⟩ := ctok_i64 h1
  obtain ⟨n2, rfl, _⟩ := ctok_i64 h2
  obtain ⟨n3, rfl, _⟩ := ctok_i64 h3
  obtain ⟨y, rfl⟩ := ctok_bool.1 h4
  obtain ⟨ws, rfl, _, _⟩ := ctok_slOf (f := wrA) h5 (fun e he => wr_of he)
  obtain ⟨n6, rfl, _⟩ := ctok_i64 h6
  obtain ⟨n7, rfl, _⟩ := ctok_i64 h7
  obtain ⟨n8, rfl, _⟩ := ctok_i64 h8
  obtain ⟨n9, rfl, _⟩ := ctok_i64 h9
  obtain ⟨n10, rfl, _⟩ := ctok_i64 h10
  obtain ⟨n11, rfl, _⟩ := ctok_i64 h11
  exact ⟨⟨k, ⟨n1, n2, n3⟩, y, ws, n6, n7, n8, n9, n10, n11⟩, rfl, hk⟩
theorem lshort_avs (avs : List AV) (h : Shapes Try.prog [31, 3, 22] avs) (st : St) : ASpec Try.prog 4 avs st fun v st' => v = .bool true ∧ st' = st := by
  obtain ⟨a0, r, rfl, h0, h⟩ := shapes_cons h
  obtain ⟨a1, r, rfl, h1, h⟩ := shapes_cons h
  obtain ⟨a2, r, rfl, h2, h⟩ := shapes_cons h
  obtain rfl := shapes_nil h
  obtain ⟨r, rfl, hk⟩ := rc_of (h0.inv (by kernel_rfl) (by kernel_rfl))
  obtain ⟨n, rfl, hn⟩ := ctok_i64 (elem_1 (h1.inv (by kernel_rfl) (by kernel_rfl)))
  obtain ⟨l, rfl, _⟩ := ctok_bytes (elem_1 (h2.inv (by kernel_rfl) (by kernel_rfl)))
  exact lshort_spec r n l hk hn st
theorem lback_avs (avs : List AV) (h : Shapes Try.prog [31, 22] avs) (st : St) : ASpec Try.prog 5 avs st fun v st' => v = .bool true ∧ st' = st := by
  obtain ⟨a0, r, rfl, h0, h⟩ := shapes_cons h
  obtain ⟨a1, r, rfl, h1, h⟩ := shapes_cons h
  obtain rfl := shapes_nil h
  obtain ⟨r, rfl, hk⟩ := rc_of (h0.inv (by kernel_rfl) (by kernel_rfl))
  obtain ⟨l, rfl, _⟩ := ctok_bytes (elem_1 (h1.inv (by kernel_rfl) (by kernel_rfl)))
  exact lback_spec r l hk st
theorem lnames_avs (avs : List AV) (h : Shapes Try.prog [26, 26, 26] avs) (st : St) : ASpec Try.prog 6 avs st fun v st' => v = .bool true ∧ st' = st := by
  obtain ⟨a0, r, rfl, h0, h⟩ := shapes_cons h
  obtain ⟨a1, r, rfl, h1, h⟩ := shapes_cons h
  obtain ⟨a2, r, rfl, h2, h⟩ := shapes_cons h
  obtain rfl := shapes_nil h
  obtain ⟨a, rfl⟩ := nm_of (h0.inv (by kernel_rfl) (by kernel_rfl))
  obtain ⟨b, rfl⟩ := nm_of (h1.inv (by kernel_rfl) (by kernel_rfl))
  obtain ⟨c, rfl⟩ := nm_of (h2.inv (by kernel_rfl) (by kernel_rfl))
  exact lnames_spec a b c st
theorem ltells_avs (avs : List AV) (h : Shapes Try.prog [31, 31] avs) (st : St) : ASpec Try.prog 7 avs st fun v st' => v = .bool true ∧ st' = st := by
  obtain ⟨a0, r, rfl, h0, h⟩ := shapes_cons h
  obtain ⟨a1, r, rfl, h1, h⟩ := shapes_cons h
  obtain rfl := shapes_nil h
  obtain ⟨r, rfl, hk⟩ := rc_of (h0.inv (by kernel_rfl) (by kernel_rfl))
  obtain ⟨o, rfl, _⟩ := rc_of (h1.inv (by kernel_rfl) (by kernel_rfl))
  exact ltells_spec r o hk st
end Go.Proofs.Ytchaakjbedkndaa
