/- Records: what the document says of an outcome; what bytes read as. -/
import Derived.Test.YtchaakjbedkndaaZQ
set_option linter.all false
namespace Go.Proofs.Ytchaakjbedkndaa
open Go.Am

noncomputable def C8 : Orc := C7.add 9 (tab (fun x : List UInt8 => [.sl .any (ofBytes x)]) (fun x => .tup [.agg (rcC (readR x).1), .int .i64 (readR x).2]) fun x => x.length ≤ 1000000)
theorem C8s : OSound Try.prog C8 := C7s.tab fun x h st => read_spec x h st
@[simp] theorem C8_9 (b : List UInt8) (h : b.length ≤ 1000000) : C8 9 [.sl .any (ofBytes b)] = some (.tup [.agg (rcC (readR b).1), .int .i64 (readR b).2]) := by
  rw [C8, Orc.add_same]
  exact tab_eq (fun x y h => by simp at h; simp [h]) (x := (b)) h
@[simp] theorem C8_o (f : Nat) (args : List AV) (h : f ≠ 9) : C8 f args = C7 f args := by
  rw [C8, Orc.add_other _ _ _ _ _ h]
@[simp] theorem C6_13n (a b c d : Int) (e : Bool) (g h' i j k l : Int) (ha : -128 ≤ a ∧ a ≤ 127) : C6 13 [.agg [.int .i8 a, .int .i64 b, .int .i64 c, .int .i64 d, .bool e, .sl .any [], .int .i64 g, .int .i64 h', .int .i64 i, .int .i64 j, .int .i64 k, .int .i64 l]] = some (.tup [.sl .any (ofBytes (bytesR ⟨a, ⟨b, c, d⟩, e, [], g, h', i, j, k, l⟩).1), .int .i64 (bytesR ⟨a, ⟨b, c, d⟩, e, [], g, h', i, j, k, l⟩).2]) := C6_13 a b c d e [] g h' i j k l ⟨ha, by simp⟩
theorem app0 (l : List UInt8) : ofBytes l ++ [.int .u8 0] = ofBytes (l ++ [0]) := by simp [ofBytes, u8]
def rcW : Rc := ⟨3, ⟨1, 1, 1⟩, true, [], 0, 0, 0, 0, 0, 0⟩
theorem bytes_w : bytesR ⟨3, ⟨1, 1, 1⟩, true, [], 0, 0, 0, 0, 0, 0⟩ = ([3, 1, 0, 0, 1, 0, 0, 1, 0, 0, 1], 0) := by decide +kernel
theorem read_w : (readR [3, 1, 0, 0, 1, 0, 0, 1, 0, 0, 1, 0]).2 = 40 := by decide +kernel
theorem wakes_spec (st : St) : ASpec Try.prog 8 [] st fun v st' => v = .bool true ∧ st' = st := by
  refine pure_of (R := fun v => v = _) C8s F8 rfl ?_
  simp (disch := first | omega | (simp only [List.length_take, List.length_drop, List.length_append, List.length_cons, List.length_nil, List.length_map]; omega)) [IntWalk.i64_in, IntWalk.i64_quo, c8, bytes_w, app0, read_w]
noncomputable def C9 : Orc := C8.add 8 (tab (fun x : Unit => []) (fun x => .bool true) fun x => True)
theorem C9s : OSound Try.prog C9 := C8s.tab fun x h st => wakes_spec st
@[simp] theorem C9_8  : C9 8 [] = some (.bool true) := by
  rw [C9, Orc.add_same]
  exact tab_eq (fun x y h => by rfl) (x := ()) trivial
@[simp] theorem C9_o (f : Nat) (args : List AV) (h : f ≠ 8) : C9 f args = C8 f args := by
  rw [C9, Orc.add_other _ _ _ _ _ h]
theorem readR_ws (b : List UInt8) : (readR b).1.ws.length ≤ 255 := by
  unfold readR
  cases b with
  | nil => simp [zRc]
  | cons x t =>
    simp only
    split
    · simp [zRc]
    · split
      · exact rdBody_ws _ _
      · simp [zRc]
theorem readR_kind (b : List UInt8) : -128 ≤ (readR b).1.kind ∧ (readR b).1.kind ≤ 127 := by
  unfold readR
  cases b with
  | nil => simp [zRc]
  | cons x t =>
    simp only
    split
    · simp [zRc]
    · split
      · rw [rdBody_kind]; omega
      · simp [zRc]
theorem lreads_spec (b : List UInt8) (st : St) : ASpec Try.prog 3 [.sl .any (ofBytes b)] st fun v st' => v = .bool true ∧ st' = st := by
  refine pure_of (R := fun v => v = _) C9s F3 rfl ?_
  by_cases h : 300 < b.length
  · have h' : (300 : Int) < b.length := by omega
    simp (disch := first | omega | (simp only [List.length_take, List.length_drop, List.length_append, List.length_cons, List.length_nil, List.length_map]; omega)) [IntWalk.i64_in, IntWalk.i64_quo, c3, h']
  · have h' : ¬ (300 : Int) < b.length := by omega
    have hw := readR_ws b
    obtain ⟨⟨r, e⟩, hr⟩ : ∃ q, readR b = q := ⟨_, rfl⟩
    rw [hr] at hw
    simp only at hw
    have hw' : r.ws.length ≤ 1048576 := by omega
    simp (disch := first | omega | (simp only [List.length_take, List.length_drop, List.length_append, List.length_cons, List.length_nil, List.length_map]; omega)) [IntWalk.i64_in, IntWalk.i64_quo, c3, h', hr, hw']
end Go.Proofs.Ytchaakjbedkndaa
