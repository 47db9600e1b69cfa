/- Moves: Begin, Writes, Hear. -/
import Derived.Test.YtjceilhmgbdgiaaZMB
set_option linter.all false
namespace Go.Proofs.Ytjceilhmgbdgiaa
open Go.Am

noncomputable def D8 : Orc := D6.add 15 (tab (fun x : Int × Int × Int × Int × Int × Int × Int × Int × List Vl => [.agg [.int .i8 x.1, .int .i64 x.2.1, .int .i64 x.2.2.1, .int .i64 x.2.2.2.1, .int .i64 x.2.2.2.2.1, .int .i64 x.2.2.2.2.2.1, .int .i64 x.2.2.2.2.2.2.1, .int .i64 x.2.2.2.2.2.2.2.1, .sl .any (vls x.2.2.2.2.2.2.2.2)]]) (fun x => .tup [.agg (mvC (tickM ⟨x.1, ⟨x.2.1, x.2.2.1, x.2.2.2.1⟩, x.2.2.2.2.1, x.2.2.2.2.2.1, x.2.2.2.2.2.2.1, x.2.2.2.2.2.2.2.1, x.2.2.2.2.2.2.2.2⟩).1), .sl .any (mss (tickM ⟨x.1, ⟨x.2.1, x.2.2.1, x.2.2.2.1⟩, x.2.2.2.2.1, x.2.2.2.2.2.1, x.2.2.2.2.2.2.1, x.2.2.2.2.2.2.2.1, x.2.2.2.2.2.2.2.2⟩).2.1), .int .i64 (tickM ⟨x.1, ⟨x.2.1, x.2.2.1, x.2.2.2.1⟩, x.2.2.2.2.1, x.2.2.2.2.2.1, x.2.2.2.2.2.2.1, x.2.2.2.2.2.2.2.1, x.2.2.2.2.2.2.2.2⟩).2.2]) fun x => x.2.2.2.2.2.2.2.2.length ≤ 1048576)
theorem D8s : OSound Try.prog D8 := D6s.tab fun x h st => tick_spec ⟨x.1, ⟨x.2.1, x.2.2.1, x.2.2.2.1⟩, x.2.2.2.2.1, x.2.2.2.2.2.1, x.2.2.2.2.2.2.1, x.2.2.2.2.2.2.2.1, x.2.2.2.2.2.2.2.2⟩ h st
@[simp] theorem D8_15 (p : Int) (a : Int) (b : Int) (c : Int) (s : Int) (t : Int) (f : Int) (n : Int) (l : List Vl) (h : l.length ≤ 1048576) : D8 15 [.agg [.int .i8 p, .int .i64 a, .int .i64 b, .int .i64 c, .int .i64 s, .int .i64 t, .int .i64 f, .int .i64 n, .sl .any (vls l)]] = some (.tup [.agg (mvC (tickM ⟨p, ⟨a, b, c⟩, s, t, f, n, l⟩).1), .sl .any (mss (tickM ⟨p, ⟨a, b, c⟩, s, t, f, n, l⟩).2.1), .int .i64 (tickM ⟨p, ⟨a, b, c⟩, s, t, f, n, l⟩).2.2]) := by
  rw [D8, Orc.add_same]
  exact tab_eq (fun x y h => by simp at h; simp [h]) (x := (p, a, b, c, s, t, f, n, l)) h
@[simp] theorem D8_o (f : Nat) (args : List AV) (h : f ≠ 15) : D8 f args = D6 f args := by
  rw [D8, Orc.add_other _ _ _ _ _ h]
noncomputable def D9 : Orc := D8.add 64 (tab (fun x : Int × Int × Int × Int × Int × Int × Int × Int × Int × Int × Int × UInt8 × UInt8 × UInt8 × UInt8 × UInt8 × UInt8 × UInt8 × UInt8 × Int × Bool × Int × Int × List Wr => [.agg [.int .i8 x.1, .int .i64 x.2.1, .int .i64 x.2.2.1, .int .i64 x.2.2.2.1, .int .i64 x.2.2.2.2.1, .int .i64 x.2.2.2.2.2.1, .int .i64 x.2.2.2.2.2.2.1, .int .i64 x.2.2.2.2.2.2.2.1, .int .i64 x.2.2.2.2.2.2.2.2.1, .int .i8 x.2.2.2.2.2.2.2.2.2.1, .int .i64 x.2.2.2.2.2.2.2.2.2.2.1, u8 x.2.2.2.2.2.2.2.2.2.2.2.1, u8 x.2.2.2.2.2.2.2.2.2.2.2.2.1, u8 x.2.2.2.2.2.2.2.2.2.2.2.2.2.1, u8 x.2.2.2.2.2.2.2.2.2.2.2.2.2.2.1, u8 x.2.2.2.2.2.2.2.2.2.2.2.2.2.2.2.1, u8 x.2.2.2.2.2.2.2.2.2.2.2.2.2.2.2.2.1, u8 x.2.2.2.2.2.2.2.2.2.2.2.2.2.2.2.2.2.1, u8 x.2.2.2.2.2.2.2.2.2.2.2.2.2.2.2.2.2.2.1, .int .i64 x.2.2.2.2.2.2.2.2.2.2.2.2.2.2.2.2.2.2.2.1, .bool x.2.2.2.2.2.2.2.2.2.2.2.2.2.2.2.2.2.2.2.2.1, .int .i64 x.2.2.2.2.2.2.2.2.2.2.2.2.2.2.2.2.2.2.2.2.2.1, .int .i64 x.2.2.2.2.2.2.2.2.2.2.2.2.2.2.2.2.2.2.2.2.2.2.1, .sl .any (wrs x.2.2.2.2.2.2.2.2.2.2.2.2.2.2.2.2.2.2.2.2.2.2.2)]]) (fun x => .bool (mayM ⟨x.1, x.2.1, x.2.2.1, x.2.2.2.1, x.2.2.2.2.1, ⟨x.2.2.2.2.2.1, x.2.2.2.2.2.2.1, x.2.2.2.2.2.2.2.1⟩, x.2.2.2.2.2.2.2.2.1, x.2.2.2.2.2.2.2.2.2.1, x.2.2.2.2.2.2.2.2.2.2.1, ⟨x.2.2.2.2.2.2.2.2.2.2.2.1, x.2.2.2.2.2.2.2.2.2.2.2.2.1, x.2.2.2.2.2.2.2.2.2.2.2.2.2.1, x.2.2.2.2.2.2.2.2.2.2.2.2.2.2.1, x.2.2.2.2.2.2.2.2.2.2.2.2.2.2.2.1, x.2.2.2.2.2.2.2.2.2.2.2.2.2.2.2.2.1, x.2.2.2.2.2.2.2.2.2.2.2.2.2.2.2.2.2.1, x.2.2.2.2.2.2.2.2.2.2.2.2.2.2.2.2.2.2.1⟩, x.2.2.2.2.2.2.2.2.2.2.2.2.2.2.2.2.2.2.2.1, x.2.2.2.2.2.2.2.2.2.2.2.2.2.2.2.2.2.2.2.2.1, x.2.2.2.2.2.2.2.2.2.2.2.2.2.2.2.2.2.2.2.2.2.1, x.2.2.2.2.2.2.2.2.2.2.2.2.2.2.2.2.2.2.2.2.2.2.1, x.2.2.2.2.2.2.2.2.2.2.2.2.2.2.2.2.2.2.2.2.2.2.2⟩)) fun x => x.2.2.2.2.2.2.2.2.2.2.2.2.2.2.2.2.2.2.2.2.2.2.2.length ≤ 1048576)
theorem D9s : OSound Try.prog D9 := D8s.tab fun x h st => may_spec ⟨x.1, x.2.1, x.2.2.1, x.2.2.2.1, x.2.2.2.2.1, ⟨x.2.2.2.2.2.1, x.2.2.2.2.2.2.1, x.2.2.2.2.2.2.2.1⟩, x.2.2.2.2.2.2.2.2.1, x.2.2.2.2.2.2.2.2.2.1, x.2.2.2.2.2.2.2.2.2.2.1, ⟨x.2.2.2.2.2.2.2.2.2.2.2.1, x.2.2.2.2.2.2.2.2.2.2.2.2.1, x.2.2.2.2.2.2.2.2.2.2.2.2.2.1, x.2.2.2.2.2.2.2.2.2.2.2.2.2.2.1, x.2.2.2.2.2.2.2.2.2.2.2.2.2.2.2.1, x.2.2.2.2.2.2.2.2.2.2.2.2.2.2.2.2.1, x.2.2.2.2.2.2.2.2.2.2.2.2.2.2.2.2.2.1, x.2.2.2.2.2.2.2.2.2.2.2.2.2.2.2.2.2.2.1⟩, x.2.2.2.2.2.2.2.2.2.2.2.2.2.2.2.2.2.2.2.1, x.2.2.2.2.2.2.2.2.2.2.2.2.2.2.2.2.2.2.2.2.1, x.2.2.2.2.2.2.2.2.2.2.2.2.2.2.2.2.2.2.2.2.2.1, x.2.2.2.2.2.2.2.2.2.2.2.2.2.2.2.2.2.2.2.2.2.2.1, x.2.2.2.2.2.2.2.2.2.2.2.2.2.2.2.2.2.2.2.2.2.2.2⟩ h st
@[simp] theorem D9_64 (k : Int) (fr : Int) (to : Int) (inc : Int) (yo : Int) (a : Int) (b : Int) (c : Int) (n : Int) (op : Int) (bl : Int) (v0 : UInt8) (v1 : UInt8) (v2 : UInt8) (v3 : UInt8) (v4 : UInt8) (v5 : UInt8) (v6 : UInt8) (v7 : UInt8) (e : Int) (y : Bool) (g : Int) (t : Int) (ws : List Wr) (h : ws.length ≤ 1048576) : D9 64 [.agg [.int .i8 k, .int .i64 fr, .int .i64 to, .int .i64 inc, .int .i64 yo, .int .i64 a, .int .i64 b, .int .i64 c, .int .i64 n, .int .i8 op, .int .i64 bl, u8 v0, u8 v1, u8 v2, u8 v3, u8 v4, u8 v5, u8 v6, u8 v7, .int .i64 e, .bool y, .int .i64 g, .int .i64 t, .sl .any (wrs ws)]] = some (.bool (mayM ⟨k, fr, to, inc, yo, ⟨a, b, c⟩, n, op, bl, ⟨v0, v1, v2, v3, v4, v5, v6, v7⟩, e, y, g, t, ws⟩)) := by
  rw [D9, Orc.add_same]
  exact tab_eq (fun x y h => by simp at h; simp [h]) (x := (k, fr, to, inc, yo, a, b, c, n, op, bl, v0, v1, v2, v3, v4, v5, v6, v7, e, y, g, t, ws)) h
@[simp] theorem D9_o (f : Nat) (args : List AV) (h : f ≠ 64) : D9 f args = D8 f args := by
  rw [D9, Orc.add_other _ _ _ _ _ h]
def beginM (s t f : Int) (n : Nm) : Mv × List Ms × Int := if suchC s t f n = true then (⟨1, n, s, t, f, 1, []⟩, [askM ⟨1, n, s, t, f, 1, []⟩], 0) else (zMv, [], 2)
theorem check_z : checkM ⟨0, ⟨0, 0, 0⟩, 0, 0, 0, 0, []⟩ = true := by decide
theorem begin_spec (s t f : Int) (n : Nm) (st : St) : ASpec Try.prog 13 [.agg (mvC zMv), .agg [.int .i64 s, .int .i64 t], .int .i64 f, .agg (nmC n)] st fun v st' => v = .tup [.agg (mvC (beginM s t f n).1), .sl .any (mss (beginM s t f n).2.1), .int .i64 (beginM s t f n).2.2] ∧ st' = st := by
  refine pure_of (R := fun v => v = _) D9s F13 rfl ?_
  unfold beginM
  by_cases hs : suchC s t f n = true
  · have hf := suchC_facts hs
    obtain ⟨s1, _⟩ := hf
    simp (disch := first | omega | (simp only [List.length_take, List.length_drop, List.length_append, List.length_cons, List.length_nil, List.length_map]; omega)) [IntWalk.i64_in, IntWalk.i64_quo, c13, zMv, check_z, eOf, hs, mss]
    refine region_state [61] [61] [0, 1, 2, 3, 4] (by decide +kernel) ?_
    simp (disch := first | omega | (simp only [List.length_take, List.length_drop, List.length_append, List.length_cons, List.length_nil, List.length_map]; omega)) [IntWalk.i64_in, IntWalk.i64_quo]
    refine ASpec.mono (ask_specP (m := ⟨1, n, s, t, f, 1, []⟩) (x := .sl .clip []) s1 (by simp) (fz := false) ?h) ?_
    case h => simp
    rintro _ _ ⟨rfl, rfl⟩
    simp (disch := first | omega | (simp only [List.length_take, List.length_drop, List.length_append, List.length_cons, List.length_nil, List.length_map]; omega)) [IntWalk.i64_in, IntWalk.i64_quo]
  · simp (disch := first | omega | (simp only [List.length_take, List.length_drop, List.length_append, List.length_cons, List.length_nil, List.length_map]; omega)) [IntWalk.i64_in, IntWalk.i64_quo, c13, zMv, check_z, eOf, hs, mss]
end Go.Proofs.Ytjceilhmgbdgiaa
