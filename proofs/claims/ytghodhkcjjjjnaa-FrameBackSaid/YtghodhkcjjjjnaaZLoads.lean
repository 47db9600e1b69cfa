/- FrameLoads: what the law hands back. -/
import Derived.Test.YtghodhkcjjjjnaaZFrame
set_option linter.all false
namespace Go.Proofs.Ytghodhkcjjjjnaa
open Go.Am

theorem frs_get (l : List UInt8) (seq inc : Int) {n i : Nat} (h : i < n) : (frs l seq inc n)[i]? = some (.agg [.int .i64 (seq + i), .int .i64 inc, .int .i64 i, .int .i64 (cutOf l), u32 (crc l), .sl .any (ofBytes ((l.drop (45 * i)).take 45))]) := by
  simp [frs, h, mkFr]

theorem loads_spec (l : List UInt8) (seq inc : Int) (st : St) : ASpec Try.prog 4 [.sl .any (ofBytes l), .int .i64 seq, .int .i64 inc] st fun v st' => v = .bool true ∧ st' = st := by
  refine pure_of (R := fun v => v = _) O9s F4 rfl ?_
  by_cases hl : 1000 < l.length
  · have hl' : 1000 < (l.length : Int) := by omega
    simp (disch := omega) [IntWalk.i64_in, IntWalk.i64_quo, c4, hl, hl', O9_7]
  have hl' : ¬ 1000 < (l.length : Int) := by omega
  have h8 := O9_8 l seq inc (by omega)
  rcases cut_cases l seq inc with ⟨e, he, hc⟩ | ⟨h', hc, h1, h2, h3, h4, h5, h6⟩
  · rw [hc] at h8
    simp (disch := omega) [IntWalk.i64_in, IntWalk.i64_quo, c4, hl, hl', h8, he, O9_7]
  · rw [hc] at h8
    have hn : 0 < cutOf l ∧ cutOf l ≤ 2 ∧ l.length ≤ 45 * cutOf l ∧ 45 * (cutOf l - 1) < l.length := by unfold cutOf; omega
    have hF : ((List.range (cutOf l)).map (mkFr l seq inc (cutOf l))).map frA = frs l seq inc (cutOf l) := by simp [frs]
    simp only [hF] at h8
    simp (disch := omega) [IntWalk.i64_in, IntWalk.i64_quo, c4, hl, hl', h8]
    refine awC_loopOwn 9 1 [] (by simp) (fun k env s => ∃ i, k + i = cutOf l ∧ env 0 = .sl .any (ofBytes l) ∧ env 1 = .int .i64 seq ∧ env 2 = .int .i64 inc ∧ env 7 = .sl .any (frs l seq inc (cutOf l)) ∧ env 9 = .sl (.own st.toks.length) (ofBytes (l.take (45 * i))) ∧ env 10 = .int .i64 i ∧ s = ⟨st.heap, st.toks ++ [((l.take (45 * i)).length, 1)]⟩) (cutOf l) ?_ ?_
    · exact ⟨0, by simp⟩
    rintro k env s ⟨i, hk, e0, e1, e2, e7, e9, e10, rfl⟩
    by_cases hi : i < cutOf l
    · have hi' : (i : Int) < cutOf l := by omega
      have hm := O9_11 (mkFr l seq inc (cutOf l) i)
      rw [mkFr_may h' hi] at hm
      simp only [mkFr] at hm
      have ha : l.take (45 * i) ++ (l.drop (45 * i)).take 45 = l.take (45 * (i + 1)) := by
        rw [show 45 * (i + 1) = 45 * i + 45 by omega, List.take_add]
      have hg := frs_get l seq inc hi
      have hg0 := frs_get l seq inc hn.1
      simp (disch := omega) [IntWalk.i64_in, IntWalk.i64_quo, e0, e1, e2, e7, e9, e10, hi, hi', frs_length, hg, hg0, hm]
      repeat' first
        | (refine region_static rfl (by decide +kernel) ?_; try simp (disch := omega) [IntWalk.i64_in, IntWalk.i64_quo, e0, e1, e2, e7, e9, e10, hi, hi', frs_length, hg, hg0, hm])
        | (refine guardK_ndec (fun h => ?_) (fun h => ?_) <;> (try simp (disch := omega) [h, IntWalk.i64_in, IntWalk.i64_quo, e0, e1, e2, e7, e9, e10, hi, hi', frs_length, hg, hg0, hm]))
        | (refine guardK_dec (fun h => ?_) (fun h => ?_) <;> (try simp (disch := omega) [h, IntWalk.i64_in, IntWalk.i64_quo, e0, e1, e2, e7, e9, e10, hi, hi', frs_length, hg, hg0, hm]))
        | (refine guardK_nbeq (fun h => ?_) (fun h => ?_) <;> (try simp (disch := omega) [h, IntWalk.i64_in, IntWalk.i64_quo, e0, e1, e2, e7, e9, e10, hi, hi', frs_length, hg, hg0, hm]))
        | (refine guardK_beq (fun h => ?_) (fun h => ?_) <;> (try simp (disch := omega) [h, IntWalk.i64_in, IntWalk.i64_quo, e0, e1, e2, e7, e9, e10, hi, hi', frs_length, hg, hg0, hm]))
        | (refine guardK_bne (fun h => ?_) (fun h => ?_) <;> (try simp (disch := omega) [h, IntWalk.i64_in, IntWalk.i64_quo, e0, e1, e2, e7, e9, e10, hi, hi', frs_length, hg, hg0, hm]))
        | (refine guardK_not (fun h => ?_) (fun h => ?_) <;> (try simp (disch := omega) [h, IntWalk.i64_in, IntWalk.i64_quo, e0, e1, e2, e7, e9, e10, hi, hi', frs_length, hg, hg0, hm]))
        | (refine guardK_split (fun h => ?_) (fun h => ?_) <;> (try simp (disch := omega) [h, IntWalk.i64_in, IntWalk.i64_quo, e0, e1, e2, e7, e9, e10, hi, hi', frs_length, hg, hg0, hm]))
        | (refine condK_ndec (fun h => ?_) (fun h => ?_) <;> (try simp (disch := omega) [h, IntWalk.i64_in, IntWalk.i64_quo, e0, e1, e2, e7, e9, e10, hi, hi', frs_length, hg, hg0, hm]))
        | (refine condK_dec (fun h => ?_) (fun h => ?_) <;> (try simp (disch := omega) [h, IntWalk.i64_in, IntWalk.i64_quo, e0, e1, e2, e7, e9, e10, hi, hi', frs_length, hg, hg0, hm]))
        | (refine condK_nbeq (fun h => ?_) (fun h => ?_) <;> (try simp (disch := omega) [h, IntWalk.i64_in, IntWalk.i64_quo, e0, e1, e2, e7, e9, e10, hi, hi', frs_length, hg, hg0, hm]))
        | (refine condK_beq (fun h => ?_) (fun h => ?_) <;> (try simp (disch := omega) [h, IntWalk.i64_in, IntWalk.i64_quo, e0, e1, e2, e7, e9, e10, hi, hi', frs_length, hg, hg0, hm]))
        | (refine condK_bne (fun h => ?_) (fun h => ?_) <;> (try simp (disch := omega) [h, IntWalk.i64_in, IntWalk.i64_quo, e0, e1, e2, e7, e9, e10, hi, hi', frs_length, hg, hg0, hm]))
        | (refine condK_not (fun h => ?_) (fun h => ?_) <;> (try simp (disch := omega) [h, IntWalk.i64_in, IntWalk.i64_quo, e0, e1, e2, e7, e9, e10, hi, hi', frs_length, hg, hg0, hm]))
        | (refine condK_split (fun h => ?_) (fun h => ?_) <;> (try simp (disch := omega) [h, IntWalk.i64_in, IntWalk.i64_quo, e0, e1, e2, e7, e9, e10, hi, hi', frs_length, hg, hg0, hm]))
      all_goals
        refine ⟨by omega, k - 1, by omega, [0, 1, 2, 7, 9, 10], _, .tok (tk := st.toks ++ [((l.take (45 * (i + 1))).length, 1)]) (by simp) ?_ (by simp) ?_, i + 1, by omega, ?_⟩
        · simp
          omega
        · simp [e0, e1, e2, e7, frs_ok]
        · simp [ha]
    · have hi' : ¬ (i : Int) < cutOf l := by omega
      have ht : l.take (45 * i) = l := List.take_of_length_le (by omega)
      have h2' : (cutOf l : Int) ≤ 2 := by omega
      simp (disch := omega) [IntWalk.i64_in, IntWalk.i64_quo, e0, e1, e2, e7, e9, e10, hi, hi', frs_length, O9_7, ht, h2']
end Go.Proofs.Ytghodhkcjjjjnaa
