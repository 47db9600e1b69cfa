/- FrameBack: what the law hands back. -/
import Derived.Test.YtghodhkcjjjjnaaZRef4
import Derived.Test.YtghodhkcjjjjnaaZBurst
set_option linter.all false
namespace Go.Proofs.Ytghodhkcjjjjnaa
open Go.Am

theorem fback_spec (l : List UInt8) (seq inc : Int) (bits : BitVec 32) (pos : Int) (raw : List UInt8) (hp : -9223372036854775808 ≤ pos ∧ pos ≤ 9223372036854775807) (st : St) : ASpec Try.prog 6 [.sl .any (ofBytes l), .int .i64 seq, .int .i64 inc, u32 bits, .int .i64 pos, .sl .any (ofBytes raw)] st fun v st' => v = .bool true ∧ st' = st := by
  refine pure_of (R := fun v => v = _) R4s F6m rfl ?_
  by_cases h1 : 90 < l.length
  · have h1' : (90 : Int) < l.length := by omega
    simp (disch := first | omega | (simp only [List.length_take, List.length_drop, List.length_append, List.length_cons, List.length_nil, List.length_map]; omega)) [IntWalk.i64_in, IntWalk.i64_quo, c6m, h1']
  by_cases h2 : 1000 < raw.length
  · have h1' : ¬ (90 : Int) < l.length := by omega
    have h2' : (1000 : Int) < raw.length := by omega
    simp (disch := first | omega | (simp only [List.length_take, List.length_drop, List.length_append, List.length_cons, List.length_nil, List.length_map]; omega)) [IntWalk.i64_in, IntWalk.i64_quo, c6m, h1', h2']
  have h1' : ¬ (90 : Int) < l.length := by omega
  have h2' : ¬ (1000 : Int) < raw.length := by omega
  have key : ∃ (r : Fr) (h : Int), readA raw = .tup [frA r, .int .i64 h] ∧ (h = 0 → bytesA r = .tup [.sl .any (ofBytes raw), .int .i64 0]) := by
    unfold readA; split
    · rename_i hc
      exact ⟨_, _, rfl, fun _ => by rw [bytesA, if_pos hc.2.2.1, hc.2.2.2]⟩
    · exact ⟨_, _, rfl, fun h => by cases h⟩
  obtain ⟨r, h, k1, k2⟩ := key
  simp only [frA] at k1
  rcases cut_cases l seq inc with ⟨e, he, hc⟩ | ⟨h', hc, g1, g2, g3, g4, g5, g6⟩
  · simp (disch := first | omega | (simp only [List.length_take, List.length_drop, List.length_append, List.length_cons, List.length_nil, List.length_map]; omega)) [IntWalk.i64_in, IntWalk.i64_quo, c6m, h1', h2', hc, he, k1]
    by_cases hz : h = 0
    · simp (disch := first | omega | (simp only [List.length_take, List.length_drop, List.length_append, List.length_cons, List.length_nil, List.length_map]; omega)) [IntWalk.i64_in, IntWalk.i64_quo, hz, k2 hz]
    · simp (disch := first | omega | (simp only [List.length_take, List.length_drop, List.length_append, List.length_cons, List.length_nil, List.length_map]; omega)) [IntWalk.i64_in, IntWalk.i64_quo, hz]
  have hn : 0 < cutOf l ∧ cutOf l ≤ 2 := by unfold cutOf; omega
  have hF : ((List.range (cutOf l)).map (mkFr l seq inc (cutOf l))).map frA = frs l seq inc (cutOf l) := by simp [frs]
  have h8 := O7_8 l seq inc (by omega)
  rw [hc] at h8
  simp only [hF] at h8
  have hj := O8_10 (cut l seq inc).1 (by rw [hc]; simp; omega)
  rw [join_cut h', hc, hF] at hj
  have hb : -512 < pos.tmod 512 ∧ pos.tmod 512 < 512 := by
    refine ⟨?_, Int.tmod_lt_of_pos _ (by decide)⟩
    have h1 : (-pos).tmod 512 < 512 := Int.tmod_lt_of_pos _ (by decide)
    rw [Int.neg_tmod] at h1
    omega
  obtain ⟨d, hd, hd1⟩ : ∃ d : Nat, ((pos.tmod 512) + 512).tmod 512 = (d : Int) ∧ d < 512 := by
    have h1 := Int.tmod_nonneg (a := pos.tmod 512 + 512) 512 (by omega)
    have h2 := Int.tmod_lt_of_pos (pos.tmod 512 + 512) (b := 512) (by decide)
    exact ⟨(((pos.tmod 512) + 512).tmod 512).toNat, by omega, by omega⟩
  simp (disch := first | omega | (simp only [List.length_take, List.length_drop, List.length_append, List.length_cons, List.length_nil, List.length_map]; omega)) [IntWalk.i64_in, IntWalk.i64_quo, c6m, h1', h2', h8]
  refine awC_loopOwn 15 6 [] (by simp) (fun k env s => ∃ i, k + i = cutOf l ∧ env 0 = .sl .any (ofBytes l) ∧ env 3 = u32 bits ∧ env 4 = .int .i64 pos ∧ env 5 = .sl .any (ofBytes raw) ∧ env 13 = .sl .any (frs l seq inc (cutOf l)) ∧ env 15 = .sl (.own st.toks.length) (frs l seq inc i) ∧ env 16 = .int .i64 i ∧ s = ⟨st.heap, st.toks ++ [(i, 6)]⟩) (cutOf l) ?_ ?_
  · refine ⟨0, ?_⟩
    simp [frs_0]
  rintro k env s ⟨i, hk, e0, e3, e4, e5, e13, e15, e16, rfl⟩
  by_cases hi : i < cutOf l
  · have hi' : (i : Int) < cutOf l := by omega
    have hm := mkFr_may h' hi
    have hB : bytesA (mkFr l seq inc (cutOf l) i) = .tup [.sl .any (ofBytes (seal_ (bodyB (mkFr l seq inc (cutOf l) i)))), .int .i64 0] := by rw [bytesA, if_pos hm]
    have hR := read_back hm
    have hg := frs_get l seq inc hi
    have hmk : Fr.mk (seq + i) inc i (cutOf l) (crc l) ((l.drop (45 * i)).take 45) = mkFr l seq inc (cutOf l) i := rfl
    obtain ⟨s, hs⟩ : ∃ s, s = seal_ (bodyB (mkFr l seq inc (cutOf l) i)) := ⟨_, rfl⟩
    rw [← hs] at hB hR
    have hss : sameF (mkFr l seq inc (cutOf l) i) (mkFr l seq inc (cutOf l) i) = true := by simp [sameF]
    have hsl : s.length = 64 := by rw [hs, seal_length, bodyB_length (may_all hm).2.2.2.2.2.2.2.2.2]
    simp only [frA, mkFr] at hR
    simp (disch := first | omega | (simp only [List.length_take, List.length_drop, List.length_append, List.length_cons, List.length_nil, List.length_map]; omega)) [IntWalk.i64_in, IntWalk.i64_quo, e0, e3, e4, e5, e13, e15, e16, hi, hi', frs_length, hg, hmk, hB, hR, hsl]
    repeat' first
      | (refine region_static rfl (by decide +kernel) ?_; try simp (disch := first | omega | (simp only [List.length_take, List.length_drop, List.length_append, List.length_cons, List.length_nil, List.length_map]; omega)) [IntWalk.i64_in, IntWalk.i64_quo, e0, e3, e4, e5, e13, e15, e16, hi, hi', frs_length, hg, hmk, hB, hR, hsl, hss, hd])
      | (refine And.intro (by omega) ?_; try simp (disch := first | omega | (simp only [List.length_take, List.length_drop, List.length_append, List.length_cons, List.length_nil, List.length_map]; omega)) [IntWalk.i64_in, IntWalk.i64_quo, e0, e3, e4, e5, e13, e15, e16, hi, hi', frs_length, hg, hmk, hB, hR, hsl, hss, hd])
      | (refine guardK_ndec (fun h => ?_) (fun h => ?_) <;> (try simp (disch := first | omega | (simp only [List.length_take, List.length_drop, List.length_append, List.length_cons, List.length_nil, List.length_map]; omega)) [h, IntWalk.i64_in, IntWalk.i64_quo, e0, e3, e4, e5, e13, e15, e16, hi, hi', frs_length, hg, hmk, hB, hR, hsl, hss, hd]))
      | (refine guardK_dec (fun h => ?_) (fun h => ?_) <;> (try simp (disch := first | omega | (simp only [List.length_take, List.length_drop, List.length_append, List.length_cons, List.length_nil, List.length_map]; omega)) [h, IntWalk.i64_in, IntWalk.i64_quo, e0, e3, e4, e5, e13, e15, e16, hi, hi', frs_length, hg, hmk, hB, hR, hsl, hss, hd]))
      | (refine guardK_nbeq (fun h => ?_) (fun h => ?_) <;> (try simp (disch := first | omega | (simp only [List.length_take, List.length_drop, List.length_append, List.length_cons, List.length_nil, List.length_map]; omega)) [h, IntWalk.i64_in, IntWalk.i64_quo, e0, e3, e4, e5, e13, e15, e16, hi, hi', frs_length, hg, hmk, hB, hR, hsl, hss, hd]))
      | (refine guardK_beq (fun h => ?_) (fun h => ?_) <;> (try simp (disch := first | omega | (simp only [List.length_take, List.length_drop, List.length_append, List.length_cons, List.length_nil, List.length_map]; omega)) [h, IntWalk.i64_in, IntWalk.i64_quo, e0, e3, e4, e5, e13, e15, e16, hi, hi', frs_length, hg, hmk, hB, hR, hsl, hss, hd]))
      | (refine guardK_bne (fun h => ?_) (fun h => ?_) <;> (try simp (disch := first | omega | (simp only [List.length_take, List.length_drop, List.length_append, List.length_cons, List.length_nil, List.length_map]; omega)) [h, IntWalk.i64_in, IntWalk.i64_quo, e0, e3, e4, e5, e13, e15, e16, hi, hi', frs_length, hg, hmk, hB, hR, hsl, hss, hd]))
      | (refine guardK_not (fun h => ?_) (fun h => ?_) <;> (try simp (disch := first | omega | (simp only [List.length_take, List.length_drop, List.length_append, List.length_cons, List.length_nil, List.length_map]; omega)) [h, IntWalk.i64_in, IntWalk.i64_quo, e0, e3, e4, e5, e13, e15, e16, hi, hi', frs_length, hg, hmk, hB, hR, hsl, hss, hd]))
      | (refine guardK_split (fun h => ?_) (fun h => ?_) <;> (try simp (disch := first | omega | (simp only [List.length_take, List.length_drop, List.length_append, List.length_cons, List.length_nil, List.length_map]; omega)) [h, IntWalk.i64_in, IntWalk.i64_quo, e0, e3, e4, e5, e13, e15, e16, hi, hi', frs_length, hg, hmk, hB, hR, hsl, hss, hd]))
      | (refine condK_ndec (fun h => ?_) (fun h => ?_) <;> (try simp (disch := first | omega | (simp only [List.length_take, List.length_drop, List.length_append, List.length_cons, List.length_nil, List.length_map]; omega)) [h, IntWalk.i64_in, IntWalk.i64_quo, e0, e3, e4, e5, e13, e15, e16, hi, hi', frs_length, hg, hmk, hB, hR, hsl, hss, hd]))
      | (refine condK_dec (fun h => ?_) (fun h => ?_) <;> (try simp (disch := first | omega | (simp only [List.length_take, List.length_drop, List.length_append, List.length_cons, List.length_nil, List.length_map]; omega)) [h, IntWalk.i64_in, IntWalk.i64_quo, e0, e3, e4, e5, e13, e15, e16, hi, hi', frs_length, hg, hmk, hB, hR, hsl, hss, hd]))
      | (refine condK_nbeq (fun h => ?_) (fun h => ?_) <;> (try simp (disch := first | omega | (simp only [List.length_take, List.length_drop, List.length_append, List.length_cons, List.length_nil, List.length_map]; omega)) [h, IntWalk.i64_in, IntWalk.i64_quo, e0, e3, e4, e5, e13, e15, e16, hi, hi', frs_length, hg, hmk, hB, hR, hsl, hss, hd]))
      | (refine condK_beq (fun h => ?_) (fun h => ?_) <;> (try simp (disch := first | omega | (simp only [List.length_take, List.length_drop, List.length_append, List.length_cons, List.length_nil, List.length_map]; omega)) [h, IntWalk.i64_in, IntWalk.i64_quo, e0, e3, e4, e5, e13, e15, e16, hi, hi', frs_length, hg, hmk, hB, hR, hsl, hss, hd]))
      | (refine condK_bne (fun h => ?_) (fun h => ?_) <;> (try simp (disch := first | omega | (simp only [List.length_take, List.length_drop, List.length_append, List.length_cons, List.length_nil, List.length_map]; omega)) [h, IntWalk.i64_in, IntWalk.i64_quo, e0, e3, e4, e5, e13, e15, e16, hi, hi', frs_length, hg, hmk, hB, hR, hsl, hss, hd]))
      | (refine condK_not (fun h => ?_) (fun h => ?_) <;> (try simp (disch := first | omega | (simp only [List.length_take, List.length_drop, List.length_append, List.length_cons, List.length_nil, List.length_map]; omega)) [h, IntWalk.i64_in, IntWalk.i64_quo, e0, e3, e4, e5, e13, e15, e16, hi, hi', frs_length, hg, hmk, hB, hR, hsl, hss, hd]))
      | (refine condK_split (fun h => ?_) (fun h => ?_) <;> (try simp (disch := first | omega | (simp only [List.length_take, List.length_drop, List.length_append, List.length_cons, List.length_nil, List.length_map]; omega)) [h, IntWalk.i64_in, IntWalk.i64_quo, e0, e3, e4, e5, e13, e15, e16, hi, hi', frs_length, hg, hmk, hB, hR, hsl, hss, hd]))
    clear k1 k2 h8 hj hc hF hB hR hmk
    refine ⟨⟨frs_allSz _ _ _ _, by omega⟩, ?_⟩
    have hfs := frs_step l seq inc i
    obtain ⟨tn, htn⟩ : ∃ tn, tn = bits ||| 1#32 := ⟨_, rfl⟩
    obtain ⟨bk, hbk⟩ : ∃ bk, bk = Blk.cells false [.int .i64 (seq + i), .int .i64 inc, .int .i64 i, .int .i64 (cutOf l), u32 (crc l), .sl .any (ofBytes ((l.drop (45 * i)).take 45))] := ⟨_, rfl⟩
    refine awC_loopW (fun m env2 s2 => ∃ j T, m + j = 32 ∧ env2 0 = .sl .any (ofBytes l) ∧ env2 3 = u32 bits ∧ env2 4 = .int .i64 pos ∧ env2 5 = .sl .any (ofBytes raw) ∧ env2 13 = .sl .any (frs l seq inc (cutOf l)) ∧ env2 15 = .sl (.own st.toks.length) (frs l seq inc (i + 1)) ∧ env2 16 = .int .i64 i ∧ env2 21 = .int .i64 d ∧ env2 22 = .msl (st.heap.length + 1) 0 64 none ∧ env2 23 = u32 tn ∧ env2 24 = .int .i64 j ∧ s2 = ⟨st.heap ++ [bk, .cells false (ofBytes T)], st.toks ++ [(i + 1, 6)]⟩ ∧ T.length = 64 ∧ d + j ≤ 512 ∧ num T = num s ^^^ 2 ^ d * (tn.toNat % 2 ^ j)) 32 ?_ ?_
    · refine ⟨0, s, rfl, by simp [e0], by simp [e3], by simp [e4], by simp [e5], by simp [e13], by simp [hfs], by simp [e16], by simp, by simp, by simp [htn], by simp, by simp [hbk], hsl, by omega, by simp [Nat.mod_one]⟩
    rintro m env2 s2 ⟨j, T, hmj, i0, i3, i4, i5, i13, i15, i16, i21, i22, i23, i24, rfl, hTl, hdj, hT⟩
    by_cases hj2 : j < 32 ∧ d + j < 512
    · obtain ⟨hj3, hj4⟩ := hj2
      have hj3' : (j : Int) < 32 := by omega
      have hj4' : (d : Int) + j < 512 := by omega
      clear hg hfs hbk
      have hsh := shr_u32 tn j (by omega) .none .i64
      obtain ⟨p, q, hpq, hq⟩ : ∃ p q, d + j = 8 * p + q ∧ q < 8 := ⟨(d + j) / 8, (d + j) % 8, by omega, Nat.mod_lt _ (by decide)⟩
      have a1 : IntKind.i64.wrap (((d : Int) + j).tdiv 8) = (p : Int) := by rw [IntWalk.i64_quo _ _ (by omega)]; omega
      have a2 : ((d : Int) + j).tmod 8 = (q : Int) := by rw [Int.tmod_eq_emod_of_nonneg (by omega)]; omega
      have a3 := shl1_u8 q (by omega)
      have hpl : p < T.length := by omega
      have hpl' : (p : Int) < 64 := by omega
      obtain ⟨x, hx⟩ : ∃ x, T[p]? = some x := ⟨T[p], List.getElem?_eq_getElem hpl⟩
      simp (disch := first | omega | (simp only [List.length_take, List.length_drop, List.length_append, List.length_cons, List.length_nil, List.length_map]; omega)) [IntWalk.i64_in, IntWalk.i64_quo, i0, i3, i4, i5, i13, i15, i16, i21, i22, i23, i24, hj3', hj4', hTl, hsh]
      repeat' first
        | (refine region_static rfl (by decide +kernel) ?_; try simp (disch := first | omega | (simp only [List.length_take, List.length_drop, List.length_append, List.length_cons, List.length_nil, List.length_map]; omega)) [IntWalk.i64_in, IntWalk.i64_quo, i0, i3, i4, i5, i13, i15, i16, i21, i22, i23, i24, hj3', hj4', hTl, hsh, a1, a2, a3, hpl', hx, xor_u8])
        | (refine And.intro (by omega) ?_; try simp (disch := first | omega | (simp only [List.length_take, List.length_drop, List.length_append, List.length_cons, List.length_nil, List.length_map]; omega)) [IntWalk.i64_in, IntWalk.i64_quo, i0, i3, i4, i5, i13, i15, i16, i21, i22, i23, i24, hj3', hj4', hTl, hsh, a1, a2, a3, hpl', hx, xor_u8])
        | (refine guardK_ndec (fun h => ?_) (fun h => ?_) <;> (try simp (disch := first | omega | (simp only [List.length_take, List.length_drop, List.length_append, List.length_cons, List.length_nil, List.length_map]; omega)) [h, IntWalk.i64_in, IntWalk.i64_quo, i0, i3, i4, i5, i13, i15, i16, i21, i22, i23, i24, hj3', hj4', hTl, hsh, a1, a2, a3, hpl', hx, xor_u8]))
        | (refine guardK_dec (fun h => ?_) (fun h => ?_) <;> (try simp (disch := first | omega | (simp only [List.length_take, List.length_drop, List.length_append, List.length_cons, List.length_nil, List.length_map]; omega)) [h, IntWalk.i64_in, IntWalk.i64_quo, i0, i3, i4, i5, i13, i15, i16, i21, i22, i23, i24, hj3', hj4', hTl, hsh, a1, a2, a3, hpl', hx, xor_u8]))
        | (refine guardK_nbeq (fun h => ?_) (fun h => ?_) <;> (try simp (disch := first | omega | (simp only [List.length_take, List.length_drop, List.length_append, List.length_cons, List.length_nil, List.length_map]; omega)) [h, IntWalk.i64_in, IntWalk.i64_quo, i0, i3, i4, i5, i13, i15, i16, i21, i22, i23, i24, hj3', hj4', hTl, hsh, a1, a2, a3, hpl', hx, xor_u8]))
        | (refine guardK_beq (fun h => ?_) (fun h => ?_) <;> (try simp (disch := first | omega | (simp only [List.length_take, List.length_drop, List.length_append, List.length_cons, List.length_nil, List.length_map]; omega)) [h, IntWalk.i64_in, IntWalk.i64_quo, i0, i3, i4, i5, i13, i15, i16, i21, i22, i23, i24, hj3', hj4', hTl, hsh, a1, a2, a3, hpl', hx, xor_u8]))
        | (refine guardK_bne (fun h => ?_) (fun h => ?_) <;> (try simp (disch := first | omega | (simp only [List.length_take, List.length_drop, List.length_append, List.length_cons, List.length_nil, List.length_map]; omega)) [h, IntWalk.i64_in, IntWalk.i64_quo, i0, i3, i4, i5, i13, i15, i16, i21, i22, i23, i24, hj3', hj4', hTl, hsh, a1, a2, a3, hpl', hx, xor_u8]))
        | (refine guardK_not (fun h => ?_) (fun h => ?_) <;> (try simp (disch := first | omega | (simp only [List.length_take, List.length_drop, List.length_append, List.length_cons, List.length_nil, List.length_map]; omega)) [h, IntWalk.i64_in, IntWalk.i64_quo, i0, i3, i4, i5, i13, i15, i16, i21, i22, i23, i24, hj3', hj4', hTl, hsh, a1, a2, a3, hpl', hx, xor_u8]))
        | (refine guardK_split (fun h => ?_) (fun h => ?_) <;> (try simp (disch := first | omega | (simp only [List.length_take, List.length_drop, List.length_append, List.length_cons, List.length_nil, List.length_map]; omega)) [h, IntWalk.i64_in, IntWalk.i64_quo, i0, i3, i4, i5, i13, i15, i16, i21, i22, i23, i24, hj3', hj4', hTl, hsh, a1, a2, a3, hpl', hx, xor_u8]))
        | (refine condK_ndec (fun h => ?_) (fun h => ?_) <;> (try simp (disch := first | omega | (simp only [List.length_take, List.length_drop, List.length_append, List.length_cons, List.length_nil, List.length_map]; omega)) [h, IntWalk.i64_in, IntWalk.i64_quo, i0, i3, i4, i5, i13, i15, i16, i21, i22, i23, i24, hj3', hj4', hTl, hsh, a1, a2, a3, hpl', hx, xor_u8]))
        | (refine condK_dec (fun h => ?_) (fun h => ?_) <;> (try simp (disch := first | omega | (simp only [List.length_take, List.length_drop, List.length_append, List.length_cons, List.length_nil, List.length_map]; omega)) [h, IntWalk.i64_in, IntWalk.i64_quo, i0, i3, i4, i5, i13, i15, i16, i21, i22, i23, i24, hj3', hj4', hTl, hsh, a1, a2, a3, hpl', hx, xor_u8]))
        | (refine condK_nbeq (fun h => ?_) (fun h => ?_) <;> (try simp (disch := first | omega | (simp only [List.length_take, List.length_drop, List.length_append, List.length_cons, List.length_nil, List.length_map]; omega)) [h, IntWalk.i64_in, IntWalk.i64_quo, i0, i3, i4, i5, i13, i15, i16, i21, i22, i23, i24, hj3', hj4', hTl, hsh, a1, a2, a3, hpl', hx, xor_u8]))
        | (refine condK_beq (fun h => ?_) (fun h => ?_) <;> (try simp (disch := first | omega | (simp only [List.length_take, List.length_drop, List.length_append, List.length_cons, List.length_nil, List.length_map]; omega)) [h, IntWalk.i64_in, IntWalk.i64_quo, i0, i3, i4, i5, i13, i15, i16, i21, i22, i23, i24, hj3', hj4', hTl, hsh, a1, a2, a3, hpl', hx, xor_u8]))
        | (refine condK_bne (fun h => ?_) (fun h => ?_) <;> (try simp (disch := first | omega | (simp only [List.length_take, List.length_drop, List.length_append, List.length_cons, List.length_nil, List.length_map]; omega)) [h, IntWalk.i64_in, IntWalk.i64_quo, i0, i3, i4, i5, i13, i15, i16, i21, i22, i23, i24, hj3', hj4', hTl, hsh, a1, a2, a3, hpl', hx, xor_u8]))
        | (refine condK_not (fun h => ?_) (fun h => ?_) <;> (try simp (disch := first | omega | (simp only [List.length_take, List.length_drop, List.length_append, List.length_cons, List.length_nil, List.length_map]; omega)) [h, IntWalk.i64_in, IntWalk.i64_quo, i0, i3, i4, i5, i13, i15, i16, i21, i22, i23, i24, hj3', hj4', hTl, hsh, a1, a2, a3, hpl', hx, xor_u8]))
        | (refine condK_split (fun h => ?_) (fun h => ?_) <;> (try simp (disch := first | omega | (simp only [List.length_take, List.length_drop, List.length_append, List.length_cons, List.length_nil, List.length_map]; omega)) [h, IntWalk.i64_in, IntWalk.i64_quo, i0, i3, i4, i5, i13, i15, i16, i21, i22, i23, i24, hj3', hj4', hTl, hsh, a1, a2, a3, hpl', hx, xor_u8]))
      · rename_i hb1
        have ht := (bit_of tn j).1 (by assumption)
        refine ⟨m - 1, by omega, j + 1, by omega, by simp, by omega, ?_⟩
        rw [num_turn hq hpl, hT, mod_more, if_pos ht, mul_pow_xor, ← hpq, Nat.pow_add]
        ac_rfl
      · have ht : tn.toNat.testBit j = false := by
          cases hh : tn.toNat.testBit j with
          | false => rfl
          | true => exact absurd ((bit_of tn j).2 hh) (by assumption)
        refine ⟨m - 1, by omega, j + 1, by omega, by simp, by omega, ?_⟩
        rw [mod_more, ht]
        simpa using hT
    · have hj0 : ¬ ((j : Int) < 32 ∧ (d : Int) + j < 512) := by omega
      have htn0 : tn.toNat.testBit 0 = true := by
        rw [htn, BitVec.toNat_or, Nat.testBit_or]
        simp
      have hodd : tn.toNat % 2 ^ j ≠ 0 := by
        intro h0
        have : (tn.toNat % 2 ^ j).testBit 0 = true := by
          rw [Nat.testBit_mod_two_pow, htn0]
          simp
          omega
        rw [h0] at this
        simp at this
      have hlt : tn.toNat % 2 ^ j < 2 ^ 32 := Nat.lt_of_le_of_lt (Nat.mod_le _ _) tn.isLt
      have hok : okB s := by rw [hs]; exact (seal_ok hm).1
      have hbad := burst hok hTl hT hlt hodd (by omega)
      have hRT : readA T = .tup [frA zF, .int .i64 40] := by rw [readA, if_neg (fun h => hbad h.1)]
      have hTc := chunk_none 64 (ofBytes T) (by simp [hTl])
      simp only [frA, zF] at hRT
      clear hg hfs hbk hT hlt hodd htn0 hbad hok
      by_cases hjj : (j : Int) < 32
      · have hjd : ¬ (d : Int) + j < 512 := by omega
        clear hj0 hj2
        simp (disch := first | omega | (simp only [List.length_take, List.length_drop, List.length_append, List.length_cons, List.length_nil, List.length_map]; omega)) [IntWalk.i64_in, IntWalk.i64_quo, i0, i3, i4, i5, i13, i15, i16, i21, i22, i23, i24, hTl, hjj, hjd, hRT, hTc]
        refine ⟨k - 1, by omega, [0, 3, 4, 5, 13, 15, 16], _, .tok (tk := st.toks ++ [(i + 1, 6)]) (by simp) (by simp) (by simp) ?_, i + 1, by omega, ?_⟩
        · simp [i0, i3, i4, i5, i13, i15, frs_ok]
        · simp [i0, i3, i4, i5, i13, i15]
      · clear hj0 hj2
        simp (disch := first | omega | (simp only [List.length_take, List.length_drop, List.length_append, List.length_cons, List.length_nil, List.length_map]; omega)) [IntWalk.i64_in, IntWalk.i64_quo, i0, i3, i4, i5, i13, i15, i16, i21, i22, i23, i24, hTl, hjj, hRT, hTc]
        refine ⟨k - 1, by omega, [0, 3, 4, 5, 13, 15, 16], _, .tok (tk := st.toks ++ [(i + 1, 6)]) (by simp) (by simp) (by simp) ?_, i + 1, by omega, ?_⟩
        · simp [i0, i3, i4, i5, i13, i15, frs_ok]
        · simp [i0, i3, i4, i5, i13, i15]
  · have hi' : ¬ (i : Int) < cutOf l := by omega
    have hil : i = cutOf l := by omega
    subst hil
    simp (disch := first | omega | (simp only [List.length_take, List.length_drop, List.length_append, List.length_cons, List.length_nil, List.length_map]; omega)) [IntWalk.i64_in, IntWalk.i64_quo, e0, e3, e4, e5, e13, e15, e16, hi', frs_length, frs_norm, hj, k1]
    by_cases hz : h = 0
    · simp (disch := first | omega | (simp only [List.length_take, List.length_drop, List.length_append, List.length_cons, List.length_nil, List.length_map]; omega)) [IntWalk.i64_in, IntWalk.i64_quo, hz, k2 hz, e5]
    · simp (disch := first | omega | (simp only [List.length_take, List.length_drop, List.length_append, List.length_cons, List.length_nil, List.length_map]; omega)) [IntWalk.i64_in, IntWalk.i64_quo, hz, e5]
end Go.Proofs.Ytghodhkcjjjjnaa
