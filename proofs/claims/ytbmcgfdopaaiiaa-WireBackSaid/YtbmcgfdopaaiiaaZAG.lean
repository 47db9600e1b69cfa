/- WireBack. -/
import Derived.Test.YtbmcgfdopaaiiaaZAF
import Derived.Test.YtbmcgfdopaaiiaaZAD
import Derived.Test.YtbmcgfdopaaiiaaZMArgs
import Derived.Test.YtbmcgfdopaaiiaaZAmLend
set_option linter.all false
namespace Go.Proofs.Ytbmcgfdopaaiiaa
open Go.Am

/-- cashbox/sums.Seal -/
def c48m : ACode :=
 (.seq (.region [⟨(.prim .id), [.const (.sl .clip [])], (some 2), none⟩] none)
 (.seq (.region [⟨(.prim .id), [.tmp 0], (some 4), none⟩,
  ⟨(.call 62), [.tmp 4], (some 5), none⟩,
  ⟨(.prim .id), [.tmp 5], (some 3), none⟩] none)
 (.seq (.region [⟨(.prim .id), [.tmp 0], (some 6), none⟩,
  ⟨(.prim .id), [.tmp 0], (some 7), none⟩,
  ⟨(.prim .len), [.tmp 7], (some 8), none⟩,
  ⟨(.prim .id), [.tmp 0], (some 9), none⟩,
  ⟨(.prim .len), [.tmp 9], (some 10), none⟩,
  ⟨(.prim (.slcSl none false true true)), [.tmp 6, .tmp 8, .tmp 10], (some 11), none⟩,
  ⟨(.prim .id), [.tmp 3], (some 12), none⟩,
  ⟨(.prim (.conv .u8)), [.tmp 12], (some 13), none⟩,
  ⟨(.prim .id), [.tmp 3], (some 14), none⟩,
  ⟨(.prim (.bin .shr .none)), [.tmp 14, .const (.int .u64 8)], (some 15), none⟩,
  ⟨(.prim (.conv .u8)), [.tmp 15], (some 16), none⟩,
  ⟨(.prim .id), [.tmp 3], (some 17), none⟩,
  ⟨(.prim (.bin .shr .none)), [.tmp 17, .const (.int .u64 16)], (some 18), none⟩,
  ⟨(.prim (.conv .u8)), [.tmp 18], (some 19), none⟩,
  ⟨(.prim .id), [.tmp 3], (some 20), none⟩,
  ⟨(.prim (.bin .shr .none)), [.tmp 20, .const (.int .u64 24)], (some 21), none⟩,
  ⟨(.prim (.conv .u8)), [.tmp 21], (some 22), none⟩,
  ⟨(.prim (.buildSl none)), [.tmp 13, .tmp 16, .tmp 19, .tmp 22], (some 23), none⟩,
  ⟨(.prim (.appendM none)), [.tmp 11, .tmp 23], (some 24), none⟩,
  ⟨(.prim .id), [.tmp 24], (some 2), none⟩] none)
 .ret)))
theorem F48m : IsFun Try.prog 48 1 25 c48m [.tmp 2] := ⟨by decide, Try.f48, _, [24], Try.func48, rfl, by decide, rfl, by kernel_rfl, by kernel_rfl⟩


theorem seal_specM {l : List UInt8} {t : Tok} (hl : l.length ≤ 1000000) (st : St) : ASpec Try.prog 48 [.sl t (ofBytes l)] st fun v st' => v = .msl st.heap.length 0 (l.length + 4) none ∧ st' = ⟨st.heap ++ [.cells false (ofBytes (seal_ l))], st.toks⟩ := by
  refine raw_of T5s F48m rfl ?_
  simp (disch := first | omega | (simp only [List.length_take, List.length_drop, List.length_append, List.length_cons, List.length_nil, List.length_map]; omega)) [IntWalk.i64_in, IntWalk.i64_quo, c48m, T5_62, evA_appMs]
  exact ⟨by omega, .inl ⟨by simp, by simp, rfl, by simp [seal_, crcB]⟩⟩
theorem shape6 {st : St} {n : Nat} {e : AV} {a b c d x f z : Blk} {t : Nat × Nat} : ∃ g : List Blk, one [.msl (st.heap.length + 6) 0 n none, e] = .tup [.msl (st.heap.length + g.length) 0 n none, e] ∧ ∃ gt, (⟨st.heap ++ [a, b, c, d, x, f, z], st.toks ++ [t]⟩ : St) = ⟨st.heap ++ (g ++ [z]), st.toks ++ gt⟩ :=
  ⟨[a, b, c, d, x, f], rfl, [t], rfl⟩
theorem bytes_specM {m : Ms} {n : Nat} (hl : m.ws.length ≤ 1048576) (hm : mayM m = true) (hn : (rawM m).length + 4 = n) (st : St) : ASpec Try.prog 21 [.agg (msC m)] st fun v st' => ∃ g gt, v = .tup [.msl (st.heap.length + g.length) 0 n none, .int .i64 0] ∧ st' = ⟨st.heap ++ (g ++ [.cells false (ofBytes (seal_ (rawM m)))]), st.toks ++ gt⟩ := by
  refine raw_of T5s F21 rfl ?_
  obtain ⟨hk, hh, hn', hs, he, hg⟩ := mayM_facts hm
  have hd := head_facts hh
  have hln := raw_len hm
  simp (disch := first | omega | (simp only [List.length_take, List.length_drop, List.length_append, List.length_cons, List.length_nil, List.length_map]; omega)) [IntWalk.i64_in, IntWalk.i64_quo, c21, hm, hl]
  refine (kind_spec m.kind hk _).mono ?_
  rintro _ _ ⟨rfl, k1, k2, rfl⟩
  simp (disch := first | omega | (simp only [List.length_take, List.length_drop, List.length_append, List.length_cons, List.length_nil, List.length_map]; omega)) [IntWalk.i64_in, IntWalk.i64_quo]
  refine (num_clip (bs := [UInt8.ofInt m.kind, UInt8.ofInt m.fr, UInt8.ofInt m.to]) (by simp) (by omega) (by simp [ofBytes_3])).mono ?_
  rintro _ _ ⟨rfl, rfl⟩
  simp (disch := first | omega | (simp only [List.length_take, List.length_drop, List.length_append, List.length_cons, List.length_nil, List.length_map]; omega)) [IntWalk.i64_in, IntWalk.i64_quo]
  refine (num_own (many := 3) (bs := [UInt8.ofInt m.kind, UInt8.ofInt m.fr, UInt8.ofInt m.to] ++ numB 3 m.inc) (k := st.toks.length) (by simp) (by omega) (by simp) (by simp [numB]) (by simp [numB])).mono ?_
  rintro _ _ ⟨rfl, rfl⟩
  simp (disch := first | omega | (simp only [List.length_take, List.length_drop, List.length_append, List.length_cons, List.length_nil, List.length_map]; omega)) [IntWalk.i64_in, IntWalk.i64_quo]
  refine region_state [48] [36] [0, 1, 2, 3, 4, 5] (by decide +kernel) ?_
  have hW : ∀ k bs, wB k bs = .cells false [.sl (.own k) (ofBytes bs)] := fun _ _ => rfl
  simp (disch := first | omega | (simp only [List.length_take, List.length_drop, List.length_append, List.length_cons, List.length_nil, List.length_map]; omega)) [IntWalk.i64_in, IntWalk.i64_quo, hW]
  obtain ⟨hf1, hf2, hf3⟩ := fields_form m.kind
  refine (body_spec (fs := fieldsOf m.kind) (m := m) (d := downK m.kind) (sv := suchV m.kind (st.heap.length + 1 + 2)) (by omega) hf1 (fun f hf => okF_of (hg f hf)) (fun i => ?_) (by simp [kB]) (by simp [mB])).mono ?_
  · have := catF_len (fs := (fieldsOf m.kind).take i) fun f hf => hg f (List.mem_of_mem_take hf)
    simp only [List.length_take] at this
    omega
  rintro _ _ ⟨rfl, rfl⟩
  refine ⟨fun _ => ⟨List.prefix_refl _, List.prefix_refl _⟩, ?_⟩
  have e : ofBytes (UInt8.ofInt m.kind :: UInt8.ofInt m.fr :: UInt8.ofInt m.to :: (numB 3 m.inc ++ numB 3 m.your)) ++ ofBytes (catF (fieldsOf m.kind) m) = ofBytes (rawM m) := by
    simp [rawM, headB, ofBytes]
  have hl3 : (numB 3 m.inc).length = 3 := rfl
  have hl4 : (numB 3 m.your).length = 3 := rfl
  have hcl : (catF (fieldsOf m.kind) m).length ≤ 391 := by
    have h9 : (headB m).length = 9 := rfl
    rw [rawM, List.length_append, h9] at hln
    omega
  simp (disch := first | omega | (simp only [List.length_take, List.length_drop, List.length_append, List.length_cons, List.length_nil, List.length_map]; omega)) [IntWalk.i64_in, IntWalk.i64_quo, e, hl3, hl4]
  refine ⟨by omega, ?_⟩
  refine (seal_specM (by omega) _).mono ?_
  rintro _ _ ⟨rfl, rfl⟩
  rw [hn]
  simp (disch := first | omega | (simp only [List.length_take, List.length_drop, List.length_append, List.length_cons, List.length_nil, List.length_map]; omega)) [IntWalk.i64_in, IntWalk.i64_quo]
  exact .inl ⟨by simp, by simp, shape6⟩
noncomputable def TB : Orc := T11.add 16 (tab (fun x : Unit => []) (fun x => .bool true) fun x => True)
theorem TBs : OSound Try.prog TB := T11s.tab fun x h st => wwakes_spec st
@[simp] theorem TB_16  : TB 16 [] = some (.bool true) := by
  rw [TB, Orc.add_same]
  exact tab_eq (fun x y h => by rfl) (x := ()) trivial
@[simp] theorem TB_o (f : Nat) (args : List AV) (h : f ≠ 16) : TB f args = T11 f args := by
  rw [TB, Orc.add_other _ _ _ _ _ h]
theorem apart_ms (l : List UInt8) (m : Ms) (e : Int) : apartV (ofBytes l) (.tup [.agg (msC m), .int .i64 e]) = true := by
  have h8 : ∀ (b : Int), (ofBytes l).all (clash (.int .i64 b)) = true := fun b => by
    simp only [ofBytes, List.all_map, List.all_eq_true, Function.comp]
    intro x _
    rfl
  have hw : apartL (ofBytes l) (wrs m.ws) = true := by
    rw [apartL_iff]
    intro v hv
    obtain ⟨w, _, rfl⟩ := List.mem_map.1 hv
    simp [wrA, apartV, apartL, u8]
  have hh : (flat (wrs m.ws)).head?.all (fun c => (ofBytes l).all (clash c)) = true := by
    cases m.ws with
    | nil => rfl
    | cons w ws => exact h8 w.block
  simp only [apartV, apartL, msC, u8, hw, hh, Bool.and_true, Bool.and_self]
theorem read_lend {l : List UInt8} {L n : Nat} {st : St} (hn : l.length = n) (hl : l.length ≤ 1000000) (hb : st.heap[L]? = some (.cells false (ofBytes l))) : ASpec Try.prog 18 [.msl L 0 n none] st fun v st' => v = .tup [.agg (msC (readM l).1), .int .i64 (readM l).2] ∧ st' = st := by
  refine ASpec.lend (bs := [.sl .any (ofBytes l)]) ?_ (fun st1 => read_spec l hl st1) ?_
  · simp [lends, lendA, hb, hn, chunk_none]
  · simp only [lendVs, List.flatMap_cons, List.flatMap_nil, hb, List.append_nil]
    exact apart_ms l _ _
theorem lback_spec (m : Ms) (b : List UInt8) (bit : Int) (st : St) : ASpec Try.prog 8 [.agg (msC m), .sl .any (ofBytes b), .int .i64 bit] st fun v st' => v = .bool true ∧ st' = st := by
  refine pure_of (R := fun v => v = _) TBs F8 rfl ?_
  by_cases hg : 40 < m.ws.length
  · simp (disch := first | omega | (simp only [List.length_take, List.length_drop, List.length_append, List.length_cons, List.length_nil, List.length_map]; omega)) [IntWalk.i64_in, IntWalk.i64_quo, c8, hg]
  by_cases hb : 300 < b.length
  · have hb' : (300 : Int) < b.length := by omega
    simp (disch := first | omega | (simp only [List.length_take, List.length_drop, List.length_append, List.length_cons, List.length_nil, List.length_map]; omega)) [IntWalk.i64_in, IntWalk.i64_quo, c8, hg, hb']
  have hb' : ¬ (300 : Int) < b.length := by omega
  have hl : m.ws.length ≤ 1048576 := by omega
  obtain ⟨o, f, hro⟩ : ∃ o f, readM b = (o, f) := ⟨_, _, rfl⟩
  have hof : (f = 0 ∧ bytesM o = (b, 0)) ∨ f = 40 := by
    have := read_err b
    rw [hro] at this
    rcases this with rfl | rfl
    · obtain ⟨h1, h2⟩ := read_inv hro
      exact .inl ⟨rfl, by rw [bytesM, if_pos h1, h2]⟩
    · exact .inr rfl
  have hol : o.ws.length ≤ 1048576 := by
    have := readM_ws b
    rw [hro] at this
    simp only at this
    omega
  simp (disch := first | omega | (simp only [List.length_take, List.length_drop, List.length_append, List.length_cons, List.length_nil, List.length_map]; omega)) [IntWalk.i64_in, IntWalk.i64_quo, c8, hg, hb']
  cases hm : mayM m with
  | false =>
    have hB : bytesM m = ([], 2) := by rw [bytesM, hm]; rfl
    refine (bytes_spec m hl _).mono ?_
    rintro _ _ ⟨rfl, rfl⟩
    rw [hB]
    simp (disch := first | omega | (simp only [List.length_take, List.length_drop, List.length_append, List.length_cons, List.length_nil, List.length_map]; omega)) [IntWalk.i64_in, IntWalk.i64_quo]
    refine (read_spec b (by omega) _).mono ?_
    rintro _ _ ⟨rfl, rfl⟩
    rw [hro]
    rcases hof with ⟨rfl, hbo⟩ | rfl
    · simp (disch := first | omega | (simp only [List.length_take, List.length_drop, List.length_append, List.length_cons, List.length_nil, List.length_map]; omega)) [IntWalk.i64_in, IntWalk.i64_quo]
      refine (bytes_spec o hol _).mono ?_
      rintro _ _ ⟨rfl, rfl⟩
      rw [hbo]
      simp (disch := first | omega | (simp only [List.length_take, List.length_drop, List.length_append, List.length_cons, List.length_nil, List.length_map]; omega)) [IntWalk.i64_in, IntWalk.i64_quo]
    · simp (disch := first | omega | (simp only [List.length_take, List.length_drop, List.length_append, List.length_cons, List.length_nil, List.length_map]; omega)) [IntWalk.i64_in, IntWalk.i64_quo]
  | true =>
    have hln := raw_len hm
    obtain ⟨n, hn⟩ : ∃ n, (rawM m).length + 4 = n := ⟨_, rfl⟩
    refine (bytes_specM hl hm hn _).mono ?_
    rintro _ _ ⟨g, gt, rfl, rfl⟩
    have hsl : (seal_ (rawM m)).length = n := by rw [seal_length]; exact hn
    have hle : n ≤ (seal_ (rawM m)).length := by omega
    simp (disch := first | omega | (simp only [List.length_take, List.length_drop, List.length_append, List.length_cons, List.length_nil, List.length_map]; omega)) [IntWalk.i64_in, IntWalk.i64_quo, hle]
    have hrb := read_back hm
    refine (read_lend (l := seal_ (rawM m)) hsl (by omega) (by simp)).mono ?_
    rintro _ _ ⟨rfl, rfl⟩
    rw [hrb]
    have h13 : ¬ (n : Int) < 13 := by omega
    have hn4 : n ≤ 404 := by omega
    have hpos : (0 : Int) < 8 * n := by omega
    have h80 : ¬ (8 * (n : Int)) = 0 := by omega
    have b1 := Int.tmod_lt_of_pos bit hpos
    have b2 := Int.lt_tmod_of_pos bit hpos
    obtain ⟨r, hr⟩ : ∃ r, bit.tmod (8 * (n : Int)) = r := ⟨_, rfl⟩
    rw [hr] at b1 b2
    have c1 := Int.tmod_lt_of_pos (r + 8 * n) hpos
    have c2 : 0 ≤ (r + 8 * (n : Int)).tmod (8 * n) := Int.tmod_nonneg _ (by omega)
    obtain ⟨k, hk⟩ : ∃ k : Nat, (r + 8 * (n : Int)).tmod (8 * n) = k := ⟨((r + 8 * (n : Int)).tmod (8 * n)).toNat, by omega⟩
    rw [hk] at c1
    have hn0 : ¬ n = 0 := by omega
    simp (disch := first | omega | (simp only [List.length_take, List.length_drop, List.length_append, List.length_cons, List.length_nil, List.length_map]; omega)) [IntWalk.i64_in, IntWalk.i64_quo, hm, hl, hle, h13, hr, hk, h80, hn0]
    refine region_static rfl (by decide +kernel) ?_
    obtain ⟨p, hp⟩ : ∃ p, k / 8 = p := ⟨_, rfl⟩
    obtain ⟨q, hq⟩ : ∃ q, k % 8 = q := ⟨_, rfl⟩
    have kq : (k : Int).tdiv 8 = (p : Int) := by rw [← hp]; rfl
    have kr : (k : Int).tmod 8 = (q : Int) := by rw [← hq]; rfl
    have kp : p < (seal_ (rawM m)).length := by omega
    have kpn : p < n := by omega
    have hq8 : q < 8 := by omega
    have hbit := read_bit (l := rawM m) (p := p) (q := q) kp (by omega)
    have hsh := shl1_u8 q (by omega)
    clear hp hq c1 c2
    simp (disch := first | omega | (simp only [List.length_take, List.length_drop, List.length_append, List.length_cons, List.length_nil, List.length_map]; omega)) [IntWalk.i64_in, IntWalk.i64_quo, kq, kr, kpn, hsh, xor_u8]
    refine ⟨by omega, ?_⟩
    simp (disch := first | omega | (simp only [List.length_take, List.length_drop, List.length_append, List.length_cons, List.length_nil, List.length_map]; omega)) [IntWalk.i64_in, IntWalk.i64_quo, hle]
    refine (read_lend (l := (seal_ (rawM m)).set p ((seal_ (rawM m))[p] ^^^ UInt8.ofNat (2 ^ q))) (by simpa using hsl) (by simp; omega) (by simp)).mono ?_
    rintro _ _ ⟨rfl, rfl⟩
    rw [hbit]
    simp (disch := first | omega | (simp only [List.length_take, List.length_drop, List.length_append, List.length_cons, List.length_nil, List.length_map]; omega)) [IntWalk.i64_in, IntWalk.i64_quo]
    refine (read_spec b (by omega) _).mono ?_
    rintro _ _ ⟨rfl, rfl⟩
    rw [hro]
    rcases hof with ⟨rfl, hbo⟩ | rfl
    · simp (disch := first | omega | (simp only [List.length_take, List.length_drop, List.length_append, List.length_cons, List.length_nil, List.length_map]; omega)) [IntWalk.i64_in, IntWalk.i64_quo]
      refine (bytes_spec o hol _).mono ?_
      rintro _ _ ⟨rfl, rfl⟩
      rw [hbo]
      simp (disch := first | omega | (simp only [List.length_take, List.length_drop, List.length_append, List.length_cons, List.length_nil, List.length_map]; omega)) [IntWalk.i64_in, IntWalk.i64_quo]
    · simp (disch := first | omega | (simp only [List.length_take, List.length_drop, List.length_append, List.length_cons, List.length_nil, List.length_map]; omega)) [IntWalk.i64_in, IntWalk.i64_quo]
theorem lback_avs (avs : List AV) (h : Shapes Try.prog [36, 46, 3] avs) (st : St) : ASpec Try.prog 8 avs st fun v st' => v = .bool true ∧ st' = st := by
  obtain ⟨a0, r, rfl, h0, h⟩ := shapes_cons h
  obtain ⟨a1, r, rfl, h1, h⟩ := shapes_cons h
  obtain ⟨a2, r, rfl, h2, h⟩ := shapes_cons h
  obtain rfl := shapes_nil h
  obtain ⟨m, rfl, _⟩ := ms_of (h0.inv (by kernel_rfl) (by kernel_rfl))
  obtain ⟨b, rfl, _⟩ := ctok_bytes (elem_1 (h1.inv (by kernel_rfl) (by kernel_rfl)))
  obtain ⟨k, rfl, _⟩ := ctok_i64 (elem_1 (h2.inv (by kernel_rfl) (by kernel_rfl)))
  exact lback_spec m b k st
end Go.Proofs.Ytbmcgfdopaaiiaa
