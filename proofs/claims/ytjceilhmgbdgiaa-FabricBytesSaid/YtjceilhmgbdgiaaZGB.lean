/- Fabrics: the reference's bytes of a message. -/
import Derived.Test.YtjceilhmgbdgiaaZGA
set_option linter.all false
namespace Go.Proofs.Ytjceilhmgbdgiaa
open Go.Am

@[simp] theorem vlB_length8 (v : Vl) : (vlB v).length = 8 := rfl
theorem numB_1 (n : Int) : numB 1 n = [UInt8.ofInt n] := rfl
theorem numB_2 (n : Int) : numB 2 n = [UInt8.ofInt n, UInt8.ofInt (n / 256)] := rfl
theorem rbytes_spec (m : Ms) (hl : m.ws.length ≤ 1048576) (st : St) : ASpec Try.prog 94 [.agg (msC m)] st fun v st' => v = .tup [.sl .any (ofBytes (bytesM m).1), .int .i64 (bytesM m).2] ∧ st' = st := by
  refine pure_of (R := fun v => v = _) I3s F94 rfl ?_
  cases hm : mayM m with
  | false =>
    simp (disch := first | omega | assumption | (simp only [LL]; omega)) [WW, c94, hm, hl]
    simp [bytesM, hm]
  | true =>
    obtain ⟨hk, hh, hn, hs, he, hg⟩ := mayM_facts hm
    have hd := head_facts hh
    have hln := raw_len hm
    simp (disch := first | omega | assumption | (simp only [LL]; omega)) [WW, c94, hm, hl]
    refine (three_clip (bs := [UInt8.ofInt m.kind, UInt8.ofInt m.fr, UInt8.ofInt m.to]) (by simp) (by omega)).mono ?_
    rintro _ _ ⟨rfl, rfl⟩
    simp (disch := first | omega | assumption | (simp only [LL]; omega)) [WW]
    refine (three_own (bs := [UInt8.ofInt m.kind, UInt8.ofInt m.fr, UInt8.ofInt m.to] ++ numB 3 m.inc) (by simp [numB]) (by omega) (by simp [numB])).mono ?_
    rintro _ _ ⟨rfl, rfl⟩
    have h11 : m.kind = 1 ∨ m.kind = 2 ∨ m.kind = 3 ∨ m.kind = 4 ∨ m.kind = 5 ∨ m.kind = 6 ∨ m.kind = 7 ∨ m.kind = 8 ∨ m.kind = 9 ∨ m.kind = 10 ∨ m.kind = 11 := by omega
    rcases h11 with h | h | h | h | h | h | h | h | h | h | h
    · skip
      simp (disch := first | omega | assumption | (simp only [LL]; omega) | (simp; done) | (simp [wsB_length]; omega)) [WW, h, shr_i64]
      exact ⟨by rw [bytesM, if_pos hm]; simp [rawM, headB, h, fieldsOf, catF, putF, numB_1, numB_2], by rw [bytesM, if_pos hm]⟩
    · skip
      have gN := hg .name (by rw [h]; simp [fieldsOf])
      simp only [okG] at gN
      have g_n := hg .n (by rw [h]; simp [fieldsOf])
      simp only [okG] at g_n
      have g_op := hg .op (by rw [h]; simp [fieldsOf])
      simp only [okG] at g_op
      have g_block := hg .block (by rw [h]; simp [fieldsOf])
      simp only [okG] at g_block
      simp (disch := first | omega | assumption | (simp only [LL]; omega) | (simp; done) | (simp [wsB_length]; omega)) [WW, h, shr_i64]
      refine (three_own (by simp) (by omega) (by simp)).mono ?_
      rintro _ _ ⟨rfl, rfl⟩
      simp (disch := first | omega | assumption | (simp only [LL]; omega) | (simp; done) | (simp [wsB_length]; omega)) [WW, h, shr_i64]
      refine (three_own (by simp) (by omega) (by simp)).mono ?_
      rintro _ _ ⟨rfl, rfl⟩
      simp (disch := first | omega | assumption | (simp only [LL]; omega) | (simp; done) | (simp [wsB_length]; omega)) [WW, h, shr_i64]
      refine (three_own (by simp) (by omega) (by simp)).mono ?_
      rintro _ _ ⟨rfl, rfl⟩
      simp (disch := first | omega | assumption | (simp only [LL]; omega) | (simp; done) | (simp [wsB_length]; omega)) [WW, h, shr_i64]
      refine (three_own (by simp) (by omega) (by simp)).mono ?_
      rintro _ _ ⟨rfl, rfl⟩
      simp (disch := first | omega | assumption | (simp only [LL]; omega) | (simp; done) | (simp [wsB_length]; omega)) [WW, h, shr_i64]
      refine (value_own (by simp) (by simp)).mono ?_
      rintro _ _ ⟨rfl, rfl⟩
      simp (disch := first | omega | assumption | (simp only [LL]; omega) | (simp; done) | (simp [wsB_length]; omega)) [WW, h, shr_i64]
      exact ⟨by rw [bytesM, if_pos hm]; simp [rawM, headB, h, fieldsOf, catF, putF, numB_1, numB_2], by rw [bytesM, if_pos hm]⟩
    · skip
      have gN := hg .name (by rw [h]; simp [fieldsOf])
      simp only [okG] at gN
      have g_n := hg .n (by rw [h]; simp [fieldsOf])
      simp only [okG] at g_n
      have g_e := hg .e (by rw [h]; simp [fieldsOf])
      simp only [okG] at g_e
      simp (disch := first | omega | assumption | (simp only [LL]; omega) | (simp; done) | (simp [wsB_length]; omega)) [WW, h, shr_i64]
      refine (three_own (by simp) (by omega) (by simp)).mono ?_
      rintro _ _ ⟨rfl, rfl⟩
      simp (disch := first | omega | assumption | (simp only [LL]; omega) | (simp; done) | (simp [wsB_length]; omega)) [WW, h, shr_i64]
      refine (three_own (by simp) (by omega) (by simp)).mono ?_
      rintro _ _ ⟨rfl, rfl⟩
      simp (disch := first | omega | assumption | (simp only [LL]; omega) | (simp; done) | (simp [wsB_length]; omega)) [WW, h, shr_i64]
      refine (three_own (by simp) (by omega) (by simp)).mono ?_
      rintro _ _ ⟨rfl, rfl⟩
      simp (disch := first | omega | assumption | (simp only [LL]; omega) | (simp; done) | (simp [wsB_length]; omega)) [WW, h, shr_i64]
      refine (three_own (by simp) (by omega) (by simp)).mono ?_
      rintro _ _ ⟨rfl, rfl⟩
      simp (disch := first | omega | assumption | (simp only [LL]; omega) | (simp; done) | (simp [wsB_length]; omega)) [WW, h, shr_i64]
      refine (value_own (by simp) (by simp)).mono ?_
      rintro _ _ ⟨rfl, rfl⟩
      simp (disch := first | omega | assumption | (simp only [LL]; omega) | (simp; done) | (simp [wsB_length]; omega)) [WW, h, shr_i64]
      exact ⟨by rw [bytesM, if_pos hm]; simp [rawM, headB, h, fieldsOf, catF, putF, numB_1, numB_2], by rw [bytesM, if_pos hm]⟩
    · skip
      have gN := hg .name (by rw [h]; simp [fieldsOf])
      simp only [okG] at gN
      have g_give := hg .give (by rw [h]; simp [fieldsOf])
      simp only [okG] at g_give
      have g_take := hg .take (by rw [h]; simp [fieldsOf])
      simp only [okG] at g_take
      have g_writes := hg .writes (by rw [h]; simp [fieldsOf])
      simp only [okG] at g_writes
      simp (disch := first | omega | assumption | (simp only [LL]; omega) | (simp; done) | (simp [wsB_length]; omega)) [WW, h, shr_i64]
      refine (three_own (by simp) (by omega) (by simp)).mono ?_
      rintro _ _ ⟨rfl, rfl⟩
      simp (disch := first | omega | assumption | (simp only [LL]; omega) | (simp; done) | (simp [wsB_length]; omega)) [WW, h, shr_i64]
      refine (three_own (by simp) (by omega) (by simp)).mono ?_
      rintro _ _ ⟨rfl, rfl⟩
      simp (disch := first | omega | assumption | (simp only [LL]; omega) | (simp; done) | (simp [wsB_length]; omega)) [WW, h, shr_i64]
      refine (three_own (by simp) (by omega) (by simp)).mono ?_
      rintro _ _ ⟨rfl, rfl⟩
      simp (disch := first | omega | assumption | (simp only [LL]; omega) | (simp; done) | (simp [wsB_length]; omega)) [WW, h, shr_i64]
      refine (writes_own (by simp) (by omega) (by simp)).mono ?_
      rintro _ _ ⟨rfl, rfl⟩
      simp (disch := first | omega | assumption | (simp only [LL]; omega) | (simp; done) | (simp [wsB_length]; omega)) [WW, h, shr_i64]
      exact ⟨by rw [bytesM, if_pos hm]; simp [rawM, headB, h, fieldsOf, catF, putF, numB_1, numB_2], by rw [bytesM, if_pos hm]⟩
    · skip
      have gN := hg .name (by rw [h]; simp [fieldsOf])
      simp only [okG] at gN
      simp (disch := first | omega | assumption | (simp only [LL]; omega) | (simp; done) | (simp [wsB_length]; omega)) [WW, h, shr_i64]
      refine (three_own (by simp) (by omega) (by simp)).mono ?_
      rintro _ _ ⟨rfl, rfl⟩
      simp (disch := first | omega | assumption | (simp only [LL]; omega) | (simp; done) | (simp [wsB_length]; omega)) [WW, h, shr_i64]
      refine (three_own (by simp) (by omega) (by simp)).mono ?_
      rintro _ _ ⟨rfl, rfl⟩
      simp (disch := first | omega | assumption | (simp only [LL]; omega) | (simp; done) | (simp [wsB_length]; omega)) [WW, h, shr_i64]
      refine (three_own (by simp) (by omega) (by simp)).mono ?_
      rintro _ _ ⟨rfl, rfl⟩
      simp (disch := first | omega | assumption | (simp only [LL]; omega) | (simp; done) | (simp [wsB_length]; omega)) [WW, h, shr_i64]
      exact ⟨by rw [bytesM, if_pos hm]; simp [rawM, headB, h, fieldsOf, catF, putF, numB_1, numB_2], by rw [bytesM, if_pos hm]⟩
    · skip
      have gN := hg .name (by rw [h]; simp [fieldsOf])
      simp only [okG] at gN
      simp (disch := first | omega | assumption | (simp only [LL]; omega) | (simp; done) | (simp [wsB_length]; omega)) [WW, h, shr_i64]
      refine (three_own (by simp) (by omega) (by simp)).mono ?_
      rintro _ _ ⟨rfl, rfl⟩
      simp (disch := first | omega | assumption | (simp only [LL]; omega) | (simp; done) | (simp [wsB_length]; omega)) [WW, h, shr_i64]
      refine (three_own (by simp) (by omega) (by simp)).mono ?_
      rintro _ _ ⟨rfl, rfl⟩
      simp (disch := first | omega | assumption | (simp only [LL]; omega) | (simp; done) | (simp [wsB_length]; omega)) [WW, h, shr_i64]
      refine (three_own (by simp) (by omega) (by simp)).mono ?_
      rintro _ _ ⟨rfl, rfl⟩
      simp (disch := first | omega | assumption | (simp only [LL]; omega) | (simp; done) | (simp [wsB_length]; omega)) [WW, h, shr_i64]
      exact ⟨by rw [bytesM, if_pos hm]; simp [rawM, headB, h, fieldsOf, catF, putF, numB_1, numB_2], by rw [bytesM, if_pos hm]⟩
    · skip
      have gN := hg .name (by rw [h]; simp [fieldsOf])
      simp only [okG] at gN
      simp (disch := first | omega | assumption | (simp only [LL]; omega) | (simp; done) | (simp [wsB_length]; omega)) [WW, h, shr_i64]
      refine (three_own (by simp) (by omega) (by simp)).mono ?_
      rintro _ _ ⟨rfl, rfl⟩
      simp (disch := first | omega | assumption | (simp only [LL]; omega) | (simp; done) | (simp [wsB_length]; omega)) [WW, h, shr_i64]
      refine (three_own (by simp) (by omega) (by simp)).mono ?_
      rintro _ _ ⟨rfl, rfl⟩
      simp (disch := first | omega | assumption | (simp only [LL]; omega) | (simp; done) | (simp [wsB_length]; omega)) [WW, h, shr_i64]
      refine (three_own (by simp) (by omega) (by simp)).mono ?_
      rintro _ _ ⟨rfl, rfl⟩
      simp (disch := first | omega | assumption | (simp only [LL]; omega) | (simp; done) | (simp [wsB_length]; omega)) [WW, h, shr_i64]
      exact ⟨by rw [bytesM, if_pos hm]; simp [rawM, headB, h, fieldsOf, catF, putF, numB_1, numB_2], by rw [bytesM, if_pos hm]⟩
    · skip
      have gN := hg .name (by rw [h]; simp [fieldsOf])
      simp only [okG] at gN
      simp (disch := first | omega | assumption | (simp only [LL]; omega) | (simp; done) | (simp [wsB_length]; omega)) [WW, h, shr_i64]
      refine (three_own (by simp) (by omega) (by simp)).mono ?_
      rintro _ _ ⟨rfl, rfl⟩
      simp (disch := first | omega | assumption | (simp only [LL]; omega) | (simp; done) | (simp [wsB_length]; omega)) [WW, h, shr_i64]
      refine (three_own (by simp) (by omega) (by simp)).mono ?_
      rintro _ _ ⟨rfl, rfl⟩
      simp (disch := first | omega | assumption | (simp only [LL]; omega) | (simp; done) | (simp [wsB_length]; omega)) [WW, h, shr_i64]
      refine (three_own (by simp) (by omega) (by simp)).mono ?_
      rintro _ _ ⟨rfl, rfl⟩
      simp (disch := first | omega | assumption | (simp only [LL]; omega) | (simp; done) | (simp [wsB_length]; omega)) [WW, h, shr_i64]
      exact ⟨by rw [bytesM, if_pos hm]; simp [rawM, headB, h, fieldsOf, catF, putF, numB_1, numB_2], by rw [bytesM, if_pos hm]⟩
    · skip
      have gN := hg .name (by rw [h]; simp [fieldsOf])
      simp only [okG] at gN
      simp (disch := first | omega | assumption | (simp only [LL]; omega) | (simp; done) | (simp [wsB_length]; omega)) [WW, h, shr_i64]
      refine (three_own (by simp) (by omega) (by simp)).mono ?_
      rintro _ _ ⟨rfl, rfl⟩
      simp (disch := first | omega | assumption | (simp only [LL]; omega) | (simp; done) | (simp [wsB_length]; omega)) [WW, h, shr_i64]
      refine (three_own (by simp) (by omega) (by simp)).mono ?_
      rintro _ _ ⟨rfl, rfl⟩
      simp (disch := first | omega | assumption | (simp only [LL]; omega) | (simp; done) | (simp [wsB_length]; omega)) [WW, h, shr_i64]
      refine (three_own (by simp) (by omega) (by simp)).mono ?_
      rintro _ _ ⟨rfl, rfl⟩
      simp (disch := first | omega | assumption | (simp only [LL]; omega) | (simp; done) | (simp [wsB_length]; omega)) [WW, h, shr_i64]
      exact ⟨by rw [bytesM, if_pos hm]; simp [rawM, headB, h, fieldsOf, catF, putF, numB_1, numB_2], by rw [bytesM, if_pos hm]⟩
    · skip
      have gN := hg .name (by rw [h]; simp [fieldsOf])
      simp only [okG] at gN
      have g_e := hg .e (by rw [h]; simp [fieldsOf])
      simp only [okG] at g_e
      simp (disch := first | omega | assumption | (simp only [LL]; omega) | (simp; done) | (simp [wsB_length]; omega)) [WW, h, shr_i64]
      refine (three_own (by simp) (by omega) (by simp)).mono ?_
      rintro _ _ ⟨rfl, rfl⟩
      simp (disch := first | omega | assumption | (simp only [LL]; omega) | (simp; done) | (simp [wsB_length]; omega)) [WW, h, shr_i64]
      refine (three_own (by simp) (by omega) (by simp)).mono ?_
      rintro _ _ ⟨rfl, rfl⟩
      simp (disch := first | omega | assumption | (simp only [LL]; omega) | (simp; done) | (simp [wsB_length]; omega)) [WW, h, shr_i64]
      refine (three_own (by simp) (by omega) (by simp)).mono ?_
      rintro _ _ ⟨rfl, rfl⟩
      simp (disch := first | omega | assumption | (simp only [LL]; omega) | (simp; done) | (simp [wsB_length]; omega)) [WW, h, shr_i64]
      exact ⟨by rw [bytesM, if_pos hm]; simp [rawM, headB, h, fieldsOf, catF, putF, numB_1, numB_2], by rw [bytesM, if_pos hm]⟩
    · skip
      simp (disch := first | omega | assumption | (simp only [LL]; omega) | (simp; done) | (simp [wsB_length]; omega)) [WW, h, shr_i64]
      exact ⟨by rw [bytesM, if_pos hm]; simp [rawM, headB, h, fieldsOf, catF, putF, numB_1, numB_2], by rw [bytesM, if_pos hm]⟩
noncomputable def I4 : Orc := I3.add 94 (tab (fun x : Int × Int × Int × Int × Int × Int × Int × Int × Int × Int × Int × UInt8 × UInt8 × UInt8 × UInt8 × UInt8 × UInt8 × UInt8 × UInt8 × Int × Bool × Int × Int × List Wr => [.agg [.int .i8 x.1, .int .i64 x.2.1, .int .i64 x.2.2.1, .int .i64 x.2.2.2.1, .int .i64 x.2.2.2.2.1, .int .i64 x.2.2.2.2.2.1, .int .i64 x.2.2.2.2.2.2.1, .int .i64 x.2.2.2.2.2.2.2.1, .int .i64 x.2.2.2.2.2.2.2.2.1, .int .i8 x.2.2.2.2.2.2.2.2.2.1, .int .i64 x.2.2.2.2.2.2.2.2.2.2.1, u8 x.2.2.2.2.2.2.2.2.2.2.2.1, u8 x.2.2.2.2.2.2.2.2.2.2.2.2.1, u8 x.2.2.2.2.2.2.2.2.2.2.2.2.2.1, u8 x.2.2.2.2.2.2.2.2.2.2.2.2.2.2.1, u8 x.2.2.2.2.2.2.2.2.2.2.2.2.2.2.2.1, u8 x.2.2.2.2.2.2.2.2.2.2.2.2.2.2.2.2.1, u8 x.2.2.2.2.2.2.2.2.2.2.2.2.2.2.2.2.2.1, u8 x.2.2.2.2.2.2.2.2.2.2.2.2.2.2.2.2.2.2.1, .int .i64 x.2.2.2.2.2.2.2.2.2.2.2.2.2.2.2.2.2.2.2.1, .bool x.2.2.2.2.2.2.2.2.2.2.2.2.2.2.2.2.2.2.2.2.1, .int .i64 x.2.2.2.2.2.2.2.2.2.2.2.2.2.2.2.2.2.2.2.2.2.1, .int .i64 x.2.2.2.2.2.2.2.2.2.2.2.2.2.2.2.2.2.2.2.2.2.2.1, .sl .any (wrs x.2.2.2.2.2.2.2.2.2.2.2.2.2.2.2.2.2.2.2.2.2.2.2)]]) (fun x => .tup [.sl .any (ofBytes (bytesM ⟨x.1, x.2.1, x.2.2.1, x.2.2.2.1, x.2.2.2.2.1, ⟨x.2.2.2.2.2.1, x.2.2.2.2.2.2.1, x.2.2.2.2.2.2.2.1⟩, x.2.2.2.2.2.2.2.2.1, x.2.2.2.2.2.2.2.2.2.1, x.2.2.2.2.2.2.2.2.2.2.1, ⟨x.2.2.2.2.2.2.2.2.2.2.2.1, x.2.2.2.2.2.2.2.2.2.2.2.2.1, x.2.2.2.2.2.2.2.2.2.2.2.2.2.1, x.2.2.2.2.2.2.2.2.2.2.2.2.2.2.1, x.2.2.2.2.2.2.2.2.2.2.2.2.2.2.2.1, x.2.2.2.2.2.2.2.2.2.2.2.2.2.2.2.2.1, x.2.2.2.2.2.2.2.2.2.2.2.2.2.2.2.2.2.1, x.2.2.2.2.2.2.2.2.2.2.2.2.2.2.2.2.2.2.1⟩, x.2.2.2.2.2.2.2.2.2.2.2.2.2.2.2.2.2.2.2.1, x.2.2.2.2.2.2.2.2.2.2.2.2.2.2.2.2.2.2.2.2.1, x.2.2.2.2.2.2.2.2.2.2.2.2.2.2.2.2.2.2.2.2.2.1, x.2.2.2.2.2.2.2.2.2.2.2.2.2.2.2.2.2.2.2.2.2.2.1, x.2.2.2.2.2.2.2.2.2.2.2.2.2.2.2.2.2.2.2.2.2.2.2⟩).1), .int .i64 (bytesM ⟨x.1, x.2.1, x.2.2.1, x.2.2.2.1, x.2.2.2.2.1, ⟨x.2.2.2.2.2.1, x.2.2.2.2.2.2.1, x.2.2.2.2.2.2.2.1⟩, x.2.2.2.2.2.2.2.2.1, x.2.2.2.2.2.2.2.2.2.1, x.2.2.2.2.2.2.2.2.2.2.1, ⟨x.2.2.2.2.2.2.2.2.2.2.2.1, x.2.2.2.2.2.2.2.2.2.2.2.2.1, x.2.2.2.2.2.2.2.2.2.2.2.2.2.1, x.2.2.2.2.2.2.2.2.2.2.2.2.2.2.1, x.2.2.2.2.2.2.2.2.2.2.2.2.2.2.2.1, x.2.2.2.2.2.2.2.2.2.2.2.2.2.2.2.2.1, x.2.2.2.2.2.2.2.2.2.2.2.2.2.2.2.2.2.1, x.2.2.2.2.2.2.2.2.2.2.2.2.2.2.2.2.2.2.1⟩, x.2.2.2.2.2.2.2.2.2.2.2.2.2.2.2.2.2.2.2.1, x.2.2.2.2.2.2.2.2.2.2.2.2.2.2.2.2.2.2.2.2.1, x.2.2.2.2.2.2.2.2.2.2.2.2.2.2.2.2.2.2.2.2.2.1, x.2.2.2.2.2.2.2.2.2.2.2.2.2.2.2.2.2.2.2.2.2.2.1, x.2.2.2.2.2.2.2.2.2.2.2.2.2.2.2.2.2.2.2.2.2.2.2⟩).2]) fun x => x.2.2.2.2.2.2.2.2.2.2.2.2.2.2.2.2.2.2.2.2.2.2.2.length ≤ 1048576)
theorem I4s : OSound Try.prog I4 := I3s.tab fun x h st => rbytes_spec ⟨x.1, x.2.1, x.2.2.1, x.2.2.2.1, x.2.2.2.2.1, ⟨x.2.2.2.2.2.1, x.2.2.2.2.2.2.1, x.2.2.2.2.2.2.2.1⟩, x.2.2.2.2.2.2.2.2.1, x.2.2.2.2.2.2.2.2.2.1, x.2.2.2.2.2.2.2.2.2.2.1, ⟨x.2.2.2.2.2.2.2.2.2.2.2.1, x.2.2.2.2.2.2.2.2.2.2.2.2.1, x.2.2.2.2.2.2.2.2.2.2.2.2.2.1, x.2.2.2.2.2.2.2.2.2.2.2.2.2.2.1, x.2.2.2.2.2.2.2.2.2.2.2.2.2.2.2.1, x.2.2.2.2.2.2.2.2.2.2.2.2.2.2.2.2.1, x.2.2.2.2.2.2.2.2.2.2.2.2.2.2.2.2.2.1, x.2.2.2.2.2.2.2.2.2.2.2.2.2.2.2.2.2.2.1⟩, x.2.2.2.2.2.2.2.2.2.2.2.2.2.2.2.2.2.2.2.1, x.2.2.2.2.2.2.2.2.2.2.2.2.2.2.2.2.2.2.2.2.1, x.2.2.2.2.2.2.2.2.2.2.2.2.2.2.2.2.2.2.2.2.2.1, x.2.2.2.2.2.2.2.2.2.2.2.2.2.2.2.2.2.2.2.2.2.2.1, x.2.2.2.2.2.2.2.2.2.2.2.2.2.2.2.2.2.2.2.2.2.2.2⟩ h st
@[simp] theorem I4_94 (k : Int) (fr : Int) (to : Int) (inc : Int) (yo : Int) (a : Int) (b : Int) (c : Int) (n : Int) (op : Int) (bl : Int) (v0 : UInt8) (v1 : UInt8) (v2 : UInt8) (v3 : UInt8) (v4 : UInt8) (v5 : UInt8) (v6 : UInt8) (v7 : UInt8) (e : Int) (y : Bool) (g : Int) (t : Int) (ws : List Wr) (h : ws.length ≤ 1048576) : I4 94 [.agg [.int .i8 k, .int .i64 fr, .int .i64 to, .int .i64 inc, .int .i64 yo, .int .i64 a, .int .i64 b, .int .i64 c, .int .i64 n, .int .i8 op, .int .i64 bl, u8 v0, u8 v1, u8 v2, u8 v3, u8 v4, u8 v5, u8 v6, u8 v7, .int .i64 e, .bool y, .int .i64 g, .int .i64 t, .sl .any (wrs ws)]] = some (.tup [.sl .any (ofBytes (bytesM ⟨k, fr, to, inc, yo, ⟨a, b, c⟩, n, op, bl, ⟨v0, v1, v2, v3, v4, v5, v6, v7⟩, e, y, g, t, ws⟩).1), .int .i64 (bytesM ⟨k, fr, to, inc, yo, ⟨a, b, c⟩, n, op, bl, ⟨v0, v1, v2, v3, v4, v5, v6, v7⟩, e, y, g, t, ws⟩).2]) := by
  rw [I4, Orc.add_same]
  exact tab_eq (fun x y h => by simp at h; simp [h]) (x := (k, fr, to, inc, yo, a, b, c, n, op, bl, v0, v1, v2, v3, v4, v5, v6, v7, e, y, g, t, ws)) h
@[simp] theorem I4_o (f : Nat) (args : List AV) (h : f ≠ 94) : I4 f args = I3 f args := by
  rw [I4, Orc.add_other _ _ _ _ _ h]
end Go.Proofs.Ytjceilhmgbdgiaa
