/- Messages: the program's bytes. -/
import Derived.Test.YtjceilhmgbdgiaaZS
set_option linter.all false
namespace Go.Proofs.Ytjceilhmgbdgiaa
open Go.Am

theorem num_clip {n : Int} {w : Nat} {bs : List UInt8} {h : List Blk} {tk : List (Nat × Nat)} (hb : bs.length ≤ 1000) (hn : 0 ≤ n) (hw : h[w]? = some (.cells false [.sl .clip (ofBytes bs)])) :
    ASpec Try.prog 137 [.ptr w 0, .int .i64 n, .int .i64 3] ⟨h, tk⟩ fun v st' => v = .tup [] ∧ st' = ⟨h.set w (wB tk.length (bs ++ numB 3 n)), tk ++ [(bs.length + 3, 1)]⟩ := by
  refine raw_of T11s F137 rfl ?_
  obtain ⟨f1, f2, f3, f4, f5⟩ := at_facts hw
  have n2 : 0 ≤ n / 256 := by omega
  have n3 : 0 ≤ n / 256 / 256 := by omega
  simp (disch := first | omega | (simp only [LL]; omega)) [WW, c137]
  refine awC_loopU 4 ?_
  simp (disch := first | omega | (simp only [LL]; omega)) [WW, hw, shr_i64, f3]
  refine ⟨by omega, by omega, by omega, .inl ⟨by simp, by simp, rfl, ?_⟩⟩
  simp [numB, wB]
theorem mayM_facts {m : Ms} (h : mayM m = true) : (1 ≤ m.kind ∧ m.kind ≤ 11) ∧ headM m = true ∧ (fieldsOf m.kind = [] ∨ named m.nm = true) ∧ suchM m = true ∧ m = getAll (fieldsOf m.kind) m (hdM m) ∧ ∀ f ∈ fieldsOf m.kind, okG f m := by
  rw [may_eq] at h
  simp only [Bool.and_eq_true, decide_eq_true_eq, Bool.or_eq_true] at h
  exact ⟨h.1.1.1, h.1.1.2, h.1.2, h.2.1, h.2.2, okG_all h.1.2 h.2.1⟩
def headB (m : Ms) : List UInt8 := [UInt8.ofInt m.kind, UInt8.ofInt m.fr, UInt8.ofInt m.to] ++ numB 3 m.inc ++ numB 3 m.your
def rawM (m : Ms) : List UInt8 := headB m ++ catF (fieldsOf m.kind) m
def bytesM (m : Ms) : List UInt8 × Int := if mayM m = true then (seal_ (rawM m), 0) else ([], 2)
theorem raw_len {m : Ms} (h : mayM m = true) : 9 ≤ (rawM m).length ∧ (rawM m).length ≤ 400 := by
  obtain ⟨_, _, _, _, _, hg⟩ := mayM_facts h
  have h1 := catF_len hg
  have h2 := (fields_form m.kind).2.1
  have : (headB m).length = 9 := rfl
  rw [rawM, List.length_append, this]
  omega
theorem bytes_spec (m : Ms) (hl : m.ws.length ≤ 1048576) (st : St) : ASpec Try.prog 91 [.agg (msC m)] st fun v st' => v = .tup [.sl .any (ofBytes (bytesM m).1), .int .i64 (bytesM m).2] ∧ st' = st := by
  refine pure_of (R := fun v => v = _) T11s F91 rfl ?_
  cases hm : mayM m with
  | false =>
    simp (disch := first | omega | (simp only [LL]; omega)) [WW, c91, hm, hl]
    simp [bytesM, hm]
  | true =>
    obtain ⟨hk, hh, hn, hs, he, hg⟩ := mayM_facts hm
    have hd := head_facts hh
    have hln := raw_len hm
    simp (disch := first | omega | (simp only [LL]; omega)) [WW, c91, hm, hl]
    refine (kind_spec m.kind hk _).mono ?_
    rintro _ _ ⟨rfl, k1, k2, rfl⟩
    simp (disch := first | omega | (simp only [LL]; omega)) [WW]
    refine (num_clip (bs := [UInt8.ofInt m.kind, UInt8.ofInt m.fr, UInt8.ofInt m.to]) (by simp) (by omega) (by simp [ofBytes_3])).mono ?_
    rintro _ _ ⟨rfl, rfl⟩
    simp (disch := first | omega | (simp only [LL]; omega)) [WW]
    refine (num_own (many := 3) (bs := [UInt8.ofInt m.kind, UInt8.ofInt m.fr, UInt8.ofInt m.to] ++ numB 3 m.inc) (k := st.toks.length) (by simp) (by omega) (by simp) (by simp [numB]) (by simp [numB])).mono ?_
    rintro _ _ ⟨rfl, rfl⟩
    simp (disch := first | omega | (simp only [LL]; omega)) [WW]
    refine region_state [] [122] [0, 1, 2, 3, 4, 5] (by decide +kernel) ?_
    have hW : ∀ k bs, wB k bs = .cells false [.sl (.own k) (ofBytes bs)] := fun _ _ => rfl
    simp (disch := first | omega | (simp only [LL]; omega)) [WW, hW]
    obtain ⟨hf1, hf2, hf3⟩ := fields_form m.kind
    refine (body_spec (fs := fieldsOf m.kind) (m := m) (d := downK m.kind) (sv := suchV m.kind (st.heap.length + 1 + 2)) (by omega) hf1 (fun f hf => okF_of (hg f hf)) (fun i => ?_) (by simp [kB]) (by simp [mB])).mono ?_
    · have := catF_len (fs := (fieldsOf m.kind).take i) fun f hf => hg f (List.mem_of_mem_take hf)
      simp only [List.length_take] at this
      omega
    rintro _ _ ⟨rfl, rfl⟩
    refine ⟨fun _ => ⟨List.prefix_refl _, List.prefix_refl _⟩, ?_⟩
    have e : ofBytes (UInt8.ofInt m.kind :: UInt8.ofInt m.fr :: UInt8.ofInt m.to :: (numB 3 m.inc ++ numB 3 m.your)) ++ ofBytes (catF (fieldsOf m.kind) m) = ofBytes (rawM m) := by
      simp [rawM, headB, ofBytes]
    have hl3 : (numB 3 m.inc).length = 3 := rfl
    have hl4 : (numB 3 m.your).length = 3 := rfl
    have hcl : (catF (fieldsOf m.kind) m).length ≤ 391 := by
      have h9 : (headB m).length = 9 := rfl
      rw [rawM, List.length_append, h9] at hln
      omega
    simp (disch := first | omega | (simp only [LL]; omega)) [WW, e, hl3, hl4]
    exact ⟨by omega, by simp [bytesM, hm], by simp [bytesM, hm]⟩
noncomputable def T12 : Orc := T11.add 91 (tab (fun x : Int × Int × Int × Int × Int × Int × Int × Int × Int × Int × Int × UInt8 × UInt8 × UInt8 × UInt8 × UInt8 × UInt8 × UInt8 × UInt8 × Int × Bool × Int × Int × List Wr => [.agg [.int .i8 x.1, .int .i64 x.2.1, .int .i64 x.2.2.1, .int .i64 x.2.2.2.1, .int .i64 x.2.2.2.2.1, .int .i64 x.2.2.2.2.2.1, .int .i64 x.2.2.2.2.2.2.1, .int .i64 x.2.2.2.2.2.2.2.1, .int .i64 x.2.2.2.2.2.2.2.2.1, .int .i8 x.2.2.2.2.2.2.2.2.2.1, .int .i64 x.2.2.2.2.2.2.2.2.2.2.1, u8 x.2.2.2.2.2.2.2.2.2.2.2.1, u8 x.2.2.2.2.2.2.2.2.2.2.2.2.1, u8 x.2.2.2.2.2.2.2.2.2.2.2.2.2.1, u8 x.2.2.2.2.2.2.2.2.2.2.2.2.2.2.1, u8 x.2.2.2.2.2.2.2.2.2.2.2.2.2.2.2.1, u8 x.2.2.2.2.2.2.2.2.2.2.2.2.2.2.2.2.1, u8 x.2.2.2.2.2.2.2.2.2.2.2.2.2.2.2.2.2.1, u8 x.2.2.2.2.2.2.2.2.2.2.2.2.2.2.2.2.2.2.1, .int .i64 x.2.2.2.2.2.2.2.2.2.2.2.2.2.2.2.2.2.2.2.1, .bool x.2.2.2.2.2.2.2.2.2.2.2.2.2.2.2.2.2.2.2.2.1, .int .i64 x.2.2.2.2.2.2.2.2.2.2.2.2.2.2.2.2.2.2.2.2.2.1, .int .i64 x.2.2.2.2.2.2.2.2.2.2.2.2.2.2.2.2.2.2.2.2.2.2.1, .sl .any (wrs x.2.2.2.2.2.2.2.2.2.2.2.2.2.2.2.2.2.2.2.2.2.2.2)]]) (fun x => .tup [.sl .any (ofBytes (bytesM ⟨x.1, x.2.1, x.2.2.1, x.2.2.2.1, x.2.2.2.2.1, ⟨x.2.2.2.2.2.1, x.2.2.2.2.2.2.1, x.2.2.2.2.2.2.2.1⟩, x.2.2.2.2.2.2.2.2.1, x.2.2.2.2.2.2.2.2.2.1, x.2.2.2.2.2.2.2.2.2.2.1, ⟨x.2.2.2.2.2.2.2.2.2.2.2.1, x.2.2.2.2.2.2.2.2.2.2.2.2.1, x.2.2.2.2.2.2.2.2.2.2.2.2.2.1, x.2.2.2.2.2.2.2.2.2.2.2.2.2.2.1, x.2.2.2.2.2.2.2.2.2.2.2.2.2.2.2.1, x.2.2.2.2.2.2.2.2.2.2.2.2.2.2.2.2.1, x.2.2.2.2.2.2.2.2.2.2.2.2.2.2.2.2.2.1, x.2.2.2.2.2.2.2.2.2.2.2.2.2.2.2.2.2.2.1⟩, x.2.2.2.2.2.2.2.2.2.2.2.2.2.2.2.2.2.2.2.1, x.2.2.2.2.2.2.2.2.2.2.2.2.2.2.2.2.2.2.2.2.1, x.2.2.2.2.2.2.2.2.2.2.2.2.2.2.2.2.2.2.2.2.2.1, x.2.2.2.2.2.2.2.2.2.2.2.2.2.2.2.2.2.2.2.2.2.2.1, x.2.2.2.2.2.2.2.2.2.2.2.2.2.2.2.2.2.2.2.2.2.2.2⟩).1), .int .i64 (bytesM ⟨x.1, x.2.1, x.2.2.1, x.2.2.2.1, x.2.2.2.2.1, ⟨x.2.2.2.2.2.1, x.2.2.2.2.2.2.1, x.2.2.2.2.2.2.2.1⟩, x.2.2.2.2.2.2.2.2.1, x.2.2.2.2.2.2.2.2.2.1, x.2.2.2.2.2.2.2.2.2.2.1, ⟨x.2.2.2.2.2.2.2.2.2.2.2.1, x.2.2.2.2.2.2.2.2.2.2.2.2.1, x.2.2.2.2.2.2.2.2.2.2.2.2.2.1, x.2.2.2.2.2.2.2.2.2.2.2.2.2.2.1, x.2.2.2.2.2.2.2.2.2.2.2.2.2.2.2.1, x.2.2.2.2.2.2.2.2.2.2.2.2.2.2.2.2.1, x.2.2.2.2.2.2.2.2.2.2.2.2.2.2.2.2.2.1, x.2.2.2.2.2.2.2.2.2.2.2.2.2.2.2.2.2.2.1⟩, x.2.2.2.2.2.2.2.2.2.2.2.2.2.2.2.2.2.2.2.1, x.2.2.2.2.2.2.2.2.2.2.2.2.2.2.2.2.2.2.2.2.1, x.2.2.2.2.2.2.2.2.2.2.2.2.2.2.2.2.2.2.2.2.2.1, x.2.2.2.2.2.2.2.2.2.2.2.2.2.2.2.2.2.2.2.2.2.2.1, x.2.2.2.2.2.2.2.2.2.2.2.2.2.2.2.2.2.2.2.2.2.2.2⟩).2]) fun x => x.2.2.2.2.2.2.2.2.2.2.2.2.2.2.2.2.2.2.2.2.2.2.2.length ≤ 1048576)
theorem T12s : OSound Try.prog T12 := T11s.tab fun x h st => bytes_spec ⟨x.1, x.2.1, x.2.2.1, x.2.2.2.1, x.2.2.2.2.1, ⟨x.2.2.2.2.2.1, x.2.2.2.2.2.2.1, x.2.2.2.2.2.2.2.1⟩, x.2.2.2.2.2.2.2.2.1, x.2.2.2.2.2.2.2.2.2.1, x.2.2.2.2.2.2.2.2.2.2.1, ⟨x.2.2.2.2.2.2.2.2.2.2.2.1, x.2.2.2.2.2.2.2.2.2.2.2.2.1, x.2.2.2.2.2.2.2.2.2.2.2.2.2.1, x.2.2.2.2.2.2.2.2.2.2.2.2.2.2.1, x.2.2.2.2.2.2.2.2.2.2.2.2.2.2.2.1, x.2.2.2.2.2.2.2.2.2.2.2.2.2.2.2.2.1, x.2.2.2.2.2.2.2.2.2.2.2.2.2.2.2.2.2.1, x.2.2.2.2.2.2.2.2.2.2.2.2.2.2.2.2.2.2.1⟩, x.2.2.2.2.2.2.2.2.2.2.2.2.2.2.2.2.2.2.2.1, x.2.2.2.2.2.2.2.2.2.2.2.2.2.2.2.2.2.2.2.2.1, x.2.2.2.2.2.2.2.2.2.2.2.2.2.2.2.2.2.2.2.2.2.1, x.2.2.2.2.2.2.2.2.2.2.2.2.2.2.2.2.2.2.2.2.2.2.1, x.2.2.2.2.2.2.2.2.2.2.2.2.2.2.2.2.2.2.2.2.2.2.2⟩ h st
@[simp] theorem T12_91 (k : Int) (fr : Int) (to : Int) (inc : Int) (yo : Int) (a : Int) (b : Int) (c : Int) (n : Int) (op : Int) (bl : Int) (v0 : UInt8) (v1 : UInt8) (v2 : UInt8) (v3 : UInt8) (v4 : UInt8) (v5 : UInt8) (v6 : UInt8) (v7 : UInt8) (e : Int) (y : Bool) (g : Int) (t : Int) (ws : List Wr) (h : ws.length ≤ 1048576) : T12 91 [.agg [.int .i8 k, .int .i64 fr, .int .i64 to, .int .i64 inc, .int .i64 yo, .int .i64 a, .int .i64 b, .int .i64 c, .int .i64 n, .int .i8 op, .int .i64 bl, u8 v0, u8 v1, u8 v2, u8 v3, u8 v4, u8 v5, u8 v6, u8 v7, .int .i64 e, .bool y, .int .i64 g, .int .i64 t, .sl .any (wrs ws)]] = some (.tup [.sl .any (ofBytes (bytesM ⟨k, fr, to, inc, yo, ⟨a, b, c⟩, n, op, bl, ⟨v0, v1, v2, v3, v4, v5, v6, v7⟩, e, y, g, t, ws⟩).1), .int .i64 (bytesM ⟨k, fr, to, inc, yo, ⟨a, b, c⟩, n, op, bl, ⟨v0, v1, v2, v3, v4, v5, v6, v7⟩, e, y, g, t, ws⟩).2]) := by
  rw [T12, Orc.add_same]
  exact tab_eq (fun x y h => by simp at h; simp [h]) (x := (k, fr, to, inc, yo, a, b, c, n, op, bl, v0, v1, v2, v3, v4, v5, v6, v7, e, y, g, t, ws)) h
@[simp] theorem T12_o (f : Nat) (args : List AV) (h : f ≠ 91) : T12 f args = T11 f args := by
  rw [T12, Orc.add_other _ _ _ _ _ h]
end Go.Proofs.Ytjceilhmgbdgiaa
