/- The abstract machine's operations are sound: what only computes. -/
import Derived.Test.YtbmcgfdopaaiiaaZAmSound1
import Derived.Laws.Strings
import Derived.ChangeKeysEq
set_option linter.all false
namespace Go.Am

def SOk (P : Program) (G : Gh) (w : World) (st : St) (s : Sem Value) (v : AV) (st' : St) : Prop :=
  ∃ y w' G', s.run P w = .ok y w' ∧ Inv G' w' st' ∧ Ext G w G' w' st.heap.length st.toks.length ∧ VRel G' w' v y

theorem SOk.same {P : Program} {G : Gh} {w : World} {st : St} {s : Sem Value} {v : AV} {y : Value} (hI : Inv G w st) (hr : s.run P w = .ok y w) (hv : VRel G w v y) : SOk P G w st s v st :=
  ⟨y, w, G, hr, hI, Ext.refl _ _ _ _, hv⟩

theorem intBin_sound {P : Program} {G : Gh} {w : World} {op : BinOp} {k : IntKind} {x y : Int} {v : AV} (t : TypeId) (h : intBin op k x y = some v) : ∃ u, (binOp op t (.int k x) (.int k y)).run P w = .ok u w ∧ VRel G w v u := by
  cases op <;> simp only [intBin] at h <;> (try (split at h)) <;> (try (cases h; done)) <;> injection h with h <;> subst h <;>
    simp only [binOp, ne_eq, not_true_eq_false, if_false] <;> simp_all [Op.intArith, Op.intDiv, Op.intBits, Op.intCmp] <;> constructor

theorem shiftBin_sound {P : Program} {G : Gh} {w : World} {op : BinOp} {k k' : IntKind} {x y : Int} {v : AV} (t : TypeId) (ho : op = .shl ∨ op = .shr) (h : shiftBin op k x y = some v) : ∃ u, (binOp op t (.int k x) (.int k' y)).run P w = .ok u w ∧ VRel G w v u := by
  rcases ho with rfl | rfl <;> simp only [shiftBin] at h <;> split at h <;> (try (cases h; done)) <;> injection h with h <;> subst h <;>
    exact ⟨_, by simp only [binOp, Op.shift]; rw [if_neg (by assumption)]; rfl, .int _ _⟩

theorem str_eta {l : List UInt8} {s : ByteArray} (h : s.data.toList = l) : s = ⟨l.toArray⟩ := by
  subst h
  cases s
  simp

theorem VRel.str' {G : Gh} {w : World} (l : List UInt8) : VRel G w (.str l) (.string ⟨l.toArray⟩) := by
  have := VRel.str (G := G) (w := w) ⟨l.toArray⟩
  simpa using this

theorem VRel.str_inv {G : Gh} {w : World} {l : List UInt8} {y : Value} (h : VRel G w (.str l) y) : y = .string ⟨l.toArray⟩ := by
  cases h with
  | str s => simp

theorem toList_mk (l : List UInt8) : (⟨l.toArray⟩ : ByteArray).toList = l := by
  have : ∀ (b : ByteArray), b.toList = b.data.toList := fun b => by
    exact ByteArray.toList_eq b
  simpa using this ⟨l.toArray⟩

theorem strBin_sound {P : Program} {G : Gh} {w : World} {op : BinOp} {x y : List UInt8} {v : AV} (t : TypeId) (h : strBin op x y = some v) : ∃ u, (binOp op t (.string ⟨x.toArray⟩) (.string ⟨y.toArray⟩)).run P w = .ok u w ∧ VRel G w v u := by
  have hx := toList_mk x
  have hy := toList_mk y
  have hs : ∀ l : List UInt8, (⟨l.toArray⟩ : ByteArray).size = l.length := fun l => by simp [ByteArray.size]
  cases op <;> simp only [strBin] at h <;> (try (split at h)) <;> (try (cases h; done)) <;> injection h with h <;> subst h
  · rename_i hn
    refine ⟨.string (⟨x.toArray⟩ ++ ⟨y.toArray⟩), ?_, ?_⟩
    · simp only [binOp, Op.stringOp, hs]
      rw [if_neg hn]
      rfl
    · have := VRel.str (G := G) (w := w) (⟨x.toArray⟩ ++ ⟨y.toArray⟩)
      simpa using this
  all_goals
    simp only [binOp, Op.stringOp, hx, hy]
    exact ⟨_, rfl, .bool _⟩


theorem run_equalIn_bool {P : Program} (w : World) {t : TypeId} (h : P.underlying t = some .bool) (d : Nat) (a b : Bool) : (Op.equalIn (d + 1) t (.bool a) (.bool b)).run P w = .ok (a == b) w := by
  simp [Op.equalIn, run_underlying h]

theorem run_equalIn_int {P : Program} (w : World) {t : TypeId} {k : IntKind} (h : P.underlying t = some (.int k)) (d : Nat) (k' : IntKind) (a b : Int) : (Op.equalIn (d + 1) t (.int k' a) (.int k' b)).run P w = .ok (a == b) w := by
  simp [Op.equalIn, run_underlying h]

theorem run_equalIn_string {P : Program} (w : World) {t : TypeId} (h : P.underlying t = some .string) (d : Nat) (a b : ByteArray) : (Op.equalIn (d + 1) t (.string a) (.string b)).run P w = .ok (a == b) w := by
  simp [Op.equalIn, run_underlying h]

theorem run_equalIn_ptr {P : Program} (w : World) {t e : TypeId} (h : P.underlying t = some (.pointer e)) (d : Nat) {a b : Option Addr} (hn : a = none ∨ b = none) : (Op.equalIn (d + 1) t (.pointer a) (.pointer b)).run P w = .ok (a.isNone && b.isNone) w := by
  cases a <;> cases b <;> simp [Op.equalIn, run_underlying h] at hn ⊢

theorem isNilAddr_rel {G : Gh} {w : World} {x : AV} {y : Value} {r : Bool} (h : isNilAddr x = some r) (hv : VRel G w x y) : ∃ a, y = .pointer a ∧ a.isNone = r := by
  cases hv <;> simp [isNilAddr] at h <;> subst h <;> exact ⟨_, rfl, rfl⟩

theorem beq_bytes (a b : List UInt8) : ((⟨a.toArray⟩ : ByteArray) == ⟨b.toArray⟩) = (a == b) := by
  show ((a.toArray == b.toArray)) = (a == b)
  simp

theorem eqCell_sound {P : Program} {G : Gh} {w : World} {x y : AV} {a b : Value} {r : Bool} {k : Nat} {t : TypeId} (d : Nat) (hk : flatKind P t = some k) (h : eqCell k x y = some r) (hx : VRel G w x a) (hy : VRel G w y b) :
    (Op.equalIn (d + 1) t a b).run P w = .ok r w := by
  unfold flatKind at hk
  unfold eqCell at h
  split at h
  · cases hx; cases hy
    split at h
    · rename_i k n k' n' hk
      subst hk
      injection h with h
      subst h
      split at hk <;> first | (injection hk with hk; cases hk; done) | skip
      · exact run_equalIn_int w (by assumption) d _ _ _
      · cases hk
    · cases h
  · cases hx; cases hy
    injection h with h
    subst h
    split at hk <;> first | (injection hk with hk; cases hk; done) | skip
    · exact run_equalIn_bool w (by assumption) d _ _
    · cases hk
  · rw [hx.str_inv, hy.str_inv]
    injection h with h
    subst h
    split at hk <;> first | (injection hk with hk; cases hk; done) | skip
    · rw [run_equalIn_string w (by assumption) d, beq_bytes]
    · cases hk
  · cases h


theorem flatKind_part {P : Program} {t : TypeId} {k : Nat} (h : flatKind P t = some k) (cs : Array Value) (o : Nat) (v : Value) (hv : cs[o]? = some v) (w : World) : (part t cs o).run P w = .ok v w := by
  have : (isAgg t).run P w = .ok false w := by
    unfold flatKind at h
    split at h <;> first | (cases h; done) | (simp only [isAgg, Sem.run_bind, run_underlying (by assumption : P.underlying t = some _), Result.andThen]; rfl)
  simp [part, this, hv]

/-- Cells of a row, told as trees. -/
def CellsOn (G : Gh) (w : World) (xs : Array Value) (o : Nat) (as : List AV) : Prop := ∀ (i : Nat) (c : AV), as[i]? = some c → ∃ v, xs[o + i]? = some v ∧ VRel G w c v

theorem eqCells_app : ∀ {k1 k2 : List Nat} {a1 a2 b1 b2 : List AV}, a1.length = k1.length → b1.length = k1.length → eqCells (k1 ++ k2) (a1 ++ a2) (b1 ++ b2) = (eqCells k1 a1 b1).bind fun r => if r then eqCells k2 a2 b2 else some false
  | [], k2, [], a2, [], b2, _, _ => rfl
  | k :: k1, k2, a :: a1, a2, b :: b1, b2, ha, hb => by
    simp only [List.cons_append, eqCells]
    cases eqCell k a b with
    | none => rfl
    | some r =>
      simp only [Option.bind_some]
      cases r with
      | false => rfl
      | true => simpa using eqCells_app (k1 := k1) (k2 := k2) (a2 := a2) (b2 := b2) (by simpa using ha) (by simpa using hb)
  | [], _, _ :: _, _, _, _, h, _ => by simp at h
  | [], _, [], _, _ :: _, _, _, h => by simp at h
  | _ :: _, _, [], _, _, _, h, _ => by simp at h
  | _ :: _, _, _ :: _, _, [], _, _, h => by simp at h

theorem CellsOn.extract {G : Gh} {w : World} {xs : Array Value} {o : Nat} {as : List AV} (h : CellsOn G w xs o as) : CellsOn G w (xs.extract o (o + as.length)) 0 as := by
  intro i c hc
  obtain ⟨v, h1, h2⟩ := h i c hc
  have hi := (List.getElem?_eq_some_iff.1 hc).1
  have hs := (Array.getElem?_eq_some_iff.1 h1).1
  refine ⟨v, ?_, h2⟩
  rw [Array.getElem?_extract]
  simp only [Nat.zero_add]
  rw [if_pos (by omega)]
  exact h1

theorem CellsOn.left {G : Gh} {w : World} {xs : Array Value} {o : Nat} {as bs : List AV} (h : CellsOn G w xs o (as ++ bs)) : CellsOn G w xs o as := fun i c hc => h i c (by rw [List.getElem?_append_left (List.getElem?_eq_some_iff.1 hc).1]; exact hc)
theorem CellsOn.right {G : Gh} {w : World} {xs : Array Value} {o : Nat} {as bs : List AV} (h : CellsOn G w xs o (as ++ bs)) : CellsOn G w xs (o + as.length) bs := fun i c hc => by
  have := h (as.length + i) c (by rw [List.getElem?_append_right (by omega), Nat.add_sub_cancel_left]; exact hc)
  rwa [← Nat.add_assoc] at this

/-- What '==' answers of a part of two rows. -/
def PartEq (P : Program) (G : Gh) (w : World) (d : Nat) (t : TypeId) (ks : List Nat) : Prop :=
  ∀ (xs ys : Array Value) (o : Nat) (as bs : List AV) (r : Bool), as.length = ks.length → bs.length = ks.length → eqCells ks as bs = some r → CellsOn G w xs o as → CellsOn G w ys o bs →
    ∃ a b, (part t xs o).run P w = .ok a w ∧ (part t ys o).run P w = .ok b w ∧ (Op.equalIn d t a b).run P w = .ok r w

theorem split_at {α : Type} {l : List α} {n m : Nat} (h : l.length = n + m) : ∃ a b, l = a ++ b ∧ a.length = n ∧ b.length = m := ⟨l.take n, l.drop n, (List.take_append_drop n l).symm, by simp; omega, by simp; omega⟩

theorem eqFields_run {P : Program} {G : Gh} {w : World} (d : Nat) (f : TypeId → Option (List Nat)) (hf : ∀ t ks, f t = some ks → PartEq P G w d t ks) (xs ys : Array Value) : ∀ (fs : List Field) (o : Nat) (ks : List Nat) (as bs : List AV) (r : Bool),
    deepF f o fs = some ks → as.length = ks.length → bs.length = ks.length → eqCells ks as bs = some r → CellsOn G w xs o as → CellsOn G w ys o bs → (Op.eqFields d xs ys fs).run P w = .ok r w
  | [], o, ks, as, bs, r, hk, ha, hb, he, _, _ => by
    simp [deepF] at hk
    subst hk
    match as, bs, ha, hb with
    | [], [], _, _ =>
      simp [eqCells] at he
      subst he
      rfl
  | fd :: fs, o, ks, as, bs, r, hk, ha, hb, he, hxa, hyb => by
    simp only [deepF] at hk
    split at hk
    · rename_i hc
      obtain ⟨hn, ho⟩ := hc
      simp only [Option.bind_eq_some_iff, Option.map_eq_some_iff] at hk
      obtain ⟨k1, h1, k2, h2, rfl⟩ := hk
      rw [List.length_append] at ha hb
      obtain ⟨a1, a2, rfl, ha1, ha2⟩ := split_at ha
      obtain ⟨b1, b2, rfl, hb1, hb2⟩ := split_at hb
      rw [eqCells_app ha1 hb1] at he
      cases hq : eqCells k1 a1 b1 with
      | none => simp [hq] at he
      | some q =>
        rw [hq] at he
        simp only [Option.bind_some] at he
        obtain ⟨va, vb, p1, p2, p3⟩ := hf fd.type k1 h1 xs ys o a1 b1 q ha1 hb1 hq hxa.left hyb.left
        have hname : fd.name ≠ "_" := by simpa using hn
        cases q with
        | false =>
          simp at he
          subst he
          simp [Op.eqFields, hname, ho, p1, p2, p3]
        | true =>
          simp only [if_true] at he
          have ih := eqFields_run d f hf xs ys fs (o + k1.length) k2 a2 b2 r h2 ha2 hb2 he (by rw [← ha1]; exact hxa.right) (by rw [← hb1]; exact hyb.right)
          simp [Op.eqFields, hname, ho, p1, p2, p3, ih]
    · cases hk

theorem eqItems_run {P : Program} {G : Gh} {w : World} (d : Nat) {e : TypeId} {l : List Nat} (he' : PartEq P G w d e l) (hc : P.cellsOf e = l.length) (xs ys : Array Value) : ∀ (n j : Nat) (as bs : List AV) (r : Bool),
    as.length = n * l.length → bs.length = n * l.length → eqCells (List.replicate n l).flatten as bs = some r → CellsOn G w xs (j * l.length) as → CellsOn G w ys (j * l.length) bs → (Op.eqItems d e (P.cellsOf e) xs ys (List.range' j n)).run P w = .ok r w
  | 0, j, as, bs, r, ha, hb, he, _, _ => by
    have h1 : as = [] := by simpa using ha
    have h2 : bs = [] := by simpa using hb
    subst h1; subst h2
    simp [eqCells] at he
    subst he
    rfl
  | n + 1, j, as, bs, r, ha, hb, he, hxa, hyb => by
    rw [Nat.succ_mul, Nat.add_comm] at ha hb
    obtain ⟨a1, a2, rfl, ha1, ha2⟩ := split_at ha
    obtain ⟨b1, b2, rfl, hb1, hb2⟩ := split_at hb
    rw [List.replicate_succ, List.flatten_cons, eqCells_app ha1 hb1] at he
    cases hq : eqCells l a1 b1 with
    | none => simp [hq] at he
    | some q =>
      rw [hq] at he
      simp only [Option.bind_some] at he
      obtain ⟨va, vb, p1, p2, p3⟩ := he' xs ys (j * l.length) a1 b1 q ha1 hb1 hq hxa.left hyb.left
      rw [List.range'_succ]
      cases q with
      | false =>
        simp at he
        subst he
        simp [Op.eqItems, hc, p1, p2, p3]
      | true =>
        simp only [if_true] at he
        have ih := eqItems_run d he' hc xs ys n (j + 1) a2 b2 r ha2 hb2 he (by rw [Nat.succ_mul, ← ha1]; rw [ha1]; have := hxa.right; rwa [ha1] at this) (by rw [Nat.succ_mul]; have := hyb.right; rwa [hb1] at this)
        rw [hc] at ih
        simp [Op.eqItems, hc, p1, p2, p3, ih]

theorem part_agg {P : Program} {w : World} {t : TypeId} {n : Nat} (h : szOf P t = some (some n)) (xs : Array Value) (o : Nat) : (part t xs o).run P w = .ok (.agg (xs.extract o (o + n))) w := by
  obtain ⟨h1, h2, _⟩ := szOf_run h w
  simp [part, h1, h2]

/-- '==' of two rows of a struct or an array. -/
theorem deepEq_agg {P : Program} {G : Gh} {w : World} : ∀ (n : Nat) (t : TypeId) (ks : List Nat) (d : Nat), deepEq P n t = some ks → n ≤ d → PartEq P G w d t ks ∧
    (((∃ fs, P.underlying t = some (.struct fs)) ∨ ∃ k e, P.underlying t = some (.array k e)) → ∀ (xs ys : Array Value) (as bs : List AV) (r : Bool), as.length = ks.length → bs.length = ks.length → eqCells ks as bs = some r → CellsOn G w xs 0 as → CellsOn G w ys 0 bs → (Op.equalIn d t (.agg xs) (.agg ys)).run P w = .ok r w)
  | 0, t, ks, d, h, _ => by simp [deepEq] at h
  | n + 1, t, ks, 0, h, hd => by omega
  | n + 1, t, ks, d + 1, h, hd => by
    have scal : ∀ k, flatKind P t = some k → ks = [k] → PartEq P G w (d + 1) t ks := by
      intro k hk he xs ys o as bs r ha hb hq hxa hyb
      subst he
      match as, bs, ha, hb with
      | [a], [b], _, _ =>
        obtain ⟨va, v1, v2⟩ := hxa 0 a rfl
        obtain ⟨vb, u1, u2⟩ := hyb 0 b rfl
        refine ⟨va, vb, flatKind_part hk xs o va (by simpa using v1) w, flatKind_part hk ys o vb (by simpa using u1) w, ?_⟩
        simp only [eqCells] at hq
        cases hc : eqCell k a b with
        | none => simp [hc] at hq
        | some q =>
          have := eqCell_sound d hk hc v2 u2
          rw [hc] at hq
          cases q <;> simp at hq <;> subst hq <;> exact this
    have agg : ∀ (hag : szOf P t = some (some ks.length)), (∀ (xs ys : Array Value) (as bs : List AV) (r : Bool), as.length = ks.length → bs.length = ks.length → eqCells ks as bs = some r → CellsOn G w xs 0 as → CellsOn G w ys 0 bs → (Op.equalIn (d + 1) t (.agg xs) (.agg ys)).run P w = .ok r w) → PartEq P G w (d + 1) t ks := by
      intro hsz hv xs ys o as bs r ha hb hq hxa hyb
      refine ⟨_, _, part_agg hsz xs o, part_agg hsz ys o, ?_⟩
      exact hv _ _ as bs r ha hb hq (by rw [← ha]; exact hxa.extract) (by rw [← hb]; exact hyb.extract)
    simp only [deepEq] at h
    split at h
    · rename_i hu
      injection h with h
      exact ⟨scal 0 (by simp [flatKind, hu]) h.symm, fun hh => by rcases hh with ⟨fs, hh⟩ | ⟨k, e, hh⟩ <;> rw [hu] at hh <;> cases hh⟩
    · rename_i hu
      injection h with h
      exact ⟨scal 1 (by simp [flatKind, hu]) h.symm, fun hh => by rcases hh with ⟨fs, hh⟩ | ⟨k, e, hh⟩ <;> rw [hu] at hh <;> cases hh⟩
    · rename_i hu
      injection h with h
      exact ⟨scal 2 (by simp [flatKind, hu]) h.symm, fun hh => by rcases hh with ⟨fs, hh⟩ | ⟨k, e, hh⟩ <;> rw [hu] at hh <;> cases hh⟩
    · rename_i fs hu
      split at h
      · cases h
      · rename_i hst
        simp only [Option.bind_eq_some_iff] at h
        obtain ⟨l, hl, h⟩ := h
        split at h
        · rename_i hsz
          injection h with h
          subst h
          have key : ∀ (xs ys : Array Value) (as bs : List AV) (r : Bool), as.length = l.length → bs.length = l.length → eqCells l as bs = some r → CellsOn G w xs 0 as → CellsOn G w ys 0 bs → (Op.equalIn (d + 1) t (.agg xs) (.agg ys)).run P w = .ok r w := by
            intro xs ys as bs r ha hb hq hxa hyb
            have hfo : P.fieldsOf t = fs := by simp [Program.fieldsOf, hu]
            rw [run_equalIn_struct (P := P) (w := w) d t xs ys (by rw [hfo]; exact hu) (by simpa using hst), hfo]
            exact eqFields_run d (deepEq P n) (fun t' ks' h' => (deepEq_agg n t' ks' d h' (by omega)).1) xs ys fs.toList 0 l as bs r hl ha hb hq hxa hyb
          exact ⟨agg hsz key, fun _ => key⟩
        · cases h
    · rename_i k e hu
      simp only [Option.bind_eq_some_iff] at h
      obtain ⟨l, hl, h⟩ := h
      split at h
      · rename_i hc
        obtain ⟨c1, c2, c3⟩ := hc
        injection h with h
        subst h
        have hlen : ((List.replicate k l).flatten).length = k * l.length := by simp
        have key : ∀ (xs ys : Array Value) (as bs : List AV) (r : Bool), as.length = ((List.replicate k l).flatten).length → bs.length = ((List.replicate k l).flatten).length → eqCells (List.replicate k l).flatten as bs = some r → CellsOn G w xs 0 as → CellsOn G w ys 0 bs → (Op.equalIn (d + 1) t (.agg xs) (.agg ys)).run P w = .ok r w := by
          intro xs ys as bs r ha hb hq hxa hyb
          obtain ⟨sz, hsz⟩ : ∃ sz, szOf P e = some sz := by
            cases hz : szOf P e with
            | none => simp [hz] at c2
            | some sz => exact ⟨sz, rfl⟩
          obtain ⟨i, hi⟩ : ∃ i, P.info? e = some i := by
            cases hi : P.info? e with
            | none => simp [szOf, hi] at hsz
            | some i => exact ⟨i, rfl⟩
          rw [run_equalIn_array (P := P) (w := w) d xs ys hu hi, List.range_eq_range']
          exact eqItems_run d ((deepEq_agg n e l d hl (by omega)).1) c3 xs ys k 0 as bs r (by rw [ha, hlen]) (by rw [hb, hlen]) hq (by simpa using hxa) (by simpa using hyb)
        exact ⟨agg (by rw [hlen]; exact c1) key, fun _ => key⟩
      · cases h
    · cases h

theorem run_equalIn_flat {P : Program} {G : Gh} {w : World} {t : TypeId} {ks : List Nat} (d : Nat) (hd : 8 ≤ d) (hf : flatEq P t = some ks) {as bs : List AV} {xs ys : Array Value} {r : Bool} (hl : as.length = ks.length ∧ bs.length = ks.length) (he : eqCells ks as bs = some r)
    (hx : VRel G w (.agg as) (.agg xs)) (hy : VRel G w (.agg bs) (.agg ys)) : (Op.equalIn d t (.agg xs) (.agg ys)).run P w = .ok r w := by
  cases hx with
  | agg _ _ a1 a2 a3 =>
    cases hy with
    | agg _ _ b1 b2 b3 =>
      have cx : CellsOn G w xs 0 as := fun i c hi => by
        have hl := (List.getElem?_eq_some_iff.1 hi).1
        have : i < xs.size := by omega
        exact ⟨xs[i], by simp [this], a3 i c xs[i] hi (by simp [this])⟩
      have cy : CellsOn G w ys 0 bs := fun i c hi => by
        have hl := (List.getElem?_eq_some_iff.1 hi).1
        have : i < ys.size := by omega
        exact ⟨ys[i], by simp [this], b3 i c ys[i] hi (by simp [this])⟩
      unfold flatEq at hf
      split at hf
      · rename_i fs hu
        split at hf
        · exact (deepEq_agg 8 t ks d hf hd).2 (.inl ⟨_, hu⟩) xs ys as bs r hl.1 hl.2 he cx cy
        · cases hf
      · rename_i k e hu
        split at hf
        · exact (deepEq_agg 8 t ks d hf hd).2 (.inr ⟨_, _, hu⟩) xs ys as bs r hl.1 hl.2 he cx cy
        · cases hf
      · cases hf

theorem eqKindOf_bool {P : Program} {t : TypeId} (h : eqKindOf P t = .bool) : P.underlying t = some .bool := by
  unfold eqKindOf at h
  split at h <;> first | assumption | (cases h; done) | (split at h <;> cases h)

theorem eqKindOf_ptr {P : Program} {t : TypeId} (h : eqKindOf P t = .ptr) : ∃ e, P.underlying t = some (.pointer e) := by
  unfold eqKindOf at h
  split at h <;> first | exact ⟨_, by assumption⟩ | (cases h; done) | (split at h <;> cases h)

theorem eqKindOf_flat {P : Program} {t : TypeId} {ks : List Nat} (h : eqKindOf P t = .flat ks) : flatEq P t = some ks := by
  unfold eqKindOf at h
  split at h <;> first | (cases h; done) | skip
  all_goals
    split at h
    · rename_i hf
      injection h with h
      subst h
      exact hf
    · cases h

theorem eqKind_sound {P : Program} {G : Gh} {w : World} {t : TypeId} {x y : AV} {a b : Value} {r : Bool} (h : eqKind (eqKindOf P t) x y = some r) (hx : VRel G w x a) (hy : VRel G w y b) : (Op.equal t a b).run P w = .ok r w ∧
    (∀ (op : BinOp), op = .eql ∨ op = .neq → binOp op t a b = (do pure (.bool ((op == .eql) == (← Op.equal t a b))))) := by
  cases hk : eqKindOf P t with
  | none => simp [hk, eqKind] at h
  | bool =>
    rw [hk] at h
    cases x <;> cases y <;> simp [eqKind] at h
    cases hx; cases hy
    subst h
    refine ⟨run_equalIn_bool w (eqKindOf_bool hk) 9999 _ _, fun op ho => ?_⟩
    rcases ho with rfl | rfl
    · simp [binOp]
    · simp only [binOp, bind_pure_comp]; congr 1; funext a; cases a <;> rfl
  | ptr =>
    rw [hk] at h
    obtain ⟨e, he⟩ := eqKindOf_ptr hk
    have h' : ((isNilAddr x).bind fun a => (isNilAddr y).bind fun b => if a || b then some (a && b) else none) = some r := h
    cases h1 : isNilAddr x with
    | none => simp [h1] at h'
    | some p =>
      cases h2 : isNilAddr y with
      | none => simp [h1, h2] at h'
      | some q =>
        simp only [h1, h2, Option.bind_some] at h'
        split at h'
        · rename_i hpq
          injection h' with h'
          subst h'
          obtain ⟨a', rfl, rfl⟩ := isNilAddr_rel h1 hx
          obtain ⟨b', rfl, rfl⟩ := isNilAddr_rel h2 hy
          refine ⟨run_equalIn_ptr w he 9999 (by simpa using hpq), fun op ho => ?_⟩
          rcases ho with rfl | rfl
          · simp [binOp]
          · simp only [binOp, bind_pure_comp]; congr 1; funext a; cases a <;> rfl
        · cases h'
  | flat ks =>
    rw [hk] at h
    cases x <;> cases y <;> simp [eqKind] at h
    obtain ⟨hl, he⟩ := h
    cases hx with
    | agg as xs a1 a2 a3 =>
      cases hy with
      | agg bs ys b1 b2 b3 =>
        refine ⟨run_equalIn_flat 10000 (by decide) (eqKindOf_flat hk) hl he (.agg _ _ a1 a2 a3) (.agg _ _ b1 b2 b3), fun op ho => ?_⟩
        rcases ho with rfl | rfl
        · simp [binOp]
        · simp only [binOp, bind_pure_comp]; congr 1; funext a; cases a <;> rfl

theorem binA_sound {P : Program} {G : Gh} {w : World} {op : BinOp} {t : TypeId} {x y v : AV} {a b : Value} (h : binA op (eqKindOf P t) x y = some v) (hx : VRel G w x a) (hy : VRel G w y b) :
    ∃ u, (binOp op t a b).run P w = .ok u w ∧ VRel G w v u := by
  unfold binA at h
  split at h
  · cases hx; cases hy; exact shiftBin_sound t (.inl rfl) h
  · cases hx; cases hy; exact shiftBin_sound t (.inr rfl) h
  · cases hx; cases hy
    split at h
    · rename_i hk
      subst hk
      exact intBin_sound t h
    · cases h
  · rw [hx.str_inv, hy.str_inv]; exact strBin_sound t h
  · cases hr : eqKind (eqKindOf P t) x y with
    | none => simp [hr] at h
    | some r =>
      simp [hr] at h
      subst h
      obtain ⟨q1, q2⟩ := eqKind_sound hr hx hy
      refine ⟨.bool r, ?_, .bool _⟩
      rw [q2 .eql (.inl rfl)]
      simp [q1]
  · cases hr : eqKind (eqKindOf P t) x y with
    | none => simp [hr] at h
    | some r =>
      simp [hr] at h
      subst h
      obtain ⟨q1, q2⟩ := eqKind_sound hr hx hy
      refine ⟨.bool (!r), ?_, .bool _⟩
      rw [q2 .neq (.inr rfl)]
      simp [q1]
      cases r <;> rfl
  · cases h

end Go.Am
