/- The abstract machine's operations are sound: maps. -/
import Derived.Test.YtjceilhmgbdgiaaZAmBase
import Derived.MapKept
import Derived.Scope
import Derived.ScopeJumps
import Derived.Control
set_option linter.all false
namespace Go.Am

/-! Keys. -/
theorem eqCell_now {P : Program} {G : Gh} {w : World} {x y : AV} {a b : Value} {r : Bool} {k : Nat} {t : TypeId} {d : TypeDesc} (hk : flatKind P t = some k) (hd : P.underlying t = some d) (h : eqCell k x y = some r) (hx : VRel G w x a) (hy : VRel G w y b) :
    Instr.sameNow d a b = some r := by
  unfold flatKind at hk
  rw [hd] at hk
  unfold eqCell at h
  split at h
  · cases hx; cases hy
    split at h
    · rename_i k n k' n' hkk
      injection h with h
      subst h
      cases d <;> simp at hk
      simp [Instr.sameNow, hkk]
    · cases h
  · cases hx; cases hy
    injection h with h
    subst h
    cases d <;> simp at hk
    simp [Instr.sameNow]
  · rw [hx.str_inv, hy.str_inv]
    injection h with h
    subst h
    cases d <;> simp at hk
    simp [Instr.sameNow, beq_bytes]
  · cases h
theorem eqCell_same {G : Gh} {w : World} {x y : AV} {a b : Value} {k : Nat} (h : eqCell k x y = some true) (hx : VRel G w x a) (hy : VRel G w y b) (n : Nat) : Instr.sameBits n a b = true := by
  unfold eqCell at h
  split at h
  · cases hx; cases hy
    split at h
    · rename_i k n k' n' hkk
      simp at h
      subst h
      cases n <;> simp [Instr.sameBits, hkk]
    · cases h
  · cases hx; cases hy
    simp at h
    subst h
    cases n <;> simp [Instr.sameBits]
  · rw [hx.str_inv, hy.str_inv]
    simp at h
    subst h
    cases n <;> simp [Instr.sameBits, beq_bytes]
  · cases h
theorem ListRel.cons_left {G : Gh} {w : World} {x : AV} {xs : List AV} {ys : List Value} (h : ListRel G w (x :: xs) ys) : ∃ y ys', ys = y :: ys' ∧ VRel G w x y ∧ ListRel G w xs ys' := by
  cases ys with
  | nil => exact absurd h.1 (by simp)
  | cons y ys =>
    obtain ⟨x', xs', he, h1, h2⟩ := h.cons_inv
    injection he with e1 e2
    subst e1; subst e2
    exact ⟨y, ys, rfl, h1, h2⟩
theorem eqCells_same {G : Gh} {w : World} : ∀ {ks : List Nat} {as bs : List AV} {xs ys : List Value}, eqCells ks as bs = some true → ListRel G w as xs → ListRel G w bs ys → ∀ n, (xs.zip ys).all (fun p => Instr.sameBits n p.1 p.2) = true
  | [], as, bs, xs, ys, h, hx, hy, n => by
    unfold eqCells at h
    split at h
    · have := hx.1
      cases xs with
      | nil => rfl
      | cons _ _ => simp at this
    · simp_all
    · cases h
  | k :: ks, as, bs, xs, ys, h, hx, hy, n => by
    match as, bs with
    | a :: as, b :: bs =>
      simp only [eqCells] at h
      cases hq : eqCell k a b with
      | none => simp [hq] at h
      | some r =>
        rw [hq] at h
        cases r with
        | false => simp at h
        | true =>
          simp at h
          obtain ⟨x, xs', rfl, hx1, hx2⟩ := ListRel.cons_left hx
          obtain ⟨y, ys', rfl, hy1, hy2⟩ := ListRel.cons_left hy
          simp only [List.zip_cons_cons, List.all_cons, Bool.and_eq_true]
          exact ⟨eqCell_same hq hx1 hy1 n, eqCells_same h hx2 hy2 n⟩
    | [], _ => simp [eqCells] at h
    | _ :: _, [] => simp [eqCells] at h
theorem keyEq_same {G : Gh} {w : World} {kk : KeyK} {x y : AV} {a b : Value} (h : keyEqA kk x y = some true) (hx : VRel G w x a) (hy : VRel G w y b) (n : Nat) : Instr.sameBits (n + 1) a b = true := by
  cases kk with
  | one k => exact eqCell_same h hx hy _
  | flat ks =>
    simp only [keyEqA] at h
    unfold eqKind at h
    split at h <;> first | (cases h; done) | skip
    · rename_i hh; cases hh
    · rename_i hh; cases hh
    · rename_i as bs hh
      injection hh with hh
      subst hh
      split at h
      · rename_i hl
        cases hx with
        | agg _ xs x1 x2 x3 =>
          cases hy with
          | agg _ ys y1 y2 y3 =>
            have hx' : ListRel G w as xs.toList := ⟨by simpa using x1, fun i c v hc hv => x3 i c v hc (by simpa using hv)⟩
            have hy' : ListRel G w bs ys.toList := ⟨by simpa using y1, fun i c v hc hv => y3 i c v hc (by simpa using hv)⟩
            have := eqCells_same h hx' hy' n
            simp only [Instr.sameBits, Bool.and_eq_true, beq_iff_eq]
            exact ⟨by omega, this⟩
      · cases h
theorem eqCell_symm {k : Nat} {x y : AV} {r : Bool} (h : eqCell k x y = some r) : eqCell k y x = some r := by
  unfold eqCell at h
  split at h
  · split at h
    · rename_i hk
      injection h with h
      subst h
      simp [eqCell, hk, Bool.beq_comm]
    · cases h
  · injection h with h
    subst h
    simp [eqCell, Bool.beq_comm]
  · injection h with h
    subst h
    simp [eqCell, Bool.beq_comm]
  · cases h
theorem eqCells_symm : ∀ {ks : List Nat} {as bs : List AV}, eqCells ks as bs = some true → eqCells ks bs as = some true
  | [], as, bs, h => by
    match as, bs with
    | [], [] => rfl
    | [], _ :: _ => simp [eqCells] at h
    | _ :: _, _ => simp [eqCells] at h
  | k :: ks, as, bs, h => by
    match as, bs with
    | a :: as, b :: bs =>
      simp only [eqCells] at h ⊢
      cases hq : eqCell k a b with
      | none => simp [hq] at h
      | some r =>
        rw [hq] at h
        rw [eqCell_symm hq]
        cases r with
        | false => simp at h
        | true =>
          simp at h ⊢
          exact eqCells_symm h
    | [], _ => simp [eqCells] at h
    | _ :: _, [] => simp [eqCells] at h
theorem keyEq_symm {kk : KeyK} {x y : AV} (h : keyEqA kk x y = some true) : keyEqA kk y x = some true := by
  cases kk with
  | one k => exact eqCell_symm h
  | flat ks =>
    simp only [keyEqA] at h ⊢
    unfold eqKind at h
    split at h
    · exact absurd ‹EqK.flat ks = EqK.bool› (by simp)
    · exact absurd ‹EqK.flat ks = EqK.ptr› (by simp)
    · have he := ‹EqK.flat ks = EqK.flat _›
      injection he with he
      subst he
      split at h
      case isTrue hl =>
        simp only [eqKind]
        rw [if_pos ⟨hl.2, hl.1⟩]
        exact eqCells_symm h
      case isFalse => cases h
    · cases h
theorem keyThatStays_run {P : Program} {w : World} {a b : Value} (h : ∀ n, Instr.sameBits (n + 1) a b = true) : (Instr.keyThatStays a b).run P w = .ok b w := by
  have : Instr.sameBits 10000 a b = true := h 9999
  simp [Instr.keyThatStays, this]

/-- Are two keys one? -/
theorem keyEq_run {P : Program} {G : Gh} {w : World} {kk : KeyK} {t : TypeId} {x y : AV} {a b : Value} {r : Bool} (hk : keyKind P t = some kk) (h : keyEqA kk x y = some r) (hx : VRel G w x a) (hy : VRel G w y b) : (Op.equal t a b).run P w = .ok r w := by
  unfold keyKind at hk
  split at hk
  · rename_i k hf
    injection hk with hk
    subst hk
    exact eqCell_sound 9999 hf h hx hy
  · split at hk
    · rename_i fs hu
      split at hk
      · cases hq : flatEq P t with
        | none => simp [hq] at hk
        | some ks =>
          simp [hq] at hk
          subst hk
          simp only [keyEqA] at h
          unfold eqKind at h
          split at h <;> first | (cases h; done) | skip
          · rename_i hh; cases hh
          · rename_i hh; cases hh
          · rename_i as bs hh
            injection hh with hh
            subst hh
            split at h
            · rename_i hl
              cases hx with
              | agg _ xs x1 x2 x3 =>
                cases hy with
                | agg _ ys y1 y2 y3 => exact run_equalIn_flat 10000 (by omega) hq hl h (.agg _ _ x1 x2 x3) (.agg _ _ y1 y2 y3)
            · cases h
      · cases hk
    · cases hk

def EntRel (G : Gh) (w : World) (es : List (AV × AV × Nat)) (cs : List MapEntry) : Prop :=
  es.length = cs.length ∧ ∀ (i : Nat) (e : AV × AV × Nat) (c : MapEntry), es[i]? = some e → cs[i]? = some c → VRel G w e.1 c.key ∧ VRel G w e.2.1 c.val ∧ c.born = e.2.2

theorem EntRel.cons {G : Gh} {w : World} {e : AV × AV × Nat} {es : List (AV × AV × Nat)} {cs : List MapEntry} (h : EntRel G w (e :: es) cs) : ∃ c cs', cs = c :: cs' ∧ (VRel G w e.1 c.key ∧ VRel G w e.2.1 c.val ∧ c.born = e.2.2) ∧ EntRel G w es cs' := by
  cases cs with
  | nil => exact absurd h.1 (by simp)
  | cons c cs => exact ⟨c, cs, rfl, h.2 0 e c rfl rfl, by simpa using h.1, fun i e' c' h1 h2 => h.2 (i + 1) e' c' (by simpa using h1) (by simpa using h2)⟩

/-- What a search yields: the entry's place and value. -/
def Found (cs : List MapEntry) (n : Nat) (r : Option Nat) (res : Option (Nat × Value)) : Prop :=
  match r with
  | none => res = none
  | some i => ∃ c, cs[i]? = some c ∧ res = some (n + i, c.val)

theorem findNow_run {P : Program} {G : Gh} {w : World} {t : TypeId} {k : Nat} {d : TypeDesc} {x : AV} {a : Value} (hk : flatKind P t = some k) (hd : P.underlying t = some d) (hx : VRel G w x a) : ∀ (es : List (AV × AV × Nat)) (cs : List MapEntry) (n : Nat) (r : Option Nat),
    findA (.one k) x es = some r → EntRel G w es cs → ∃ res, Instr.findNow d a cs n = some res ∧ Found cs n r res
  | [], cs, n, r, h, he => by
    have : cs = [] := by have := he.1; simpa using this.symm
    subst this
    simp [findA] at h
    subst h
    exact ⟨none, rfl, rfl⟩
  | e :: es, cs, n, r, h, he => by
    obtain ⟨c, cs', rfl, ⟨c1, c2, c3⟩, he'⟩ := he.cons
    simp only [findA] at h
    cases hq : keyEqA (.one k) x e.1 with
    | none => simp [hq] at h
    | some q =>
      have hs := eqCell_now hk hd hq hx c1
      rw [hq] at h
      cases q with
      | true =>
        simp at h
        subst h
        exact ⟨some (n, c.val), by simp [Instr.findNow, hs], c, rfl, by simp⟩
      | false =>
        simp only [Option.map_eq_some_iff] at h
        obtain ⟨r', h1, rfl⟩ := h
        obtain ⟨res, g1, g2⟩ := findNow_run hk hd hx es cs' (n + 1) r' h1 he'
        refine ⟨res, by simp [Instr.findNow, hs, g1], ?_⟩
        cases r' with
        | none => exact g2
        | some i =>
          obtain ⟨c', q1, q2⟩ := g2
          exact ⟨c', by simpa using q1, by rw [q2]; show some (n + 1 + i, _) = some (n + (i + 1), _); rw [Nat.add_right_comm, Nat.add_assoc]⟩

theorem findAsking_run {P : Program} {G : Gh} {w : World} {t : TypeId} {kk : KeyK} {x : AV} {a : Value} (hk : keyKind P t = some kk) (hx : VRel G w x a) : ∀ (es : List (AV × AV × Nat)) (cs : List MapEntry) (n : Nat) (r : Option Nat),
    findA kk x es = some r → EntRel G w es cs → ∃ res, (Instr.findAsking t a cs n).run P w = .ok res w ∧ Found cs n r res
  | [], cs, n, r, h, he => by
    have : cs = [] := by have := he.1; simpa using this.symm
    subst this
    simp [findA] at h
    subst h
    exact ⟨none, rfl, rfl⟩
  | e :: es, cs, n, r, h, he => by
    obtain ⟨c, cs', rfl, ⟨c1, c2, c3⟩, he'⟩ := he.cons
    simp only [findA] at h
    cases hq : keyEqA kk x e.1 with
    | none => simp [hq] at h
    | some q =>
      have hs := keyEq_run hk hq hx c1
      rw [hq] at h
      cases q with
      | true =>
        simp at h
        subst h
        exact ⟨some (n, c.val), by simp [Instr.findAsking, hs, Result.andThen], c, rfl, by simp⟩
      | false =>
        simp only [Option.map_eq_some_iff] at h
        obtain ⟨r', h1, rfl⟩ := h
        obtain ⟨res, g1, g2⟩ := findAsking_run hk hx es cs' (n + 1) r' h1 he'
        refine ⟨res, by simp [Instr.findAsking, hs, g1, Result.andThen], ?_⟩
        cases r' with
        | none => exact g2
        | some i =>
          obtain ⟨c', q1, q2⟩ := g2
          exact ⟨c', by simpa using q1, by rw [q2]; show some (n + 1 + i, _) = some (n + (i + 1), _); rw [Nat.add_right_comm, Nat.add_assoc]⟩

theorem findKey_run {P : Program} {G : Gh} {w : World} {t : TypeId} {kk : KeyK} {x : AV} {a : Value} {es : List (AV × AV × Nat)} {cs : List MapEntry} {r : Option Nat} (hk : keyKind P t = some kk) (hx : VRel G w x a) (h : findA kk x es = some r) (he : EntRel G w es cs) :
    ∃ res, (Instr.findKey t a cs).run P w = .ok res w ∧ Found cs 0 r res := by
  have hk' := hk
  unfold keyKind at hk
  split at hk
  · rename_i k hf
    injection hk with hk
    subst hk
    obtain ⟨d, hd⟩ : ∃ d, P.underlying t = some d := by
      unfold flatKind at hf
      cases hu : P.underlying t with
      | none => simp [hu] at hf
      | some d => exact ⟨d, rfl⟩
    obtain ⟨res, g1, g2⟩ := findNow_run hf hd hx es cs 0 r h he
    exact ⟨res, by simp [Instr.findKey, run_underlying hd, Result.andThen, g1], g2⟩
  · split at hk
    · rename_i fs hu
      cases cs with
      | nil =>
        have : es = [] := by have := he.1; simpa using this
        subst this
        simp [findA] at h
        subst h
        exact ⟨none, by simp [Instr.findKey, run_underlying hu, Result.andThen, Instr.findNow], rfl⟩
      | cons c cs =>
        obtain ⟨res, g1, g2⟩ := findAsking_run hk' hx es (c :: cs) 0 r h he
        refine ⟨res, ?_, g2⟩
        have hn : Instr.findNow (.struct fs) a (c :: cs) 0 = none := by simp [Instr.findNow, Instr.sameNow]
        simp [Instr.findKey, run_underlying hu, Result.andThen, hn, g1]
    · cases hk

theorem findA_eq {kk : KeyK} {k : AV} : ∀ {es : List (AV × AV × Nat)} {i : Nat}, findA kk k es = some (some i) → ∃ e, es[i]? = some e ∧ keyEqA kk k e.1 = some true
  | [], i, h => by simp [findA] at h
  | e :: es, i, h => by
    simp only [findA] at h
    cases hq : keyEqA kk k e.1 with
    | none => simp [hq] at h
    | some q =>
      rw [hq] at h
      cases q with
      | true =>
        simp at h
        subst h
        exact ⟨e, rfl, hq⟩
      | false =>
        simp only [Option.map_eq_some_iff] at h
        obtain ⟨r, h1, h2⟩ := h
        cases r with
        | none => simp at h2
        | some j =>
          simp at h2
          subst h2
          obtain ⟨e', q1, q2⟩ := findA_eq h1
          exact ⟨e', by simpa using q1, q2⟩

/-! A key may be one. -/
theorem flat_deep {P : Program} {t : TypeId} {k n : Nat} (h : flatKind P t = some k) : deepEq P (n + 1) t = some [k] := by
  unfold flatKind at h
  unfold deepEq
  split at h <;> first | (cases h; done) | skip
  all_goals
    rename_i hu
    injection h with h
    subst h
    rw [hu]
theorem checkFields {P : Program} {w : World} {em : Bool} {n : Nat} (xs : Array Value) : ∀ (fs : List Field) (o : Nat) (ks : List Nat), deepF (deepEq P 7) o fs = some ks → (∀ f ∈ fs, (flatKind P f.type).isSome = true) → o + ks.length ≤ xs.size →
    (forIn fs PUnit.unit (fun f _ => do
      if f.name ≠ "_" then Instr.checkKey em (n + 1) f.type (← part f.type xs f.offset)
      pure (ForInStep.yield PUnit.unit)) : Sem PUnit).run P w = .ok PUnit.unit w
  | [], o, ks, h, hf, hl => rfl
  | f :: fs, o, ks, h, hf, hl => by
    simp only [deepF] at h
    split at h
    · rename_i hc
      obtain ⟨hn, ho⟩ := hc
      have hfl := hf f (by simp)
      cases hk : flatKind P f.type with
      | none => simp [hk] at hfl
      | some k =>
        rw [flat_deep hk] at h
        simp only [Option.bind_some, Option.map_eq_some_iff] at h
        obtain ⟨k2, h2, rfl⟩ := h
        simp only [List.length_append, List.length_cons, List.length_nil] at hl h2
        have ih := checkFields (em := em) (n := n) (w := w) xs fs (o + 1) k2 h2 (fun g hg => hf g (by simp [hg])) (by omega)
        have hp := flatKind_part hk xs o xs[o] (by simp [show o < xs.size by omega]) w
        have hname : f.name ≠ "_" := by simpa using hn
        have hck : (Instr.checkKey em (n + 1) f.type xs[o]).run P w = .ok () w := by
          unfold flatKind at hk
          cases hu : P.underlying f.type with
          | none => simp [hu] at hk
          | some d =>
            rw [hu] at hk
            unfold Instr.checkKey
            simp only [Sem.run_bind, run_underlying hu, Result.andThen]
            cases d <;> simp at hk <;> rfl
        simp only [List.forIn_cons, Sem.run_bind, hname, ne_eq, not_false_eq_true, if_true, Result.andThen, ho, hp, hck, Sem.run_pure]
        exact ih
    · cases h
theorem checkKey_run {P : Program} {G : Gh} {w : World} {t : TypeId} {kk : KeyK} {x : AV} {a : Value} (hk : keyKind P t = some kk) (hx : VRel G w x a) (h : (keyEqA kk x x).isSome = true) (em : Bool) : (Instr.checkKey em 10000 t a).run P w = .ok () w := by
  unfold keyKind at hk
  split at hk
  · rename_i k hf
    unfold flatKind at hf
    cases hu : P.underlying t with
    | none => simp [hu] at hf
    | some d =>
      rw [hu] at hf
      unfold Instr.checkKey
      simp only [Sem.run_bind, run_underlying hu, Result.andThen]
      cases d <;> simp at hf <;> rfl
  · split at hk
    · rename_i fs hu
      split at hk
      · rename_i hall
        cases hq : flatEq P t with
        | none => simp [hq] at hk
        | some ks =>
          simp [hq] at hk
          subst hk
          unfold flatEq at hq
          rw [hu] at hq
          simp only at hq
          split at hq
          · unfold deepEq at hq
            rw [hu] at hq
            simp only at hq
            split at hq
            · cases hq
            · simp only [Option.bind_eq_some_iff] at hq
              obtain ⟨l, hl, hq⟩ := hq
              split at hq
              · injection hq with hq
                subst hq
                obtain ⟨as, bs, xs, hh, rfl, hx, hln⟩ : ∃ as bs xs, x = .agg as ∧ a = .agg xs ∧ VRel G w (.agg as) (.agg xs) ∧ as.length = (l : List Nat).length ∧ bs = as := by
                  simp only [keyEqA] at h
                  unfold eqKind at h
                  split at h
                  · exact absurd ‹EqK.flat l = EqK.bool› (by simp)
                  · exact absurd ‹EqK.flat l = EqK.ptr› (by simp)
                  · have he := ‹EqK.flat l = EqK.flat _›
                    injection he with he
                    subst he
                    split at h
                    case isTrue hln =>
                      cases hx with
                      | agg _ xs x1 x2 x3 => exact ⟨_, _, xs, rfl, rfl, .agg _ _ x1 x2 x3, hln.1, rfl⟩
                    case isFalse => simp at h
                  · simp at h
                cases hx with
                | agg _ _ x1 x2 x3 =>
                  show (Instr.checkKey em (9999 + 1) t _).run P w = _
                  rw [Instr.checkKey]
                  simp only [Sem.run_bind, run_underlying hu, Result.andThen_ok]
                  rw [← Array.forIn_toList]
                  have := checkFields (em := em) (n := 9998) (w := w) xs fs.toList 0 _ hl (fun f hf => List.all_eq_true.1 hall f hf) (by omega)
                  rw [show (9999 : Nat) = 9998 + 1 from rfl, this]
                  rfl
              · cases hq
          · cases hq
      · cases hk
    · cases hk

/-! A map's block is written. -/
theorem map_nocell {w : World} {B : Nat} {cs : Array MapEntry} {ck : Nat} (hb : w.heap[B]? = some (.map cs ck)) (o : Nat) : w.cell? ⟨B, o, none⟩ = none := by
  simp [World.cell?, hb]
theorem map_nosize {w : World} {B : Nat} {cs : Array MapEntry} {ck : Nat} (hb : w.heap[B]? = some (.map cs ck)) : bsize w B = none := by
  simp [bsize, hb]
def setObjAt (w : World) (B : Nat) (o : Obj) : World := { w with heap := w.heap.setIfInBounds B o }
theorem setObjAt_other (w : World) (B : Nat) (o : Obj) {b : Nat} (h : b ≠ B) : (setObjAt w B o).heap[b]? = w.heap[b]? := by
  simp [setObjAt, Ne.symm h]
theorem setObjAt_same {w : World} {B : Nat} {o o' : Obj} (h : w.heap[B]? = some o') : (setObjAt w B o).heap[B]? = some o := by
  have hlt : B < w.heap.size := (Array.getElem?_eq_some_iff.1 h).1
  simp [setObjAt, hlt]
theorem setObjAt_size (w : World) (B : Nat) (o : Obj) : (setObjAt w B o).heap.size = w.heap.size := by simp [setObjAt]

theorem getObj_run {P : Program} {w : World} {r : Nat} {cs : Array MapEntry} {ck : Nat} (hb : w.heap[r]? = some (.map cs ck)) : (getObj r).run P w = .ok (.map cs ck) w := by
  simp [getObj, Sem.run, hb]
theorem setObj_run {P : Program} {w : World} {r : Nat} {o : Obj} {cs : Array MapEntry} {ck : Nat} (hb : w.heap[r]? = some (.map cs ck)) : (setObj r o).run P w = .ok () (setObjAt w r o) := by
  simp [setObj, Sem.run, hb, setObjAt]

theorem Inv.setMap {G : Gh} {w : World} {st : St} (h : Inv G w st) {l B : Nat} {es es' : List (AV × AV × Nat)} {ck ck' : Nat} {cs cs' : Array MapEntry} (hl : st.heap[l]? = some (.map es ck)) (hB : G.rho l = some B) (hb : w.heap[B]? = some (.map cs ck)) (hrel : MapRel G w es' cs') :
    Inv G (setObjAt w B (.map cs' ck')) (st.setBlk l (.map es' ck')) ∧ Ext G w G (setObjAt w B (.map cs' ck')) st.heap.length st.toks.length := by
  have hlt : l < st.heap.length := (List.getElem?_eq_some_iff.1 hl).1
  have hne : ∀ b o, G.imm b o → b ≠ B := by
    intro b o hi e
    subst e
    obtain ⟨v, hv⟩ := h.cells b o hi
    rw [map_nocell hb] at hv
    cases hv
  have hne2 : ∀ b z, bsize w b = some z → b ≠ B := by
    intro b z hz e
    subst e
    rw [map_nosize hb] at hz
    cases hz
  have hE : Ext G w G (setObjAt w B (.map cs' ck')) st.heap.length st.toks.length :=
    { rho := fun _ _ => rfl
      imm := fun _ _ hi => hi
      cell := fun b o hi => cell_of_block (setObjAt_other w B _ (hne b o hi)) o
      size := fun b z hz => (bsize_of_block (setObjAt_other w B _ (hne2 b z hz))).trans hz
      tok := fun _ p _ hp => ⟨p, hp, rfl, Nat.le_refl _, fun _ => rfl⟩
      heap := by rw [setObjAt_size]; exact Nat.le_refl _
      base := rfl
      w0 := rfl
      immB := fun _ _ hi _ => hi }
  have hv : ∀ v x, VRel G w v x → VRel G (setObjAt w B (.map cs' ck')) v x := fun v x hv => hv.inv h hE
  refine ⟨?_, hE⟩
  exact {
    dom := fun l' B' hl' => by simpa [St.setBlk] using h.dom l' B' hl'
    img := fun l' B' hl' => by rw [setObjAt_size]; exact h.img l' B' hl'
    inj := h.inj
    blk := fun l' b hl' => by
      by_cases e : l' = l
      · subst e
        simp only [St.setBlk, List.getElem?_set_self hlt, Option.some.injEq] at hl'
        subst hl'
        exact ⟨B, hB, cs', setObjAt_same hb, hrel.1, fun i e c hi hc => ⟨hv _ _ (hrel.2 i e c hi hc).1, hv _ _ (hrel.2 i e c hi hc).2.1, (hrel.2 i e c hi hc).2.2⟩⟩
      · simp only [St.setBlk, List.getElem?_set_ne (Ne.symm e)] at hl'
        obtain ⟨B', q1, q2⟩ := h.blk l' b hl'
        have hBB : B' ≠ B := fun e2 => e (h.inj l' l B (e2 ▸ q1) hB)
        exact ⟨B', q1, q2.keep hv (setObjAt_other w B _ hBB) (fun _ hi => hi) (fun _ hi => hi)⟩
    tl := h.tl
    tdom := fun k i hk => by
      obtain ⟨a1, a2, ⟨z, a3, a4, a5⟩, a6, a7⟩ := h.tdom k i hk
      have hib := hne2 _ _ a3
      refine ⟨a1, a2, ⟨z, (bsize_of_block (setObjAt_other w B _ hib)).trans a3, a4, fun o h1 h2 => (frozen_of_block (setObjAt_other w B _ hib) o).trans (a5 o h1 h2)⟩, a6, fun l' hl' => ?_⟩
      obtain ⟨vs, hvs⟩ := a7 l' hl'
      have : l' ≠ l := fun e => by subst e; rw [hl] at hvs; cases hvs
      exact ⟨vs, by simp only [St.setBlk, List.getElem?_set_ne (Ne.symm this)]; exact hvs⟩
    tinj := h.tinj
    cells := fun b o hi => by
      obtain ⟨v, hv⟩ := h.cells b o hi
      exact ⟨v, (cell_of_block (setObjAt_other w B _ (hne b o hi)) o).trans hv⟩
    below := ⟨h.below.os, h.below.tape, h.below.output, by rw [setObjAt_size]; exact h.below.size, fun k hk => by
      have := (h.img l B hB).1
      rw [setObjAt_other w B _ (by omega)]
      exact h.below.block k hk⟩
    bsz := by rw [setObjAt_size]; exact h.bsz }

/-! The operations. -/
theorem mapAt_facts {G : Gh} {w : World} {st : St} (hI : Inv G w st) {l : Nat} {m : List (AV × AV × Nat) × Nat} (hm : mapAt st l = some m) {B : Nat} (hB : G.rho l = some B) : st.heap[l]? = some (.map m.1 m.2) ∧ ∃ cs, w.heap[B]? = some (.map cs m.2) ∧ MapRel G w m.1 cs := by
  unfold mapAt at hm
  split at hm
  · rename_i es c hh
    injection hm with hm
    subst hm
    obtain ⟨B', q1, q2⟩ := hI.blk l _ hh
    rw [hB] at q1
    injection q1 with q1
    subst q1
    exact ⟨hh, q2⟩
  · cases hm
theorem MapRel.ents {G : Gh} {w : World} {es : List (AV × AV × Nat)} {cs : Array MapEntry} (h : MapRel G w es cs) : EntRel G w es cs.toList :=
  ⟨by simpa using h.1, fun i e c h1 h2 => h.2 i e c h1 (by simpa using h2)⟩
theorem MapRel.nil {G : Gh} {w : World} : MapRel G w [] #[] := ⟨rfl, by simp⟩
theorem MapRel.set {G : Gh} {w : World} {es : List (AV × AV × Nat)} {cs : Array MapEntry} (h : MapRel G w es cs) {i : Nat} {e : AV × AV × Nat} {c : MapEntry} (f : MapEntry → MapEntry) (hi : cs[i]? = some c) (hk : VRel G w e.1 (f c).key ∧ VRel G w e.2.1 (f c).val ∧ (f c).born = e.2.2) : MapRel G w (es.set i e) (cs.modify i f) := by
  refine ⟨by simpa using h.1, fun j e' c' h1 h2 => ?_⟩
  rw [Array.getElem?_modify] at h2
  by_cases hj : i = j
  · subst hj
    rw [if_pos rfl, hi] at h2
    simp at h2
    subst h2
    have hlt := (List.getElem?_eq_some_iff.1 h1).1
    simp at hlt
    rw [List.getElem?_set_self hlt] at h1
    injection h1 with h1
    subst h1
    exact hk
  · rw [if_neg hj] at h2
    rw [List.getElem?_set_ne hj] at h1
    exact h.2 j e' c' h1 h2
theorem MapRel.push {G : Gh} {w : World} {es : List (AV × AV × Nat)} {cs : Array MapEntry} (h : MapRel G w es cs) {e : AV × AV × Nat} {c : MapEntry} (hk : VRel G w e.1 c.key ∧ VRel G w e.2.1 c.val ∧ c.born = e.2.2) : MapRel G w (es ++ [e]) (cs.push c) := by
  refine ⟨by simpa using h.1, fun j e' c' h1 h2 => ?_⟩
  rw [Array.getElem?_push] at h2
  split at h2
  · rename_i hj
    injection h2 with h2
    subst h2
    rw [List.getElem?_append_right (by rw [h.1]; omega), hj, h.1] at h1
    simp at h1
    subst h1
    exact hk
  · rename_i hj
    have hlt : j < cs.size := (Array.getElem?_eq_some_iff.1 h2).1
    rw [List.getElem?_append_left (by rw [h.1]; exact hlt)] at h1
    exact h.2 j e' c' h1 h2
theorem MapRel.erase {G : Gh} {w : World} {es : List (AV × AV × Nat)} {cs : Array MapEntry} (h : MapRel G w es cs) {i : Nat} (hi : i < cs.size) : MapRel G w (es.eraseIdx i) (cs.eraseIdxIfInBounds i) := by
  have hc : (cs.eraseIdxIfInBounds i).toList = cs.toList.eraseIdx i := by
    simp [Array.eraseIdxIfInBounds, hi]
  have hl : es.length = cs.toList.length := by simpa using h.1
  refine ⟨?_, fun j e c h1 h2 => ?_⟩
  · have : (cs.eraseIdxIfInBounds i).size = (cs.toList.eraseIdx i).length := (Array.length_toList).symm.trans (congrArg List.length hc)
    rw [this, List.length_eraseIdx, List.length_eraseIdx, hl]
  · rw [← Array.getElem?_toList, hc, List.getElem?_eraseIdx] at h2
    rw [List.getElem?_eraseIdx] at h1
    split at h1
    · rename_i hj
      rw [if_pos hj] at h2
      exact h.2 j e c h1 (by simpa using h2)
    · rename_i hj
      rw [if_neg hj] at h2
      exact h.2 (j + 1) e c h1 (by simpa using h2)

theorem mapOf_some {P : Program} {t : TypeId} {kk : KeyK} {e : TypeId} (h : mapOf P t = some (kk, e)) : ∃ k, P.underlying t = some (.map k e) ∧ keyKind P k = some kk := by
  unfold mapOf at h
  split at h
  · rename_i k e' hu
    simp only [Option.map_eq_some_iff, Prod.mk.injEq] at h
    obtain ⟨kk', h1, rfl, rfl⟩ := h
    exact ⟨k, hu, h1⟩
  · cases h
theorem newMap_sound {P : Program} {G : Gh} {w : World} {st : St} (hI : Inv G w st) : ∃ w' G', (newObj (.map #[] 0)).run P w = .ok w.heap.size w' ∧ Inv G' w' { st with heap := st.heap ++ [.map [] 0] } ∧ Ext G w G' w' st.heap.length st.toks.length ∧ VRel G' w' (.map (some st.heap.length)) (.map (some w.heap.size)) := by
  obtain ⟨i1, e1⟩ := hI.allocMut (.map #[] 0) (.map [] 0) (fun G' w' h1 h2 h3 => ⟨#[], h2, MapRel.nil⟩)
  exact ⟨_, _, by simp [newObj, Sem.run], i1, e1, .map _ _ (by simp [Gh.addRho])⟩
theorem snd_makeMap {P : Program} {G : Gh} {w : World} {st st' : St} {ρ : Operand → Value} {op : AOp} {xs : List Operand} {avs : List AV} {v : AV} {t : TypeId} {r : Option Operand} (hI : Inv G w st) (hc : compP P (.makeMap t r) = some (.prim op, xs)) (hr : ListRel G w avs (xs.map ρ)) (he : evA op avs st = some (v, st')) :
    NOk P G w st (do pure (.value (← Instr.makeMap t (r.map ρ)))) v st' := by
  simp only [compP] at hc
  split at hc
  · rename_i k e hu
    simp only [Option.some.injEq, Prod.mk.injEq, Kind.prim.injEq] at hc
    obtain ⟨rfl, rfl⟩ := hc
    obtain ⟨w', G', h1, h2, h3, h4⟩ := newMap_sound (P := P) hI
    cases r with
    | none =>
      have := hr.nil_inv
      subst this
      simp only [evA, AOp.cls, evW, Option.some.injEq, Prod.mk.injEq] at he
      obtain ⟨rfl, rfl⟩ := he
      exact ⟨_, _, w', G', by simp [Instr.makeMap, h1], .inl rfl, h2, h3, h4⟩
    | some r =>
      obtain ⟨a, rfl, ha⟩ := hr.one
      simp only [evA, AOp.cls] at he
      cases a <;> simp [evW] at he
      obtain ⟨rfl, rfl⟩ := he
      generalize hy : ρ r = y at ha
      cases ha
      exact ⟨_, _, w', G', by simp [Instr.makeMap, hy, run_underlying hu, asInt, asIntOf, h1], .inl rfl, h2, h3, h4⟩
  · cases hc
theorem mapRes_rel {G : Gh} {w : World} {ok there : Bool} {v : AV} {x : Value} (h : VRel G w v x) : VRel G w (mapRes ok there v) (if ok then .tuple #[x, .bool there] else x) := by
  cases ok with
  | false => exact h
  | true =>
    refine .tup _ _ rfl fun i c y hc hy => ?_
    match i with
    | 0 => simp at hc hy; subst hc; subst hy; exact h
    | 1 => simp at hc hy; subst hc; subst hy; exact .bool _
    | i + 2 => simp at hc
theorem get_run {P : Program} {G : Gh} {w : World} {k e : TypeId} {kk : KeyK} {z key v : AV} {kv : Value} {ok : Bool} {es : List (AV × AV × Nat)} {cs : List MapEntry} (hk : keyKind P k = some kk) (hz : zeroA P e = some z) (hx : VRel G w key kv) (he : EntRel G w es cs) (h : getA kk z ok es key = some v) (em : Bool) :
    ∃ u, (do Instr.checkKey em 10000 k kv
             let (v, there) ← match ← Instr.findKey k kv cs with
               | some (_, v) => pure (v, true)
               | none => pure (← zeroValue e, false)
             pure (if ok then .tuple #[v, .bool there] else v) : Sem Value).run P w = .ok u w ∧ VRel G w v u := by
  unfold getA at h
  split at h
  · cases h
  · rename_i hs
    have hs' : (keyEqA kk key key).isSome = true := Option.isSome_iff_ne_none.2 (by simpa using hs)
    cases hf : findA kk key es with
    | none => simp [hf] at h
    | some r =>
      rw [hf] at h
      obtain ⟨res, g1, g2⟩ := findKey_run hk hx hf he
      cases r with
      | none =>
        simp only [Option.bind_some, Option.some.injEq] at h
        subst h
        have : res = none := g2
        subst this
        obtain ⟨i, zv, z1, z2, z3, _⟩ := zeroA_sound (G := G) (w := w) hz
        have hzv : (zeroValue e).run P w = .ok zv w := by simp [zeroValue, typeInfo, z1, z2, Sem.run]
        exact ⟨_, by simp [checkKey_run hk hx hs', g1, hzv, Result.andThen], mapRes_rel z3⟩
      | some i =>
        simp only [Option.bind_some, Option.map_eq_some_iff] at h
        obtain ⟨en, h1, rfl⟩ := h
        obtain ⟨c, q1, rfl⟩ := g2
        exact ⟨_, by simp [checkKey_run hk hx hs', g1, Result.andThen], mapRes_rel (he.2 i en c h1 q1).2.1⟩
theorem snd_lookup {P : Program} {G : Gh} {w : World} {st st' : St} {ρ : Operand → Value} {op : AOp} {xs : List Operand} {avs : List AV} {v : AV} {t : TypeId} {x i : Operand} {ok : Bool} (hI : Inv G w st) (hc : compP P (.lookup t x i ok) = some (.prim op, xs)) (hr : ListRel G w avs (xs.map ρ)) (he : evA op avs st = some (v, st')) :
    NOk P G w st (do pure (.value (← Instr.lookup t (ρ x) (ρ i) ok))) v st' := by
  simp only [compP] at hc
  cases hm : mapOf P t with
  | none => simp [hm] at hc
  | some p =>
    obtain ⟨kk, e⟩ := p
    obtain ⟨k, hu, hk⟩ := mapOf_some hm
    cases hz : zeroA P e with
    | none => simp [hm, hz] at hc
    | some z =>
      simp only [hm, hz, Option.bind_some, Option.some.injEq, Prod.mk.injEq, Kind.prim.injEq] at hc
      obtain ⟨rfl, rfl⟩ := hc
      obtain ⟨a, b, rfl, ha, hb⟩ := hr.two
      obtain ⟨h1, rfl⟩ := evA_read rfl he
      generalize ρ x = xv at ha
      generalize ρ i = iv at hb
      cases a <;> simp only [evR] at h1 <;> first | (cases h1; done) | skip
      rename_i ml
      cases ml with
      | none =>
        simp only [evR] at h1
        cases ha
        obtain ⟨u, q1, q2⟩ := get_run (cs := []) hk hz hb ⟨rfl, by simp⟩ h1 true
        refine NOk.same hI ⟨u, ?_, q2⟩
        rw [← q1]
        simp only [Instr.lookup, Sem.run_bind, run_underlying hu, Result.andThen_ok, Sem.run_pure]
        rfl
      | some l =>
        simp only [evR, Option.bind_eq_some_iff] at h1
        obtain ⟨m, hm1, h1⟩ := h1
        cases ha with
        | map _ B hB =>
          obtain ⟨_, cs, c1, c2⟩ := mapAt_facts hI hm1 hB
          obtain ⟨u, q1, q2⟩ := get_run (cs := cs.toList) hk hz hb c2.ents h1 cs.isEmpty
          refine NOk.same hI ⟨u, ?_, q2⟩
          rw [← q1]
          simp only [Instr.lookup, Sem.run_bind, run_underlying hu, Result.andThen_ok, getObj_run c1, Sem.run_pure]
          rfl

/-- A map's search, told at once. -/
theorem key_run {P : Program} {G : Gh} {w : World} {k : TypeId} {kk : KeyK} {key : AV} {kv : Value} {es : List (AV × AV × Nat)} {cs : Array MapEntry} {r : Option Nat} (hk : keyKind P k = some kk) (hx : VRel G w key kv) (he : MapRel G w es cs) (hs : ¬ (keyEqA kk key key).isSome = false) (hf : findA kk key es = some r) :
    (∀ em, (Instr.checkKey em 10000 k kv).run P w = .ok () w) ∧ ∃ res, (Instr.findKey k kv cs.toList).run P w = .ok res w ∧ Found cs.toList 0 r res ∧ ∀ i c, r = some i → cs[i]? = some c → ∀ n, Instr.sameBits (n + 1) c.key kv = true := by
  have hs' : (keyEqA kk key key).isSome = true := Option.isSome_iff_ne_none.2 (by simpa using hs)
  refine ⟨fun em => checkKey_run hk hx hs' em, ?_⟩
  obtain ⟨res, g1, g2⟩ := findKey_run hk hx hf he.ents
  refine ⟨res, g1, g2, fun i c hi hc n => ?_⟩
  subst hi
  obtain ⟨e, h1, h2⟩ := findA_eq hf
  have := he.2 i e c h1 hc
  exact keyEq_same (keyEq_symm h2) this.1 hx n

theorem unitRel {G : Gh} {w : World} : VRel G w (.tup []) undef := .tup _ _ rfl (by simp)
theorem set_sound {P : Program} {G : Gh} {w : World} {st st' : St} {t : TypeId} {kk : KeyK} {e : TypeId} {a k x v : AV} {mv kv xv : Value} (hI : Inv G w st) (hm : mapOf P t = some (kk, e)) (ha : VRel G w a mv) (hk : VRel G w k kv) (hx : VRel G w x xv) (h : evW (.mapSet kk) [a, k, x] st = some (v, st')) :
    v = .tup [] ∧ ∃ w', (Instr.mapUpdate t mv kv xv).run P w = .ok () w' ∧ Inv G w' st' ∧ Ext G w G w' st.heap.length st.toks.length := by
  obtain ⟨kt, hu, hkk⟩ := mapOf_some hm
  cases a <;> simp only [evW] at h <;> first | (cases h; done) | skip
  rename_i ml
  cases ml with
  | none => simp [evW] at h
  | some l =>
    simp only [evW, Option.bind_eq_some_iff, Option.map_eq_some_iff, Prod.mk.injEq] at h
    obtain ⟨m, hm1, m', hs, rfl, rfl⟩ := h
    cases ha with
    | map _ B hB =>
      obtain ⟨hl, cs, c1, c2⟩ := mapAt_facts hI hm1 hB
      refine ⟨rfl, ?_⟩
      unfold setA at hs
      split at hs
      · cases hs
      · rename_i hok
        cases hf : findA kk k m.1 with
        | none => simp [hf] at hs
        | some r =>
          rw [hf] at hs
          obtain ⟨k1, res, k2, k3, k4⟩ := key_run hkk hk c2 hok hf
          cases r with
          | none =>
            simp only [Option.bind_some, Option.some.injEq] at hs
            subst hs
            have : res = none := k3
            subst this
            have hrel := c2.push (e := (k, x, m.2)) (c := { key := kv, val := xv, born := m.2 }) ⟨hk, hx, rfl⟩
            obtain ⟨i1, e1⟩ := hI.setMap (ck' := m.2 + 1) hl hB c1 hrel
            exact ⟨_, by simp [Instr.mapUpdate, run_underlying hu, getObj_run c1, k1, k2, setObj_run c1, Result.andThen], i1, e1⟩
          | some i =>
            simp only [Option.bind_some, Option.map_eq_some_iff] at hs
            obtain ⟨en, q1, rfl⟩ := hs
            obtain ⟨c, q2, rfl⟩ := k3
            have hci : cs[i]? = some c := by simpa using q2
            have hst := keyThatStays_run (P := P) (w := w) (k4 i c rfl hci)
            have hrel := c2.set (e := (k, x, en.2.2)) (fun e => { e with key := kv, val := xv }) hci ⟨hk, hx, (c2.2 i en c q1 hci).2.2⟩
            obtain ⟨i1, e1⟩ := hI.setMap (ck' := m.2) hl hB c1 hrel
            refine ⟨_, ?_, i1, e1⟩
            simp [Instr.mapUpdate, run_underlying hu, getObj_run c1, k1, k2, hci, hst, setObj_run c1, Result.andThen]
theorem snd_mapUpdate {P : Program} {G : Gh} {w : World} {st st' : St} {ρ : Operand → Value} {op : AOp} {xs : List Operand} {avs : List AV} {v : AV} {t : TypeId} {m k x : Operand} (hI : Inv G w st) (hc : compP P (.mapUpdate t m k x) = some (.prim op, xs)) (hr : ListRel G w avs (xs.map ρ)) (he : evA op avs st = some (v, st')) :
    NOk P G w st (do Instr.mapUpdate t (ρ m) (ρ k) (ρ x); pure .skip) v st' := by
  simp only [compP] at hc
  cases hm : mapOf P t with
  | none => simp [hm] at hc
  | some p =>
    simp only [hm, Option.bind_some, Option.some.injEq, Prod.mk.injEq, Kind.prim.injEq] at hc
    obtain ⟨rfl, rfl⟩ := hc
    obtain ⟨a, b, c, rfl, ha, hb, hcc⟩ := hr.three
    obtain ⟨rfl, w', h1, h2, h3⟩ := set_sound hI hm ha hb hcc he
    exact ⟨.skip, undef, w', G, by simp [h1], .inr ⟨rfl, rfl⟩, h2, h3, unitRel⟩
theorem snd_insert {P : Program} {G : Gh} {w : World} {st st' : St} {ρ : Operand → Value} {op : AOp} {xs : List Operand} {avs : List AV} {v : AV} {t : TypeId} {m k x : Operand} (hI : Inv G w st) (hc : compP P (.insert t m k x) = some (.prim op, xs)) (hr : ListRel G w avs (xs.map ρ)) (he : evA op avs st = some (v, st')) :
    NOk P G w st (do Instr.mapUpdate t (ρ m) (ρ k) (ρ x); pure .skip) v st' := by
  simp only [compP] at hc
  cases hm : mapOf P t with
  | none => simp [hm] at hc
  | some p =>
    simp only [hm, Option.bind_some, Option.some.injEq, Prod.mk.injEq, Kind.prim.injEq] at hc
    obtain ⟨rfl, rfl⟩ := hc
    obtain ⟨a, b, c, rfl, ha, hb, hcc⟩ := hr.three
    obtain ⟨rfl, w', h1, h2, h3⟩ := set_sound hI hm ha hb hcc he
    exact ⟨.skip, undef, w', G, by simp [h1], .inr ⟨rfl, rfl⟩, h2, h3, unitRel⟩
theorem tup2_rel {G : Gh} {w : World} {a b : AV} {x y : Value} (h1 : VRel G w a x) (h2 : VRel G w b y) : VRel G w (.tup [a, b]) (.tuple #[x, y]) := by
  refine .tup _ _ rfl fun i c z hc hz => ?_
  match i with
  | 0 => simp at hc hz; subst hc; subst hz; exact h1
  | 1 => simp at hc hz; subst hc; subst hz; exact h2
  | i + 2 => simp at hc
theorem snd_mapEntry {P : Program} {G : Gh} {w : World} {st st' : St} {ρ : Operand → Value} {op : AOp} {xs : List Operand} {avs : List AV} {v : AV} {t : TypeId} {m k : Operand} (hI : Inv G w st) (hc : compP P (.mapEntry t m k) = some (.prim op, xs)) (hr : ListRel G w avs (xs.map ρ)) (he : evA op avs st = some (v, st')) :
    NOk P G w st (do pure (.value (← Instr.mapEntry t (ρ m) (ρ k)))) v st' := by
  simp only [compP] at hc
  cases hm : mapOf P t with
  | none => simp [hm] at hc
  | some p =>
    obtain ⟨kk, e⟩ := p
    obtain ⟨kt, hu, hkk⟩ := mapOf_some hm
    cases hz : zeroA P e with
    | none => simp [hm, hz] at hc
    | some z =>
      simp only [hm, hz, Option.bind_some, Option.some.injEq, Prod.mk.injEq, Kind.prim.injEq] at hc
      obtain ⟨rfl, rfl⟩ := hc
      obtain ⟨a, b, rfl, ha, hb⟩ := hr.two
      generalize ρ m = mv at ha
      generalize ρ k = kv at hb
      simp only [evA, AOp.cls] at he
      cases a <;> simp only [evW] at he <;> first | (cases he; done) | skip
      rename_i ml
      cases ml with
      | none => simp [evW] at he
      | some l =>
        simp only [evW, Option.bind_eq_some_iff, Option.map_eq_some_iff, Prod.mk.injEq] at he
        obtain ⟨mm, hm1, m', hs, rfl, rfl⟩ := he
        cases ha with
        | map _ B hB =>
          obtain ⟨hl, cs, c1, c2⟩ := mapAt_facts hI hm1 hB
          unfold entA at hs
          split at hs
          · cases hs
          · rename_i hok
            cases hf : findA kk b mm.1 with
            | none => simp [hf] at hs
            | some r =>
              rw [hf] at hs
              obtain ⟨k1, res, k2, k3, k4⟩ := key_run hkk hb c2 hok hf
              cases r with
              | none =>
                simp only [Option.bind_some, Option.some.injEq] at hs
                subst hs
                have : res = none := k3
                subst this
                obtain ⟨i, zv, z1, z2, z3, _⟩ := zeroA_sound (G := G) (w := w) hz
                have hzv : (zeroValue e).run P w = .ok zv w := by simp [zeroValue, typeInfo, z1, z2, Sem.run]
                have hrel := c2.push (e := (b, z, mm.2)) (c := { key := kv, val := zv, born := mm.2 }) ⟨hb, z3, rfl⟩
                obtain ⟨i1, e1⟩ := hI.setMap (ck' := mm.2 + 1) hl hB c1 hrel
                refine ⟨_, _, _, G, by simp [Instr.mapEntry, run_underlying hu, getObj_run c1, k1, k2, hzv, setObj_run c1, Result.andThen]; rfl, .inl rfl, i1, e1, ?_⟩
                exact tup2_rel (z3.inv hI e1) (.int _ _)
              | some i =>
                simp only [Option.bind_some, Option.map_eq_some_iff] at hs
                obtain ⟨en, q1, rfl⟩ := hs
                obtain ⟨c, q2, rfl⟩ := k3
                have hci : cs[i]? = some c := by simpa using q2
                have hst := keyThatStays_run (P := P) (w := w) (k4 i c rfl hci)
                have hen := c2.2 i en c q1 hci
                have hrel := c2.set (e := (b, en.2.1, en.2.2)) (fun e => { e with key := kv }) hci ⟨hb, hen.2.1, hen.2.2⟩
                obtain ⟨i1, e1⟩ := hI.setMap (ck' := mm.2) hl hB c1 hrel
                refine ⟨_, _, _, G, by simp [Instr.mapEntry, run_underlying hu, getObj_run c1, k1, k2, hci, hst, setObj_run c1, Result.andThen]; rfl, .inl rfl, i1, e1, ?_⟩
                rw [← hen.2.2]
                exact tup2_rel (hen.2.1.inv hI e1) (.int _ _)
theorem born_find {G : Gh} {w : World} {b : Int} : ∀ {es : List (AV × AV × Nat)} {cs : List MapEntry} {i : Nat}, bornA b es = some i → EntRel G w es cs → cs.findIdx? (fun e => (e.born : Int) == b) = some i
  | [], cs, i, h, he => by simp [bornA] at h
  | e :: es, cs, i, h, he => by
    obtain ⟨c, cs', rfl, ⟨c1, c2, c3⟩, he'⟩ := he.cons
    simp only [bornA] at h
    rw [List.findIdx?_cons, c3]
    split at h
    · rename_i hb
      injection h with h
      subst h
      simp [hb]
    · rename_i hb
      simp only [Option.map_eq_some_iff] at h
      obtain ⟨j, h1, rfl⟩ := h
      have := born_find h1 he'
      simp [hb, this]
theorem snd_entryStore {P : Program} {G : Gh} {w : World} {st st' : St} {ρ : Operand → Value} {op : AOp} {xs : List Operand} {avs : List AV} {v : AV} {t : TypeId} {m s x : Operand} (hI : Inv G w st) (hc : compP P (.entryStore t m s x) = some (.prim op, xs)) (hr : ListRel G w avs (xs.map ρ)) (he : evA op avs st = some (v, st')) :
    NOk P G w st (do Instr.entryStore t (ρ m) (ρ s) (ρ x); pure .skip) v st' := by
  simp only [compP, Option.some.injEq, Prod.mk.injEq, Kind.prim.injEq] at hc
  obtain ⟨rfl, rfl⟩ := hc
  obtain ⟨a, b, c, rfl, ha, hb, hcc⟩ := hr.three
  generalize ρ m = mv at ha
  generalize ρ s = sv at hb
  generalize ρ x = xv at hcc
  simp only [evA, AOp.cls] at he
  unfold evW at he
  split at he <;> first | (cases he; done) | skip
  all_goals first
    | (rename_i hop _; cases hop; done)
    | skip
  rename_i l bn vv hop harg
  simp only [List.cons.injEq, and_true] at harg
  obtain ⟨rfl, rfl, rfl⟩ := harg
  simp only [Option.bind_eq_some_iff, Option.map_eq_some_iff, Prod.mk.injEq] at he
  obtain ⟨mm, hm1, i, hbn, en, hen, rfl, rfl⟩ := he
  cases ha with
  | map _ B hB =>
    cases hb with
    | int _ _ =>
      obtain ⟨hl, cs, c1, c2⟩ := mapAt_facts hI hm1 hB
      have hfi := born_find hbn c2.ents
      have hlt : i < cs.size := by
        have := (List.getElem?_eq_some_iff.1 hen).1
        rw [c2.1] at this
        exact this
      have hci : cs[i]? = some cs[i] := by simp [hlt]
      have he3 := c2.2 i en cs[i] hen hci
      have hrel := c2.set (e := (en.1, c, en.2.2)) (fun e => { e with val := xv }) hci ⟨he3.1, hcc, he3.2.2⟩
      obtain ⟨i1, e1⟩ := hI.setMap (ck' := mm.2) hl hB c1 hrel
      have hfa : cs.findIdx? (fun e => (e.born : Int) == bn) = some i := by
        obtain ⟨L⟩ := cs
        rw [← hfi, List.findIdx?_toArray]
      refine ⟨.skip, undef, _, G, ?_, .inr ⟨rfl, rfl⟩, i1, e1, unitRel⟩
      simp [Instr.entryStore, getObj_run c1, asInt, asIntOf, hfa, setObj_run c1, Result.andThen]
theorem del_sound {P : Program} {G : Gh} {w : World} {st st' : St} {argTypes : Array TypeId} {ty t : TypeId} {kk : KeyK} {e : TypeId} {a k v : AV} {mv kv : Value} (hI : Inv G w st) (h0 : argTypes[0]? = some t) (hm : mapOf P t = some (kk, e)) (ha : VRel G w a mv) (hk : VRel G w k kv) (h : evA (.mapDel kk) [a, k] st = some (v, st')) :
    SOk P G w st (Builtin.delete_ argTypes ty #[mv, kv]) v st' := by
  obtain ⟨kt, hu, hkk⟩ := mapOf_some hm
  simp only [evA, AOp.cls] at h
  cases a <;> simp only [evW] at h <;> first | (cases h; done) | skip
  rename_i ml
  cases ml with
  | none =>
    simp only [evW] at h
    split at h
    · rename_i hs
      simp only [Option.some.injEq, Prod.mk.injEq] at h
      obtain ⟨rfl, rfl⟩ := h
      cases ha
      exact ⟨_, w, G, by simp [Builtin.delete_, h0, run_underlying hu, checkKey_run hkk hk hs, Result.andThen]; rfl, hI, Ext.refl _ _ _ _, unitRel⟩
    · cases h
  | some l =>
    simp only [evW, Option.bind_eq_some_iff, Option.map_eq_some_iff, Prod.mk.injEq] at h
    obtain ⟨m, hm1, es', hs, rfl, rfl⟩ := h
    cases ha with
    | map _ B hB =>
      obtain ⟨hl, cs, c1, c2⟩ := mapAt_facts hI hm1 hB
      unfold delA at hs
      split at hs
      · cases hs
      · rename_i hok
        cases hf : findA kk k m.1 with
        | none => simp [hf] at hs
        | some r =>
          rw [hf] at hs
          obtain ⟨k1, res, k2, k3, k4⟩ := key_run hkk hk c2 hok hf
          cases r with
          | none =>
            simp only [Option.map_some, Option.some.injEq] at hs
            subst hs
            have : res = none := k3
            subst this
            obtain ⟨i1, e1⟩ := hI.setMap (ck' := m.2) hl hB c1 c2
            exact ⟨_, _, G, by simp [Builtin.delete_, h0, run_underlying hu, getObj_run c1, k1, k2, setObj_run c1, Result.andThen]; rfl, i1, e1, unitRel⟩
          | some i =>
            simp only [Option.map_some, Option.some.injEq] at hs
            subst hs
            obtain ⟨c, q2, rfl⟩ := k3
            have hci : i < cs.size := by
              have := (List.getElem?_eq_some_iff.1 q2).1
              simpa using this
            obtain ⟨i1, e1⟩ := hI.setMap (ck' := m.2) hl hB c1 (c2.erase hci)
            exact ⟨_, _, G, by simp [Builtin.delete_, h0, run_underlying hu, getObj_run c1, k1, k2, setObj_run c1, Result.andThen]; rfl, i1, e1, unitRel⟩
theorem clr_sound {P : Program} {G : Gh} {w : World} {st st' : St} {argTypes : Array TypeId} {ty t k e : TypeId} {a v : AV} {mv : Value} (hI : Inv G w st) (h0 : argTypes[0]? = some t) (hu : P.underlying t = some (.map k e)) (ha : VRel G w a mv) (h : evA .mapClr [a] st = some (v, st')) :
    SOk P G w st (Builtin.clear_ argTypes ty #[mv]) v st' := by
  simp only [evA, AOp.cls] at h
  cases a <;> simp only [evW] at h <;> first | (cases h; done) | skip
  rename_i ml
  cases ml with
  | none =>
    simp only [evW, Option.some.injEq, Prod.mk.injEq] at h
    obtain ⟨rfl, rfl⟩ := h
    cases ha
    exact ⟨_, w, G, by simp [Builtin.clear_, h0, run_underlying hu, Result.andThen]; rfl, hI, Ext.refl _ _ _ _, unitRel⟩
  | some l =>
    simp only [evW, Option.map_eq_some_iff, Prod.mk.injEq] at h
    obtain ⟨m, hm1, rfl, rfl⟩ := h
    cases ha with
    | map _ B hB =>
      obtain ⟨hl, cs, c1, c2⟩ := mapAt_facts hI hm1 hB
      obtain ⟨i1, e1⟩ := hI.setMap (ck' := m.2) hl hB c1 MapRel.nil
      exact ⟨_, _, G, by simp [Builtin.clear_, h0, run_underlying hu, getObj_run c1, setObj_run c1, Result.andThen]; rfl, i1, e1, unitRel⟩
theorem mlen_sound {P : Program} {G : Gh} {w : World} {st st' : St} {argTypes : Array TypeId} {ty t k e : TypeId} {a v : AV} {mv : Value} (hI : Inv G w st) (h0 : argTypes[0]? = some t) (hu : P.underlying t = some (.map k e)) (ha : VRel G w a mv) (h : evA .mapLen [a] st = some (v, st')) :
    SOk P G w st (Builtin.len_ argTypes ty #[mv]) v st' := by
  obtain ⟨h1, rfl⟩ := evA_read rfl h
  cases a <;> simp only [evR] at h1 <;> first | (cases h1; done) | skip
  rename_i ml
  cases ml with
  | none =>
    simp only [evR, Option.some.injEq] at h1
    subst h1
    cases ha
    exact SOk.same hI (by simp [Builtin.len_, h0, run_underlying hu, Result.andThen]; rfl) (.int _ _)
  | some l =>
    simp only [evR, Option.map_eq_some_iff] at h1
    obtain ⟨m, hm1, rfl⟩ := h1
    cases ha with
    | map _ B hB =>
      obtain ⟨hl, cs, c1, c2⟩ := mapAt_facts hI hm1 hB
      rw [c2.1]
      exact SOk.same hI (by simp [Builtin.len_, h0, run_underlying hu, getObj_run c1, Result.andThen, goInt]) (.int _ _)
end Go.Am

/- The abstract machine's operations are sound: all of them, as the model runs them, second part. -/
namespace Go.Am

theorem optsRel {G : Gh} {w : World} {ρ : Operand → Value} {x : Operand} {lo hi mx : Option Operand} {avs : List AV} (hr : ListRel G w avs ((x :: (lo.toList ++ hi.toList ++ mx.toList)).map ρ)) :
    ∃ a bs, avs = a :: bs ∧ VRel G w a (ρ x) ∧ ListRel G w bs ((lo.map ρ).toList ++ (hi.map ρ).toList ++ (mx.map ρ).toList) := by
  simp only [List.map_cons] at hr
  obtain ⟨a, bs, rfl, ha, hb⟩ := hr.cons_inv
  refine ⟨a, bs, rfl, ha, ?_⟩
  have : (lo.toList ++ hi.toList ++ mx.toList).map ρ = (lo.map ρ).toList ++ (hi.map ρ).toList ++ (mx.map ρ).toList := by
    cases lo <;> cases hi <;> cases mx <;> rfl
  rw [this] at hb
  exact hb

theorem snd_nilCheck {P : Program} {G : Gh} {w : World} {st st' : St} {ρ : Operand → Value} {op : AOp} {xs : List Operand} {avs : List AV} {v : AV} {x : Operand} (hI : Inv G w st) (hc : compP P (.nilCheck x) = some (.prim op, xs)) (hr : ListRel G w avs (xs.map ρ)) (he : evA op avs st = some (v, st')) :
    NOk P G w st ((execOp ρ ⟨none, .nilCheck x, 0, "", #[], none⟩)) v st' := by
  simp only [compP] at hc
  simp only [Option.some.injEq, Prod.mk.injEq, Kind.prim.injEq] at hc
  obtain ⟨rfl, rfl⟩ := hc
  obtain ⟨a, rfl, ha⟩ := hr.one
  obtain ⟨h1, rfl⟩ := evA_pure rfl he
  simp only [execOp]
  generalize ρ x = y at ha
  simp only [evP] at h1
  unfold nilcA at h1
  split at h1 <;> first | (cases h1; done) | skip
  all_goals
    injection h1 with h1; subst h1
    have ha' := ha
    cases ha
    exact value_now hI ha'

theorem snd_indexAddr {P : Program} {G : Gh} {w : World} {st st' : St} {ρ : Operand → Value} {op : AOp} {xs : List Operand} {avs : List AV} {v : AV} {t : TypeId} {x i : Operand} (hI : Inv G w st) (hc : compP P (.indexAddr t x i) = some (.prim op, xs)) (hr : ListRel G w avs (xs.map ρ)) (he : evA op avs st = some (v, st')) :
    NOk P G w st (do pure (.value (← Instr.indexAt t (ρ x) (ρ i)))) v st' := by
  simp only [compP] at hc
  split at hc
  · rename_i e hu
    cases hs : szOf P e with
    | none => simp [hs] at hc
    | some sz =>
      rw [hs] at hc
      simp only [Option.bind_some, Option.some.injEq, Prod.mk.injEq, Kind.prim.injEq] at hc
      obtain ⟨rfl, rfl⟩ := hc
      obtain ⟨a, c, rfl, ha, hb⟩ := hr.two
      obtain ⟨h1, rfl⟩ := evA_pure rfl he
      exact NOk.same hI (idxSl_sound hu hs hI h1 ha hb)
  · rename_i n e hu
    cases hs : szOf P e with
    | none => simp [hs] at hc
    | some sz =>
      rw [hs] at hc
      simp only [Option.bind_some, Option.some.injEq, Prod.mk.injEq, Kind.prim.injEq] at hc
      obtain ⟨rfl, rfl⟩ := hc
      obtain ⟨a, c, rfl, ha, hb⟩ := hr.two
      obtain ⟨h1, rfl⟩ := evA_pure rfl he
      exact NOk.same hI (idxArr_sound hu hs hI h1 ha hb)
  · cases hc

theorem snd_index {P : Program} {G : Gh} {w : World} {st st' : St} {ρ : Operand → Value} {op : AOp} {xs : List Operand} {avs : List AV} {v : AV} {t : TypeId} {x i : Operand} (hI : Inv G w st) (hc : compP P (.index t x i) = some (.prim op, xs)) (hr : ListRel G w avs (xs.map ρ)) (he : evA op avs st = some (v, st')) :
    NOk P G w st (do pure (.value (← Instr.index t (ρ x) (ρ i)))) v st' := by
  simp only [compP] at hc
  split at hc
  · rename_i n e hu
    cases hs : szOf P e with
    | none => simp [hs] at hc
    | some sz =>
      rw [hs] at hc
      simp only [Option.bind_some, Option.some.injEq, Prod.mk.injEq, Kind.prim.injEq] at hc
      obtain ⟨rfl, rfl⟩ := hc
      obtain ⟨a, c, rfl, ha, hb⟩ := hr.two
      obtain ⟨h1, rfl⟩ := evA_pure rfl he
      exact NOk.same hI (idxArrV_sound hu hs h1 ha hb)
  · rename_i hu
    simp only [Option.some.injEq, Prod.mk.injEq, Kind.prim.injEq] at hc
    obtain ⟨rfl, rfl⟩ := hc
    obtain ⟨a, c, rfl, ha, hb⟩ := hr.two
    obtain ⟨h1, rfl⟩ := evA_pure rfl he
    exact NOk.same hI (idxStr_sound hu h1 ha hb)
  · cases hc

theorem snd_slice {P : Program} {G : Gh} {w : World} {st st' : St} {ρ : Operand → Value} {op : AOp} {xs : List Operand} {avs : List AV} {v : AV} {t : TypeId} {x : Operand} {lo hi mx : Option Operand} (hI : Inv G w st) (hc : compP P (.slice t x lo hi mx) = some (.prim op, xs)) (hr : ListRel G w avs (xs.map ρ)) (he : evA op avs st = some (v, st')) :
    NOk P G w st (do pure (.value (← Instr.sliceAt t (ρ x) (lo.map ρ) (hi.map ρ) (mx.map ρ)))) v st' := by
  simp only [compP] at hc
  have f1 : (lo.map ρ).isSome = lo.isSome := by cases lo <;> rfl
  have f2 : (hi.map ρ).isSome = hi.isSome := by cases hi <;> rfl
  have f3 : (mx.map ρ).isSome = mx.isSome := by cases mx <;> rfl
  split at hc
  · rename_i hu
    cases mx with
    | some m => simp at hc
    | none =>
      simp only [Option.isNone_none, if_true, Option.some.injEq, Prod.mk.injEq, Kind.prim.injEq] at hc
      obtain ⟨rfl, rfl⟩ := hc
      obtain ⟨a, bs, rfl, ha, hb⟩ := optsRel (mx := none) (by simpa using hr)
      obtain ⟨h1, rfl⟩ := evA_pure rfl he
      rw [← f1, ← f2] at h1
      exact NOk.same hI (slcStr_sound hu h1 ha (by simpa using hb))
  · rename_i e hu
    cases hs : szOf P e with
    | none => simp [hs] at hc
    | some sz =>
      rw [hs] at hc
      simp only [Option.bind_some, Option.some.injEq, Prod.mk.injEq, Kind.prim.injEq] at hc
      obtain ⟨rfl, rfl⟩ := hc
      obtain ⟨a, bs, rfl, ha, hb⟩ := optsRel hr
      obtain ⟨h1, rfl⟩ := evA_pure rfl he
      rw [← f1, ← f2, ← f3] at h1
      exact NOk.same hI (slcSl_sound hu hs hI h1 ha hb)
  · rename_i n e hu
    cases mx with
    | some m => simp at hc
    | none =>
      cases hs : szOf P e with
      | none => simp [hs] at hc
      | some sz =>
        rw [hs] at hc
        simp only [Option.isNone_none, if_true, Option.bind_some, Option.some.injEq, Prod.mk.injEq, Kind.prim.injEq] at hc
        obtain ⟨rfl, rfl⟩ := hc
        obtain ⟨a, bs, rfl, ha, hb⟩ := optsRel (mx := none) (by simpa using hr)
        obtain ⟨h1, rfl⟩ := evA_read rfl he
        rw [← f1, ← f2] at h1
        exact (slcArr_sound hI hu hs h1 ha (by simpa using hb)).next
  · cases hc

theorem snd_convert {P : Program} {G : Gh} {w : World} {st st' : St} {ρ : Operand → Value} {op : AOp} {xs : List Operand} {avs : List AV} {v : AV} {s d : TypeId} {x : Operand} (hI : Inv G w st) (hc : compP P (.convert s d x) = some (.prim op, xs)) (hr : ListRel G w avs (xs.map ρ)) (he : evA op avs st = some (v, st')) :
    NOk P G w st (do pure (.value (← convert s d (ρ x)))) v st' := by
  simp only [compP] at hc
  split at hc
  · rename_i j k hs hd
    simp only [Option.some.injEq, Prod.mk.injEq, Kind.prim.injEq] at hc
    obtain ⟨rfl, rfl⟩ := hc
    obtain ⟨a, rfl, ha⟩ := hr.one
    obtain ⟨h1, rfl⟩ := evA_pure rfl he
    exact NOk.same hI (conv_sound hs hd h1 ha)
  · rename_i hs hd
    simp only [Option.some.injEq, Prod.mk.injEq, Kind.prim.injEq] at hc
    obtain ⟨rfl, rfl⟩ := hc
    obtain ⟨a, rfl, ha⟩ := hr.one
    obtain ⟨h1, rfl⟩ := evA_pure rfl he
    cases a <;> simp [evP] at h1
    subst h1
    rename_i l
    refine NOk.same hI ⟨ρ x, ?_, ha⟩
    rw [ha.str_inv]
    simp [convert, run_underlying hs, run_underlying hd]
  · rename_i e hs hd
    split at hc
    · rename_i hu8
      simp only [Option.some.injEq, Prod.mk.injEq, Kind.prim.injEq] at hc
      obtain ⟨rfl, rfl⟩ := hc
      obtain ⟨a, rfl, ha⟩ := hr.one
      obtain ⟨h1, rfl⟩ := evA_read rfl he
      exact NOk.same hI (strOf_sound hI hs hu8 hd h1 ha)
    · cases hc
  · rename_i e hs hd
    split at hc
    · rename_i hu8
      simp only [Bool.and_eq_true] at hu8
      simp only [Option.some.injEq, Prod.mk.injEq, Kind.prim.injEq] at hc
      obtain ⟨rfl, rfl⟩ := hc
      obtain ⟨a, rfl, ha⟩ := hr.one
      obtain ⟨h1, rfl⟩ := evA_pure rfl he
      exact (bytesOf_sound hI hs hd hu8.1 h1 ha).next
    · cases hc
  · cases hc

theorem snd_makeFunc {P : Program} {G : Gh} {w : World} {st st' : St} {ρ : Operand → Value} {op : AOp} {xs : List Operand} {avs : List AV} {v : AV} {f : Fn} {first captured : Array Operand} (hI : Inv G w st) (hc : compP P (.makeFunc f first captured) = some (.prim op, xs)) (hr : ListRel G w avs (xs.map ρ)) (he : evA op avs st = some (v, st')) :
    NOk P G w st (do pure (.value (← Instr.makeFunc f (first.map ρ) (captured.map ρ)))) v st' := by
  simp only [compP] at hc
  simp only [Option.some.injEq, Prod.mk.injEq, Kind.prim.injEq] at hc
  obtain ⟨rfl, rfl⟩ := hc
  obtain ⟨h1, rfl⟩ := evA_pure rfl he
  simp only [evP, Option.some.injEq] at h1
  subst h1
  refine NOk.same hI ⟨_, rfl, ?_⟩
  have := mfn_rel (G := G) (w := w) (vs := avs) (n := first.size) (f := f) (xs := first.map ρ) (ys := captured.map ρ) (by simp) (by simpa using hr)
  exact this

theorem snd_makeSlice {P : Program} {G : Gh} {w : World} {st st' : St} {ρ : Operand → Value} {op : AOp} {xs : List Operand} {avs : List AV} {v : AV} {t : TypeId} {l c : Operand} (hI : Inv G w st) (hc : compP P (.makeSlice t l c) = some (.prim op, xs)) (hr : ListRel G w avs (xs.map ρ)) (he : evA op avs st = some (v, st')) :
    NOk P G w st (do pure (.value (← Instr.makeSlice t (ρ l) (ρ c)))) v st' := by
  simp only [compP] at hc
  cases hel : elemOfA P t with
  | none => simp [hel] at hc
  | some e =>
    cases hs : szOf P e with
    | none => simp [hel, hs] at hc
    | some sz =>
      cases hz : zeroA P e with
      | none => simp [hel, hs, hz] at hc
      | some z =>
        simp only [hel, hs, hz, Option.bind_some] at hc
        split at hc
        · rename_i hcond
          simp only [Bool.and_eq_true, beq_iff_eq] at hcond
          simp only [Option.some.injEq, Prod.mk.injEq, Kind.prim.injEq] at hc
          obtain ⟨rfl, rfl⟩ := hc
          obtain ⟨a, b, rfl, ha, hb⟩ := hr.two
          have h1 : evW (.mkslice sz z.cells) [a, b] st = some (v, st') := he
          exact (mkslice_sound hI (elemOfA_u hel) hs hz hcond.1 hcond.2 h1 ha hb).next
        · cases hc


theorem args_two {ρ : Operand → Value} {args : Array Operand} {a b : Operand} (h : args.toList = [a, b]) : args.map ρ = #[ρ a, ρ b] := by
  have : args = #[a, b] := by apply Array.ext'; simpa using h
  subst this
  simp

theorem args_one {ρ : Operand → Value} {args : Array Operand} {a : Operand} (h : args.toList = [a]) : args.map ρ = #[ρ a] := by
  have : args = #[a] := by apply Array.ext'; simpa using h
  subst this
  simp

theorem builtin_run {P : Program} {ρ : Operand → Value} {b : Builtin} {args : Array Operand} {argTypes : Array TypeId} {ty : TypeId} {s : Sem Value} {w : World} {G : Gh} {st st' : St} {v : AV} (h : ∀ consts, builtin b argTypes ty consts (args.map ρ) = (do pure (.value (← s)))) (hs : SOk P G w st s v st') :
    NOk P G w st (do let d ← resolve ρ { callee := .builtin b, args, argTypes } ty; invoke d.target d.args) v st' := by
  obtain ⟨nx, y, w', G', h1, h2⟩ := hs.next
  refine ⟨nx, y, w', G', ?_, h2⟩
  rw [← h1]
  simp only [resolve, invoke, Sem.run_bind, Sem.run_pure, Result.andThen]
  rw [h]
  simp only [Sem.run_bind]
  rfl

theorem argTypes_get {argTypes : Array TypeId} {t : TypeId} {i : Nat} (h : argTypes[i]? = some t) : i < argTypes.size := (Array.getElem?_eq_some_iff.1 h).1

theorem len_any {P : Program} {w : World} {argTypes : Array TypeId} {ty t : TypeId} {y u : Value} (ht : argTypes[0]? = some t) (h : (Builtin.len_ #[t] ty #[y]).run P w = .ok u w) : (Builtin.len_ argTypes ty #[y]).run P w = .ok u w := by
  rw [← h]
  simp only [Builtin.len_, ht]
  rfl

theorem append_any {P : Program} {w : World} {argTypes : Array TypeId} {ty t tx : TypeId} {y z : Value} (ht : argTypes[0]? = some t) (hx : argTypes[1]? = some tx) : (Builtin.append_ argTypes ty #[y, z]).run P w = (Builtin.append_ #[t, tx] ty #[y, z]).run P w := by
  simp only [Builtin.append_, ht, hx]
  rfl

theorem copy_any {P : Program} {w : World} {argTypes : Array TypeId} {ty t : TypeId} {y z : Value} (ht : argTypes[0]? = some t) : (Builtin.copy_ argTypes ty #[y, z]).run P w = (Builtin.copy_ #[t, t] ty #[y, z]).run P w := by
  simp only [Builtin.copy_, ht]
  rfl

theorem snd_call {P : Program} {G : Gh} {w : World} {st st' : St} {ρ : Operand → Value} {op : AOp} {xs : List Operand} {avs : List AV} {v : AV} {c : Call} {ty : TypeId} (hI : Inv G w st) (hc : compP P (.call c) = some (.prim op, xs)) (hr : ListRel G w avs (xs.map ρ)) (he : evA op avs st = some (v, st')) :
    NOk P G w st (do let d ← resolve ρ c ty; invoke d.target d.args) v st' := by
  obtain ⟨callee, args, argTypes⟩ := c
  cases callee with
  | invoke r m => simp [compP] at hc
  | value f => cases f <;> simp [compP] at hc
  | builtin b =>
    cases b <;> simp only [compP] at hc <;> first | (cases hc; done) | skip
    case append =>
      have key : ∀ (s x : Operand) (t : TypeId), args.toList = [s, x] → argTypes[0]? = some t → (∀ tx, argTypes[1]? = some tx → ((∃ e', P.underlying tx = some (.slice e')) ∨ P.underlying tx = some .string)) → (∃ tx, argTypes[1]? = some tx) →
          ((elemOfA P t).bind fun e => (szOf P e).bind fun sz => if (smallBytes P e && (P.info? e).any (fun i => i.zero.any fun z => z.cells.size == sz.getD 1)) = true then some (Kind.prim (.append sz), [s, x]) else none) = some (.prim op, xs) →
          NOk P G w st (do let d ← resolve ρ { callee := .builtin .append, args, argTypes } ty; invoke d.target d.args) v st' := by
        intro s x t h1 h2 h3 ⟨tx, htx⟩ hc
        cases hel : elemOfA P t with
        | none => simp [hel] at hc
        | some e =>
          cases hs : szOf P e with
          | none => simp [hel, hs] at hc
          | some sz =>
            simp only [hel, hs, Option.bind_some] at hc
            split at hc
            · rename_i hcond
              rw [Bool.and_eq_true] at hcond
              simp only [Option.some.injEq, Prod.mk.injEq, Kind.prim.injEq] at hc
              obtain ⟨rfl, rfl⟩ := hc
              obtain ⟨a, b, rfl, ha, hb⟩ := hr.two
              refine builtin_run (s := Builtin.append_ argTypes ty (args.map ρ)) (fun _ => rfl) ?_
              rw [args_two h1]
              obtain ⟨y, w', G', r1, r2⟩ := append_sound (tx := tx) (ty := ty) hI (elemOfA_u hel) hs hcond.1 hcond.2 (h3 tx htx) he ha hb
              exact ⟨y, w', G', by rw [append_any h2 htx]; exact r1, r2⟩
            · cases hc
      split at hc <;> first | (cases hc; done) | skip
      · rename_i s x t e' h1 h2 h3
        refine key s x t h1 h2 (fun tx htx => ?_) ?_ hc
        · simp [htx] at h3; exact .inl ⟨_, h3⟩
        · cases hh : argTypes[1]? with
          | none => simp [hh] at h3
          | some tx => exact ⟨tx, rfl⟩
      · rename_i s x t h1 h2 h3
        refine key s x t h1 h2 (fun tx htx => ?_) ?_ hc
        · simp [htx] at h3; exact .inr h3
        · cases hh : argTypes[1]? with
          | none => simp [hh] at h3
          | some tx => exact ⟨tx, rfl⟩
    case copy =>
      split at hc <;> first | (cases hc; done) | skip
      rename_i d s t h1 h2
      cases hel : elemOfA P t with
      | none => simp [hel] at hc
      | some e =>
        cases hs : szOf P e with
        | none => simp [hel, hs] at hc
        | some sz =>
          simp only [hel, hs, Option.bind_some, Option.some.injEq, Prod.mk.injEq, Kind.prim.injEq] at hc
          obtain ⟨rfl, rfl⟩ := hc
          obtain ⟨a, b, rfl, ha, hb⟩ := hr.two
          refine builtin_run (s := Builtin.copy_ argTypes ty (args.map ρ)) (fun _ => rfl) ?_
          rw [args_two h1]
          obtain ⟨y, w', G', r1, r2⟩ := copy_sound (tx := t) (ty := ty) hI (elemOfA_u hel) hs he ha hb
          exact ⟨y, w', G', by rw [copy_any h2]; exact r1, r2⟩
    case delete =>
      split at hc <;> first | (cases hc; done) | skip
      rename_i m k h1
      simp only [Option.bind_eq_some_iff] at hc
      obtain ⟨⟨kk, e⟩, ⟨t, h2, h3⟩, hc⟩ := hc
      simp only [Option.some.injEq, Prod.mk.injEq, Kind.prim.injEq] at hc
      obtain ⟨rfl, rfl⟩ := hc
      obtain ⟨a, b, rfl, ha, hb⟩ := hr.two
      refine builtin_run (s := Builtin.delete_ argTypes ty (args.map ρ)) (fun _ => rfl) ?_
      rw [args_two h1]
      exact del_sound hI h2 h3 ha hb he
    case clear =>
      split at hc <;> first | (cases hc; done) | skip
      rename_i x k e h1 h2
      simp only [Option.some.injEq, Prod.mk.injEq, Kind.prim.injEq] at hc
      obtain ⟨rfl, rfl⟩ := hc
      obtain ⟨a, rfl, ha⟩ := hr.one
      simp only [Option.bind_eq_some_iff] at h2
      obtain ⟨t, h2, h3⟩ := h2
      refine builtin_run (s := Builtin.clear_ argTypes ty (args.map ρ)) (fun _ => rfl) ?_
      rw [args_one h1]
      exact clr_sound hI h2 h3 ha he
    case len =>
      split at hc <;> first | (cases hc; done) | skip
      · rename_i x k e h1 h2
        simp only [Option.some.injEq, Prod.mk.injEq, Kind.prim.injEq] at hc
        obtain ⟨rfl, rfl⟩ := hc
        obtain ⟨a, rfl, ha⟩ := hr.one
        simp only [Option.bind_eq_some_iff] at h2
        obtain ⟨t, h2, h3⟩ := h2
        refine builtin_run (s := Builtin.len_ argTypes ty (args.map ρ)) (fun _ => rfl) ?_
        rw [args_one h1]
        exact mlen_sound hI h2 h3 ha he
      · rename_i x e h1 h2
        simp only [Option.some.injEq, Prod.mk.injEq, Kind.prim.injEq] at hc
        obtain ⟨rfl, rfl⟩ := hc
        obtain ⟨a, rfl, ha⟩ := hr.one
        obtain ⟨h3, rfl⟩ := evA_pure rfl he
        cases hh : argTypes[0]? with
        | none => simp [hh] at h2
        | some t =>
          simp [hh] at h2
          obtain ⟨u, q1, q2⟩ := len_sound (ty := ty) h2 h3 ha
          refine builtin_run (s := Builtin.len_ argTypes ty (args.map ρ)) (fun _ => rfl) (SOk.same hI ?_ q2)
          rw [args_one h1]
          exact len_any hh q1
      · rename_i x h1 h2
        simp only [Option.some.injEq, Prod.mk.injEq, Kind.prim.injEq] at hc
        obtain ⟨rfl, rfl⟩ := hc
        obtain ⟨a, rfl, ha⟩ := hr.one
        obtain ⟨h3, rfl⟩ := evA_pure rfl he
        cases hh : argTypes[0]? with
        | none => simp [hh] at h2
        | some t =>
          simp [hh] at h2
          obtain ⟨u, q1, q2⟩ := lenStr_sound (ty := ty) h2 h3 ha
          refine builtin_run (s := Builtin.len_ argTypes ty (args.map ρ)) (fun _ => rfl) (SOk.same hI ?_ q2)
          rw [args_one h1]
          exact len_any hh q1
    case max =>
      split at hc <;> first | (cases hc; done) | skip
      rename_i x y h1
      simp only [Option.some.injEq, Prod.mk.injEq, Kind.prim.injEq] at hc
      obtain ⟨rfl, rfl⟩ := hc
      obtain ⟨a, b, rfl, ha, hb⟩ := hr.two
      obtain ⟨h3, rfl⟩ := evA_pure rfl he
      cases a <;> cases b <;> simp [evP] at h3
      obtain ⟨rfl, rfl⟩ := h3
      refine builtin_run (s := Builtin.max_ argTypes ty (args.map ρ)) (fun _ => rfl) ?_
      rw [args_two h1]
      generalize ρ x = yx at ha
      generalize ρ y = yy at hb
      cases ha; cases hb
      exact SOk.same hI (by simp [Builtin.max_, Builtin.max2]) (.int _ _)
    case min =>
      split at hc <;> first | (cases hc; done) | skip
      rename_i x y h1
      simp only [Option.some.injEq, Prod.mk.injEq, Kind.prim.injEq] at hc
      obtain ⟨rfl, rfl⟩ := hc
      obtain ⟨a, b, rfl, ha, hb⟩ := hr.two
      obtain ⟨h3, rfl⟩ := evA_pure rfl he
      cases a <;> cases b <;> simp [evP] at h3
      obtain ⟨rfl, rfl⟩ := h3
      refine builtin_run (s := Builtin.min_ argTypes ty (args.map ρ)) (fun _ => rfl) ?_
      rw [args_two h1]
      generalize ρ x = yx at ha
      generalize ρ y = yy at hb
      cases ha; cases hb
      exact SOk.same hI (by simp [Builtin.min_, Builtin.min2]) (.int _ _)

theorem appendM_sound {P : Program} {G : Gh} {w : World} {st st' : St} {t tx ty e : TypeId} {sz : Option Nat} {x1 x2 v : AV} {y1 y2 : Value} (hI : Inv G w st) (hu : P.underlying t = some (.slice e)) (hs : szOf P e = some sz) (hb : smallBytes P e = true) (hz : (P.info? e).any (fun i => i.zero.any fun z => z.cells.size == sz.getD 1) = true)
    (hk : (∃ e', P.underlying tx = some (.slice e')) ∨ P.underlying tx = some .string) (h : evW (.appendM sz) [x1, x2] st = some (v, st')) (h1 : VRel G w x1 y1) (h2 : VRel G w x2 y2) :
    SOk P G w st (Builtin.append_ #[t, tx] ty #[y1, y2]) v st' := by
  obtain ⟨i, z, hi, hzz, hsz, hzc, hb1, hb2⟩ := elem_facts hs hb hz
  cases x1 with
  | sl tk es =>
    cases tk with
    | clip =>
        simp only [evW] at h
        cases hsrc : srcEs sz st x2 with
        | none => simp [hsrc] at h
        | some new =>
          rw [hsrc] at h
          simp only [] at h
          split at h
          · rename_i hc
            injection h with h
            injection h with e1 e2
            subst e1; subst e2
            obtain ⟨hes, hall, hpos, hlim⟩ := hc
            rw [List.length_append] at hlim ⊢
            obtain ⟨n1, news, hS, n2⟩ := srcOf (P := P) hI h2 hsrc hk
            have hold : srcEs sz st (.sl .clip es) = some es := by simp [srcEs, hes]
            obtain ⟨o1, olds, hO, o2⟩ := srcOf (P := P) (tx := t) hI h1 hold (.inl ⟨e, hu⟩)
            obtain ⟨a, cap0, rfl, hle⟩ := h1.sl_len
            have hcap0 : cap0 = es.length := by
              cases h1 with
              | slnil => rfl
              | slz => rfl
              | sl _ _ _ _ _ _ _ _ _ _ _ ht => exact ht
            subst hcap0
            have hnl : news.length = new.length * sz.getD 1 := hS.newsLen
            have hol0 : olds.length = es.length * sz.getD 1 := hO.newsLen
            rw [← hsz] at hS hO
            have hrun := run_append_grow_src (P := P) w t tx ty e i z hu hi hzz a es.length es.length olds hO.cellsD y2 new.length news hS (by omega) (by have : es.length + new.length ≤ 2147483648 := hlim; omega) (limit_fits (by omega) hlim hb2)
            have hI' := hI.drawn (w.drawn + 1)
            have hE' := Ext.drawn G w (w.drawn + 1) st.heap.length st.toks.length
            obtain ⟨cap, hcap⟩ : ∃ cap, cap = grownCap w (es.length + new.length) es.length e := ⟨_, rfl⟩
            have hgc : es.length + new.length ≤ cap := by rw [hcap]; unfold grownCap; simp [Question.cut]
            rw [← hcap] at hrun
            have hol : olds.length = (flat es).length := by rw [hol0, flat_length o1]
            have hnn : normL (es ++ new) = normL es ++ normL new := by simp [normL_eq]
            have hno1 : ∀ c ∈ normL es, c.cells.length = sz.getD 1 := cells_norm_len o1
            have hfl : (flat (normL (es ++ new))).length = (olds ++ news).length := by
              rw [hnn, flat_append, List.length_append, List.length_append, flat_length hno1, flat_length (cells_norm_len n1), normL_length, normL_length, hol0, hnl]
            have hrel : ∀ (j : Nat) (c : AV) (u : Value), (flat (normL (es ++ new)))[j]? = some c → (olds ++ news)[j]? = some u → VRel G w c u ∧ u.oneCell' = true := fun j c u hc hu => by
              rw [flat_norm, normL_eq, List.getElem?_map, flat_append] at hc
              cases hx : (flat es ++ flat new)[j]? with
              | none => simp [hx] at hc
              | some c' =>
                simp [hx] at hc
                subst hc
                rcases Nat.lt_or_ge j (flat es).length with hlt | hge
                · rw [List.getElem?_append_left hlt] at hx
                  rw [List.getElem?_append_left (by omega)] at hu
                  obtain ⟨q1, q2⟩ := o2 j c' u hx hu
                  exact ⟨q1.norm, q2⟩
                · rw [List.getElem?_append_right hge] at hx
                  rw [List.getElem?_append_right (by omega), hol] at hu
                  obtain ⟨q1, q2⟩ := n2 _ c' u hx hu
                  exact ⟨q1.norm, q2⟩
            have hsize : ((olds ++ news).toArray ++ Builtin.zeroCells z.cells (cap - (es.length + new.length))).size = cap * sz.getD 1 := by
              simp only [Array.size_append, List.size_toArray, List.length_append, size_zeroCells, hzc, hnl, hol0]
              rw [← Nat.add_mul, ← Nat.add_mul, Nat.add_sub_cancel' hgc]
            have hle2 : (olds ++ news).length ≤ cap * sz.getD 1 := by
              rw [List.length_append, hnl, hol0, ← Nat.add_mul]
              exact Nat.mul_le_mul_right _ hgc
            obtain ⟨i1, e1⟩ := hI'.allocMut (.cells ((olds ++ news).toArray ++ Builtin.zeroCells z.cells (cap - (es.length + new.length))) e) (.cells false (flat (normL (es ++ new)))) (fun G' w' h1 h2 h3 =>
              ⟨_, e, (0, 0), h2, by rw [hfl, hsize]; exact hle2, fun j v x hj hx => by
                have hlt : j < (olds ++ news).length := by rw [← hfl]; exact (List.getElem?_eq_some_iff.1 hj).1
                rw [Array.getElem?_append_left (by simpa using hlt)] at hx
                have := hrel j v x hj (by simpa using hx)
                exact ⟨h1 _ _ (this.1.inv hI hE'), this.2⟩, h3, fun o _ => by simp [World.frozen?, h2]⟩)
            refine ⟨_, _, _, hrun, i1, hE'.trans e1 (Nat.le_refl _) (Nat.le_refl _), ?_⟩
            exact .msl _ _ _ _ w.heap.size cap (cap * sz.getD 1) (by simp [Gh.addRho]) hgc (by
              simp only [bsize, World.drew, alloc_new, hsize]) (by omega)
          · cases h
    | _ => simp [evW] at h
  | _ => simp [evW] at h

theorem snd_callM {P : Program} {G : Gh} {w : World} {st st' : St} {ρ : Operand → Value} {sz : Option Nat} {xs : List Operand} {avs : List AV} {v : AV} {c : Call} {ty : TypeId} (hI : Inv G w st) (hc : compP P (.call c) = some (.prim (.append sz), xs)) (hr : ListRel G w avs (xs.map ρ)) (he : evA (.appendM sz) avs st = some (v, st')) :
    NOk P G w st (do let d ← resolve ρ c ty; invoke d.target d.args) v st' := by
  obtain ⟨callee, args, argTypes⟩ := c
  cases callee with
  | invoke r m => simp [compP] at hc
  | value f => cases f <;> simp [compP] at hc
  | builtin b =>
    cases b <;> simp only [compP] at hc <;> first | (cases hc; done) | skip
    case append =>
      have key : ∀ (s x : Operand) (t : TypeId), args.toList = [s, x] → argTypes[0]? = some t → (∀ tx, argTypes[1]? = some tx → ((∃ e', P.underlying tx = some (.slice e')) ∨ P.underlying tx = some .string)) → (∃ tx, argTypes[1]? = some tx) →
          ((elemOfA P t).bind fun e => (szOf P e).bind fun sz => if (smallBytes P e && (P.info? e).any (fun i => i.zero.any fun z => z.cells.size == sz.getD 1)) = true then some (Kind.prim (.append sz), [s, x]) else none) = some (.prim (.append sz), xs) →
          NOk P G w st (do let d ← resolve ρ { callee := .builtin .append, args, argTypes } ty; invoke d.target d.args) v st' := by
        intro s x t h1 h2 h3 ⟨tx, htx⟩ hc
        cases hel : elemOfA P t with
        | none => simp [hel] at hc
        | some e =>
          cases hs : szOf P e with
          | none => simp [hel, hs] at hc
          | some sz0 =>
            simp only [hel, hs, Option.bind_some] at hc
            split at hc
            · rename_i hcond
              rw [Bool.and_eq_true] at hcond
              simp only [Option.some.injEq, Prod.mk.injEq, Kind.prim.injEq, AOp.append.injEq] at hc
              obtain ⟨rfl, rfl⟩ := hc
              obtain ⟨a, b, rfl, ha, hb⟩ := hr.two
              refine builtin_run (s := Builtin.append_ argTypes ty (args.map ρ)) (fun _ => rfl) ?_
              rw [args_two h1]
              obtain ⟨y, w', G', r1, r2⟩ := appendM_sound (tx := tx) (ty := ty) hI (elemOfA_u hel) hs hcond.1 hcond.2 (h3 tx htx) he ha hb
              exact ⟨y, w', G', by rw [append_any h2 htx]; exact r1, r2⟩
            · cases hc
      split at hc <;> first | (cases hc; done) | skip
      · rename_i s x t e' h1 h2 h3
        refine key s x t h1 h2 (fun tx htx => ?_) ?_ hc
        · simp [htx] at h3; exact .inl ⟨_, h3⟩
        · cases hh : argTypes[1]? with
          | none => simp [hh] at h3
          | some tx => exact ⟨tx, rfl⟩
      · rename_i s x t h1 h2 h3
        refine key s x t h1 h2 (fun tx htx => ?_) ?_ hc
        · simp [htx] at h3; exact .inr h3
        · cases hh : argTypes[1]? with
          | none => simp [hh] at h3
          | some tx => exact ⟨tx, rfl⟩
    all_goals
      (repeat' split at hc) <;> first
        | (cases hc; done)
        | (simp [Option.bind_eq_some_iff] at hc; done)
        | skip

theorem op_soundM {P : Program} {G : Gh} {w : World} {st st' : St} {ρ : Operand → Value} {op0 op : AOp} {xs : List Operand} {avs : List AV} {v : AV} {o : Oper} (hI : Inv G w st) (ho : Alt o.op op0 op) (hc : compP P o.op = some (.prim op0, xs)) (hr : ListRel G w avs (xs.map ρ)) (he : evA op avs st = some (v, st')) :
    NOk P G w st (execOp ρ o) v st' := by
  obtain ⟨dst, oper, type, pos, after, guard⟩ := o
  simp only at ho hc
  cases ho with
  | app c sz => exact snd_callM hI hc hr he
  | box t x sz =>
    show NOk P G w st (do pure (.value (← Instr.box t (ρ x)))) v st'
    simp only [compP] at hc
    cases hs : szOf P t with
    | none => simp [hs] at hc
    | some sz0 =>
      simp only [hs, Option.bind_some, Option.some.injEq, Prod.mk.injEq, Kind.prim.injEq, AOp.box.injEq] at hc
      obtain ⟨rfl, rfl⟩ := hc
      obtain ⟨a, rfl, ha⟩ := hr.one
      obtain ⟨he', hst⟩ := evA_pure rfl he
      subst hst
      change (if shaped _ a = true then some (AV.rptr a) else none) = some v at he'
      split at he'
      · rename_i hsh
        simp only [Option.some.injEq] at he'
        subst he'
        exact (boxR_sound hI ha hsh).next
      · cases he'

theorem op_sound {P : Program} {G : Gh} {w : World} {st st' : St} {ρ : Operand → Value} {op : AOp} {xs : List Operand} {avs : List AV} {v : AV} {o : Oper} (hρ : ∀ v, ρ (.const v) = v) (hI : Inv G w st) (hc : compP P o.op = some (.prim op, xs)) (hr : ListRel G w avs (xs.map ρ)) (he : evA op avs st = some (v, st')) :
    NOk P G w st (execOp ρ o) v st' := by
  obtain ⟨dst, oper, type, pos, after, guard⟩ := o
  cases oper
  case move x => exact snd_move hI hc hr he
  case assign x => exact snd_assign hI hc hr he
  case pick c a b => exact snd_pick hI hc hr he
  case alloc t => exact snd_alloc hI hc hr he
  case box t x => exact snd_box hI hc hr he
  case build t ps => exact snd_build hI hc hr he
  case buildSlice t n ps => exact snd_buildSlice hI hc hr he
  case load t a => exact snd_load hI hc hr he
  case store t a x => exact snd_store hI hc hr he
  case nilCheck x => exact snd_nilCheck hI hc hr he
  case binOp b t x y t2 => exact snd_binOp hρ hI hc hr he
  case unOp b t x => exact snd_unOp hI hc hr he
  case convert s d x => exact snd_convert hI hc hr he
  case makeFunc f a c => exact snd_makeFunc hI hc hr he
  case makeSlice t l c => exact snd_makeSlice hI hc hr he
  case slice t x lo hi mx => exact snd_slice hI hc hr he
  case fieldAddr t x i => exact snd_fieldAddr hI hc hr he
  case field t x i => exact snd_field hI hc hr he
  case indexAddr t x i => exact snd_indexAddr hI hc hr he
  case index t x i => exact snd_index hI hc hr he
  case extract x i => exact snd_extract hI hc hr he
  case call c => exact snd_call hI hc hr he
  case makeMap t r => exact snd_makeMap hI hc hr he
  case lookup t x i b => exact snd_lookup hI hc hr he
  case mapUpdate t m k x => exact snd_mapUpdate hI hc hr he
  case insert t m k x => exact snd_insert hI hc hr he
  case mapEntry t m k => exact snd_mapEntry hI hc hr he
  case entryStore t m s x => exact snd_entryStore hI hc hr he
  all_goals simp [compP] at hc


end Go.Am

/- The abstract machine's code: what a run through it leaves; that this is so of the model's code. -/
namespace Go.Am

abbrev Env := Nat → AV

def put (env : Env) (d : Option Nat) (v : AV) : Env :=
  match d with
  | some d => fun t => if t = d then v else env t
  | none => env

def opdV (env : Env) : AOpd → AV
  | .tmp t => env t
  | .const v => v

/-- Is an instruction carried out? -/
def wantedA (g : Option (Nat × Bool)) (env : Env) : Option Bool :=
  match g with
  | none => some true
  | some (t, want) => match env t with
    | .bool b => some (b == want)
    | .tup _ => some false
    | _ => none

/-- An argument that is handed over: a slice that was made is written no more. -/
def frz1 (v : AV) (st : St) : Option (AV × St) :=
  match v with
  | .msl l off len sz => match st.heap[l]? with
    | some (.cells _ vs) => if off + len * sz.getD 1 ≤ vs.length ∧ 0 < sz.getD 1 then some (.sl .any (chunk sz len (vs.drop off)), { st with heap := st.heap.set l (.cells true vs) }) else none
    | _ => none
  | v => some (v.norm, st)

def frzs : List AV → St → Option (List AV × St)
  | [], st => some ([], st)
  | v :: vs, st => (frz1 v st).bind fun (v', st') => (frzs vs st').map fun (vs', st'') => (v' :: vs', st'')

abbrev Calls1 := Nat → List AV → St → (AV → St → Prop) → Prop

def awI (C : Calls1) : List AIns → Env → St → (Env → St → Prop) → Prop
  | [], env, st, K => K env st
  | i :: is, env, st, K =>
    match wantedA i.guard env with
    | some false => awI C is (put env i.dst (.tup [])) st K
    | some true => match i.kind with
      | .prim op => match evA op (i.args.map (opdV env)) st with
        | some (v, st') => awI C is (put env i.dst v) st' K
        | none => False
      | .call f => C f (i.args.map (opdV env)) st fun v st' => awI C is (put env i.dst v) st' K
      | .callV => match i.args.map (opdV env) with
        | .fn (.func f) first caps :: xs => C f (first ++ xs ++ caps) st fun v st' => awI C is (put env i.dst v) st' K
        | _ => False
    | none => False

/-- What a call of a function leaves. -/
def ASpec (P : Program) (f : Nat) (args : List AV) (st : St) (R : AV → St → Prop) : Prop :=
  (∀ (vs : Array Value) (w : World), (callFunc f vs).run P w = .ok (.enter f vs) w) ∧
  ∀ (G : Gh) (w : World) (vs : Array Value), Inv G w st → ListRel G w args vs.toList → Calls P f vs w fun e w' => match e with
    | .outgrown => False
    | .panicked _ => False
    | .returned y => ∃ G' v st', R v st' ∧ Inv G' w' st' ∧ Ext G w G' w' st.heap.length st.toks.length ∧ VRel G' w' v y ∧ st.heap.length ≤ st'.heap.length ∧ st.toks.length ≤ st'.toks.length

theorem ASpec.mono {P : Program} {f : Nat} {args : List AV} {st : St} {R R' : AV → St → Prop} (h : ASpec P f args st R) (hr : ∀ v st', R v st' → R' v st') : ASpec P f args st R' := by
  refine ⟨h.1, fun G w vs hI hv => (h.2 G w vs hI hv).mono fun e w' he => ?_⟩
  cases e with
  | returned y => obtain ⟨G', v, st', q1, q2⟩ := he; exact ⟨G', v, st', hr _ _ q1, q2⟩
  | panicked c => exact he
  | outgrown => exact he

def TRel (G : Gh) (w : World) (env : Env) (tmps : Array Value) : Prop := ∀ t, VRel G w (env t) (tmps.getD t undef)

theorem TRel.put {G G' : Gh} {w w' : World} {env : Env} {tmps : Array Value} (h : TRel G w env tmps) (hv : ∀ v x, VRel G w v x → VRel G' w' v x) {d : Option Nat} {N : Nat} (hd : ∀ t, d = some t → t < N) (hN : N ≤ tmps.size) {v : AV} {y : Value} (hy : VRel G' w' v y) (a : Act) (ha : a.tmps = tmps) :
    TRel G' w' (put env d v) (a.put d y).tmps ∧ (a.put d y).tmps.size = tmps.size ∧ (a.put d y).defers = a.defers := by
  subst ha
  cases d with
  | none => exact ⟨fun t => hv _ _ (h t), rfl, rfl⟩
  | some d =>
    have hlt : d < a.tmps.size := by have := hd d rfl; omega
    refine ⟨fun t => ?_, by simp [Act.put], rfl⟩
    show VRel G' w' (if t = d then v else env t) ((a.tmps.setIfInBounds d y).getD t undef)
    by_cases e : t = d
    · subst e
      rw [if_pos rfl]
      simp [Array.getD, hlt]
      exact hy
    · rw [if_neg e]
      have := hv _ _ (h t)
      have e2 : (a.tmps.setIfInBounds d y).getD t undef = a.tmps.getD t undef := by
        simp only [Array.getD, Array.size_setIfInBounds]
        split
        · rw [Array.getInternal_eq_getElem, Array.getInternal_eq_getElem, Array.getElem_setIfInBounds_ne]; omega
        · rfl
      rw [e2]
      exact this

theorem opds_rel {G : Gh} {w : World} {env : Env} {a : Act} (h : TRel G w env a.tmps) : ∀ {xs : List Operand} {as : List AOpd}, xs.mapM opdA = some as → ListRel G w (as.map (opdV env)) (xs.map a.eval)
  | [], as, hm => by simp at hm; subst hm; exact ⟨rfl, by simp⟩
  | x :: xs, as, hm => by
    simp only [List.mapM_cons, Option.bind_eq_bind] at hm
    cases h1 : opdA x with
    | none => simp [h1] at hm
    | some o =>
      cases h2 : xs.mapM opdA with
      | none => simp [h1, h2] at hm
      | some as' =>
        simp [h1, h2] at hm
        subst hm
        have ih := opds_rel (G := G) (w := w) (env := env) (a := a) h h2
        have hx : VRel G w (opdV env o) (a.eval x) := by
          cases x with
          | tmp t => simp [opdA] at h1; subst h1; exact h t
          | const v =>
            cases hc : constA v with
            | none => simp [opdA, hc] at h1
            | some c => simp [opdA, hc] at h1; subst h1; exact (constA_sound hc).1
          | global g => simp [opdA] at h1
          | func f => simp [opdA] at h1; subst h1; exact .fn _ _ _ _ _ rfl rfl (by simp) (by simp)
        refine ⟨by simp [ih.1], fun i c v hc hv => ?_⟩
        cases i with
        | zero => simp at hc hv; subst hc; subst hv; exact hx
        | succ i => exact ih.2 i c v (by simpa using hc) (by simpa using hv)

theorem wanted_rel {G : Gh} {w : World} {env : Env} {a : Act} (h : TRel G w env a.tmps) {ops : Array Oper} {o : Oper} {g : Option (Nat × Bool)} {b : Bool}
    (hg : match o.guard with | none => g = none | some (j, want) => ∃ t, (ops[j]?).bind (·.dst) = some t ∧ g = some (t, want)) (hw : wantedA g env = some b) : Region.wanted o (yielded ops a.tmps) = b := by
  unfold Region.wanted
  cases ho : o.guard with
  | none =>
    rw [ho] at hg
    simp only [] at hg
    subst hg
    simp [wantedA] at hw
    simpa using hw
  | some p =>
    obtain ⟨j, want⟩ := p
    rw [ho] at hg
    obtain ⟨t, ht, rfl⟩ := hg
    have hv := h t
    simp only [wantedA] at hw
    simp only [yielded, ht, Option.bind_some]
    have hget : ∀ x, a.tmps.getD t undef = x → x ≠ undef → a.tmps[t]? = some x := fun x hx hne => by
      simp only [Array.getD] at hx
      split at hx
      · rename_i hlt; simp [hlt]; simpa using hx
      · exact absurd hx.symm hne
    cases he : env t with
    | bool c =>
      rw [he] at hw hv
      simp at hw
      generalize hx : a.tmps.getD t undef = x at hv
      cases hv
      rw [hget _ hx (by intro e; cases e)]
      rw [← hw]
      cases c <;> cases want <;> rfl
    | tup cs =>
      rw [he] at hw hv
      simp at hw
      generalize hx : a.tmps.getD t undef = x at hv
      cases hv
      have : ∀ b, ¬ a.tmps[t]? = some (.bool b) := fun b e => by
        have : a.tmps.getD t undef = .bool b := by
          have hl := (Array.getElem?_eq_some_iff.1 e).1
          simp only [Array.getD, dif_pos hl]
          exact (Array.getElem?_eq_some_iff.1 e).2
        rw [this] at hx
        cases hx
      subst hw
      split
      · rename_i b hb; exact absurd hb (this b)
      · cases want <;> rfl
    | _ => rw [he] at hw; simp at hw

end Go.Am

/- The abstract machine's code: regions, as the text orders them. -/
namespace Go.Am

theorem frz1_sound {G : Gh} {w : World} {st st' : St} {v v' : AV} {y : Value} (hI : Inv G w st) (hv : VRel G w v y) (h : frz1 v st = some (v', st')) :
    ∃ G', Inv G' w st' ∧ Ext G w G' w st.heap.length st.toks.length ∧ VRel G' w v' y ∧ st'.heap.length = st.heap.length ∧ st'.toks = st.toks := by
  unfold frz1 at h
  split at h
  · rename_i l off len sz
    split at h
    · rename_i fz vs hl
      split at h
      · rename_i hc
        injection h with h
        injection h with e1 e2
        subst e1; subst e2
        cases hv with
        | msl _ _ _ _ B cap z m1 m2 m3 m4 =>
          obtain ⟨B', p1, p2⟩ := hI.blk l _ hl
          rw [m1] at p1
          injection p1 with p1
          subst p1
          have hca := p2.cellsAt
          obtain ⟨i1, e1⟩ := hI.freezeBlk hl m1
          refine ⟨_, i1, e1, ?_, by simp, rfl⟩
          obtain ⟨k1, k2⟩ := chunk_flat (sz := sz) len (vs.drop off) (by simp; omega) (fun _ x hx => by
            obtain ⟨i, hi, rfl⟩ := List.mem_iff_getElem.1 (List.mem_of_mem_drop hx)
            obtain ⟨u, _, v1, v2⟩ := hca i _ (List.getElem?_eq_getElem hi)
            exact scalar_cells v1 v2)
          have hcl : (chunk sz len (vs.drop off)).length = len := chunk_length _ _ _
          have key : ∀ (j : Nat) (c : AV), (flat (chunk sz len (vs.drop off)))[j]? = some c → vs[off + j]? = some c := fun j c hj => by
            rw [k2, List.getElem?_take, List.getElem?_drop] at hj
            split at hj
            · exact hj
            · cases hj
          have := VRel.sl (G := G.addImm fun b o => b = B ∧ o < vs.length) (w := w) .any (chunk sz len (vs.drop off)) B off cap (sz.getD 1) (fun j => (w.cell? ⟨B, off + j, none⟩).getD undef) k1 (by rw [hcl]; exact m2)
            (fun j c hj => by
              have hj' := key j c hj
              obtain ⟨u, u1, u2, u3⟩ := hca _ c hj'
              rw [Nat.zero_add] at u1
              exact ⟨.inr ⟨rfl, (List.getElem?_eq_some_iff.1 hj').1⟩, by simp [u1], by simpa [u1] using u3⟩)
            (fun j c hj => by
              have hj' := key j c hj
              obtain ⟨u, u1, u2, u3⟩ := hca _ c hj'
              rw [Nat.zero_add] at u1
              simpa [u1] using u2.inv hI e1) trivial
          rw [hcl] at this
          exact this
      · cases h
    · cases h
  · injection h with h
    injection h with e1 e2
    subst e1; subst e2
    exact ⟨G, hI, Ext.refl _ _ _ _, hv.norm, rfl, rfl⟩

theorem frzs_sound {w : World} : ∀ {vs : List AV} {ys : List Value} {G : Gh} {st st' : St} {vs' : List AV}, Inv G w st → ListRel G w vs ys → frzs vs st = some (vs', st') →
    ∃ G', Inv G' w st' ∧ Ext G w G' w st.heap.length st.toks.length ∧ ListRel G' w vs' ys ∧ st'.heap.length = st.heap.length ∧ st'.toks = st.toks
  | [], ys, G, st, st', vs', hI, hr, h => by
    simp [frzs] at h
    obtain ⟨rfl, rfl⟩ := h
    exact ⟨G, hI, Ext.refl _ _ _ _, hr, rfl, rfl⟩
  | v :: vs, ys, G, st, st', vs', hI, hr, h => by
    cases ys with
    | nil => have := hr.1; simp at this
    | cons y ys =>
      obtain ⟨x, xs, e, hx, hr'⟩ := hr.cons_inv
      injection e with e1 e2
      subst e1; subst e2
      simp only [frzs] at h
      cases h1 : frz1 v st with
      | none => simp [h1] at h
      | some p =>
        obtain ⟨v1, st1⟩ := p
        cases h2 : frzs vs st1 with
        | none => simp [h1, h2] at h
        | some q =>
          obtain ⟨vs2, st2⟩ := q
          simp [h1, h2] at h
          obtain ⟨rfl, rfl⟩ := h
          obtain ⟨G1, i1, e1, v1', l1, t1⟩ := frz1_sound hI hx h1
          have hr1 : ListRel G1 w vs ys := ⟨hr'.1, fun i c u hc hu => (hr'.2 i c u hc hu).inv hI e1⟩
          obtain ⟨G2, i2, e2, r2, l2, t2⟩ := frzs_sound i1 hr1 h2
          refine ⟨G2, i2, e1.trans e2 (by omega) (by rw [t1]; exact Nat.le_refl _), ?_, by omega, by rw [t2, t1]⟩
          refine ⟨by simp [r2.1], fun i c u hc hu => ?_⟩
          cases i with
          | zero => simp at hc hu; subst hc; subst hu; exact v1'.inv i1 e2
          | succ i => exact r2.2 i c u (by simpa using hc) (by simpa using hu)

/-- What holds behind a piece of code. -/
def Post (G : Gh) (w : World) (n m N : Nat) (K : Exit → Env → St → Prop) : Exit → Act → World → Prop := fun e a' w' =>
  False ∨ (a'.defers = [] ∧ N ≤ a'.tmps.size ∧ (∀ c, e ≠ .panic c) ∧ ∃ G' env' st', K e env' st' ∧ Inv G' w' st' ∧ Ext G w G' w' n m ∧ n ≤ st'.heap.length ∧ m ≤ st'.toks.length ∧ TRel G' w' env' a'.tmps)

theorem Post.ext {G G1 : Gh} {w w1 : World} {n m N : Nat} {K : Exit → Env → St → Prop} (h : Ext G w G1 w1 n m) {e : Exit} {a : Act} {w' : World} (hp : Post G1 w1 n m N K e a w') : Post G w n m N K e a w' := by
  rcases hp with hp | ⟨h1, h2, h3, G', env', st', k1, k2, k3, k4⟩
  · exact .inl hp
  · exact .inr ⟨h1, h2, h3, G', env', st', k1, k2, h.trans k3 (Nat.le_refl _) (Nat.le_refl _), k4⟩

theorem NOk.lens {P : Program} {G : Gh} {w : World} {st : St} {op : AOp} {args : List AV} {v : AV} {st' : St} (h : evA op args st = some (v, st')) : st.heap.length ≤ st'.heap.length ∧ st.toks.length ≤ st'.toks.length := by
  unfold evA at h
  split at h
  · cases hp : evP op args with
    | none => simp [hp] at h
    | some u => simp [hp] at h; rw [← h.2]; exact ⟨Nat.le_refl _, Nat.le_refl _⟩
  · cases hp : evR op args st with
    | none => simp [hp] at h
    | some u => simp [hp] at h; rw [← h.2]; exact ⟨Nat.le_refl _, Nat.le_refl _⟩
  · unfold evW at h
    split at h
    all_goals first
      | (simp only [Option.bind_eq_some_iff, Option.map_eq_some_iff, Prod.mk.injEq] at h
         obtain ⟨_, _, _, _, _, rfl⟩ := h
         simp [St.setBlk]; done)
      | (simp only [Option.bind_eq_some_iff, Option.map_eq_some_iff, Prod.mk.injEq] at h
         obtain ⟨_, _, _, _, _, _, _, rfl⟩ := h
         simp [St.setBlk]; done)
      | (simp only [Option.bind_eq_some_iff, Option.map_eq_some_iff, Prod.mk.injEq] at h
         obtain ⟨_, _, _, rfl⟩ := h
         simp [St.setBlk]; done)
      | ((repeat' split at h) <;> first
        | (cases h; done)
        | (simp at h; rw [← h.2]; simp; done))
  · unfold evT at h
    split at h
    · split at h <;> first | (cases h; done) | skip
      split at h <;> first | (cases h; done) | skip
      split at h <;> first | (cases h; done) | skip
      · simp at h; rw [← h.2]; simp
      · split at h <;> first | (cases h; done) | skip
        split at h <;> first | (cases h; done) | skip
        simp at h; rw [← h.2]; simp
    · cases h

/-- An instruction and the operation that it is compiled from. -/
structure InsOf (P : Program) (N : Nat) (ops : Array Oper) (o : Oper) (i : AIns) : Prop where
  comp : ∃ k xs, compOp P o.op = some (k, xs) ∧ xs.mapM opdA = some i.args ∧ (i.kind = k ∨ ∃ op0 op, Alt o.op op0 op ∧ k = .prim op0 ∧ i.kind = .prim op)
  dst : o.dst = i.dst ∧ ∀ t, i.dst = some t → t < N
  guard : match o.guard with | none => i.guard = none | some (j, want) => ∃ t, (ops[j]?).bind (·.dst) = some t ∧ i.guard = some (t, want)

theorem markK_cases (M : List Nat) (o : Op) (dst : Option Nat) (k : Kind) : markK M o dst k = k ∨ ∃ op0 op, Alt o op0 op ∧ k = .prim op0 ∧ markK M o dst k = .prim op := by
  unfold markK
  split
  · split
    · exact .inr ⟨_, _, .app _ _, rfl, rfl⟩
    · exact .inl rfl
  · split
    · exact .inr ⟨_, _, .box _ _ _, rfl, rfl⟩
    · exact .inl rfl
  · exact .inl rfl

theorem insOf {P : Program} {N : Nat} {M : List Nat} {ops : Array Oper} {o : Oper} {i : AIns} (h : compOper P N M ops o = some i) : InsOf P N ops o i := by
  unfold compOper at h
  cases hc : compOp P o.op with
  | none => simp [hc] at h
  | some kx =>
    obtain ⟨k, xs⟩ := kx
    cases hm : xs.mapM opdA with
    | none => simp [hc, hm] at h
    | some as =>
      simp only [hc, hm, Option.bind_some] at h
      split at h
      · rename_i hd
        have hdst : ∀ t, o.dst = some t → t < N := fun t ht => by rw [ht] at hd; simpa [dstOk] using hd
        split at h
        · rename_i hg
          injection h with h
          subst h
          exact ⟨⟨k, xs, hc, hm, markK_cases M o.op o.dst k⟩, ⟨rfl, hdst⟩, by rw [hg]⟩
        · rename_i j want hg
          cases ht : (ops[j]?).bind (·.dst) with
          | none => simp [ht] at h
          | some t =>
            simp [ht] at h
            subst h
            exact ⟨⟨k, xs, hc, hm, markK_cases M o.op o.dst k⟩, ⟨rfl, hdst⟩, by rw [hg]; exact ⟨t, ht, rfl⟩⟩
      · cases h

theorem comp_call {P : Program} {o : Op} {f : Nat} {xs : List Operand} (h : compOp P o = some (.call f, xs)) : ∃ args argTypes, o = .call { callee := .value (.func f), args, argTypes } ∧ xs = args.toList := by
  unfold compOp at h
  split at h
  · injection h with h
    injection h with h1 h2
    injection h1 with h1
    subst h1
    exact ⟨_, _, rfl, h2.symm⟩
  · injection h with h
    injection h with h1 h2
    cases h1
  · split at h
    · injection h with h
      injection h with h1 h2
      cases h1
    · cases h

theorem comp_callV {P : Program} {o : Op} {xs : List Operand} (h : compOp P o = some (.callV, xs)) : ∃ g args argTypes, o = .call { callee := .value g, args, argTypes } ∧ xs = g :: args.toList := by
  unfold compOp at h
  split at h
  · injection h with h
    injection h with h1 h2
    cases h1
  · injection h with h
    injection h with h1 h2
    exact ⟨_, _, _, rfl, h2.symm⟩
  · split at h
    · injection h with h
      injection h with h1 h2
      cases h1
    · cases h

theorem comp_prim {P : Program} {o : Op} {op : AOp} {xs : List Operand} (h : compOp P o = some (.prim op, xs)) : compP P o = some (.prim op, xs) := by
  unfold compOp at h
  split at h
  · injection h with h
    injection h with h1 h2
    cases h1
  · injection h with h
    injection h with h1 h2
    cases h1
  · split at h
    · rename_i hh
      rw [hh]; exact h
    · cases h

end Go.Am

/- The abstract machine: what nobody names any more is forgotten. -/
namespace Go.Am

/-! Values that name no block and no token from a number on. -/

def tokOk (m : Nat) : Tok → Bool
  | .own k => decide (k < m)
  | _ => true

mutual
def AV.ok (n m : Nat) : AV → Bool
  | .ptr l _ => decide (l < n)
  | .msl l _ _ _ => decide (l < n)
  | .map (some l) => decide (l < n)
  | .map none => true
  | .rptr v => v.ok n m
  | .sl t es => tokOk m t && okL n m es
  | .fn _ xs ys => okL n m xs && okL n m ys
  | .agg cs => okL n m cs
  | .tup cs => okL n m cs
  | .any => true
  | .bool _ => true
  | .int _ _ => true
  | .str _ => true
  | .nilp => true
  | .nilfn => true
  | .ub => true
def okL (n m : Nat) : List AV → Bool
  | [] => true
  | v :: vs => v.ok n m && okL n m vs
end

theorem okL_iff {n m : Nat} : ∀ {l : List AV}, okL n m l = true ↔ ∀ v ∈ l, v.ok n m = true
  | [] => by simp [okL]
  | v :: l => by simp [okL, okL_iff (l := l)]

theorem okL_get {n m : Nat} {l : List AV} (h : okL n m l = true) {i : Nat} {c : AV} (hc : l[i]? = some c) : c.ok n m = true := okL_iff.1 h c (List.mem_of_getElem? hc)

theorem okL_flat {n m : Nat} {es : List AV} (h : okL n m es = true) {j : Nat} {c : AV} (hc : (flat es)[j]? = some c) : c.ok n m = true := by
  have := List.mem_of_getElem? hc
  simp only [flat, List.mem_flatMap] at this
  obtain ⟨e, he, hce⟩ := this
  have := okL_iff.1 h e he
  cases e with
  | agg cs => simp only [AV.ok] at this; exact okL_iff.1 this c hce
  | _ => simp [AV.cells] at hce; subst hce; exact this

theorem ok_cells {n m : Nat} {v : AV} (h : v.ok n m = true) {j : Nat} {c : AV} (hc : v.cells[j]? = some c) : c.ok n m = true := by
  cases v with
  | agg cs => simp only [AV.ok] at h; exact okL_get h hc
  | _ =>
    have := List.mem_of_getElem? hc
    simp [AV.cells] at this
    subst this
    exact h

def Gh.restrict (G : Gh) (n m : Nat) : Gh := { G with
  rho := fun l => if l < n then G.rho l else none
  tl := fun k => if k < m then G.tl k else none
  tau := fun k => if k < m then G.tau k else none }

theorem VRel.restrict {G : Gh} {w : World} {n m : Nat} {v : AV} {x : Value} (h : VRel G w v x) (ho : v.ok n m = true) : VRel (G.restrict n m) w v x := by
  induction h with
  | any v => exact .any v
  | bool b => exact .bool b
  | int k n => exact .int k n
  | str s => exact .str s
  | nilp => exact .nilp
  | ptr l off B hl => exact .ptr l off B (by simp [AV.ok] at ho; simp [Gh.restrict, ho, hl])
  | rptr v b o cv h1 h2 ih => exact .rptr v b o cv h1 (fun j c hj => ih j c hj (ok_cells (by simpa [AV.ok] using ho) hj))
  | slnil t ht =>
    refine .slnil t ?_
    cases t with
    | own k => obtain ⟨p, hp⟩ := ht; simp [AV.ok, tokOk] at ho; exact ⟨p, by simp [Gh.restrict, ho.1, hp]⟩
    | _ => trivial
  | slz t ad ht =>
    refine .slz t ad ?_
    cases t with
    | own k => obtain ⟨p, hp⟩ := ht; simp [AV.ok, tokOk] at ho; exact ⟨p, by simp [Gh.restrict, ho.1, hp]⟩
    | _ => trivial
  | sl t es b o cap sz cv h1 h2 h3 h4 h5 ih =>
    simp only [AV.ok, Bool.and_eq_true] at ho
    refine .sl t es b o cap sz cv h1 h2 h3 (fun j c hj => ih j c hj (okL_flat ho.2 hj)) ?_
    cases t with
    | any => trivial
    | clip => exact h5
    | own k =>
      have hk : k < m := by simpa [tokOk] using ho.1
      obtain ⟨nn, s, q1, q2, q3⟩ := h5
      refine ⟨nn, s, by simp [Gh.restrict, hk, q1], q2, fun e => ?_⟩
      rcases q3 e with q3 | ⟨q3, q4, q5, q6⟩
      · exact .inl q3
      · exact .inr ⟨q3, q4, by simp [Gh.restrict, hk, q5], q6⟩
  | msl l off len sz B cap z h1 h2 h3 h4 => exact .msl l off len sz B cap z (by simp [AV.ok] at ho; simp [Gh.restrict, ho, h1]) h2 h3 h4
  | mapnil => exact .mapnil
  | map l B hl => exact .map l B (by simp [AV.ok] at ho; simp [Gh.restrict, ho, hl])
  | fn f xs ys vs us h1 h2 _ _ ih1 ih2 =>
    simp only [AV.ok, Bool.and_eq_true] at ho
    exact .fn f xs ys vs us h1 h2 (fun i c v hc hv => ih1 i c v hc hv (okL_get ho.1 hc)) (fun i c v hc hv => ih2 i c v hc hv (okL_get ho.2 hc))
  | nilfn => exact .nilfn
  | ub b => exact .ub b
  | agg cs vs h1 h2 _ ih => exact .agg cs vs h1 h2 (fun i c v hc hv => ih i c v hc hv (okL_get (by simpa [AV.ok] using ho) hc))
  | tup cs vs h1 _ ih => exact .tup cs vs h1 (fun i c v hc hv => ih i c v hc hv (okL_get (by simpa [AV.ok] using ho) hc))

theorem VRel.isOk {G : Gh} {w : World} {n m : Nat} (hr : ∀ l B, G.rho l = some B → l < n) (hd : ∀ k p, G.tl k = some p → k < m) {v : AV} {x : Value} (h : VRel G w v x) : v.ok n m = true := by
  have flatOk : ∀ (es : List AV), (∀ (j : Nat) (c : AV), (flat es)[j]? = some c → c.ok n m = true) → okL n m es = true := by
    intro es h
    rw [okL_iff]
    intro e he
    have hmem : ∀ c ∈ e.cells, c.ok n m = true := fun c hc => by
      have : c ∈ flat es := List.mem_flatMap.2 ⟨e, he, hc⟩
      obtain ⟨i, hi, rfl⟩ := List.mem_iff_getElem.1 this
      exact h i _ (List.getElem?_eq_getElem hi)
    cases e with
    | agg cs => simp only [AV.ok]; exact okL_iff.2 hmem
    | _ => exact hmem _ (by simp [AV.cells])
  have listOk : ∀ (cs : List AV) (vs : Array Value), cs.length = vs.size → (∀ (i : Nat) (c : AV) (v : Value), cs[i]? = some c → vs[i]? = some v → c.ok n m = true) → okL n m cs = true := by
    intro cs vs hl h
    rw [okL_iff]
    intro c hc
    obtain ⟨i, hi, rfl⟩ := List.mem_iff_getElem.1 hc
    exact h i _ vs[i] (List.getElem?_eq_getElem hi) (by simp [(by omega : i < vs.size)])
  induction h with
  | ptr l off B hl => simpa [AV.ok] using hr l B hl
  | msl l off len sz B cap z h1 h2 h3 h4 => simpa [AV.ok] using hr l B h1
  | map l B hl => simpa [AV.ok] using hr l B hl
  | rptr v b o cv h1 h2 ih =>
    simp only [AV.ok]
    cases v with
    | agg cs =>
      simp only [AV.ok]
      rw [okL_iff]
      intro c hc
      obtain ⟨i, hi, rfl⟩ := List.mem_iff_getElem.1 hc
      exact ih i _ (by simp [AV.cells, hi])
    | _ => exact ih 0 _ (by simp [AV.cells])
  | slnil t ht =>
    cases t with
    | own k => obtain ⟨p, hp⟩ := ht; simp [AV.ok, tokOk, okL, hd k p hp]
    | _ => simp [AV.ok, tokOk, okL]
  | slz t ad ht =>
    cases t with
    | own k => obtain ⟨p, hp⟩ := ht; simp [AV.ok, tokOk, okL, hd k p hp]
    | _ => simp [AV.ok, tokOk, okL]
  | sl t es b o cap sz cv h1 h2 h3 h4 h5 ih =>
    simp only [AV.ok, Bool.and_eq_true]
    refine ⟨?_, flatOk es ih⟩
    cases t with
    | own k => obtain ⟨nn, s, q1, _⟩ := h5; simpa [tokOk] using hd k _ q1
    | _ => rfl
  | fn f xs ys vs us h1 h2 _ _ ih1 ih2 => simp only [AV.ok, Bool.and_eq_true]; exact ⟨listOk xs vs h1 ih1, listOk ys us h2 ih2⟩
  | agg cs vs h1 h2 _ ih => simp only [AV.ok]; exact listOk cs vs h1 ih
  | tup cs vs h1 _ ih => simp only [AV.ok]; exact listOk cs vs h1 ih
  | _ => rfl

def okBlk (n m : Nat) : Blk → Bool
  | .cells _ vs => okL n m vs
  | .map es _ => es.all fun e => e.1.ok n m && e.2.1.ok n m
  | .gone => true

/-- What a call made and nobody names any more is forgotten. -/
theorem Inv.truncate {G0 G1 : Gh} {w0 w1 : World} {st0 st1 st : St} (h0 : Inv G0 w0 st0) (h1 : Inv G1 w1 st1) {Ga : Gh} {wa : World} {n m : Nat} (hE : Ext Ga wa G1 w1 n m) (hn : n ≤ st.heap.length) (hm : m ≤ st.toks.length) (hl0 : st0.heap.length = st.heap.length) (hl1 : st0.toks.length = st.toks.length) {g : List Blk} {gt : List (Nat × Nat)} (hh : st1.heap = st.heap ++ g) (ht : st1.toks = st.toks ++ gt)
    (hok : ∀ (l : Nat) (b : Blk), st.heap[l]? = some b → st0.heap[l]? = some b ∨ okBlk st.heap.length st.toks.length b = true) :
    Inv (G1.restrict st.heap.length st.toks.length) w1 st ∧ Ext Ga wa (G1.restrict st.heap.length st.toks.length) w1 n m := by
  have hrho : ∀ l B, (G1.restrict st.heap.length st.toks.length).rho l = some B → l < st.heap.length ∧ G1.rho l = some B := fun l B hl => by
    simp only [Gh.restrict] at hl
    split at hl
    · exact ⟨by assumption, hl⟩
    · cases hl
  have htau : ∀ k i, (G1.restrict st.heap.length st.toks.length).tau k = some i → k < st.toks.length ∧ G1.tau k = some i := fun k i hk => by
    simp only [Gh.restrict] at hk
    split at hk
    · exact ⟨by assumption, hk⟩
    · cases hk
  constructor
  · exact {
      dom := fun l B hl => (hrho l B hl).1
      img := fun l B hl => h1.img l B (hrho l B hl).2
      inj := fun l l' B hl hl' => h1.inj l l' B (hrho l B hl).2 (hrho l' B hl').2
      blk := fun l b hl => by
        have hlt := (List.getElem?_eq_some_iff.1 hl).1
        obtain ⟨B, q1, q2⟩ := h1.blk l b (by rw [hh, List.getElem?_append_left hlt]; exact hl)
        refine ⟨B, by simp [Gh.restrict, hlt, q1], ?_⟩
        rcases hok l b hl with hold | hb
        · obtain ⟨B0, p1, p2⟩ := h0.blk l b hold
          cases b with
          | cells fz vs =>
            obtain ⟨c0, e0, f0, r1, r2, r3, r4⟩ := p2
            obtain ⟨c, e, f, s1, s2, s3, s4⟩ := q2
            refine ⟨c, e, f, s1, s2, fun i v x hi hx => ⟨(s3 i v x hi hx).1.restrict ?_, (s3 i v x hi hx).2⟩, s4⟩
            have hil := (List.getElem?_eq_some_iff.1 hi).1
            have : i < c0.size := by omega
            have := (r3 i v c0[i] hi (by simp [this])).1.isOk h0.dom h0.tdom'
            rwa [hl0, hl1] at this
          | map es ck =>
            obtain ⟨cs0, r1, t1, t2⟩ := p2
            obtain ⟨cs, s1, u1, u2⟩ := q2
            refine ⟨cs, s1, u1, fun i e c hi hc => ?_⟩
            have hil := (List.getElem?_eq_some_iff.1 hi).1
            have hjc : i < cs0.size := by omega
            have hv := t2 i e cs0[i] hi (by simp [hjc])
            have o1 := hv.1.isOk h0.dom h0.tdom'
            have o2 := hv.2.1.isOk h0.dom h0.tdom'
            rw [hl0, hl1] at o1 o2
            exact ⟨(u2 i e c hi hc).1.restrict o1, (u2 i e c hi hc).2.1.restrict o2, (u2 i e c hi hc).2.2⟩
          | gone => trivial
        · cases b with
          | cells fz vs =>
            obtain ⟨c, e, f, s1, s2, s3, s4⟩ := q2
            exact ⟨c, e, f, s1, s2, fun i v x hi hx => ⟨(s3 i v x hi hx).1.restrict (okL_get (by simpa [okBlk] using hb) hi), (s3 i v x hi hx).2⟩, s4⟩
          | map es ck =>
            obtain ⟨cs, s1, u1, u2⟩ := q2
            refine ⟨cs, s1, u1, fun i e c hi hc => ?_⟩
            have hmem : e ∈ es := List.mem_of_getElem? hi
            simp only [okBlk, List.all_eq_true, Bool.and_eq_true] at hb
            exact ⟨(u2 i e c hi hc).1.restrict (hb e hmem).1, (u2 i e c hi hc).2.1.restrict (hb e hmem).2, (u2 i e c hi hc).2.2⟩
          | gone => trivial
      tl := fun k => by
        simp only [Gh.restrict]
        split
        · rename_i hk
          rw [h1.tl, ht, List.getElem?_append_left hk]
        · rename_i hk
          rw [List.getElem?_eq_none (Nat.le_of_not_lt hk)]
      tdom := fun k i hk => by
        obtain ⟨q1, q2⟩ := htau k i hk
        obtain ⟨a1, a2, a3, a4, a5⟩ := h1.tdom k i q2
        refine ⟨q1, a2, a3, a4, fun l hl => ?_⟩
        obtain ⟨r1, r2⟩ := hrho l _ hl
        obtain ⟨vs, hvs⟩ := a5 l r2
        rw [hh, List.getElem?_append_left r1] at hvs
        exact ⟨vs, hvs⟩
      tinj := fun k k' i i' hk hk' => h1.tinj k k' i i' (htau k i hk).2 (htau k' i' hk').2
      cells := h1.cells
      below := h1.below
      bsz := h1.bsz }
  · exact {
      rho := fun l hl => by simp only [Gh.restrict, if_pos (Nat.lt_of_lt_of_le hl hn)]; exact hE.rho l hl
      imm := hE.imm
      cell := hE.cell
      size := hE.size
      tok := fun k p hk hp => by
        obtain ⟨p', q1, q2, q3, q4⟩ := hE.tok k p hk hp
        have hk' := Nat.lt_of_lt_of_le hk hm
        exact ⟨p', by simp only [Gh.restrict, if_pos hk']; exact q1, q2, q3, fun e => by simp only [Gh.restrict, if_pos hk']; exact q4 e⟩
      heap := hE.heap
      base := hE.base
      w0 := hE.w0
      immB := hE.immB }


end Go.Am

/- Regions whose order is open: the orders that the model may draw. -/
namespace Go.Am

theorem nodup_sub_erase {a : Nat} {l1 l2 : List Nat} (hn : (a :: l1).Nodup) (hs : ∀ x ∈ a :: l1, x ∈ l2) : ∀ x ∈ l1, x ∈ l2.erase a := by
  intro x hx
  have hne : x ≠ a := fun e => by subst e; exact (List.nodup_cons.1 hn).1 hx
  exact (List.mem_erase_of_ne hne).2 (hs x (by simp [hx]))

theorem nodup_sub_len : ∀ {l1 l2 : List Nat}, l1.Nodup → (∀ x ∈ l1, x ∈ l2) → l1.length ≤ l2.length
  | [], _, _, _ => Nat.zero_le _
  | a :: l1, l2, hn, hs => by
    have ih := nodup_sub_len (List.nodup_cons.1 hn).2 (nodup_sub_erase hn hs)
    have ha : a ∈ l2 := hs a (by simp)
    rw [List.length_erase_of_mem ha] at ih
    have := List.length_pos_of_mem ha
    simp only [List.length_cons]
    omega

theorem nodup_sub_perm : ∀ {l1 l2 : List Nat}, l1.Nodup → (∀ x ∈ l1, x ∈ l2) → l2.length ≤ l1.length → l1.Perm l2
  | [], l2, _, _, hl => by
    have : l2 = [] := by simpa using hl
    subst this
    exact .refl _
  | a :: l1, l2, hn, hs, hl => by
    have ha : a ∈ l2 := hs a (by simp)
    have ih := nodup_sub_perm (List.nodup_cons.1 hn).2 (nodup_sub_erase hn hs) (by rw [List.length_erase_of_mem ha]; simp at hl; omega)
    exact (ih.cons a).trans (List.perm_cons_erase ha).symm

/-- An order of the places 0 .. in which each stands behind all that it waits for. -/
structure Valid (deps : List (List Nat)) (l : List Nat) : Prop where
  perm : l.Perm (List.range deps.length)
  before : ∀ (p i j : Nat) (ds : List Nat), l[p]? = some i → deps[i]? = some ds → j ∈ ds → ∃ q, q < p ∧ l[q]? = some j

def depsOf (ops : Array Oper) : List (List Nat) := ops.toList.map fun o => (o.after.toList.filter fun e => Region.binds .any e).map (·.on)

def depsBack (ops : Array Oper) : Bool := ops.toList.zipIdx.all fun (o, i) => o.after.toList.all fun e => !Region.binds .any e || decide (e.on < i)

/-- What 'linearise' keeps while it lists. -/
structure Lin (ops : Array Oper) (listed : Array Bool) (acc : List Nat) : Prop where
  size : listed.size = ops.size
  nodup : acc.Nodup
  mem : ∀ i, i ∈ acc ↔ listed[i]? = some true
  before : ∀ (p i j : Nat) (ds : List Nat), acc.reverse[p]? = some i → (depsOf ops)[i]? = some ds → j ∈ ds → ∃ q, q < p ∧ acc.reverse[q]? = some j

def ready (ops : Array Oper) (listed : Array Bool) : List Nat :=
  (List.range ops.size).filter fun i => !listed.getD i true && ((ops[i]?).map (·.after.all fun e => !Region.binds .any e || listed.getD e.on false)).getD false

theorem ready_mem {ops : Array Oper} {listed : Array Bool} {i : Nat} (h : i ∈ ready ops listed) : listed[i]? = some false ∧ ∃ ds, (depsOf ops)[i]? = some ds ∧ ∀ j ∈ ds, listed[j]? = some true := by
  simp only [ready, List.mem_filter, List.mem_range, Bool.and_eq_true, Bool.not_eq_true'] at h
  obtain ⟨h1, h2, h3⟩ := h
  have hl : listed[i]? = some false := by
    simp only [Array.getD] at h2
    split at h2
    · rename_i hlt; simp [hlt]; simpa using h2
    · cases h2
  refine ⟨hl, _, by simp only [depsOf, List.getElem?_map]; rw [Array.getElem?_toList, Array.getElem?_eq_getElem h1]; rfl, fun j hj => ?_⟩
  simp only [List.mem_map, List.mem_filter] at hj
  obtain ⟨e, ⟨he, hb⟩, rfl⟩ := hj
  rw [Array.getElem?_eq_getElem h1] at h3
  simp only [Option.map_some, Option.getD_some, Array.all_eq_true] at h3
  obtain ⟨k, hk, rfl⟩ := List.mem_iff_getElem.1 he
  have := h3 k (by simpa using hk)
  simp only [Array.getElem_toList] at hb ⊢
  simp only [hb, Bool.not_true, Bool.false_or, Array.getD] at this
  split at this
  · rename_i hlt; simp [hlt]; simpa using this
  · cases this

theorem ready_some {ops : Array Oper} {listed : Array Bool} (hsize : listed.size = ops.size) (hb : depsBack ops = true) {i : Nat} (hi : listed[i]? = some false) (hmin : ∀ j, j < i → listed[j]? = some true) : i ∈ ready ops listed := by
  have hlt : i < ops.size := by rw [← hsize]; exact (Array.getElem?_eq_some_iff.1 hi).1
  simp only [ready, List.mem_filter, List.mem_range, Bool.and_eq_true, Bool.not_eq_true']
  refine ⟨hlt, ?_, ?_⟩
  · simp only [Array.getD]
    have := (Array.getElem?_eq_some_iff.1 hi)
    rw [dif_pos this.1]
    simpa using this.2
  · rw [Array.getElem?_eq_getElem hlt]
    simp only [Option.map_some, Option.getD_some, Array.all_eq_true]
    intro k hk
    simp only [depsBack, List.all_eq_true] at hb
    have := hb (ops[i], i) (by
      rw [List.mem_zipIdx_iff_getElem?]
      simp [hlt])
    simp only [List.all_eq_true] at this
    have := this ops[i].after[k] (by simp)
    simp only [Bool.or_eq_true, Bool.not_eq_true', decide_eq_true_eq] at this
    simp only [Bool.or_eq_true, Bool.not_eq_true']
    rcases this with h | h
    · exact .inl h
    · right
      have := hmin _ h
      simp only [Array.getD]
      have hh := (Array.getElem?_eq_some_iff.1 this)
      rw [dif_pos hh.1]
      simpa using hh.2

theorem lin_step {ops : Array Oper} {listed : Array Bool} {acc : List Nat} (h : Lin ops listed acc) {i : Nat} (hi : i ∈ ready ops listed) : Lin ops (listed.setIfInBounds i true) (i :: acc) := by
  obtain ⟨h1, ds, h2, h3⟩ := ready_mem hi
  have hlt := (Array.getElem?_eq_some_iff.1 h1).1
  have hni : i ∉ acc := fun hm => by have := (h.mem i).1 hm; rw [h1] at this; cases this
  refine ⟨by simpa using h.size, List.nodup_cons.2 ⟨hni, h.nodup⟩, fun j => ?_, fun p k j ds' hp hk hj => ?_⟩
  · rw [List.mem_cons, h.mem j, Array.getElem?_setIfInBounds]
    by_cases e : i = j
    · subst e; simp [hlt]
    · rw [if_neg e]; simp [Ne.symm e]
  · rw [List.reverse_cons] at hp ⊢
    rcases Nat.lt_or_ge p acc.reverse.length with hpl | hpg
    · rw [List.getElem?_append_left hpl] at hp
      obtain ⟨q, q1, q2⟩ := h.before p k j ds' hp hk hj
      exact ⟨q, q1, by rw [List.getElem?_append_left (by omega)]; exact q2⟩
    · rw [List.getElem?_append_right hpg] at hp
      have hp0 : p - acc.reverse.length = 0 := by
        rcases Nat.eq_zero_or_pos (p - acc.reverse.length) with h | h
        · exact h
        · rw [List.getElem?_eq_none (by simp at h ⊢; omega)] at hp; cases hp
      rw [hp0] at hp
      simp at hp
      subst hp
      rw [h2] at hk
      injection hk with hk
      subst hk
      have hm : j ∈ acc.reverse := List.mem_reverse.2 ((h.mem j).2 (h3 j hj))
      obtain ⟨q, hq, hq'⟩ := List.mem_iff_getElem.1 hm
      exact ⟨q, by omega, by rw [List.getElem?_append_left hq, List.getElem?_eq_getElem hq, hq']⟩

theorem lin_ready {ops : Array Oper} {listed : Array Bool} {acc : List Nat} (h : Lin ops listed acc) (hb : depsBack ops = true) (hlen : acc.length < ops.size) : ready ops listed ≠ [] := by
  -- the least place that is not listed is ready
  have hex : ∃ i : Nat, listed[i]? = some false := by
    rcases Classical.em (∃ i : Nat, listed[i]? = some false) with h' | h'
    · exact h'
    · exfalso
      have hall : ∀ i, i < ops.size → i ∈ acc := fun i hi => by
        rw [h.mem]
        have hl : i < listed.size := by rw [h.size]; exact hi
        cases hv : listed[i] with
        | true => simp [hl, hv]
        | false => exact absurd ⟨i, by simp [hl, hv]⟩ h'
      have : (List.range ops.size).length ≤ acc.length := nodup_sub_len List.nodup_range (fun i hi => hall i (List.mem_range.1 hi))
      simp at this
      omega
  obtain ⟨i, hi⟩ := hex
  have hmin : ∃ i : Nat, listed[i]? = some false ∧ ∀ j, j < i → listed[j]? = some true := by
    induction i using Nat.strongRecOn with
    | _ i ih =>
      by_cases hj : ∃ j, j < i ∧ listed[j]? = some false
      · obtain ⟨j, hj1, hj2⟩ := hj
        exact ih j hj1 hj2
      · refine ⟨i, hi, fun j hj1 => ?_⟩
        have hlt : j < listed.size := by have := (Array.getElem?_eq_some_iff.1 hi).1; omega
        cases hv : listed[j] with
        | true => simp [hlt, hv]
        | false => exact absurd ⟨j, hj1, by simp [hlt, hv]⟩ hj
  obtain ⟨i, hi1, hi2⟩ := hmin
  intro he
  have := ready_some h.size hb hi1 hi2
  rw [he] at this
  cases this

theorem lin_go {ops : Array Oper} (hb : depsBack ops = true) : ∀ (fuel t : Nat) (listed : Array Bool) (acc : List Nat), Lin ops listed acc → fuel + acc.length = ops.size → ∃ listed' acc', Region.linearise.go .any ops fuel t listed acc = acc'.reverse ∧ Lin ops listed' acc' ∧ acc'.length = ops.size
  | 0, t, listed, acc, h, hl => ⟨listed, acc, rfl, h, by omega⟩
  | fuel + 1, t, listed, acc, h, hl => by
    have hr := lin_ready h hb (by omega)
    have hrs : (List.range ops.size).filter (fun i => !listed.getD i true && ((ops[i]?).map (·.after.all fun e => !Region.binds .any e || listed.getD e.on false)).getD false) = ready ops listed := rfl
    simp only [Region.linearise.go, hrs]
    have hlt : t % (ready ops listed).length < (ready ops listed).length := Nat.mod_lt _ (List.length_pos_iff.2 hr)
    rw [List.getElem?_eq_getElem hlt]
    simp only []
    exact lin_go hb fuel _ _ _ (lin_step h (List.getElem_mem hlt)) (by simp; omega)

theorem schedule_valid {ops : Array Oper} (hb : depsBack ops = true) (t : Nat) : Valid (depsOf ops) (Region.schedule true ops t) := by
  have h0 : Lin ops (Array.replicate ops.size false) [] := ⟨by simp, List.nodup_nil, fun i => by simp [Array.getElem?_replicate], fun p i j ds hp => by simp at hp⟩
  obtain ⟨listed', acc', h1, h2, h3⟩ := lin_go hb ops.size t _ [] h0 (by simp)
  have hs : Region.schedule true ops t = acc'.reverse := by
    simp only [Region.schedule, Bool.true_or, if_true, Region.linearise]
    exact h1
  rw [hs]
  have hd : (depsOf ops).length = ops.size := by simp [depsOf]
  refine ⟨?_, h2.before⟩
  rw [hd]
  have hsub : acc' ⊆ List.range ops.size := fun i hi => by
    have := (h2.mem i).1 hi
    have := (Array.getElem?_eq_some_iff.1 this).1
    rw [h2.size] at this
    exact List.mem_range.2 this
  have hp : acc'.Perm (List.range ops.size) := nodup_sub_perm h2.nodup hsub (by simp [h3])
  exact (List.reverse_perm acc').trans hp

end Go.Am

/- The abstract machine's code: a region's instructions, in whatever order they are told; calls; the rest of the code. -/
namespace Go.Am

/-- Instructions and the places of the operations that they are compiled from. -/
def Insts (P : Program) (N : Nat) (ops : Array Oper) (idxs : List Nat) (is : List AIns) : Prop :=
  idxs.length = is.length ∧ ∀ (n idx : Nat) (i : AIns), idxs[n]? = some idx → is[n]? = some i → ∃ o, ops[idx]? = some o ∧ InsOf P N ops o i

/-- Where a run stands: the relation, and that it has come from the start by what is allowed. -/
structure At (G0 : Gh) (w0 : World) (n m N : Nat) (G : Gh) (w : World) (env : Env) (st : St) (a : Act) : Prop where
  inv : Inv G w st
  ext : Ext G0 w0 G w n m
  hn : n ≤ st.heap.length
  hm : m ≤ st.toks.length
  rel : TRel G w env a.tmps
  size : N ≤ a.tmps.size
  defers : a.defers = []

theorem At.post {G0 : Gh} {w0 : World} {n m N : Nat} {G : Gh} {w : World} {env : Env} {st : St} {a : Act} (h : At G0 w0 n m N G w env st a) {K : Exit → Env → St → Prop} {e : Exit} (he : ∀ c, e ≠ .panic c) (hk : K e env st) : Post G0 w0 n m N K e a w :=
  .inr ⟨h.defers, h.size, he, G, env, st, hk, h.inv, h.ext, h.hn, h.hm, h.rel⟩

theorem At.step {G0 : Gh} {w0 : World} {n m N : Nat} {G : Gh} {w : World} {env : Env} {st : St} {a : Act} (h : At G0 w0 n m N G w env st a) {G' : Gh} {w' : World} {st' : St} (hI : Inv G' w' st') (hE : Ext G w G' w' st.heap.length st.toks.length)
    (h1 : st.heap.length ≤ st'.heap.length) (h2 : st.toks.length ≤ st'.toks.length) {d : Option Nat} (hd : ∀ t, d = some t → t < N) {v : AV} {y : Value} (hy : VRel G' w' v y) : At G0 w0 n m N G' w' (put env d v) st' (a.put d y) := by
  obtain ⟨q1, q2, q3⟩ := h.rel.put (G' := G') (w' := w') (fun v x hv => hv.inv h.inv hE) hd h.size hy a rfl
  exact ⟨hI, h.ext.trans hE h.hn h.hm, Nat.le_trans h.hn h1, Nat.le_trans h.hm h2, q1, by rw [q2]; exact h.size, by rw [q3]; exact h.defers⟩

theorem resolve_value {P : Program} {w : World} {ρ : Operand → Value} {f : Operand} {args : Array Operand} {argTypes : Array TypeId} {ty : TypeId} {fn : Fn} {first caps : Array Value} (h : ρ f = .func fn first caps) :
    (resolve ρ { callee := .value f, args, argTypes } ty).run P w = .ok { target := .fn fn caps, args := first ++ args.map ρ } w := by
  simp [resolve, Deferred.ofValue, h]

/-- What is handed over may be frozen first. -/
theorem aspec_frz {P : Program} {f : Nat} {args vs : List AV} {st st1 : St} {R : AV → St → Prop} (hf : frzs args st = some (vs, st1)) (h : ASpec P f vs st1 R) : ASpec P f args st R := by
  refine ⟨h.1, fun G w ys hI hv => ?_⟩
  obtain ⟨G1, i1, e1, r1, l1, t1⟩ := frzs_sound hI hv hf
  refine (h.2 G1 w ys i1 r1).mono fun e w' he => ?_
  cases e with
  | outgrown => exact he
  | panicked c => exact he
  | returned y =>
    obtain ⟨G', v, st', k1, k2, k3, k4, k5, k6⟩ := he
    exact ⟨G', v, st', k1, k2, e1.trans k3 (by omega) (by rw [t1]; exact Nat.le_refl _), k4, by omega, by rw [t1] at k6; exact k6⟩

theorem awI_sound {P : Program} {N : Nat} {ops : Array Oper} {G0 : Gh} {w0 : World} {n m : Nat} {K : Env → St → Prop} {Q : Exit → Act → World → Prop}
    (hQ : ∀ G w env st a, At G0 w0 n m N G w env st a → K env st → Q .normal a w) : ∀ (is : List AIns) (idxs : List Nat) (G : Gh) (w : World) (env : Env) (st : St) (a : Act), Insts P N ops idxs is → At G0 w0 n m N G w env st a → awI (ASpec P) is env st K → wpOps P ops Q idxs a w
  | [], idxs, G, w, env, st, a, hi, hat, h => by
    have : idxs = [] := by have := hi.1; simpa using this
    subst this
    exact hQ _ _ _ _ _ hat h
  | i :: is, idxs, G, w, env, st, a, hi, hat, h => by
    cases idxs with
    | nil => have := hi.1; simp at this
    | cons idx idxs =>
      obtain ⟨o, ho, hio⟩ := hi.2 0 idx i rfl rfl
      have hi' : Insts P N ops idxs is := ⟨by have := hi.1; simpa using this, fun n idx i h1 h2 => hi.2 (n + 1) idx i (by simpa using h1) (by simpa using h2)⟩
      have ih := awI_sound (P := P) (N := N) (ops := ops) hQ is idxs
      simp only [wpOps, ho]
      simp only [awI] at h
      cases hw : wantedA i.guard env with
      | none => simp [hw] at h
      | some b =>
        have hwant := wanted_rel hat.rel hio.guard hw
        rw [hw] at h
        rw [hwant]
        cases b with
        | false =>
          simp only [Bool.false_eq_true, if_false] at h ⊢
          rw [hio.dst.1]
          exact ih G w _ st _ hi' (hat.step hat.inv (Ext.refl _ _ _ _) (Nat.le_refl _) (Nat.le_refl _) hio.dst.2 (.tup [] #[] rfl (by simp))) h
        | true =>
          simp only [if_true] at h ⊢
          refine .inl ?_
          obtain ⟨k0, xs, hc, hm, hk0⟩ := hio.comp
          have hargs := opds_rel hat.rel hm
          rcases hk0 with rfl | ⟨op0, opM, hocl, rfl, hkM⟩
          case inr =>
            rw [hkM] at h
            simp only [] at h
            cases he : evA opM (i.args.map (opdV env)) st with
            | none => simp [he] at h
            | some p =>
              obtain ⟨v, st'⟩ := p
              rw [he] at h
              simp only [] at h
              obtain ⟨nx, y, w', G', r1, r2, r3, r4, r5⟩ := op_soundM (o := o) hat.inv hocl (comp_prim hc) hargs he
              obtain ⟨l1, l2⟩ := NOk.lens (P := P) (G := G) (w := w) he
              have hnext := ih G' w' (put env i.dst v) st' (a.put o.dst y) hi' (by rw [hio.dst.1]; exact hat.step r3 r4 l1 l2 hio.dst.2 r5) h
              unfold Oper.wp
              rw [r1]
              rcases r2 with rfl | ⟨rfl, rfl⟩
              · exact hnext
              · exact hnext
          cases hk : i.kind with
          | prim op =>
            rw [hk] at h hc
            simp only [] at h
            cases he : evA op (i.args.map (opdV env)) st with
            | none => simp [he] at h
            | some p =>
              obtain ⟨v, st'⟩ := p
              rw [he] at h
              simp only [] at h
              obtain ⟨nx, y, w', G', r1, r2, r3, r4, r5⟩ := op_sound (o := o) (fun _ => rfl) hat.inv (comp_prim hc) hargs he
              obtain ⟨l1, l2⟩ := NOk.lens (P := P) (G := G) (w := w) he
              have hnext := ih G' w' (put env i.dst v) st' (a.put o.dst y) hi' (by rw [hio.dst.1]; exact hat.step r3 r4 l1 l2 hio.dst.2 r5) h
              unfold Oper.wp
              rw [r1]
              rcases r2 with rfl | ⟨rfl, rfl⟩
              · exact hnext
              · exact hnext
          | call f =>
            rw [hk] at h hc
            simp only [] at h
            obtain ⟨args, argTypes, hop, rfl⟩ := comp_call hc
            have hspec := h.2 G w (args.map a.eval) hat.inv (by simpa using hargs)
            unfold Oper.wp execOp
            rw [hop]
            simp only [Sem.run_bind, resolve_value (P := P) (w := w) (args := args) (argTypes := argTypes) (ty := o.type) (show a.eval (.func f) = .func (.func f) #[] #[] from rfl), Result.andThen, invoke, h.1, Array.empty_append, Array.append_empty]
            rw [Oper.upon_enter]
            refine hspec.mono fun e w' he => ?_
            cases e with
            | outgrown => exact he.elim
            | panicked c => exact he.elim
            | returned y =>
              obtain ⟨G', v, st', k1, k2, k3, k4, k5, k6⟩ := he
              refine ih G' w' _ st' _ hi' ?_ k1
              rw [hio.dst.1]
              exact hat.step k2 k3 k5 k6 hio.dst.2 k4
          | callV =>
            rw [hk] at h hc
            simp only [] at h
            obtain ⟨g, args, argTypes, hop, rfl⟩ := comp_callV hc
            obtain ⟨x, xs', hx0, hx1, hx2⟩ := hargs.cons_inv
            rw [hx0] at h
            cases x with
            | fn fnv first caps =>
              cases fnv with
              | func f =>
                simp only [] at h
                generalize hgv : a.eval g = gv at hx1
                cases hx1 with
                | fn _ _ _ us cs u1 u2 u3 u4 =>
                  have hall : ListRel G w (first ++ xs' ++ caps) (us ++ args.map a.eval ++ cs).toList := by
                    have hl2 := hx2.1
                    simp only [List.length_map, Array.length_toList] at hl2
                    refine ⟨by simp [u1, u2, hl2], fun j c v hc hv => ?_⟩
                    simp only [Array.toList_append] at hv
                    rw [List.append_assoc] at hc hv
                    rcases Nat.lt_or_ge j first.length with hlt | hge
                    · rw [List.getElem?_append_left hlt] at hc
                      rw [List.getElem?_append_left (by simpa [← u1] using hlt)] at hv
                      exact u3 j c v hc (by simpa using hv)
                    · rw [List.getElem?_append_right hge] at hc
                      rw [List.getElem?_append_right (by simpa [← u1] using hge)] at hv
                      have e1 : us.toList.length = first.length := by simp [u1]
                      rw [e1] at hv
                      rcases Nat.lt_or_ge (j - first.length) xs'.length with hlt2 | hge2
                      · rw [List.getElem?_append_left hlt2] at hc
                        rw [List.getElem?_append_left (by simpa [← hl2] using hlt2)] at hv
                        exact hx2.2 _ c v hc (by simpa using hv)
                      · rw [List.getElem?_append_right hge2] at hc
                        rw [List.getElem?_append_right (by simpa [← hl2] using hge2)] at hv
                        have e2 : (args.map a.eval).toList.length = xs'.length := by simp [hl2]
                        rw [e2] at hv
                        exact u4 _ c v hc (by simpa using hv)
                  have hspec := h.2 G w _ hat.inv hall
                  unfold Oper.wp execOp
                  rw [hop]
                  simp only [Sem.run_bind, resolve_value (P := P) (w := w) (args := args) (argTypes := argTypes) (ty := o.type) hgv, Result.andThen, invoke, h.1]
                  rw [Oper.upon_enter]
                  refine hspec.mono fun e w' he => ?_
                  cases e with
                  | outgrown => exact he.elim
                  | panicked c => exact he.elim
                  | returned y =>
                    obtain ⟨G', v, st', k1, k2, k3, k4, k5, k6⟩ := he
                    refine ih G' w' _ st' _ hi' ?_ k1
                    rw [hio.dst.1]
                    exact hat.step k2 k3 k5 k6 hio.dst.2 k4
              | _ => simp at h
            | _ => simp at h


/-! Code. -/

def compIns (P : Program) (N : Nat) (M : List Nat) (ops : Array Oper) : Option (List AIns) := ops.toList.mapM (compOper P N M ops)

/-- The first label that a code jumps to. -/
def gotoA : ACode → Option Nat
  | .seq a b => (gotoA a).orElse fun _ => gotoA b
  | .cond _ a b => (gotoA a).orElse fun _ => gotoA b
  | .block _ b => gotoA b
  | .loop b => gotoA b
  | .goto l => some l
  | _ => none

/-- What follows a label. -/
def labelA : ACode → Nat → Option ACode
  | .seq a b, l => match labelA a l with
    | some r => some (.seq r b)
    | none => labelA b l
  | .label l', l => if l' == l then some .skip else none
  | _, _ => none

def compCode (P : Program) (N : Nat) (M : List Nat) : Code → Option ACode
  | .skip => some .skip
  | .region _ ops draw => (compIns P N M ops).bind fun is =>
    if draw then if depsBack ops && P.follows .mixedOrders then some (.region is (some (depsOf ops))) else none
    else some (.region is none)
  | .seq a b => (compCode P N M a).bind fun a' => (compCode P N M b).map fun b' => .seq a' b'
  | .cond c a b => (opdA c).bind fun c' => (compCode P N M a).bind fun a' => (compCode P N M b).map fun b' => .cond c' a' b'
  | .block id b => (compCode P N M b).map (.block id)
  | .loop b => (compCode P N M b).map .loop
  | .exit id => some (.exit id)
  | .ret => some .ret
  | .label l => some (.label l)
  | .goto l => some (.goto l)
  | .scope b => (compCode P N M b).map fun b' => match gotoA b' with
    | none => .scope b'
    | some l => match labelA b' l with
      | some r => .scopeJ b' l r
      | none => .scope b'
  | _ => none

/-- A region whose order is open: whatever order is drawn. -/
def awD (C : Calls1) (is : List AIns) (deps : List (List Nat)) (env : Env) (st : St) (K : Env → St → Prop) : Prop :=
  ∀ l, Valid deps l → awI C (l.map fun i => is.getD i default) env st K

/-- The slots that are kept; of the others nothing is known any more. -/
def keepEnv (L : List Nat) (env : Env) : Env := fun t => if t ∈ L then env t else .any

/-- Behind a round: what it made is forgotten. -/
def Trunc (st0 : St) (env : Env) (st : St) (L : List Nat) (st' : St) : Prop :=
  (∀ t ∈ L, (env t).ok st'.heap.length st'.toks.length = true) ∧ st'.heap <+: st.heap ∧ st'.toks <+: st.toks ∧ st0.heap.length = st'.heap.length ∧ st0.toks.length = st'.toks.length ∧
    ∀ (l : Nat) (b : Blk), st'.heap[l]? = some b → st0.heap[l]? = some b ∨ okBlk st'.heap.length st'.toks.length b = true

/-- The same run, told otherwise. -/
def Ghost (env : Env) (st : St) (env' : Env) (st' : St) : Prop :=
  st.heap.length ≤ st'.heap.length ∧ st.toks.length ≤ st'.toks.length ∧ ∀ (G : Gh) (w : World) (tmps : Array Value), Inv G w st → TRel G w env tmps → ∃ G', Inv G' w st' ∧ Ext G w G' w st.heap.length st.toks.length ∧ TRel G' w env' tmps

theorem Ghost.refl (env : Env) (st : St) : Ghost env st env st := ⟨Nat.le_refl _, Nat.le_refl _, fun G w _ hI hT => ⟨G, hI, Ext.refl _ _ _ _, hT⟩⟩

theorem Ghost.trans {e1 e2 e3 : Env} {s1 s2 s3 : St} (h : Ghost e1 s1 e2 s2) (k : Ghost e2 s2 e3 s3) : Ghost e1 s1 e3 s3 := by
  obtain ⟨h1, h2, h3⟩ := h
  obtain ⟨k1, k2, k3⟩ := k
  refine ⟨Nat.le_trans h1 k1, Nat.le_trans h2 k2, fun G w tmps hI hT => ?_⟩
  obtain ⟨G1, i1, x1, t1⟩ := h3 G w tmps hI hT
  obtain ⟨G2, i2, x2, t2⟩ := k3 G1 w tmps i1 t1
  exact ⟨G2, i2, x1.trans x2 h1 h2, t2⟩

/-- A slot's slice, of which the capacity is the length, takes a token. -/
theorem Ghost.own {env : Env} {st : St} (t sz : Nat) {es : List AV} (h : env t = .sl .clip es) : Ghost env st (put env (some t) (.sl (.own st.toks.length) es)) { st with toks := st.toks ++ [(es.length, sz)] } := by
  refine ⟨Nat.le_refl _, by simp, fun G w tmps hI hT => ?_⟩
  have ht := hT t
  rw [h] at ht
  obtain ⟨G', i1, e1, v1⟩ := clipOwn hI sz ht
  refine ⟨G', i1, e1, fun s => ?_⟩
  show VRel G' w (if s = t then _ else env s) _
  by_cases e : s = t
  · subst e; rw [if_pos rfl]; exact v1
  · rw [if_neg e]; exact (hT s).inv hI e1

/-- A slot's slice that was made, and that is written no more, takes a token. -/
theorem Ghost.msl {env : Env} {st : St} (t : Nat) {l len : Nat} {sz : Option Nat} {vs : List AV} (h : env t = .msl l 0 len sz) (hpos : 0 < sz.getD 1) (hl : st.heap[l]? = some (.cells false vs)) (hlen : vs.length = len * sz.getD 1) :
    Ghost env st (put env (some t) (.sl (.own st.toks.length) (chunk sz len vs))) { heap := st.heap.set l (.cells true vs), toks := st.toks ++ [(len, sz.getD 1)] } := by
  refine ⟨by simp, by simp, fun G w tmps hI hT => ?_⟩
  have ht := hT t
  rw [h] at ht
  obtain ⟨G', i1, e1, v1, _⟩ := mslOwn hI hpos ht hl hlen
  refine ⟨G', i1, e1, fun s => ?_⟩
  show VRel G' w (if s = t then _ else env s) _
  by_cases e : s = t
  · subst e; rw [if_pos rfl]; exact v1
  · rw [if_neg e]; exact (hT s).inv hI e1

/-- From one round to the next: what the round made is forgotten, or the run goes on as it is. -/
def Next (st0 : St) (env : Env) (st : St) (env' : Env) (st' : St) : Prop :=
  (∃ L, env' = keepEnv L env ∧ Trunc st0 env st L st') ∨ Ghost env st env' st'

def awC (C : Calls1) : ACode → Env → St → (Exit → Env → St → Prop) → Prop
  | .skip, env, st, K => K .normal env st
  | .region is none, env, st, K => awI C is env st (K .normal)
  | .region is (some deps), env, st, K => awD C is deps env st (K .normal)
  | .seq a b, env, st, K => awC C a env st fun e env' st' => match e with
    | .normal => awC C b env' st' K
    | e => K e env' st'
  | .cond c a b, env, st, K => match opdV env c with
    | .bool t => if t then awC C a env st K else awC C b env st K
    | .ub => awC C a env st K ∧ awC C b env st K
    | _ => False
  | .block id b, env, st, K => awC C b env st fun e env' st' => match e with
    | .exit i => if i = id then K .normal env' st' else K (.exit i) env' st'
    | e => K e env' st'
  | .loop b, env, st, K => ∃ (I : Nat → Env → St → Prop) (n : Nat) (env1 : Env) (st1 : St), Ghost env st env1 st1 ∧ I n env1 st1 ∧ ∀ n env st, I n env st → awC C b env st fun e env' st' => match e with
    | .normal => ∃ n' env'' st'', n' < n ∧ Next st env' st' env'' st'' ∧ I n' env'' st''
    | e => K e env' st'
  | .exit id, env, st, K => K (.exit id) env st
  | .scope b, env, st, K => awC C b env st fun e env' st' => match e with
    | .goto _ => False
    | e => K e env' st'
  | .ret, env, st, K => K .ret env st
  | .label _, env, st, K => K .normal env st
  | .goto l, env, st, K => K (.goto l) env st
  | .scopeJ b l r, env, st, K => awC C b env st fun e env' st' => match e with
    | .goto l' => l' = l ∧ awC C r env' st' fun e env' st' => match e with
      | .goto _ => False
      | e => K e env' st'
    | e => K e env' st'

theorem insts_range {P : Program} {N : Nat} {M : List Nat} {ops : Array Oper} {is : List AIns} (h : compIns P N M ops = some is) : Insts P N ops (List.range ops.size) is := by
  obtain ⟨h1, h2⟩ := mapM_get h
  refine ⟨by simpa using h1.symm, fun n idx i hn hi => ?_⟩
  have hlt : n < is.length := (List.getElem?_eq_some_iff.1 hi).1
  have hlt' : n < ops.size := by simpa using (by omega : n < ops.toList.length)
  have hidx : idx = n := by
    rw [List.getElem?_range hlt'] at hn
    injection hn with hn
    exact hn.symm
  subst hidx
  exact ⟨ops[idx], by simp [hlt'], insOf (h2 idx ops[idx] i (by simp [hlt']) hi)⟩

theorem wp_loopN {P : Program} {Q : Exit → Act → World → Prop} {a : Act} {w : World} {c : Code} (I : Nat → Act → World → Prop) (n : Nat) (h₀ : I n a w)
    (round : ∀ n a w, I n a w → c.wp P (Exit.then (fun a' w' => ∃ n', n' < n ∧ I n' a' w') Q) a w) : (Code.loop c).wp P Q a w := by
  intro b k cs
  have key : ∀ n a w, I n a w → ∃ e a' w', Q e a' w' ∧ Arrives P (lone (b.at a (.code c :: .inLoop c :: k)) cs w) b k cs e a' w' := by
    intro n
    induction n using Nat.strongRecOn with
    | _ n ih =>
      intro a w hI
      obtain ⟨e, a₁, w₁, hq, harr⟩ := round n a w hI b (.inLoop c :: k) cs
      cases e with
      | normal =>
        obtain ⟨n', hlt, hI₁⟩ := hq
        obtain ⟨e₂, a₂, w₂, hq₂, harr₂⟩ := ih n' hlt a₁ w₁ hI₁
        exact ⟨e₂, a₂, w₂, hq₂, .of_steps (Steps.trans harr (.one step_inLoop)) harr₂⟩
      | exit id => exact ⟨_, a₁, w₁, hq, .pass (x := .inLoop c) rfl (fun _ _ => .inl (by simp)) harr⟩
      | goto l => exact ⟨_, a₁, w₁, hq, .pass (x := .inLoop c) rfl (fun _ _ => .inl (by simp)) harr⟩
      | ret => exact ⟨_, a₁, w₁, hq, .pass (x := .inLoop c) rfl (fun _ _ => .inl (by simp)) harr⟩
      | panic ch => exact ⟨_, a₁, w₁, hq, .pass (x := .inLoop c) rfl (fun _ _ => .inl (by simp)) harr⟩
      | outgrown => exact ⟨_, a₁, w₁, hq, .pass (x := .inLoop c) rfl (fun _ _ => .inl (by simp)) harr⟩
  obtain ⟨e, a', w', hq, harr⟩ := key n a w h₀
  exact ⟨e, a', w', hq, .of_steps (.one step_loop) harr⟩

/-- The meaning of 'awC', over the model's code. -/
def Awp (P : Program) (N n m : Nat) (c : Code) (env : Env) (st : St) (K : Exit → Env → St → Prop) : Prop :=
  ∀ (G0 : Gh) (w0 : World) (G : Gh) (w : World) (a : Act), At G0 w0 n m N G w env st a → c.wp P (Post G0 w0 n m N K) a w

def csz : Code → Nat
  | .seq a b => csz a + csz b + 1
  | .cond _ a b => csz a + csz b + 1
  | .block _ b => csz b + 1
  | .loop b => csz b + 1
  | .scope b => csz b + 1
  | _ => 1

theorem labelA_ok {P : Program} {N : Nat} {M : List Nat} {l : Nat} : ∀ (c : Code) (ac : ACode) (r : ACode), compCode P N M c = some ac → labelA ac l = some r → ∃ rest, findLabel c l = some rest ∧ compCode P N M rest = some r ∧ csz rest ≤ csz c
  | .seq a b, ac, r, h, hf => by
    simp only [compCode] at h
    cases hx : compCode P N M a with
    | none => simp [hx] at h
    | some x' =>
      cases hy : compCode P N M b with
      | none => simp [hx, hy] at h
      | some y' =>
        simp [hx, hy] at h
        subst h
        simp only [labelA] at hf
        split at hf
        · rename_i r1 h1
          injection hf with hf
          subst hf
          obtain ⟨rest, g1, g2, g3⟩ := labelA_ok a x' r1 hx h1
          exact ⟨.seq rest b, by simp [findLabel, g1], by simp [compCode, g2, hy], by simp only [csz]; omega⟩
        · rename_i h1
          obtain ⟨rest, g1, g2, g3⟩ := labelA_ok b y' r hy hf
          refine ⟨rest, ?_, g2, by simp only [csz]; omega⟩
          rw [findLabel, labelA_no a x' hx h1]
          exact g1
  | .label l', ac, r, h, hf => by
    simp only [compCode, Option.some.injEq] at h
    subst h
    simp only [labelA] at hf
    split at hf
    · rename_i hl
      injection hf with hf
      subst hf
      exact ⟨.skip, by simp [findLabel, hl], rfl, Nat.le_refl _⟩
    · cases hf
  | .skip, ac, r, h, hf => by simp [compCode] at h; subst h; simp [labelA] at hf
  | .region id ops draw, ac, r, h, hf => by
    simp only [compCode] at h
    cases hi : compIns P N M ops with
    | none => simp [hi] at h
    | some is =>
      simp only [hi, Option.bind_some] at h
      repeat' split at h
      all_goals (try (injection h with h; subst h; simp [labelA] at hf))
      all_goals cases h
  | .cond c a b, ac, r, h, hf => by
    simp only [compCode, Option.bind_eq_some_iff, Option.map_eq_some_iff] at h
    obtain ⟨_, _, _, _, _, _, rfl⟩ := h
    simp [labelA] at hf
  | .block id b, ac, r, h, hf => by
    simp only [compCode, Option.map_eq_some_iff] at h
    obtain ⟨_, _, rfl⟩ := h
    simp [labelA] at hf
  | .loop b, ac, r, h, hf => by
    simp only [compCode, Option.map_eq_some_iff] at h
    obtain ⟨_, _, rfl⟩ := h
    simp [labelA] at hf
  | .exit id, ac, r, h, hf => by simp [compCode] at h; subst h; simp [labelA] at hf
  | .goto id, ac, r, h, hf => by simp [compCode] at h; subst h; simp [labelA] at hf
  | .ret, ac, r, h, hf => by simp [compCode] at h; subst h; simp [labelA] at hf
  | .rangeFunc .., ac, r, h, hf => by simp [compCode] at h
  | .refuse _, ac, r, h, hf => by simp [compCode] at h
  | .scope b, ac, r, h, hf => by
    simp only [compCode, Option.map_eq_some_iff] at h
    obtain ⟨b', _, rfl⟩ := h
    repeat' split at hf
    all_goals simp [labelA] at hf
where labelA_no {P : Program} {N : Nat} {M : List Nat} {l : Nat} : ∀ (c : Code) (ac : ACode), compCode P N M c = some ac → labelA ac l = none → findLabel c l = none
  | .seq a b, ac, h, hf => by
    simp only [compCode] at h
    cases hx : compCode P N M a with
    | none => simp [hx] at h
    | some x' =>
      cases hy : compCode P N M b with
      | none => simp [hx, hy] at h
      | some y' =>
        simp [hx, hy] at h
        subst h
        simp only [labelA] at hf
        split at hf
        · cases hf
        · rename_i h1
          rw [findLabel, labelA_no a x' hx h1]
          exact labelA_no b y' hy hf
  | .label l', ac, h, hf => by
    simp only [compCode, Option.some.injEq] at h
    subst h
    simp only [labelA] at hf
    split at hf
    · cases hf
    · rename_i hl
      simp only [findLabel]
      rw [if_neg (by simpa using hl)]
  | .skip, _, _, _ => rfl
  | .region .., _, _, _ => rfl
  | .cond .., _, _, _ => rfl
  | .block .., _, _, _ => rfl
  | .loop _, _, _, _ => rfl
  | .exit _, _, _, _ => rfl
  | .goto _, _, _, _ => rfl
  | .ret, _, _, _ => rfl
  | .rangeFunc .., _, _, _ => rfl
  | .refuse _, _, _, _ => rfl
  | .scope _, _, _, _ => rfl

theorem awC_sound {P : Program} {N n m : Nat} {M : List Nat} : ∀ (c : Code) (ac : ACode) (env : Env) (st : St) (K : Exit → Env → St → Prop), compCode P N M c = some ac → awC (ASpec P) ac env st K → Awp P N n m c env st K
  | .skip, ac, env, st, K, hc, h => by
    simp [compCode] at hc
    subst hc
    intro G0 w0 G w a hat
    exact wp_skip (hat.post (by intro c e; cases e) h)
  | .region id ops draw, ac, env, st, K, hc, h => by
    simp only [compCode] at hc
    cases hi : compIns P N M ops with
    | none => simp [hi] at hc
    | some is =>
      simp only [hi, Option.bind_some] at hc
      cases draw with
      | true =>
        simp only [if_true] at hc
        split at hc
        · rename_i hcond
          simp only [Bool.and_eq_true] at hcond
          injection hc with hc
          subst hc
          intro G0 w0 G w a hat
          simp only [awC] at h
          refine wp_region_draw (fun t => ?_)
          rw [hcond.2]
          have hv := schedule_valid hcond.1 t
          have hat' : At G0 w0 n m N G { w with drawn := w.drawn + 1 } env st a :=
            ⟨hat.inv.drawn _, hat.ext.trans (Ext.drawn G w (w.drawn + 1) n m) (Nat.le_refl _) (Nat.le_refl _), hat.hn, hat.hm, fun t => (hat.rel t).inv hat.inv (Ext.drawn G w _ _ _), hat.size, hat.defers⟩
          refine awI_sound (fun G w env st a hat' hk => hat'.post (by intro c e; cases e) hk) _ _ G _ env st a ?_ hat' (h _ hv)
          have hr := insts_range hi
          refine ⟨by simp, fun n idx i hn hi' => ?_⟩
          have hmem : idx ∈ List.range ops.size := by
            have := hv.perm.mem_iff.1 (List.mem_of_getElem? hn)
            simpa [depsOf] using this
          have hlt : idx < ops.size := List.mem_range.1 hmem
          have hil : idx < is.length := by have := hr.1; simp at this; omega
          rw [List.getElem?_map, hn] at hi'
          simp only [Option.map_some, Option.some.injEq] at hi'
          subst hi'
          refine hr.2 idx idx _ (by rw [List.getElem?_range hlt]) ?_
          simp [List.getD, hil]
        · cases hc
      | false =>
        simp only [Bool.false_eq_true, if_false] at hc
        injection hc with hc
        subst hc
        intro G0 w0 G w a hat
        simp only [awC] at h
        exact wp_region (awI_sound (fun G w env st a hat' hk => hat'.post (by intro c e; cases e) hk) is _ G w env st a (insts_range hi) hat h)
  | .seq x y, ac, env, st, K, hc, h => by
    simp only [compCode] at hc
    cases hx : compCode P N M x with
    | none => simp [hx] at hc
    | some x' =>
      cases hy : compCode P N M y with
      | none => simp [hx, hy] at hc
      | some y' =>
        simp [hx, hy] at hc
        subst hc
        intro G0 w0 G w a hat
        simp only [awC] at h
        have ih := awC_sound (n := n) (m := m) x x' env st _ hx h
        refine wp_seq (wp_mono (ih G0 w0 G w a hat) fun e a' w' hp => ?_)
        rcases hp with hp | ⟨p1, p2, p3, G', env', st', k1, k2, k3, k4, k5, k6⟩
        · exact hp.elim
        · cases e with
          | normal => exact awC_sound (n := n) (m := m) y y' env' st' K hy k1 G0 w0 G' w' a' ⟨k2, k3, k4, k5, k6, p2, p1⟩
          | panic c => exact absurd rfl (p3 c)
          | _ => exact .inr ⟨p1, p2, p3, G', env', st', k1, k2, k3, k4, k5, k6⟩
  | .cond c x y, ac, env, st, K, hc, h => by
    simp only [compCode] at hc
    cases ho : opdA c with
    | none => simp [ho] at hc
    | some c' =>
      cases hx : compCode P N M x with
      | none => simp [ho, hx] at hc
      | some x' =>
        cases hy : compCode P N M y with
        | none => simp [ho, hx, hy] at hc
        | some y' =>
          simp [ho, hx, hy] at hc
          subst hc
          intro G0 w0 G w a hat
          simp only [awC] at h
          have hrel := opds_rel (xs := [c]) (as := [c']) hat.rel (by simp [ho])
          have hv := hrel.2 0 _ _ rfl rfl
          split at h
          · rename_i t ht
            rw [ht] at hv
            generalize hcv : a.eval c = cv at hv
            cases hv
            refine wp_cond hcv ?_
            cases t with
            | true => exact awC_sound (n := n) (m := m) x x' env st K hx h G0 w0 G w a hat
            | false => exact awC_sound (n := n) (m := m) y y' env st K hy h G0 w0 G w a hat
          · rename_i ht
            rw [ht] at hv
            generalize hcv : a.eval c = cv at hv
            cases hv with
            | ub t =>
              refine wp_cond hcv ?_
              cases t with
              | true => exact awC_sound (n := n) (m := m) x x' env st K hx h.1 G0 w0 G w a hat
              | false => exact awC_sound (n := n) (m := m) y y' env st K hy h.2 G0 w0 G w a hat
          · exact h.elim
  | .block id b, ac, env, st, K, hc, h => by
    simp only [compCode] at hc
    cases hb : compCode P N M b with
    | none => simp [hb] at hc
    | some b' =>
      simp [hb] at hc
      subst hc
      intro G0 w0 G w a hat
      simp only [awC] at h
      have ih := awC_sound (n := n) (m := m) b b' env st _ hb h
      refine wp_block (wp_mono (ih G0 w0 G w a hat) fun e a' w' hp => ?_)
      rcases hp with hp | ⟨p1, p2, p3, G', env', st', k1, k2, k3, k4, k5, k6⟩
      · exact hp.elim
      · cases e with
        | exit i =>
          simp only [] at k1
          simp only [Exit.inBlock]
          split at k1
          · rename_i hid
            rw [if_pos hid]
            exact .inr ⟨p1, p2, nofun, G', env', st', k1, k2, k3, k4, k5, k6⟩
          · rename_i hid
            rw [if_neg hid]
            exact .inr ⟨p1, p2, p3, G', env', st', k1, k2, k3, k4, k5, k6⟩
        | _ => exact .inr ⟨p1, p2, p3, G', env', st', k1, k2, k3, k4, k5, k6⟩
  | .loop b, ac, env, st, K, hc, h => by
    simp only [compCode] at hc
    cases hb : compCode P N M b with
    | none => simp [hb] at hc
    | some b' =>
      simp [hb] at hc
      subst hc
      intro G0 w0 G w a hat
      simp only [awC] at h
      obtain ⟨I, k, env1, st1, hgh, hk, hstep⟩ := h
      obtain ⟨g1, g2, g3⟩ := hgh
      obtain ⟨G1, i1, x1, t1⟩ := g3 G w a.tmps hat.inv hat.rel
      have hat1 : At G0 w0 n m N G1 w env1 st1 a := ⟨i1, hat.ext.trans x1 hat.hn hat.hm, Nat.le_trans hat.hn g1, Nat.le_trans hat.hm g2, t1, hat.size, hat.defers⟩
      refine wp_loopN (fun k a w => ∃ G env st, At G0 w0 n m N G w env st a ∧ I k env st) k ⟨G1, env1, st1, hat1, hk⟩ fun k a w hI => ?_
      obtain ⟨G1, env1, st1, hat1, hI1⟩ := hI
      have ih := awC_sound (n := n) (m := m) b b' env1 st1 _ hb (hstep k env1 st1 hI1)
      refine wp_mono (ih G0 w0 G1 w a hat1) fun e a' w' hp => ?_
      rcases hp with hp | ⟨p1, p2, p3, G', env', st', k1, k2, k3, k4, k5, k6⟩
      · exact hp.elim
      · cases e with
        | normal =>
          obtain ⟨n', env2, st2, hlt, hnx, hI'⟩ := k1
          rcases hnx with ⟨L, rfl, ⟨t1, ⟨g, t2⟩, ⟨gt, t3⟩, t4, t5, t6⟩⟩ | ⟨g1, g2, g3⟩
          · have hn2 : n ≤ st2.heap.length := by rw [← t4]; exact hat1.hn
            have hm2 : m ≤ st2.toks.length := by rw [← t5]; exact hat1.hm
            refine ⟨n', hlt, (G'.restrict st2.heap.length st2.toks.length), keepEnv L env', st2, ?_, hI'⟩
            obtain ⟨i3, e3⟩ := hat1.inv.truncate (st := st2) k2 k3 hn2 hm2 t4 t5 t2.symm t3.symm t6
            refine ⟨i3, e3, hn2, hm2, fun t => ?_, p2, p1⟩
            · simp only [keepEnv]
              split
              · rename_i ht
                exact (k6 t).restrict (t1 t ht)
              · exact .any _
          · obtain ⟨G2, i2, x2, t2⟩ := g3 G' w' a'.tmps k2 k6
            exact ⟨n', hlt, G2, env2, st2, ⟨i2, k3.trans x2 k4 k5, Nat.le_trans k4 g1, Nat.le_trans k5 g2, t2, p2, p1⟩, hI'⟩
        | panic c => exact absurd rfl (p3 c)
        | _ => exact .inr ⟨p1, p2, p3, G', env', st', k1, k2, k3, k4, k5, k6⟩
  | .exit id, ac, env, st, K, hc, h => by
    simp [compCode] at hc
    subst hc
    intro G0 w0 G w a hat
    exact wp_exit (hat.post (by intro c e; cases e) h)
  | .ret, ac, env, st, K, hc, h => by
    simp [compCode] at hc
    subst hc
    intro G0 w0 G w a hat
    exact wp_ret (hat.post (by intro c e; cases e) h)
  | .rangeFunc .., ac, env, st, K, hc, h => by simp [compCode] at hc
  | .scope b, ac, env, st, K, hc, h => by
    simp only [compCode] at hc
    cases hb : compCode P N M b with
    | none => simp [hb] at hc
    | some b' =>
      simp only [hb, Option.map_some, Option.some.injEq] at hc
      have plain : awC (ASpec P) (.scope b') env st K → Awp P N n m (.scope b) env st K := by
        intro h G0 w0 G w a hat
        simp only [awC] at h
        have ih := awC_sound (n := n) (m := m) b b' env st _ hb h
        refine wp_scope_straight (wp_mono (ih G0 w0 G w a hat) fun e a' w' hp => ?_)
        rcases hp with hp | ⟨p1, p2, p3, G', env', st', k1, k2, k3, k4, k5, k6⟩
        · exact hp.elim
        · cases e with
          | goto l => exact k1.elim
          | panic c => exact absurd rfl (p3 c)
          | _ => exact .inr ⟨p1, p2, p3, G', env', st', k1, k2, k3, k4, k5, k6⟩
      split at hc
      · subst hc; exact plain h
      · rename_i l _
        split at hc
        · rename_i r hr
          subst hc
          obtain ⟨rest, hf, hcr, hsz⟩ := labelA_ok b b' r hb hr
          intro G0 w0 G w a hat
          simp only [awC] at h
          have ih := awC_sound (n := n) (m := m) b b' env st _ hb h
          refine wp_scope_jumps l (fun a' w' => ∃ G env st, At G0 w0 n m N G w' env st a' ∧ awC (ASpec P) r env st fun e env' st' => match e with
            | .goto _ => False
            | e => K e env' st') (fun _ _ => 0) hf (wp_mono (ih G0 w0 G w a hat) fun e a' w' hp => ?_) fun a w hJ => ?_
          · rcases hp with hp | ⟨p1, p2, p3, G', env', st', k1, k2, k3, k4, k5, k6⟩
            · exact hp.elim
            · cases e with
              | goto l' =>
                obtain ⟨rfl, k1⟩ := k1
                exact ⟨rfl, G', env', st', ⟨k2, k3, k4, k5, k6, p2, p1⟩, k1⟩
              | panic c => exact absurd rfl (p3 c)
              | _ => exact .inr ⟨p1, p2, p3, G', env', st', k1, k2, k3, k4, k5, k6⟩
          · obtain ⟨G1, env1, st1, hat1, h1⟩ := hJ
            have ih := awC_sound (n := n) (m := m) rest r env1 st1 _ hcr h1
            refine wp_mono (ih G0 w0 G1 w a hat1) fun e a' w' hp => ?_
            rcases hp with hp | ⟨p1, p2, p3, G', env', st', k1, k2, k3, k4, k5, k6⟩
            · exact hp.elim
            · cases e with
              | goto l' => exact k1.elim
              | panic c => exact absurd rfl (p3 c)
              | _ => exact .inr ⟨p1, p2, p3, G', env', st', k1, k2, k3, k4, k5, k6⟩
        · subst hc; exact plain h
  | .label _, ac, env, st, K, hc, h => by
    simp [compCode] at hc
    subst hc
    intro G0 w0 G w a hat
    exact wp_label (hat.post (by intro c e; cases e) h)
  | .goto _, ac, env, st, K, hc, h => by
    simp [compCode] at hc
    subst hc
    intro G0 w0 G w a hat
    exact wp_goto (hat.post (by intro c e; cases e) h)
  | .refuse _, ac, env, st, K, hc, h => by simp [compCode] at hc
termination_by c => csz c
decreasing_by all_goals (simp only [csz]; omega)

end Go.Am

/- The abstract machine's functions: a call's contract out of what its body does. -/
namespace Go.Am

/-! Functions. -/

inductive RV where
  | tmp (t : Nat)
  | cell (a : Nat) (sz : Option Nat)
  deriving Inhabited

def rvOf (P : Program) : ResultVar → Option RV
  | .tmp t => some (.tmp t)
  | .cell a t => (szOf P t).map (.cell a)

def resV (env : Env) (st : St) : RV → Option AV
  | .tmp t => some (env t)
  | .cell a sz => evR (.load sz) [env a] st

def resL (env : Env) (st : St) : List RV → Option (List AV)
  | [] => some []
  | r :: rs => (resV env st r).bind fun v => (resL env st rs).map fun vs => v :: vs

def one : List AV → AV
  | [v] => v
  | vs => .tup vs

/-- What a call hands back as it is, tokens and all; what it made, and nobody names, is forgotten. -/
def finishR (st0 : St) (vs : List AV) (st : St) (R : AV → St → Prop) : Prop :=
  (st0.heap.length ≤ st.heap.length ∧ st0.toks.length ≤ st.toks.length ∧ R (one vs) st) ∨ ∃ st2, st2.heap <+: st.heap ∧ st2.toks <+: st.toks ∧ st0.heap.length = st2.heap.length ∧ st0.toks.length = st2.toks.length ∧
    (∀ (l : Nat) (b : Blk), st2.heap[l]? = some b → st0.heap[l]? = some b ∨ okBlk st2.heap.length st2.toks.length b = true) ∧ okL st2.heap.length st2.toks.length vs = true ∧ R (one vs) st2

/-- .. or frozen. -/
def finish (st0 : St) (vs : List AV) (st : St) (R : AV → St → Prop) : Prop :=
  ∃ vs' st', frzs vs st = some (vs', st') ∧
    ((∃ g gt, st'.heap = st0.heap ++ g ∧ st'.toks = st0.toks ++ gt ∧ okL st0.heap.length st0.toks.length vs' = true ∧ R (one vs') st0) ∨ (st0.heap.length ≤ st'.heap.length ∧ st0.toks.length ≤ st'.toks.length ∧ R (one vs') st') ∨ finishR st0 vs' st' R)

structure IsFun (P : Program) (f : Nat) (np N : Nat) (ac : ACode) (rs : List RV) : Prop where
  np_le : np ≤ N
  ex : ∃ fn code M, P.funcs[f]? = some fn ∧ fn.body = some code ∧ fn.name ≠ "runtime.NumGoroutine" ∧ fn.ntmps = N ∧ compCode P N M code = some ac ∧ fn.results.toList.mapM (rvOf P) = some rs

def env0 (args : List AV) : Env := fun t => args.getD t (.tup [])

def resRun (tmps : Array Value) (r : ResultVar) : Sem Value :=
  match r with
  | .tmp t => pure (tmps.getD t undef)
  | .cell a t => do loadVar t (← asAddr (tmps.getD a undef))

theorem results_eq (fn : Func) (tmps : Array Value) : results fn tmps = (do let vs ← fn.results.mapM (resRun tmps); pure (if h : vs.size = 1 then vs[0] else .tuple vs)) := rfl

theorem run_results {P : Program} {G : Gh} {w : World} {st : St} {env : Env} {tmps : Array Value} (hI : Inv G w st) (hT : TRel G w env tmps) : ∀ {rvs : List ResultVar} {rs : List RV} {vs : List AV}, rvs.mapM (rvOf P) = some rs → resL env st rs = some vs →
    ∃ ys : List Value, (rvs.mapM (resRun tmps)).run P w = .ok ys w ∧ ListRel G w vs ys
  | [], rs, vs, hm, hr => by
    simp at hm
    subst hm
    simp [resL] at hr
    subst hr
    exact ⟨[], rfl, rfl, by simp⟩
  | rv :: rvs, rs, vs, hm, hr => by
    simp only [List.mapM_cons, Option.bind_eq_bind] at hm
    cases h1 : rvOf P rv with
    | none => simp [h1] at hm
    | some r =>
      cases h2 : rvs.mapM (rvOf P) with
      | none => simp [h1, h2] at hm
      | some rs' =>
        simp [h1, h2] at hm
        subst hm
        simp only [resL] at hr
        cases h3 : resV env st r with
        | none => simp [h3] at hr
        | some v =>
          cases h4 : resL env st rs' with
          | none => simp [h3, h4] at hr
          | some vs' =>
            simp [h3, h4] at hr
            subst hr
            obtain ⟨ys, q1, q2⟩ := run_results hI hT h2 h4
            have hy : ∃ y, (resRun tmps rv).run P w = .ok y w ∧ VRel G w v y := by
              cases rv with
              | tmp t =>
                simp [rvOf] at h1
                subst h1
                simp [resV] at h3
                subst h3
                exact ⟨_, rfl, hT t⟩
              | cell a t =>
                cases hs : szOf P t with
                | none => simp [rvOf, hs] at h1
                | some sz =>
                  simp [rvOf, hs] at h1
                  subst h1
                  simp only [resV] at h3
                  obtain ⟨y, r1, r2⟩ := load_sound (P := P) hs hI (hT a) h3
                  refine ⟨y, ?_, r2⟩
                  simp only [resRun]
                  generalize tmps.getD a undef = x at r1
                  cases x <;> simp [Instr.loadAt, Instr.sureAddr] at r1
                  rename_i p
                  cases p <;> simp at r1
                  simp [asAddr, r1]
            obtain ⟨y, p1, p2⟩ := hy
            refine ⟨y :: ys, ?_, by simp [q2.1], fun i c u hc hu => ?_⟩
            · rw [List.mapM_cons]
              simp only [Sem.run_bind]
              rw [p1]
              simp only [Result.andThen]
              rw [q1]
              rfl
            · cases i with
              | zero => simp at hc hu; subst hc; subst hu; exact p2
              | succ i => exact q2.2 i c u (by simpa using hc) (by simpa using hu)

theorem callFunc_enter {P : Program} {f : Nat} {fn : Func} {code : Code} (hf : P.funcs[f]? = some fn) (hb : fn.body = some code) (hn : fn.name ≠ "runtime.NumGoroutine") (vs : Array Value) (w : World) : (callFunc f vs).run P w = .ok (.enter f vs) w := by
  simp only [callFunc, Sem.run_bind, run_program, Result.andThen, hf]
  have : (fn.name == "runtime.NumGoroutine") = false := by simpa using hn
  simp [this, hb]

theorem aspec_of {P : Program} {f np N : Nat} {ac : ACode} {rs : List RV} {args : List AV} {st : St} {R : AV → St → Prop} (hF : IsFun P f np N ac rs) (hnp : args.length = np)
    (h : awC (ASpec P) ac (env0 args) st fun e env' st' => (e = .normal ∨ e = .ret) ∧ ∃ vs, resL env' st' rs = some vs ∧ (finish st vs st' R ∨ finishR st vs st' R)) : ASpec P f args st R := by
  obtain ⟨hle, fn, code, M, hf, hb, hn, hN, hc, hrs⟩ := hF
  refine ⟨callFunc_enter hf hb hn, fun G w vs hI hv => ?_⟩
  refine calls_of_wp hf hb ?_
  have hat : At G w st.heap.length st.toks.length N G w (env0 args) st { tmps := vs ++ Array.replicate (fn.ntmps - vs.size) undef, defers := [] } := by
    have hl := hv.1
    simp only [Array.length_toList] at hl
    refine ⟨hI, Ext.refl _ _ _ _, Nat.le_refl _, Nat.le_refl _, fun t => ?_, by simp; omega, rfl⟩
    simp only [env0, List.getD]
    cases ht : args[t]? with
    | none =>
      have hge : args.length ≤ t := by
        rcases Nat.lt_or_ge t args.length with h | h
        · simp [h] at ht
        · exact h
      have : (vs ++ Array.replicate (fn.ntmps - vs.size) undef).getD t undef = undef := by
        simp only [Array.getD]
        split
        · rw [Array.getInternal_eq_getElem, Array.getElem_append_right (by omega)]
          simp
        · rfl
      rw [this]
      exact .tup _ _ rfl (by simp)
    | some v =>
      have hlt := (List.getElem?_eq_some_iff.1 ht).1
      have hlt' : t < vs.size := by omega
      have : (vs ++ Array.replicate (fn.ntmps - vs.size) undef).getD t undef = vs[t] := by
        simp only [Array.getD]
        rw [dif_pos (by simp; omega), Array.getInternal_eq_getElem, Array.getElem_append_left hlt']
      rw [this]
      exact hv.2 t v vs[t] ht (by simp [hlt'])
  have hw := awC_sound (n := st.heap.length) (m := st.toks.length) code ac (env0 args) st _ hc h G w G w _ hat
  refine wp_mono hw fun e a' w' hp => ?_
  rcases hp with hp | ⟨p1, p2, p3, G', env', st', ⟨k1, vs1, k2, kfin⟩, k5, k6, k7, k8, k9⟩
  · exact hp.elim
  · have fin : ∃ v, (results fn a'.tmps).run P w' = .ok v w' ∧ ∃ G' v1 st', R v1 st' ∧ Inv G' w' st' ∧ Ext G w G' w' st.heap.length st.toks.length ∧ VRel G' w' v1 v ∧ st.heap.length ≤ st'.heap.length ∧ st.toks.length ≤ st'.toks.length := by
      obtain ⟨ys, q1, q2⟩ := run_results (P := P) k5 k9 hrs k2
      have hone : ∀ {G : Gh} {vs : List AV} {ys : List Value}, ListRel G w' vs ys → VRel G w' (one vs) (if h : ys.toArray.size = 1 then ys.toArray[0] else .tuple ys.toArray) := by
        intro G vs ys hr
        match vs, ys, hr with
        | [], [], hr => exact .tup _ _ rfl (by simp)
        | [v], [y], hr => exact hr.2 0 v y rfl rfl
        | v :: v' :: vs, y :: y' :: ys, hr =>
          have := VRel.tup (G := G) (w := w') (v :: v' :: vs) (y :: y' :: ys).toArray (by simpa using hr.1) (fun i c u hc hu => hr.2 i c u hc (by simpa using hu))
          simpa [one] using this
        | [], _ :: _, hr => have := hr.1; simp at this
        | _ :: _, [], hr => have := hr.1; simp at this
        | [_], _ :: _ :: _, hr => have := hr.1; simp at this
        | _ :: _ :: _, [_], hr => have := hr.1; simp at this
      refine ⟨(if h : ys.toArray.size = 1 then ys.toArray[0] else .tuple ys.toArray), ?_, ?_⟩
      · rw [results_eq]
        simp only [Sem.run_bind, Array.mapM_eq_mapM_toList, Sem.run_map]
        rw [q1]
        rfl
      · rcases kfin with ⟨vs2, st2, k3, k4⟩ | ⟨f1, f2, f3⟩ | ⟨st2, f1, f2, f3, f4, f5, f6, f7⟩
        · obtain ⟨G2, i2, e2, r2, l2, t2⟩ := frzs_sound k5 q2 k3
          have eAll := k6.trans e2 k7 k8
          rcases k4 with ⟨g, gt, g1, g2, g3, g4⟩ | ⟨g1, g2, g3⟩ | ⟨g1, g2, g3⟩ | ⟨st3, f1, f2, f3, f4, f5, f6, f7⟩
          · obtain ⟨i3, e3⟩ := hI.truncate (st := st) i2 eAll (Nat.le_refl _) (Nat.le_refl _) rfl rfl g1 g2 (fun l b h => .inl h)
            refine ⟨_, _, st, g4, i3, e3, ?_, Nat.le_refl _, Nat.le_refl _⟩
            refine hone ⟨r2.1, fun i c u hc hu => (r2.2 i c u hc hu).restrict (okL_get g3 hc)⟩
          · exact ⟨G2, _, st2, g3, i2, eAll, hone r2, g1, g2⟩
          · exact ⟨G2, _, st2, g3, i2, eAll, hone r2, g1, g2⟩
          · obtain ⟨g, g1⟩ := f1
            obtain ⟨gt, g2⟩ := f2
            obtain ⟨i3, e3⟩ := hI.truncate (st := st3) i2 eAll (by omega) (by omega) f3 f4 g1.symm g2.symm f5
            refine ⟨_, _, st3, f7, i3, e3, ?_, by omega, by omega⟩
            exact hone ⟨r2.1, fun i c u hc hu => (r2.2 i c u hc hu).restrict (okL_get f6 hc)⟩
        · exact ⟨G', _, st', f3, k5, k6, hone q2, f1, f2⟩
        · obtain ⟨g, g1⟩ := f1
          obtain ⟨gt, g2⟩ := f2
          obtain ⟨i3, e3⟩ := hI.truncate (st := st2) k5 k6 (by omega) (by omega) f3 f4 g1.symm g2.symm f5
          refine ⟨_, _, st2, f7, i3, e3, ?_, by omega, by omega⟩
          exact hone ⟨q2.1, fun i c u hc hu => (q2.2 i c u hc hu).restrict (okL_get f6 hc)⟩
    obtain ⟨v, q1, q2⟩ := fin
    rcases k1 with rfl | rfl
    · exact ⟨p1, v, q1, q2⟩
    · exact ⟨p1, v, q1, q2⟩

end Go.Am
