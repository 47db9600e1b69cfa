/- The abstract machine: any arguments that read as data, as trees. -/
import Derived.Test.YtjceilhmgbdgiaaZAmLaw
import Derived.OpenShut
set_option linter.all false
namespace Go.Am
open Go.ChangeShapes Go.WideShapes Go.ChangeAt Go.RowKit

/-- What a cell holds. -/
inductive CT where
  | bool
  | int (k : IntKind)
  | str
  | sl (sz : Option Nat) (els : List CT)
  deriving Inhabited

inductive CTok : CT → AV → Prop
  | bool (b : Bool) : CTok .bool (.bool b)
  | int (k : IntKind) (n : Int) : k.min ≤ n → n ≤ k.max → CTok (.int k) (.int k n)
  | str (l : List UInt8) : l.length ≤ maxLen → CTok .str (.str l)
  | sl (sz : Option Nat) (els : List CT) (es : List AV) : es.length ≤ maxLen → (∀ e ∈ es, e = mkElem sz e.cells ∧ e.cells.length = els.length) → (∀ e ∈ es, ∀ (i : Nat) (c : CT) (a : AV), els[i]? = some c → e.cells[i]? = some a → CTok c a) → CTok (.sl sz els) (.sl .any es)

def flds (f : TypeId → Option (List CT)) : Nat → List Field → Option (List CT)
  | _, [] => some []
  | o, fd :: fs => if fd.offset = o then (f fd.type).bind fun l => (flds f (o + l.length) fs).map fun r => l ++ r else none

def cts (P : Program) : Nat → TypeId → Option (List CT)
  | 0, _ => none
  | n + 1, t => match P.underlying t with
    | some .bool => some [.bool]
    | some (.int k) => some [.int k]
    | some .string => some [.str]
    | some (.slice e) => (szOf P e).bind fun sz => (cts P n e).bind fun l => if P.cellsOf e = sz.getD 1 ∧ l.length = sz.getD 1 then some [.sl sz l] else none
    | some (.struct fs) => (flds (cts P n) 0 fs.toList).bind fun l => if P.cellsOf t = l.length ∧ fs.toList.all (fun f => (cts P n f.type).any fun l => P.cellsOf f.type == l.length) then some l else none
    | some (.array k e) => (cts P n e).bind fun l => if P.cellsOf t = k * l.length ∧ P.cellsOf e = l.length then some (List.replicate k l).flatten else none
    | _ => none

/-- Cells and the trees that they hold. -/
def Held (G : Gh) (w : World) (l : List CT) (cs : List Value) (as : List AV) : Prop :=
  as.length = l.length ∧ cs.length = l.length ∧ ∀ (i : Nat) (c : CT) (a : AV) (v : Value), l[i]? = some c → as[i]? = some a → cs[i]? = some v → CTok c a ∧ VRel G w a v ∧ v.oneCell' = true

theorem Held.one {G : Gh} {w : World} {c : CT} {a : AV} {v : Value} (h1 : CTok c a) (h2 : VRel G w a v) (h3 : v.oneCell' = true) : Held G w [c] [v] [a] := by
  refine ⟨rfl, rfl, fun i c' a' v' hc ha hv => ?_⟩
  cases i with
  | zero => simp at hc ha hv; subst hc; subst ha; subst hv; exact ⟨h1, h2, h3⟩
  | succ i => simp at hc

theorem Held.app {G : Gh} {w : World} {l l' : List CT} {cs cs' : List Value} {as as' : List AV} (h : Held G w l cs as) (k : Held G w l' cs' as') : Held G w (l ++ l') (cs ++ cs') (as ++ as') := by
  obtain ⟨h1, h2, h3⟩ := h
  obtain ⟨k1, k2, k3⟩ := k
  refine ⟨by simp [h1, k1], by simp [h2, k2], fun i c a v hc ha hv => ?_⟩
  rcases Nat.lt_or_ge i l.length with hi | hi
  · rw [List.getElem?_append_left hi] at hc
    rw [List.getElem?_append_left (by omega)] at ha hv
    exact h3 i c a v hc ha hv
  · rw [List.getElem?_append_right hi] at hc
    rw [List.getElem?_append_right (by omega)] at ha hv
    rw [h1] at ha
    rw [h2] at hv
    exact k3 _ c a v hc ha hv

theorem Held.nil {G : Gh} {w : World} : Held G w [] [] [] := ⟨rfl, rfl, fun i c a v hc => by simp at hc⟩

section
variable {H : Type} {enc : TypeId × Value → H} {P : Program} {W : World}

theorem CTok.cells {c : CT} {a : AV} (h : CTok c a) : a.cells = [a] := by cases h <;> rfl

theorem take_more {α : Type} (l : List α) (o a b : Nat) : (l.drop o).take (a + b) = (l.drop o).take a ++ (l.drop (o + a)).take b := by
  rw [List.take_add, List.drop_drop]

theorem open_flds {f : TypeId → Option (List CT)} {cs : List Value} {g : TypeId → List Value → Bool} (hf : ∀ t l cs, f t = some l → g t cs = true → ∃ as, Held (G0 W) W l cs as) :
    ∀ (fs : List Field) (o : Nat) (l : List CT), flds f o fs = some l → (∀ fd ∈ fs, (f fd.type).any (fun l => P.cellsOf fd.type == l.length) = true ∧ g fd.type ((cs.drop fd.offset).take (P.cellsOf fd.type)) = true) → ∃ as, Held (G0 W) W l ((cs.drop o).take l.length) as
  | [], o, l, h, _ => by
    simp [flds] at h
    subst h
    exact ⟨[], by simpa using Held.nil⟩
  | fd :: fs, o, l, h, hg => by
    simp only [flds] at h
    split at h
    · rename_i ho
      simp only [Option.bind_eq_some_iff, Option.map_eq_some_iff] at h
      obtain ⟨l1, h1, r, h2, rfl⟩ := h
      obtain ⟨g1, g2⟩ := hg fd (by simp)
      rw [h1] at g1
      simp at g1
      rw [ho, g1] at g2
      obtain ⟨as1, k1⟩ := hf _ _ _ h1 g2
      obtain ⟨as2, k2⟩ := open_flds hf fs _ r h2 (fun fd hfd => hg fd (by simp [hfd]))
      refine ⟨as1 ++ as2, ?_⟩
      rw [List.length_append, take_more]
      exact k1.app k2
    · cases h

theorem open_row {el : List CT} {cs : List Value} : ∀ (k : Nat), (∀ i, i < k → ∃ as, Held (G0 W) W el ((cs.drop (i * el.length)).take el.length) as) → ∃ as, Held (G0 W) W (List.replicate k el).flatten (cs.take (k * el.length)) as
  | 0, _ => ⟨[], by simpa using Held.nil⟩
  | k + 1, h => by
    obtain ⟨as1, k1⟩ := open_row k (fun i hi => h i (by omega))
    obtain ⟨as2, k2⟩ := h k (by omega)
    refine ⟨as1 ++ as2, ?_⟩
    rw [List.replicate_succ', List.flatten_append, Nat.succ_mul]
    have := take_more cs 0 (k * el.length) el.length
    simp only [List.drop_zero, Nat.zero_add] at this
    rw [this]
    simpa using k1.app k2

/-- What is read of cells. -/
theorem open_cells : ∀ (n : Nat) (t : TypeId) (l : List CT), cts P n t = some l → ∀ (fuel : Nat) (cs : List Value) (x : DataW H × List MemPlace), DataW.trod enc P W 0 (fun _ => true) true fuel t cs = some x → ∃ as, Held (G0 W) W l cs as
  | 0, t, l, h, fuel, cs, x, hx => by simp [cts] at h
  | n + 1, t, l, h, fuel, cs, x, hx => by
    simp only [cts] at h
    split at h
    · rename_i hu
      injection h with h; subst h
      obtain ⟨b, rfl, _⟩ := DataW.trod_bool hu hx
      exact ⟨[.bool b], .one (.bool b) (.bool b) rfl⟩
    · rename_i k hu
      injection h with h; subst h
      obtain ⟨m, rfl, _, hw⟩ := DataW.trod_int hu hx
      simp only [Lit.wf, Bool.and_eq_true, decide_eq_true_eq] at hw
      exact ⟨[.int k m], .one (.int k m hw.1 hw.2) (.int k m) rfl⟩
    · rename_i hu
      injection h with h; subst h
      obtain ⟨s, rfl, _, hs⟩ := DataW.trod_string hu hx
      exact ⟨[.str s.data.toList], .one (.str _ (by simpa using hs)) (.str s) rfl⟩
    · rename_i e hu
      simp only [Option.bind_eq_some_iff] at h
      obtain ⟨sz, hsz, el, hel, h⟩ := h
      split at h
      · rename_i hc
        injection h with h; subst h
        obtain ⟨hc1, hc2⟩ := hc
        obtain ⟨_, hz, hpos⟩ := szOf_run hsz W
        rcases DataW.trod_slice hu hx with ⟨rfl, _⟩ | ⟨a, len, cap, elems, rest, m, _, rfl, rfl, hb, hl, hm, hlen, hel2, hsp, _⟩
        · exact ⟨[.sl .any []], .one (.sl _ _ [] (Nat.zero_le _) (by simp) (by simp)) (.slnil _ trivial) rfl⟩
        · by_cases hcap : cap = 0
          · subst hcap
            have : len = 0 := by omega
            subst this
            exact ⟨[.sl .any []], .one (.sl _ _ [] (Nat.zero_le _) (by simp) (by simp)) (.slz _ _ trivial) rfl⟩
          · have hidx : ∀ i, i < cap → ∃ cs' y, W.cells? 0 (a.add (i * P.cellsOf e)) (P.cellsOf e) = some cs' ∧ DataW.trod enc P W 0 (fun _ => true) true m e cs' = some y := by
              intro i hi
              have key : ∀ (z : Option (DataW H × List MemPlace)), z.isSome = true → (W.cells? 0 (a.add (i * P.cellsOf e)) (P.cellsOf e)).bind (DataW.trod enc P W 0 (fun _ => true) true m e) = z → ∃ cs' y, W.cells? 0 (a.add (i * P.cellsOf e)) (P.cellsOf e) = some cs' ∧ DataW.trod enc P W 0 (fun _ => true) true m e cs' = some y := by
                intro z hz hb
                obtain ⟨y, rfl⟩ := Option.isSome_iff_exists.1 hz
                obtain ⟨cs', h1, h2⟩ := Option.bind_eq_some_iff.1 hb
                exact ⟨cs', y, h1, h2⟩
              by_cases hil : i < len
              · exact key _ (by rw [List.getElem?_eq_getElem (by omega)]; rfl) (hel2 i hil)
              · obtain ⟨h1, h2⟩ := hsp rfl
                have := h2 (i - len) (by omega)
                rw [show len + (i - len) = i by omega] at this
                exact key _ (by rw [List.getElem?_eq_getElem (by omega)]; rfl) this
            obtain ⟨b, o, sp⟩ := a
            have hk : 0 < P.cellsOf e := by rw [hc1]; exact hpos
            have hspot : sp = none := by
              obtain ⟨cs', y, h1, h2⟩ := hidx 0 (by omega)
              obtain ⟨_, q2, q3⟩ := World.cells?_some h1
              have := q3 0 hk
              rw [List.getElem?_eq_getElem (by omega)] at this
              cases sp with
              | none => rfl
              | some s =>
                exfalso
                unfold World.cell? at this
                split at this <;> simp [Addr.add] at this
            subst hspot
            have hch : ∀ i, ∃ as : List AV, i < len → as.length = el.length ∧ ∀ (j : Nat) (c : CT) (x : AV), el[j]? = some c → as[j]? = some x → ∃ v, W.cell? ⟨b, o + (i * sz.getD 1 + j), none⟩ = some v ∧ CTok c x ∧ VRel (G0 W) W x v ∧ v.oneCell' = true := by
              intro i
              by_cases hi : i < len
              · obtain ⟨cs', y, h1, h2⟩ := hidx i (by omega)
                obtain ⟨_, q2, q3⟩ := World.cells?_some h1
                obtain ⟨as, ⟨r1, r2, r3⟩⟩ := open_cells n e el hel m cs' y h2
                refine ⟨as, fun _ => ⟨r1, fun j c x hc hx => ?_⟩⟩
                have hj : j < cs'.length := by have := (List.getElem?_eq_some_iff.1 hc).1; omega
                have h3 := q3 j (by omega)
                rw [List.getElem?_eq_getElem hj] at h3
                refine ⟨cs'[j], ?_, r3 j c x _ hc hx (List.getElem?_eq_getElem hj)⟩
                rw [← h3, Addr.add_lit, Addr.add_lit, hc1, Nat.add_assoc]
              · exact ⟨[], fun h => absurd h hi⟩
            obtain ⟨A, hA⟩ := Classical.axiomOfChoice hch
            have hcells : ∀ i, i < len → (mkElem sz (A i)).cells = A i := by
              intro i hi
              obtain ⟨r1, r2⟩ := hA i hi
              cases sz with
              | some k => rfl
              | none =>
                simp at hc2
                rw [hc2] at r1
                match hAi : A i, r1 with
                | [x], _ =>
                  obtain ⟨v, _, hct, _⟩ := r2 0 el[0] x (List.getElem?_eq_getElem (by omega)) (by rw [hAi]; rfl)
                  exact hct.cells
            have hsz : ∀ e ∈ (List.range len).map fun i => mkElem sz (A i), e.cells.length = sz.getD 1 := by
              intro e' he'
              obtain ⟨i, hi, rfl⟩ := List.mem_map.1 he'
              have hi' := List.mem_range.1 hi
              rw [hcells i hi', (hA i hi').1, hc2]
            have hflat : ∀ (j : Nat) (c : AV), (flat ((List.range len).map fun i => mkElem sz (A i)))[j]? = some c → ∃ i r, i < len ∧ j = i * sz.getD 1 + r ∧ (A i)[r]? = some c ∧ r < el.length := by
              intro j c hj
              have hjl := (List.getElem?_eq_some_iff.1 hj).1
              rw [flat_length hsz] at hjl
              simp only [List.length_map, List.length_range] at hjl
              have h1 : j / sz.getD 1 < len := by rw [Nat.div_lt_iff_lt_mul hpos]; exact hjl
              have h2 : j % sz.getD 1 < sz.getD 1 := Nat.mod_lt _ hpos
              have h3 : j = (j / sz.getD 1) * sz.getD 1 + j % sz.getD 1 := by rw [Nat.mul_comm]; exact (Nat.div_add_mod _ _).symm
              have h4 : (A (j / sz.getD 1))[j % sz.getD 1]? = some ((A (j / sz.getD 1))[j % sz.getD 1]'(by rw [(hA _ h1).1]; omega)) := List.getElem?_eq_getElem _
              have := flat_at (i := j / sz.getD 1) (e := mkElem sz (A (j / sz.getD 1))) hsz (by simp [h1]) (j % sz.getD 1) _ (by rw [hcells _ h1]; exact h4)
              rw [← h3, hj] at this
              refine ⟨_, _, h1, h3, ?_, by omega⟩
              rw [h4]
              exact this.symm
            refine ⟨[.sl .any ((List.range len).map fun i => mkElem sz (A i))], .one (.sl _ _ _ (by simp; omega) ?_ ?_) ?_ rfl⟩
            · intro e' he'
              obtain ⟨i, hi, rfl⟩ := List.mem_map.1 he'
              have hi' := List.mem_range.1 hi
              rw [hcells i hi', (hA i hi').1]
              exact ⟨rfl, rfl⟩
            · intro e' he' j c x hc hx
              obtain ⟨i, hi, rfl⟩ := List.mem_map.1 he'
              have hi' := List.mem_range.1 hi
              rw [hcells i hi'] at hx
              obtain ⟨v, _, h2, _⟩ := (hA i hi').2 j c x hc hx
              exact h2
            · have key := VRel.sl (G := G0 W) (w := W) .any ((List.range len).map fun i => mkElem sz (A i)) b o cap (sz.getD 1) (fun j => (W.cell? ⟨b, o + j, none⟩).getD undef) hsz (by simp; omega)
                (fun j c hj => by
                  obtain ⟨i, r, h1, h2, h3, h4⟩ := hflat j c hj
                  obtain ⟨v, h5, h6, h7, h8⟩ := (hA i h1).2 r el[r] c (List.getElem?_eq_getElem h4) h3
                  rw [← h2] at h5
                  rw [h5]
                  exact ⟨⟨v, h5⟩, rfl, h8⟩)
                (fun j c hj => by
                  obtain ⟨i, r, h1, h2, h3, h4⟩ := hflat j c hj
                  obtain ⟨v, h5, h6, h7, h8⟩ := (hA i h1).2 r el[r] c (List.getElem?_eq_getElem h4) h3
                  rw [← h2] at h5
                  rw [h5]
                  exact h7) trivial
              simp only [List.length_map, List.length_range] at key
              exact key
      · cases h
    · rename_i fs hu
      simp only [Option.bind_eq_some_iff] at h
      obtain ⟨l', hl', h⟩ := h
      split at h
      · rename_i hc
        injection h with h; subst h
        obtain ⟨xs, m, _, rfl, hcl, hxl, hxs⟩ := DataW.trod_struct hu hx
        obtain ⟨c1, c2⟩ := hc
        obtain ⟨as, k⟩ := open_flds (P := P) (W := W) (f := cts P n) (cs := cs) (g := fun t cs => (DataW.trod enc P W 0 (fun _ => true) true m t cs).isSome)
          (fun t l cs h1 h2 => by
            obtain ⟨y, hy⟩ := Option.isSome_iff_exists.1 h2
            exact open_cells n t l h1 m cs y hy) fs.toList 0 l' hl' (fun fd hfd => by
            refine ⟨List.all_eq_true.1 c2 fd hfd, ?_⟩
            obtain ⟨i, hi, rfl⟩ := List.mem_iff_getElem.1 hfd
            simp only [Array.length_toList] at hi
            have h3 : fs[i]? = some (fs.toList[i]) := by simp [hi]
            have := hxs i _ h3
            rw [this, List.getElem?_eq_getElem (by omega)]
            rfl)
        refine ⟨as, ?_⟩
        rw [List.drop_zero, List.take_of_length_le (by omega)] at k
        exact k
      · cases h
    · rename_i k e hu
      simp only [Option.bind_eq_some_iff] at h
      obtain ⟨el, hel, h⟩ := h
      split at h
      · rename_i hc
        injection h with h; subst h
        obtain ⟨xs, m, _, rfl, hcl, hxl, hxs⟩ := DataW.trod_array hu hx
        obtain ⟨c1, c2⟩ := hc
        obtain ⟨as, r⟩ := open_row (W := W) (el := el) (cs := cs) k (fun i hi => by
          have := hxs i hi
          rw [List.getElem?_eq_getElem (by omega), c2] at this
          exact open_cells n e el hel m _ _ this)
        refine ⟨as, ?_⟩
        rw [List.take_of_length_le (by omega)] at r
        exact r
      · cases h
    · cases h

/-- Cells of these types. -/
def Cells : List CT → List AV → Prop
  | [], [] => True
  | c :: l, a :: as => CTok c a ∧ Cells l as
  | _, _ => False
def ElemS (sz : Option Nat) (l : List CT) (a : AV) : Prop := ∃ as, a = mkElem sz as ∧ Cells l as
def Shape (P : Program) (t : TypeId) (a : AV) : Prop := ∃ sz l, szOf P t = some sz ∧ cts P 12 t = some l ∧ ElemS sz l a

theorem cells_of : ∀ {l : List CT} {as : List AV}, as.length = l.length → (∀ (i : Nat) (c : CT) (a : AV), l[i]? = some c → as[i]? = some a → CTok c a) → Cells l as
  | [], [], _, _ => trivial
  | c :: l, a :: as, h, k => ⟨k 0 c a rfl rfl, cells_of (by simpa using h) fun i c a hc ha => k (i + 1) c a (by simpa using hc) (by simpa using ha)⟩
  | [], _ :: _, h, _ => by simp at h
  | _ :: _, [], h, _ => by simp at h
theorem Shape.inv {P : Program} {t : TypeId} {a : AV} {sz : Option Nat} {l : List CT} (h : Shape P t a) (hs : szOf P t = some sz) (hc : cts P 12 t = some l) : ElemS sz l a := by
  obtain ⟨sz', l', h1, h2, h3⟩ := h
  rw [hs] at h1; rw [hc] at h2
  injection h1 with h1; injection h2 with h2
  subst h1; subst h2
  exact h3

def Shapes (P : Program) : List TypeId → List AV → Prop
  | [], [] => True
  | t :: ts, a :: as => Shape P t a ∧ Shapes P ts as
  | _, _ => False

theorem open_top {n : Nat} {t : TypeId} {sz : Option Nat} {l : List CT} {base : Nat} {v : Value} {d : DataW H} {p : List MemPlace} (hs : szOf P t = some sz) (hc : cts P n t = some l) (hv : Value.okWide P W .any base t v) (h : DataW.Trod enc P W 0 (fun _ => true) true t v d p) :
    ∃ as, as.length = l.length ∧ (∀ (i : Nat) (c : CT) (a : AV), l[i]? = some c → as[i]? = some a → CTok c a) ∧ VRel (G0 W) W (mkElem sz as) v := by
  obtain ⟨fuel, hf⟩ := h
  obtain ⟨as, h1, h2, h3⟩ := open_cells n t l hc fuel _ _ hf
  have hlt : ∀ (i : Nat), i < as.length → ∃ c a v', l[i]? = some c ∧ as[i]? = some a ∧ v.cells.toList[i]? = some v' := fun i hi => ⟨l[i], as[i], v.cells.toList[i], by simp [← h1, hi], by simp [hi], by simp⟩
  refine ⟨as, h1, fun i c a hc ha => ?_, ?_⟩
  · obtain ⟨c', a', v', k1, k2, k3⟩ := hlt i (List.getElem?_eq_some_iff.1 ha).1
    exact (h3 i c a v' hc ha k3).1
  · cases hu : P.underlying t with
    | none => cases n <;> simp [cts, hu] at hc
    | some u =>
      by_cases hag : (∃ fs, u = .struct fs) ∨ ∃ k e, u = .array k e
      · have hv' : ∃ cs, v = .agg cs := by
          rcases hag with ⟨fs, rfl⟩ | ⟨k, e, rfl⟩ <;> (simp only [Value.okWide, hu] at hv; obtain ⟨cs, rfl, _⟩ := hv; exact ⟨cs, rfl⟩)
        obtain ⟨cs, rfl⟩ := hv'
        have hsz : ∃ k, sz = some k := by
          unfold szOf at hs
          rcases hag with ⟨fs, rfl⟩ | ⟨k, e, rfl⟩ <;> (rw [hu] at hs; cases hi : P.info? t <;> simp [hi] at hs; exact ⟨_, hs.2.symm⟩)
        obtain ⟨k, rfl⟩ := hsz
        simp only [Value.cells] at h2 h3
        refine .agg as cs (by rw [h1, ← h2]; simp) (fun i v hv => ?_) (fun i c v hc hv => ?_)
        · have hi := (Array.getElem?_eq_some_iff.1 hv).1
          have hil : i < l.length := by rw [← h2]; simpa using hi
          exact (h3 i l[i] (as[i]'(by omega)) v (by simp [hil]) (by simp [h1, hil]) (by simpa using hv)).2.2
        · have hi := (List.getElem?_eq_some_iff.1 hc).1
          exact (h3 i (l[i]'(by omega)) c v (by simp [← h1, hi]) hc (by simpa using hv)).2.1
      · have hsz : sz = none := by
          unfold szOf at hs
          rw [hu] at hs
          cases hi : P.info? t with
          | none => simp [hi] at hs
          | some i =>
            cases u <;> simp [hi] at hs <;> first | exact hs.2.symm | exact absurd (.inl ⟨_, rfl⟩) hag | exact absurd (.inr ⟨_, _, rfl⟩) hag
        subst hsz
        have hvc : v.cells = #[v] := by
          cases v <;> first | rfl | skip
          exfalso
          simp only [Value.okWide, hu, Cell.okWide] at hv
          cases u <;> first | exact absurd (.inl ⟨_, rfl⟩) hag | exact absurd (.inr ⟨_, _, rfl⟩) hag | (simp [Cell.ok, hu] at hv)
        rw [hvc] at h2 h3
        match as, h1 with
        | [a], h1 =>
          exact (h3 0 (l[0]'(by simp at h2; omega)) a v (by simp) rfl rfl).2.1
        | [], h1 => simp at h1 h2; omega
        | _ :: _ :: _, h1 => simp at h1 h2; omega

theorem open_all : ∀ {ts : List TypeId} {vs : List Value} {ds : List (DataW H)} {ps : List MemPlace} {base : Nat}, (ts.all fun t => (szOf P t).isSome && (cts P 12 t).isSome) = true → DataW.TrodAll enc P W 0 (fun _ => true) true ts vs ds ps →
    (∀ (j : Nat) t v, ts[j]? = some t → vs[j]? = some v → Value.okWide P W .any base t v) → ∃ avs, ListRel (G0 W) W avs vs ∧ Shapes P ts avs
  | [], [], [], ps, base, _, h, _ => ⟨[], listRel_nil, trivial⟩
  | t :: ts, v :: vs, d :: ds, ps, base, ht, h, hv => by
    obtain ⟨p, q, h1, h2, _⟩ := h
    simp only [List.all_cons, Bool.and_eq_true] at ht
    obtain ⟨⟨t1, t2⟩, t3⟩ := ht
    obtain ⟨sz, hs⟩ := Option.isSome_iff_exists.1 t1
    obtain ⟨l, hc⟩ := Option.isSome_iff_exists.1 t2
    obtain ⟨as, k1, k2, k3⟩ := open_top hs hc (hv 0 t v rfl rfl) h1
    obtain ⟨avs, r1, r2⟩ := open_all (base := base) (by simpa using t3) h2 (fun j t v h1 h2 => hv (j + 1) t v (by simpa using h1) (by simpa using h2))
    exact ⟨_ :: avs, listRel_cons k3 r1, ⟨sz, l, hs, hc, as, rfl, cells_of k1 k2⟩, r2⟩
  | [], _ :: _, _, _, _, _, h, _ => by cases h
  | [], [], _ :: _, _, _, _, h, _ => by cases h
  | _ :: _, [], _, _, _, _, h, _ => by cases h
  | _ :: _, _ :: _, [], _, _, _, h, _ => by cases h
end

/-! Trees told as plain data. -/
theorem ctok_bool {a : AV} : CTok .bool a ↔ ∃ b, a = .bool b := ⟨fun h => by cases h; exact ⟨_, rfl⟩, fun ⟨b, h⟩ => h ▸ .bool b⟩
theorem ctok_int {k : IntKind} {a : AV} : CTok (.int k) a ↔ ∃ n, a = .int k n ∧ k.min ≤ n ∧ n ≤ k.max := ⟨fun h => by cases h; exact ⟨_, rfl, by assumption, by assumption⟩, fun ⟨n, h, h1, h2⟩ => h ▸ .int k n h1 h2⟩
theorem ctok_i64 {a : AV} (h : CTok (.int .i64) a) : ∃ n : Int, a = .int .i64 n ∧ -9223372036854775808 ≤ n ∧ n ≤ 9223372036854775807 := by
  obtain ⟨n, rfl, h1, h2⟩ := ctok_int.1 h
  exact ⟨n, rfl, h1, h2⟩
theorem ctok_i8 {a : AV} (h : CTok (.int .i8) a) : ∃ n : Int, a = .int .i8 n ∧ -128 ≤ n ∧ n ≤ 127 := by
  obtain ⟨n, rfl, h1, h2⟩ := ctok_int.1 h
  exact ⟨n, rfl, h1, h2⟩
theorem ctok_u8 {a : AV} (h : CTok (.int .u8) a) : ∃ b : UInt8, a = u8 b := by
  obtain ⟨n, rfl, h1, h2⟩ := ctok_int.1 h
  have h1' : 0 ≤ n := h1
  have h2' : n ≤ 255 := h2
  refine ⟨UInt8.ofNat n.toNat, ?_⟩
  simp only [u8, UInt8.toNat_ofNat']
  congr 1
  omega
theorem ctok_u32 {a : AV} (h : CTok (.int .u32) a) : ∃ r : BitVec 32, a = u32 r := by
  obtain ⟨n, rfl, h1, h2⟩ := ctok_int.1 h
  have h1' : 0 ≤ n := h1
  have h2' : n ≤ 4294967295 := h2
  refine ⟨BitVec.ofNat 32 n.toNat, ?_⟩
  simp only [u32, BitVec.toNat_ofNat]
  congr 1
  omega
theorem map_of {α : Type} {f : α → AV} {p : α → Prop} : ∀ {es : List AV}, (∀ e ∈ es, ∃ x, e = f x ∧ p x) → ∃ xs : List α, es = xs.map f ∧ ∀ x ∈ xs, p x
  | [], _ => ⟨[], rfl, by simp⟩
  | e :: es, h => by
    obtain ⟨x, rfl, hx⟩ := h e (by simp)
    obtain ⟨xs, rfl, hxs⟩ := map_of (es := es) (fun e he => h e (by simp [he]))
    exact ⟨x :: xs, rfl, by simpa using ⟨hx, hxs⟩⟩
theorem cells_get : ∀ {l : List CT} {as : List AV}, Cells l as → as.length = l.length ∧ ∀ (i : Nat) (c : CT) (a : AV), l[i]? = some c → as[i]? = some a → CTok c a
  | [], [], _ => ⟨rfl, fun i c a h => by simp at h⟩
  | c :: l, a :: as, h => by
    obtain ⟨h1, h2⟩ := cells_get h.2
    refine ⟨by simp [h1], fun i c' a' hc ha => ?_⟩
    cases i with
    | zero => simp at hc ha; subst hc; subst ha; exact h.1
    | succ i => exact h2 i c' a' (by simpa using hc) (by simpa using ha)
  | [], _ :: _, h => h.elim
  | _ :: _, [], h => h.elim
theorem ctok_sl {sz : Option Nat} {els : List CT} {a : AV} (h : CTok (.sl sz els) a) : ∃ es, a = .sl .any es ∧ es.length ≤ maxLen ∧ ∀ e ∈ es, ElemS sz els e := by
  cases h with
  | sl _ _ es h1 h2 h3 =>
    refine ⟨es, rfl, h1, fun e he => ?_⟩
    obtain ⟨k1, k2⟩ := h2 e he
    exact ⟨e.cells, k1, cells_of k2 (fun i c a hc ha => h3 e he i c a hc ha)⟩
theorem ctok_slOf {α : Type} {f : α → AV} {p : α → Prop} {sz : Option Nat} {els : List CT} {a : AV} (h : CTok (.sl sz els) a) (hf : ∀ e, ElemS sz els e → ∃ x, e = f x ∧ p x) : ∃ xs : List α, a = .sl .any (xs.map f) ∧ xs.length ≤ maxLen ∧ ∀ x ∈ xs, p x := by
  obtain ⟨es, rfl, h1, h2⟩ := ctok_sl h
  obtain ⟨xs, rfl, h3⟩ := map_of (fun e he => hf e (h2 e he))
  exact ⟨xs, rfl, by simpa using h1, h3⟩
theorem elem_1 {c : CT} {a : AV} (h : ElemS none [c] a) : CTok c a := by
  obtain ⟨as, rfl, h⟩ := h
  match as, h with
  | [x], h => exact h.1
  | [], h => exact h.elim
  | _ :: _ :: _, h => exact h.2.elim
theorem elem_k {k : Nat} {l : List CT} {a : AV} (h : ElemS (some k) l a) : ∃ as, a = .agg as ∧ Cells l as := h
theorem cells_cons {c : CT} {l : List CT} {as : List AV} (h : Cells (c :: l) as) : ∃ a as', as = a :: as' ∧ CTok c a ∧ Cells l as' := by
  match as, h with
  | a :: as', h => exact ⟨a, as', rfl, h.1, h.2⟩
  | [], h => exact h.elim
theorem cells_nil {as : List AV} (h : Cells [] as) : as = [] := by
  match as, h with
  | [], _ => rfl
  | _ :: _, h => exact h.elim
theorem ctok_bytes {a : AV} (h : CTok (.sl none [.int .u8]) a) : ∃ l : List UInt8, a = .sl .any (ofBytes l) ∧ l.length ≤ maxLen := by
  obtain ⟨xs, h1, h2, _⟩ := ctok_slOf (f := u8) (p := fun _ => True) h (fun e he => by
    obtain ⟨b, hb⟩ := ctok_u8 (elem_1 he)
    exact ⟨b, hb, trivial⟩)
  exact ⟨xs, h1, h2⟩
theorem shapes_cons {P : Program} {t : TypeId} {ts : List TypeId} {as : List AV} (h : Shapes P (t :: ts) as) : ∃ a as', as = a :: as' ∧ Shape P t a ∧ Shapes P ts as' := by
  match as, h with
  | a :: as', h => exact ⟨a, as', rfl, h.1, h.2⟩
  | [], h => exact h.elim
theorem shapes_nil {P : Program} {as : List AV} (h : Shapes P [] as) : as = [] := by
  match as, h with
  | [], _ => rfl
  | _ :: _, h => exact h.elim
theorem trodAll_len {H : Type} {enc : TypeId × Value → H} {P : Program} {W : World} : ∀ {ts : List TypeId} {vs : List Value} {ds : List (DataW H)} {ps : List MemPlace}, DataW.TrodAll enc P W 0 (fun _ => true) true ts vs ds ps → ds.length = ts.length
  | [], [], [], _, _ => rfl
  | t :: ts, v :: vs, d :: ds, _, h => by
    obtain ⟨p, q, _, h2, _⟩ := h
    simp [trodAll_len h2]
  | [], _ :: _, _, _, h => by cases h
  | [], [], _ :: _, _, h => by cases h
  | _ :: _, [], _, _, h => by cases h
  | _ :: _, _ :: _, [], _, h => by cases h
end Go.Am
