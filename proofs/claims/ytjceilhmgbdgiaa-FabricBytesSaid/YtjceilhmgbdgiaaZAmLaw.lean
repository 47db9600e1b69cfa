/- The abstract machine: from a reading of the arguments to what a law's call leaves. -/
import Derived.Test.YtjceilhmgbdgiaaZAmEval
import Derived.ProofKit
import Derived.ChangeSlices
set_option linter.all false
namespace Go.Am
open Go.ChangeShapes Go.WideShapes Go.ChangeAt Go.RowKit

/-- Of the old world: every cell stays as it is. -/
def G0 (W : World) : Gh := { rho := fun _ => none, imm := fun b o => ∃ v, W.cell? ⟨b, o, none⟩ = some v, tl := fun _ => none, tau := fun _ => none, base := W.heap.size, w0 := W }

theorem inv0 (W : World) : Inv (G0 W) W ⟨[], []⟩ where
  dom l B h := by cases h
  img l B h := by cases h
  inj l l' B h := by cases h
  blk l b h := by simp at h
  tl k := by simp [G0]
  tdom k i h := by cases h
  tinj k k' i i' h := by cases h
  cells b o h := h
  below := Below.refl _ _
  bsz := Nat.le_refl _

/-- What a law's call leaves: true, and whatever lay there before. -/
theorem law_calls {P : Program} {f : Nat} {args : List AV} {vs : Array Value} {W : World} (h : ∀ st, ASpec P f args st fun v st' => v = .bool true ∧ st' = st) (hv : ListRel (G0 W) W args vs.toList) :
    Calls P f vs W fun e W' => e = .returned (.bool true) ∧ Below W.heap.size W W' := by
  refine ((h ⟨[], []⟩).2 (G0 W) W vs (inv0 W) hv).mono fun e w' he => ?_
  cases e with
  | outgrown => exact he.elim
  | panicked c => exact he.elim
  | returned y =>
    obtain ⟨G', v, st', ⟨rfl, rfl⟩, i1, e1, v1, _⟩ := he
    cases v1
    have hb := i1.below
    rw [e1.base, e1.w0] at hb
    exact ⟨rfl, hb⟩

section
variable {H : Type} {enc : TypeId × Value → H} {P : Program} {W : World} {base : Nat} {t e : TypeId} {v : Value} {d : DataW H} {p : List MemPlace}

theorem okWide_slice0 (ht : P.underlying t = some (.slice e)) (h : Value.okWide P W .any base t v) : v = .slice none 0 0 ∨ ∃ b o len cap, v = .slice (some ⟨b, o, none⟩) len cap ∧ len ≤ cap := by
  simp only [Value.okWide, ht, Cell.okWide] at h
  cases v <;> simp [Cell.ok, ht] at h
  rename_i a len cap
  cases a with
  | none =>
    cases len <;> cases cap <;> simp_all
  | some a =>
    obtain ⟨b, o, s⟩ := a
    simp only [World.has] at h
    obtain ⟨h1, _, _, rfl, _⟩ := h
    exact .inr ⟨b, o, len, cap, rfl, h1⟩

/-- A slice of bytes. -/
theorem open_bytes (ht : P.underlying t = some (.slice e)) (he : P.underlying e = some (.int .u8)) (hc : P.cellsOf e = 1) (hv : Value.okWide P W .any base t v) (h : DataW.Trod enc P W 0 (fun _ => true) true t v d p) :
    ∃ l : List UInt8, VRel (G0 W) W (.sl .any (ofBytes l)) v ∧ l.length ≤ maxLen := by
  obtain ⟨fuel, hf⟩ := h
  rcases okWide_slice0 ht hv with rfl | ⟨b, o, len, cap, rfl, hlc⟩
  · exact ⟨[], .slnil _ trivial, Nat.zero_le _⟩
  · rcases open_ints ht he hc hf with ⟨hcs, hx⟩ | ⟨a, len', cap', zs, hcs, _, hl, hm, hz, hx, hcell, hwz⟩
    · simp [Value.cells] at hcs
    · simp [Value.cells] at hcs
      obtain ⟨rfl, rfl, rfl⟩ := hcs
      simp only [if_true] at hz
      have hr : ∀ n ∈ zs, 0 ≤ n ∧ n ≤ 255 := fun n hn => by
        have := hwz n hn
        simp only [Lit.wf, Bool.and_eq_true, decide_eq_true_eq] at this
        exact this
      let l : List UInt8 := (zs.take len).map fun n => UInt8.ofNat n.toNat
      have hlen : l.length = len := by simp [l]; omega
      have hfl : flat (ofBytes l) = ofBytes l := flat_ofBytes l
      have hget : ∀ (j : Nat) (c : AV), (flat (ofBytes l))[j]? = some c → j < len ∧ c = .int .u8 (zs.getD j 0) := by
        intro j c hj
        rw [hfl, ofBytes, List.getElem?_map] at hj
        obtain ⟨u, hu, rfl⟩ := Option.map_eq_some_iff.1 hj
        have hjl : j < len := by have := (List.getElem?_eq_some_iff.1 hu).1; omega
        refine ⟨hjl, ?_⟩
        have hz' : j < zs.length := by omega
        simp only [l, List.getElem?_map, List.getElem?_take_of_lt hjl, List.getElem?_eq_getElem hz', Option.map_some, Option.some.injEq] at hu
        subst hu
        have h1 := hr zs[j] (List.getElem_mem hz')
        simp only [List.getD, List.getElem?_eq_getElem hz', Option.getD_some, AV.int.injEq, true_and, UInt8.toNat_ofNat']
        omega
      refine ⟨l, ?_, by omega⟩
      have key := VRel.sl (G := G0 W) (w := W) .any (ofBytes l) b o cap 1 (fun j => .int .u8 (zs.getD j 0)) (by simp [ofBytes]) (by simp; omega)
        (fun j c hj => by
          obtain ⟨h1, h2⟩ := hget j c hj
          have hcj := hcell j (by omega)
          rw [Addr.add_lit] at hcj
          exact ⟨⟨_, hcj⟩, hcj, rfl⟩)
        (fun j c hj => by
          obtain ⟨h1, rfl⟩ := hget j c hj
          exact .int _ _) trivial
      simp only [ofBytes_length, hlen] at key
      exact key

theorem open_int_av {k : IntKind} (ht : P.underlying t = some (.int k)) (hv : Value.okWide P W .any base t v) : ∃ n, VRel (G0 W) W (.int k n) v := by
  obtain ⟨n, rfl⟩ := okWide_int ht hv
  exact ⟨n, .int _ _⟩
end

theorem listRel_nil {G : Gh} {w : World} : ListRel G w [] [] := ⟨rfl, fun i c v h => by simp at h⟩
theorem listRel_cons {G : Gh} {w : World} {x : AV} {y : Value} {xs : List AV} {ys : List Value} (h : VRel G w x y) (hs : ListRel G w xs ys) : ListRel G w (x :: xs) (y :: ys) := by
  refine ⟨by simp [hs.1], fun i c v hc hv => ?_⟩
  cases i with
  | zero => simp at hc hv; subst hc; subst hv; exact h
  | succ i => exact hs.2 i c v (by simpa using hc) (by simpa using hv)

/-- All arguments read as they did. -/
theorem trodAll_below {H : Type} {enc : TypeId × Value → H} {P : Program} {W W' : World} (hl : laidOutB P = true) (hb : Below W.heap.size W W') : ∀ {ts : List TypeId} {vs : List Value} {ds : List (DataW H)} {ps : List MemPlace},
    (ts.all fun t => P.readableRec t && decide (t < P.types.size)) = true → DataW.TrodAll enc P W 0 (fun _ => true) true ts vs ds ps → (∀ x ∈ ps, x.block < W.heap.size) → DataW.TrodAll enc P W' 0 (fun b => decide (b < W.heap.size)) true ts vs ds ps
  | [], [], [], ps, _, h, _ => h
  | t :: ts, v :: vs, d :: ds, ps, ht, h, hlt => by
    obtain ⟨p, q, h1, h2, rfl⟩ := h
    simp only [List.all_cons, Bool.and_eq_true, decide_eq_true_eq] at ht
    refine ⟨p, q, Below.trod hl ht.1.1 ht.1.2 h1 hb (fun x hx => hlt x (by simp [hx])), trodAll_below hl hb (by simpa using ht.2) h2 (fun x hx => hlt x (by simp [hx])), rfl⟩
  | [], _ :: _, _, _, _, h, _ => by cases h
  | [], [], _ :: _, _, _, h, _ => by cases h
  | _ :: _, [], _, _, _, h, _ => by cases h
  | _ :: _, _ :: _, [], _, _, h, _ => by cases h
end Go.Am
