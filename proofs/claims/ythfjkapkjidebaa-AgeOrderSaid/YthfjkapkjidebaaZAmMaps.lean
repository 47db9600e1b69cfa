/- The abstract machine's maps, told by keys in the order in which they came, and values: maps that lose no key. -/
import Derived.Test.YthfjkapkjidebaaZAmEnum
set_option linter.all false
namespace Go.Am

set_option linter.unusedSectionVars false
section
variable {α : Type} [DecidableEq α]

/-- Keys in their order, and what they stand for. -/
def encM (enc : α → AV) (ks : List α) (val : α → AV) : List (AV × AV × Nat) := ks.mapIdx fun j k => (enc k, val k, j)
def encAt (enc : α → AV) (n : Nat) : List α → (α → AV) → List (AV × AV × Nat)
  | [], _ => []
  | k :: ks, val => (enc k, val k, n) :: encAt enc (n + 1) ks val

/-- Are keys compared as what they stand for? -/
def KeyOf (kk : KeyK) (enc : α → AV) : Prop := ∀ a b, keyEqA kk (enc a) (enc b) = some (decide (a = b))

theorem encAt_eq (enc : α → AV) (val : α → AV) : ∀ (ks : List α) (n : Nat), encAt enc n ks val = ks.mapIdx fun j k => (enc k, val k, n + j)
  | [], n => rfl
  | k :: ks, n => by
    rw [encAt, List.mapIdx_cons, encAt_eq enc val ks (n + 1)]
    congr 1
    congr 1
    funext j k
    rw [Nat.add_assoc, Nat.add_comm 1 j]
theorem encM_eq (enc : α → AV) (ks : List α) (val : α → AV) : encM enc ks val = encAt enc 0 ks val := by
  rw [encAt_eq]
  simp [encM]
@[simp] theorem encM_nil (enc : α → AV) (val : α → AV) : encM enc [] val = [] := rfl
@[simp] theorem encM_length (enc : α → AV) (ks : List α) (val : α → AV) : (encM enc ks val).length = ks.length := by simp [encM]
theorem encM_get (enc : α → AV) (ks : List α) (val : α → AV) (i : Nat) : (encM enc ks val)[i]? = ks[i]?.map fun k => (enc k, val k, i) := by simp [encM]
theorem encM_snoc (enc : α → AV) (ks : List α) (val : α → AV) (k : α) (v : AV) (h : k ∉ ks) : encM enc ks val ++ [(enc k, v, ks.length)] = encM enc (ks ++ [k]) fun x => if x = k then v else val x := by
  apply List.ext_getElem?
  intro i
  rw [encM_get]
  by_cases hi : i < ks.length
  · rw [List.getElem?_append_left (by simpa using hi), List.getElem?_append_left hi, encM_get]
    rw [List.getElem?_eq_getElem hi]
    have : ks[i] ≠ k := fun e => h (e ▸ List.getElem_mem hi)
    simp [this]
  · rw [List.getElem?_append_right (by simpa using hi), List.getElem?_append_right (by omega)]
    by_cases hz : i = ks.length
    · subst hz; simp
    · have : i - ks.length = (i - ks.length - 1) + 1 := by omega
      rw [encM_length, this]
      simp
theorem encM_set (enc : α → AV) (ks : List α) (val : α → AV) (i : Nat) (k : α) (v : AV) (hk : ks[i]? = some k) (hn : ks.Nodup) : (encM enc ks val).set i (enc k, v, i) = encM enc ks fun x => if x = k then v else val x := by
  apply List.ext_getElem?
  intro j
  rw [List.getElem?_set, encM_get, encM_get]
  have hlt := (List.getElem?_eq_some_iff.1 hk).1
  by_cases hj : i = j
  · subst hj
    rw [hk]
    simp [hlt]
  · rw [if_neg hj]
    cases hkj : ks[j]? with
    | none => rfl
    | some x =>
      have : x ≠ k := by
        intro e
        subst e
        exact hj ((List.getElem?_inj hlt hn).1 (hk.trans hkj.symm))
      simp [this]
theorem encM_congr (enc : α → AV) (ks : List α) {val val' : α → AV} (h : ∀ k ∈ ks, val k = val' k) : encM enc ks val = encM enc ks val' := by
  apply List.ext_getElem?
  intro j
  rw [encM_get, encM_get]
  cases hkj : ks[j]? with
  | none => rfl
  | some x => simp [h x (List.mem_of_getElem? hkj)]

theorem findA_at {kk : KeyK} {enc : α → AV} (he : KeyOf kk enc) (val : α → AV) (k : α) : ∀ (ks : List α) (n : Nat), findA kk (enc k) (encAt enc n ks val) = some (ks.idxOf? k)
  | [], n => rfl
  | x :: ks, n => by
    rw [encAt, findA, he k x]
    by_cases h : k = x
    · subst h
      simp [List.idxOf?_cons]
    · have hx : ¬ x = k := fun e => h e.symm
      simp [h, findA_at he val k ks (n + 1), List.idxOf?_cons, hx]
theorem findA_enc {kk : KeyK} {enc : α → AV} (he : KeyOf kk enc) (val : α → AV) (k : α) (ks : List α) : findA kk (enc k) (encM enc ks val) = some (ks.idxOf? k) := by
  rw [encM_eq, findA_at he]
theorem idx_none {ks : List α} {k : α} (h : k ∉ ks) : ks.idxOf? k = none := by
  rw [List.idxOf?_eq_none_iff]
  exact h
theorem idx_some {ks : List α} {k : α} (h : k ∈ ks) : ∃ i, ks.idxOf? k = some i ∧ ks[i]? = some k := by
  cases hi : ks.idxOf? k with
  | none => exact absurd h (List.idxOf?_eq_none_iff.1 hi)
  | some i =>
    refine ⟨i, rfl, ?_⟩
    obtain ⟨h1, h2, _⟩ := List.idxOf?_eq_some_iff.1 hi
    exact List.getElem?_eq_some_iff.2 ⟨h1, h2⟩
theorem key_ok {kk : KeyK} {enc : α → AV} (he : KeyOf kk enc) (k : α) : (keyEqA kk (enc k) (enc k)).isSome = true := by rw [he k k]; rfl
theorem getA_enc {kk : KeyK} {enc : α → AV} (he : KeyOf kk enc) (z : AV) (ok : Bool) (ks : List α) (val : α → AV) (k : α) : getA kk z ok (encM enc ks val) (enc k) = some (mapRes ok (decide (k ∈ ks)) (if k ∈ ks then val k else z)) := by
  rw [getA, key_ok he, if_neg (by simp), findA_enc he]
  by_cases h : k ∈ ks
  · obtain ⟨i, h1, h2⟩ := idx_some h
    rw [h1]
    simp [encM_get, h2, h]
  · rw [idx_none h]
    simp [h]
theorem getA_nil {kk : KeyK} {enc : α → AV} (he : KeyOf kk enc) (z : AV) (ok : Bool) (k : α) : getA kk z ok [] (enc k) = some (mapRes ok false z) := by
  rw [getA, key_ok he, if_neg (by simp)]
  rfl
theorem setA_enc {kk : KeyK} {enc : α → AV} (he : KeyOf kk enc) (ks : List α) (val : α → AV) (hn : ks.Nodup) (k : α) (v : AV) :
    setA kk (encM enc ks val, ks.length) (enc k) v = some (encM enc (if k ∈ ks then ks else ks ++ [k]) (fun x => if x = k then v else val x), (if k ∈ ks then ks else ks ++ [k]).length) := by
  rw [setA, key_ok he, if_neg (by simp), findA_enc he]
  by_cases h : k ∈ ks
  · obtain ⟨i, h1, h2⟩ := idx_some h
    rw [h1]
    simp [encM_get, h2, h, encM_set enc ks val i k v h2 hn]
  · rw [idx_none h]
    simp [h, encM_snoc enc ks val k v h]
theorem entA_in {kk : KeyK} {enc : α → AV} (he : KeyOf kk enc) (z : AV) (ks : List α) (val : α → AV) (hn : ks.Nodup) {k : α} {i : Nat} (hi : ks.idxOf? k = some i) (hk : ks[i]? = some k) :
    entA kk z (encM enc ks val, ks.length) (enc k) = some (.tup [val k, .int .i64 i], encM enc ks val, ks.length) := by
  rw [entA, key_ok he, if_neg (by simp), findA_enc he, hi]
  have : (fun x => if x = k then val k else val x) = val := by
    funext x
    split
    · rename_i h; rw [h]
    · rfl
  simp [encM_get, hk, encM_set enc ks val i k (val k) hk hn, this]
theorem entA_out {kk : KeyK} {enc : α → AV} (he : KeyOf kk enc) (z : AV) (ks : List α) (val : α → AV) {k : α} (h : k ∉ ks) :
    entA kk z (encM enc ks val, ks.length) (enc k) = some (.tup [z, .int .i64 ks.length], encM enc (ks ++ [k]) (fun x => if x = k then z else val x), ks.length + 1) := by
  rw [entA, key_ok he, if_neg (by simp), findA_enc he, idx_none h]
  simp [encM_snoc enc ks val k z h]
theorem bornA_at (enc : α → AV) (val : α → AV) : ∀ (ks : List α) (n i : Nat), i < ks.length → bornA ((n + i : Nat) : Int) (encAt enc n ks val) = some i
  | [], n, i, h => by simp at h
  | x :: ks, n, i, h => by
    rw [encAt, bornA]
    cases i with
    | zero => simp
    | succ i =>
      have := bornA_at enc val ks (n + 1) i (by simpa using h)
      have hne : ¬ ((n : Nat) : Int) = ((n + (i + 1) : Nat) : Int) := by omega
      simp only [hne, if_false]
      rw [show n + (i + 1) = n + 1 + i by omega, this]
      rfl
theorem bornA_enc (enc : α → AV) (ks : List α) (val : α → AV) (i : Nat) (h : i < ks.length) : bornA (i : Int) (encM enc ks val) = some i := by
  have := bornA_at enc val ks 0 i h
  rw [Nat.zero_add] at this
  rw [encM_eq, this]
end
end Go.Am
