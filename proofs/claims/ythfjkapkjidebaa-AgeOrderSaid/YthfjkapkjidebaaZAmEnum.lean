/- A drawn region with few orders: each of them is walked. -/
import Derived.Test.YthfjkapkjidebaaZAmStat2
set_option linter.all false
namespace Go.Am

def ordGo (deps : List (List Nat)) : Nat → List Nat → List (List Nat)
  | 0, acc => [acc.reverse]
  | n + 1, acc => ((List.range deps.length).filter fun i => !acc.contains i && (deps.getD i []).all fun j => acc.contains j).flatMap fun i => ordGo deps n (i :: acc)
def ordersOf (deps : List (List Nat)) : List (List Nat) := ordGo deps deps.length []

theorem mem_ordGo {deps : List (List Nat)} {l : List Nat} (h : Valid deps l) : ∀ (n : Nat) (acc rest : List Nat), l = acc.reverse ++ rest → rest.length = n → l ∈ ordGo deps n acc
  | 0, acc, rest, hl, hn => by
    have : rest = [] := List.length_eq_zero_iff.1 hn
    subst this
    simp [ordGo, hl]
  | n + 1, acc, rest, hl, hn => by
    cases rest with
    | nil => simp at hn
    | cons i rest =>
      have hnd : l.Nodup := (h.perm.nodup_iff).2 List.nodup_range
      have hp : l[acc.length]? = some i := by
        rw [hl, List.getElem?_append_right (by simp)]
        simp
      have hi : i < deps.length := by
        have := h.perm.mem_iff.1 (List.mem_of_getElem? hp)
        simpa using this
      have hacc : ∀ q j, q < acc.length → l[q]? = some j → j ∈ acc := by
        intro q j hq hj
        rw [hl, List.getElem?_append_left (by simpa using hq)] at hj
        have := List.mem_of_getElem? hj
        simpa using this
      simp only [ordGo, List.mem_flatMap, List.mem_filter, List.mem_range, Bool.and_eq_true, Bool.not_eq_true', List.all_eq_true]
      refine ⟨i, ⟨hi, ?_, fun j hj => ?_⟩, mem_ordGo h n (i :: acc) rest (by simp [hl]) (by simpa using hn)⟩
      · rw [← Bool.not_eq_true, List.contains_iff_mem]
        intro hm
        rw [hl] at hnd
        have := (List.nodup_append.1 hnd).2.2 i (by simpa using hm) i (by simp)
        exact this rfl
      · have hd : deps[i]? = some (deps.getD i []) := by simp [List.getD, hi]
        obtain ⟨q, hq, hjq⟩ := h.before acc.length i j _ hp hd hj
        rw [List.contains_iff_mem]
        exact hacc q j hq hjq

theorem mem_orders {deps : List (List Nat)} {l : List Nat} (h : Valid deps l) : l ∈ ordersOf deps :=
  mem_ordGo h deps.length [] l rfl (by have := h.perm.length_eq; simpa using this)

/-- All of some orders. -/
def allR (C : Calls1) (is : List AIns) (env : Env) (st : St) (K : Env → St → Prop) : List (List Nat) → Prop
  | [] => True
  | l :: ls => runI C K (l.map fun i => is.getD i default) env st ∧ allR C is env st K ls
theorem allR_mem {C : Calls1} {is : List AIns} {env : Env} {st : St} {K : Env → St → Prop} : ∀ {L : List (List Nat)}, allR C is env st K L → ∀ l ∈ L, runI C K (l.map fun i => is.getD i default) env st
  | [], _, l, h => by simp at h
  | x :: L, ha, l, h => by
    rcases List.mem_cons.1 h with rfl | h
    · exact ha.1
    · exact allR_mem ha.2 l h
theorem region_enum {C : Calls1} {is : List AIns} {deps : List (List Nat)} {env : Env} {st : St} {K : Exit → Env → St → Prop} (L : List (List Nat)) (hL : ordersOf deps = L) (h : allR C is env st (regK K) L) : awC C (.region is (some deps)) env st K :=
  fun l hl => allR_mem h l (hL ▸ mem_orders hl)
@[simp] theorem allR_nil (C : Calls1) (is : List AIns) (env : Env) (st : St) (K : Env → St → Prop) : allR C is env st K [] = True := (rfl)
@[simp] theorem allR_cons (C : Calls1) (is : List AIns) (env : Env) (st : St) (K : Env → St → Prop) (l : List Nat) (ls : List (List Nat)) : allR C is env st K (l :: ls) = (runI C K (l.map fun i => is.getD i default) env st ∧ allR C is env st K ls) := (rfl)
end Go.Am
