/- WireReads. -/
import Derived.Test.YtjceilhmgbdgiaaZAB
import Derived.Test.YtjceilhmgbdgiaaZMArgs
set_option linter.all false
namespace Go.Proofs.Ytjceilhmgbdgiaa
open Go.Am

theorem rdM_ws (s : RS) : (rdM s).1.ws.length ≤ 255 := by
  have hN : (rdN (rdH s)).1.ws = [] := by
    unfold rdN
    split <;> rfl
  unfold rdM
  generalize rdN (rdH s) = q at hN
  unfold rdT
  repeat' split
  all_goals first
    | exact rdWr_len _
    | (simp only; rw [hN]; simp)
theorem readM_ws (b : List UInt8) : (readM b).1.ws.length ≤ 255 := by
  have hL : ∀ l, (readL l).1.ws.length ≤ 255 := by
    intro l
    cases l with
    | nil => simp [readL, zM]
    | cons x t =>
      rw [readL]
      repeat' split
      all_goals first
        | exact rdM_ws _
        | (simp [zM])
  unfold readM
  split
  · exact hL _
  · simp [zM]
end Go.Proofs.Ytjceilhmgbdgiaa
