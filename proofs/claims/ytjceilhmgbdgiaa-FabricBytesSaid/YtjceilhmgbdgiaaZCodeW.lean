/- The functions' code for the abstract machine, printed by wip/tools/Gen.lean. -/
import Derived.Test.YtjceilhmgbdgiaaProg
import Derived.Test.YtjceilhmgbdgiaaZAmEval
import Derived.KernelRfl
set_option linter.all false
namespace Go.Proofs.Ytjceilhmgbdgiaa
open Go.Am

/-- cashbox/cashboxref15.Great -/
def c14 : ACode :=
 (.seq (.region [⟨(.prim (.boxR (some 24))), [.tmp 0], (some 1), none⟩,
  ⟨(.prim .id), [.const (.bool false)], (some 2), none⟩] none)
 (.seq (.region [⟨(.prim (.fieldAddr 23 none)), [.tmp 1], (some 3), none⟩,
  ⟨(.prim (.load none)), [.tmp 3], (some 4), none⟩,
  ⟨(.prim .len), [.tmp 4], (some 5), none⟩,
  ⟨(.prim (.bin .gtr .none)), [.tmp 5, .const (.int .i64 40)], (some 6), none⟩,
  ⟨(.prim .id), [.tmp 6], (some 2), none⟩] none)
 .ret))
theorem F14 : IsFun Try.prog 14 1 7 c14 [.tmp 2] := ⟨by decide, Try.f14, _, [1], Try.func14, rfl, by decide, rfl, by kernel_rfl, by kernel_rfl⟩

/-- cashbox/cashboxref15.May -/
def c25 : ACode :=
 (.seq (.region [⟨(.prim (.boxR (some 24))), [.tmp 0], (some 1), none⟩,
  ⟨(.prim .id), [.const (.bool false)], (some 2), none⟩] none)
 (.seq (.seq (.region [⟨(.prim (.fieldAddr 0 none)), [.tmp 1], (some 3), none⟩,
  ⟨(.prim (.load none)), [.tmp 3], (some 4), none⟩,
  ⟨(.prim (.bin .lss .none)), [.tmp 4, .const (.int .i8 1)], (some 5), none⟩,
  ⟨(.prim .id), [.tmp 5], (some 6), none⟩,
  ⟨(.prim (.fieldAddr 0 none)), [.tmp 1], (some 7), (some (6, false))⟩,
  ⟨(.prim (.load none)), [.tmp 7], (some 8), (some (6, false))⟩,
  ⟨(.prim (.bin .gtr .none)), [.tmp 8, .const (.int .i8 11)], (some 9), (some (6, false))⟩,
  ⟨(.prim .pick), [.tmp 6, .const (.bool true), .tmp 9], (some 10), none⟩,
  ⟨(.prim .id), [.tmp 10], (some 11), none⟩,
  ⟨(.prim (.load (some 24))), [.tmp 1], (some 12), (some (11, false))⟩,
  ⟨(.prim (.load (some 24))), [.tmp 1], (some 13), (some (11, false))⟩,
  ⟨(.call 77), [.tmp 13], (some 14), (some (11, false))⟩,
  ⟨(.call 44), [.tmp 12, .tmp 14], (some 15), (some (11, false))⟩,
  ⟨(.prim (.un .not)), [.tmp 15], (some 16), (some (11, false))⟩,
  ⟨(.prim .pick), [.tmp 11, .const (.bool true), .tmp 16], (some 17), none⟩,
  ⟨(.prim .id), [.tmp 17], (some 18), none⟩,
  ⟨(.prim (.fieldAddr 1 none)), [.tmp 1], (some 19), (some (18, false))⟩,
  ⟨(.prim (.load none)), [.tmp 19], (some 20), (some (18, false))⟩,
  ⟨(.prim (.bin .lss .none)), [.tmp 20, .const (.int .i64 0)], (some 21), (some (18, false))⟩,
  ⟨(.prim .pick), [.tmp 18, .const (.bool true), .tmp 21], (some 22), none⟩,
  ⟨(.prim .id), [.tmp 22], (some 23), none⟩,
  ⟨(.prim (.fieldAddr 1 none)), [.tmp 1], (some 24), (some (23, false))⟩,
  ⟨(.prim (.load none)), [.tmp 24], (some 25), (some (23, false))⟩,
  ⟨(.prim (.bin .gtr .none)), [.tmp 25, .const (.int .i64 4)], (some 26), (some (23, false))⟩,
  ⟨(.prim .pick), [.tmp 23, .const (.bool true), .tmp 26], (some 27), none⟩,
  ⟨(.prim .id), [.tmp 27], (some 28), none⟩,
  ⟨(.prim (.fieldAddr 2 none)), [.tmp 1], (some 29), (some (28, false))⟩,
  ⟨(.prim (.load none)), [.tmp 29], (some 30), (some (28, false))⟩,
  ⟨(.prim (.bin .lss .none)), [.tmp 30, .const (.int .i64 0)], (some 31), (some (28, false))⟩,
  ⟨(.prim .pick), [.tmp 28, .const (.bool true), .tmp 31], (some 32), none⟩,
  ⟨(.prim .id), [.tmp 32], (some 33), none⟩,
  ⟨(.prim (.fieldAddr 2 none)), [.tmp 1], (some 34), (some (33, false))⟩,
  ⟨(.prim (.load none)), [.tmp 34], (some 35), (some (33, false))⟩,
  ⟨(.prim (.bin .gtr .none)), [.tmp 35, .const (.int .i64 4)], (some 36), (some (33, false))⟩,
  ⟨(.prim .pick), [.tmp 33, .const (.bool true), .tmp 36], (some 37), none⟩,
  ⟨(.prim .id), [.tmp 37], (some 38), none⟩,
  ⟨(.prim (.fieldAddr 1 none)), [.tmp 1], (some 39), (some (38, false))⟩,
  ⟨(.prim (.load none)), [.tmp 39], (some 40), (some (38, false))⟩,
  ⟨(.prim (.bin .eql .none)), [.tmp 40, .const (.int .i64 0)], (some 41), (some (38, false))⟩,
  ⟨(.prim (.fieldAddr 2 none)), [.tmp 1], (some 42), (some (38, false))⟩,
  ⟨(.prim (.load none)), [.tmp 42], (some 43), (some (38, false))⟩,
  ⟨(.prim (.bin .eql .none)), [.tmp 43, .const (.int .i64 0)], (some 44), (some (38, false))⟩,
  ⟨(.prim (.bin .eql .bool)), [.tmp 41, .tmp 44], (some 45), (some (38, false))⟩,
  ⟨(.prim .pick), [.tmp 38, .const (.bool true), .tmp 45], (some 46), none⟩,
  ⟨(.prim .id), [.tmp 46], (some 47), none⟩,
  ⟨(.prim (.fieldAddr 0 none)), [.tmp 1], (some 48), (some (47, false))⟩,
  ⟨(.prim (.load none)), [.tmp 48], (some 49), (some (47, false))⟩,
  ⟨(.call 78), [.tmp 49], (some 50), (some (47, false))⟩,
  ⟨(.prim (.fieldAddr 1 none)), [.tmp 1], (some 51), (some (47, false))⟩,
  ⟨(.prim (.load none)), [.tmp 51], (some 52), (some (47, false))⟩,
  ⟨(.prim (.bin .eql .none)), [.tmp 52, .const (.int .i64 0)], (some 53), (some (47, false))⟩,
  ⟨(.prim (.bin .neq .bool)), [.tmp 50, .tmp 53], (some 54), (some (47, false))⟩,
  ⟨(.prim .pick), [.tmp 47, .const (.bool true), .tmp 54], (some 55), none⟩] (some [[], [0], [1], [2], [3], [4, 3], [5, 3], [3, 6], [7, 3], [8], [8], [10, 8, 8], [9, 11, 11, 8], [12, 8], [8, 13], [14, 12], [15], [16, 15], [17, 15], [15, 18], [19, 15], [20], [21, 20], [22, 20], [20, 23], [24, 20], [25], [26, 25], [27, 25], [25, 28], [29, 25], [30], [31, 30], [32, 30], [30, 33], [34, 30], [35], [36, 35], [37, 35], [35], [39, 35], [40, 35], [38, 41, 35], [35, 42], [43, 35], [44], [45, 44], [46, 44, 44], [44], [48, 44], [49, 44], [47, 50, 44], [44, 51]]))
 (.cond (.tmp 55)
  (.seq (.region [⟨(.prim .id), [.const (.bool false)], (some 2), none⟩] none)
  .ret)
  .skip))
 (.seq (.seq (.region [⟨(.prim (.fieldAddr 3 none)), [.tmp 1], (some 56), none⟩,
  ⟨(.prim (.load none)), [.tmp 56], (some 57), none⟩,
  ⟨(.prim (.bin .lss .none)), [.tmp 57, .const (.int .i64 1)], (some 58), none⟩,
  ⟨(.prim .id), [.tmp 58], (some 59), none⟩,
  ⟨(.prim (.fieldAddr 3 none)), [.tmp 1], (some 60), (some (59, false))⟩,
  ⟨(.prim (.load none)), [.tmp 60], (some 61), (some (59, false))⟩,
  ⟨(.prim (.bin .gtr .none)), [.tmp 61, .const (.int .i64 1048576)], (some 62), (some (59, false))⟩,
  ⟨(.prim .pick), [.tmp 59, .const (.bool true), .tmp 62], (some 63), none⟩,
  ⟨(.prim .id), [.tmp 63], (some 64), none⟩,
  ⟨(.prim (.fieldAddr 4 none)), [.tmp 1], (some 65), (some (64, false))⟩,
  ⟨(.prim (.load none)), [.tmp 65], (some 66), (some (64, false))⟩,
  ⟨(.prim (.bin .lss .none)), [.tmp 66, .const (.int .i64 0)], (some 67), (some (64, false))⟩,
  ⟨(.prim .pick), [.tmp 64, .const (.bool true), .tmp 67], (some 68), none⟩,
  ⟨(.prim .id), [.tmp 68], (some 69), none⟩,
  ⟨(.prim (.fieldAddr 4 none)), [.tmp 1], (some 70), (some (69, false))⟩,
  ⟨(.prim (.load none)), [.tmp 70], (some 71), (some (69, false))⟩,
  ⟨(.prim (.bin .gtr .none)), [.tmp 71, .const (.int .i64 1048576)], (some 72), (some (69, false))⟩,
  ⟨(.prim .pick), [.tmp 69, .const (.bool true), .tmp 72], (some 73), none⟩] none)
 (.cond (.tmp 73)
  (.seq (.region [⟨(.prim .id), [.const (.bool false)], (some 2), none⟩] none)
  .ret)
  .skip))
 (.seq (.seq (.region [⟨(.prim (.fieldAddr 0 none)), [.tmp 1], (some 74), none⟩,
  ⟨(.prim (.load none)), [.tmp 74], (some 75), none⟩,
  ⟨(.prim (.bin .eql .none)), [.tmp 75, .const (.int .i8 1)], (some 76), none⟩,
  ⟨(.prim .id), [.tmp 76], (some 77), none⟩,
  ⟨(.prim (.fieldAddr 0 none)), [.tmp 1], (some 78), (some (77, false))⟩,
  ⟨(.prim (.load none)), [.tmp 78], (some 79), (some (77, false))⟩,
  ⟨(.prim (.bin .eql .none)), [.tmp 79, .const (.int .i8 11)], (some 80), (some (77, false))⟩,
  ⟨(.prim .pick), [.tmp 77, .const (.bool true), .tmp 80], (some 81), none⟩] none)
 (.cond (.tmp 81)
  (.seq (.region [⟨(.prim .id), [.const (.bool true)], (some 2), none⟩] none)
  .ret)
  .skip))
 (.seq (.seq (.region [⟨(.prim (.fieldAddr 5 (some 3))), [.tmp 1], (some 82), none⟩,
  ⟨(.prim (.load (some 3))), [.tmp 82], (some 83), none⟩,
  ⟨(.call 79), [.tmp 83], (some 84), none⟩,
  ⟨(.prim (.un .not)), [.tmp 84], (some 85), none⟩] none)
 (.cond (.tmp 85)
  (.seq (.region [⟨(.prim .id), [.const (.bool false)], (some 2), none⟩] none)
  .ret)
  .skip))
 (.seq (.seq (.region [⟨(.prim (.fieldAddr 0 none)), [.tmp 1], (some 86), none⟩,
  ⟨(.prim (.load none)), [.tmp 86], (some 87), none⟩] none)
 (.block 0
  (.seq (.region [⟨(.prim (.bin .eql .none)), [.tmp 87, .const (.int .i8 2)], (some 89), none⟩,
   ⟨(.prim .id), [.tmp 89], (some 88), none⟩] none)
  (.cond (.tmp 88)
   (.seq (.region [⟨(.prim (.fieldAddr 8 none)), [.tmp 1], (some 90), none⟩,
    ⟨(.prim (.load none)), [.tmp 90], (some 91), none⟩,
    ⟨(.prim (.bin .geq .none)), [.tmp 91, .const (.int .i64 1)], (some 92), none⟩,
    ⟨(.prim .id), [.tmp 92], (some 93), none⟩,
    ⟨(.prim (.fieldAddr 8 none)), [.tmp 1], (some 94), (some (93, true))⟩,
    ⟨(.prim (.load none)), [.tmp 94], (some 95), (some (93, true))⟩,
    ⟨(.prim (.bin .leq .none)), [.tmp 95, .const (.int .i64 1048576)], (some 96), (some (93, true))⟩,
    ⟨(.prim .pick), [.tmp 93, .tmp 96, .const (.bool false)], (some 97), none⟩,
    ⟨(.prim .id), [.tmp 97], (some 98), none⟩,
    ⟨(.prim (.fieldAddr 9 none)), [.tmp 1], (some 99), (some (98, true))⟩,
    ⟨(.prim (.load none)), [.tmp 99], (some 100), (some (98, true))⟩,
    ⟨(.prim (.bin .geq .none)), [.tmp 100, .const (.int .i8 0)], (some 101), (some (98, true))⟩,
    ⟨(.prim .pick), [.tmp 98, .tmp 101, .const (.bool false)], (some 102), none⟩,
    ⟨(.prim .id), [.tmp 102], (some 103), none⟩,
    ⟨(.prim (.fieldAddr 9 none)), [.tmp 1], (some 104), (some (103, true))⟩,
    ⟨(.prim (.load none)), [.tmp 104], (some 105), (some (103, true))⟩,
    ⟨(.prim (.bin .leq .none)), [.tmp 105, .const (.int .i8 2)], (some 106), (some (103, true))⟩,
    ⟨(.prim .pick), [.tmp 103, .tmp 106, .const (.bool false)], (some 107), none⟩,
    ⟨(.prim .id), [.tmp 107], (some 108), none⟩,
    ⟨(.prim (.fieldAddr 10 none)), [.tmp 1], (some 109), (some (108, true))⟩,
    ⟨(.prim (.load none)), [.tmp 109], (some 110), (some (108, true))⟩,
    ⟨(.prim (.bin .geq .none)), [.tmp 110, .const (.int .i64 0)], (some 111), (some (108, true))⟩,
    ⟨(.prim .pick), [.tmp 108, .tmp 111, .const (.bool false)], (some 112), none⟩,
    ⟨(.prim .id), [.tmp 112], (some 113), none⟩,
    ⟨(.prim (.fieldAddr 10 none)), [.tmp 1], (some 114), (some (113, true))⟩,
    ⟨(.prim (.load none)), [.tmp 114], (some 115), (some (113, true))⟩,
    ⟨(.prim (.bin .lss .none)), [.tmp 115, .const (.int .i64 32)], (some 116), (some (113, true))⟩,
    ⟨(.prim .pick), [.tmp 113, .tmp 116, .const (.bool false)], (some 117), none⟩,
    ⟨(.prim .id), [.tmp 117], (some 2), none⟩] none)
   .ret)
   (.seq (.region [⟨(.prim (.bin .eql .none)), [.tmp 87, .const (.int .i8 3)], (some 119), none⟩,
    ⟨(.prim .id), [.tmp 119], (some 118), none⟩] none)
   (.cond (.tmp 118)
    (.seq (.region [⟨(.prim (.fieldAddr 8 none)), [.tmp 1], (some 120), none⟩,
     ⟨(.prim (.load none)), [.tmp 120], (some 121), none⟩,
     ⟨(.prim (.bin .geq .none)), [.tmp 121, .const (.int .i64 1)], (some 122), none⟩,
     ⟨(.prim .id), [.tmp 122], (some 123), none⟩,
     ⟨(.prim (.fieldAddr 8 none)), [.tmp 1], (some 124), (some (123, true))⟩,
     ⟨(.prim (.load none)), [.tmp 124], (some 125), (some (123, true))⟩,
     ⟨(.prim (.bin .leq .none)), [.tmp 125, .const (.int .i64 1048576)], (some 126), (some (123, true))⟩,
     ⟨(.prim .pick), [.tmp 123, .tmp 126, .const (.bool false)], (some 127), none⟩,
     ⟨(.prim .id), [.tmp 127], (some 128), none⟩,
     ⟨(.prim (.fieldAddr 19 none)), [.tmp 1], (some 129), (some (128, true))⟩,
     ⟨(.prim (.load none)), [.tmp 129], (some 130), (some (128, true))⟩,
     ⟨(.prim (.bin .eql .none)), [.tmp 130, .const (.int .i64 0)], (some 131), (some (128, true))⟩,
     ⟨(.prim .id), [.tmp 131], (some 132), (some (128, true))⟩,
     ⟨(.prim (.fieldAddr 19 none)), [.tmp 1], (some 133), (some (132, false))⟩,
     ⟨(.prim (.load none)), [.tmp 133], (some 134), (some (132, false))⟩,
     ⟨(.prim (.bin .eql .none)), [.tmp 134, .const (.int .i64 120)], (some 135), (some (132, false))⟩,
     ⟨(.prim .pick), [.tmp 132, .const (.bool true), .tmp 135], (some 136), (some (128, true))⟩,
     ⟨(.prim .id), [.tmp 136], (some 137), (some (128, true))⟩,
     ⟨(.prim (.fieldAddr 19 none)), [.tmp 1], (some 138), (some (137, false))⟩,
     ⟨(.prim (.load none)), [.tmp 138], (some 139), (some (137, false))⟩,
     ⟨(.prim (.bin .eql .none)), [.tmp 139, .const (.int .i64 112)], (some 140), (some (137, false))⟩,
     ⟨(.prim .pick), [.tmp 137, .const (.bool true), .tmp 140], (some 141), (some (128, true))⟩,
     ⟨(.prim .id), [.tmp 141], (some 142), (some (128, true))⟩,
     ⟨(.prim (.fieldAddr 19 none)), [.tmp 1], (some 143), (some (142, false))⟩,
     ⟨(.prim (.load none)), [.tmp 143], (some 144), (some (142, false))⟩,
     ⟨(.prim (.bin .eql .none)), [.tmp 144, .const (.int .i64 121)], (some 145), (some (142, false))⟩,
     ⟨(.prim .pick), [.tmp 142, .const (.bool true), .tmp 145], (some 146), (some (128, true))⟩,
     ⟨(.prim .id), [.tmp 146], (some 147), (some (128, true))⟩,
     ⟨(.prim (.fieldAddr 19 none)), [.tmp 1], (some 148), (some (147, false))⟩,
     ⟨(.prim (.load none)), [.tmp 148], (some 149), (some (147, false))⟩,
     ⟨(.prim (.bin .eql .none)), [.tmp 149, .const (.int .i64 50)], (some 150), (some (147, false))⟩,
     ⟨(.prim .pick), [.tmp 147, .const (.bool true), .tmp 150], (some 151), (some (128, true))⟩,
     ⟨(.prim .pick), [.tmp 128, .tmp 151, .const (.bool false)], (some 152), none⟩,
     ⟨(.prim .id), [.tmp 152], (some 2), none⟩] none)
    .ret)
    (.seq (.region [⟨(.prim (.bin .eql .none)), [.tmp 87, .const (.int .i8 4)], (some 154), none⟩,
     ⟨(.prim .id), [.tmp 154], (some 153), none⟩] none)
    (.cond (.tmp 153)
     (.seq (.region [⟨(.prim (.fieldAddr 21 none)), [.tmp 1], (some 155), none⟩,
      ⟨(.prim (.load none)), [.tmp 155], (some 156), none⟩,
      ⟨(.prim (.fieldAddr 22 none)), [.tmp 1], (some 157), none⟩,
      ⟨(.prim (.load none)), [.tmp 157], (some 158), none⟩,
      ⟨(.call 80), [.tmp 156, .tmp 158], (some 159), none⟩,
      ⟨(.prim .id), [.tmp 159], (some 160), none⟩,
      ⟨(.prim (.fieldAddr 23 none)), [.tmp 1], (some 161), (some (160, true))⟩,
      ⟨(.prim (.load none)), [.tmp 161], (some 162), (some (160, true))⟩,
      ⟨(.call 81), [.tmp 162], (some 163), (some (160, true))⟩,
      ⟨(.prim .pick), [.tmp 160, .tmp 163, .const (.bool false)], (some 164), none⟩,
      ⟨(.prim .id), [.tmp 164], (some 2), none⟩] none)
     .ret)
     (.seq (.region [⟨(.prim (.bin .eql .none)), [.tmp 87, .const (.int .i8 10)], (some 166), none⟩,
      ⟨(.prim .id), [.tmp 166], (some 165), none⟩] none)
     (.cond (.tmp 165)
      (.seq (.region [⟨(.prim (.fieldAddr 19 none)), [.tmp 1], (some 167), none⟩,
       ⟨(.prim (.load none)), [.tmp 167], (some 168), none⟩,
       ⟨(.prim (.bin .eql .none)), [.tmp 168, .const (.int .i64 0)], (some 169), none⟩,
       ⟨(.prim .id), [.tmp 169], (some 170), none⟩,
       ⟨(.prim (.fieldAddr 19 none)), [.tmp 1], (some 171), (some (170, false))⟩,
       ⟨(.prim (.load none)), [.tmp 171], (some 172), (some (170, false))⟩,
       ⟨(.prim (.bin .eql .none)), [.tmp 172, .const (.int .i64 50)], (some 173), (some (170, false))⟩,
       ⟨(.prim .pick), [.tmp 170, .const (.bool true), .tmp 173], (some 174), none⟩,
       ⟨(.prim .id), [.tmp 174], (some 175), none⟩,
       ⟨(.prim (.fieldAddr 19 none)), [.tmp 1], (some 176), (some (175, false))⟩,
       ⟨(.prim (.load none)), [.tmp 176], (some 177), (some (175, false))⟩,
       ⟨(.prim (.bin .eql .none)), [.tmp 177, .const (.int .i64 121)], (some 178), (some (175, false))⟩,
       ⟨(.prim .pick), [.tmp 175, .const (.bool true), .tmp 178], (some 179), none⟩,
       ⟨(.prim .id), [.tmp 179], (some 2), none⟩] none)
      .ret)
      .skip))))))))))
 (.seq (.region [⟨(.prim .id), [.const (.bool true)], (some 2), none⟩] none)
 .ret)))))))
theorem F25 : IsFun Try.prog 25 1 180 c25 [.tmp 2] := ⟨by decide, Try.f25, _, [1], Try.func25, rfl, by decide, rfl, by kernel_rfl, by kernel_rfl⟩

/-- cashbox/cashboxref15.Same -/
def c44 : ACode :=
 (.seq (.region [⟨(.prim (.boxR (some 24))), [.tmp 0], (some 2), none⟩,
  ⟨(.prim (.boxR (some 24))), [.tmp 1], (some 3), none⟩,
  ⟨(.prim .id), [.const (.bool false)], (some 4), none⟩] none)
 (.seq (.region [⟨(.prim (.fieldAddr 0 none)), [.tmp 2], (some 5), none⟩,
  ⟨(.prim (.load none)), [.tmp 5], (some 6), none⟩,
  ⟨(.prim (.fieldAddr 0 none)), [.tmp 3], (some 7), none⟩,
  ⟨(.prim (.load none)), [.tmp 7], (some 8), none⟩,
  ⟨(.prim (.bin .eql .none)), [.tmp 6, .tmp 8], (some 9), none⟩,
  ⟨(.prim .id), [.tmp 9], (some 10), none⟩,
  ⟨(.prim (.fieldAddr 1 none)), [.tmp 2], (some 11), (some (10, true))⟩,
  ⟨(.prim (.load none)), [.tmp 11], (some 12), (some (10, true))⟩,
  ⟨(.prim (.fieldAddr 1 none)), [.tmp 3], (some 13), (some (10, true))⟩,
  ⟨(.prim (.load none)), [.tmp 13], (some 14), (some (10, true))⟩,
  ⟨(.prim (.bin .eql .none)), [.tmp 12, .tmp 14], (some 15), (some (10, true))⟩,
  ⟨(.prim .pick), [.tmp 10, .tmp 15, .const (.bool false)], (some 16), none⟩,
  ⟨(.prim .id), [.tmp 16], (some 17), none⟩,
  ⟨(.prim (.fieldAddr 2 none)), [.tmp 2], (some 18), (some (17, true))⟩,
  ⟨(.prim (.load none)), [.tmp 18], (some 19), (some (17, true))⟩,
  ⟨(.prim (.fieldAddr 2 none)), [.tmp 3], (some 20), (some (17, true))⟩,
  ⟨(.prim (.load none)), [.tmp 20], (some 21), (some (17, true))⟩,
  ⟨(.prim (.bin .eql .none)), [.tmp 19, .tmp 21], (some 22), (some (17, true))⟩,
  ⟨(.prim .pick), [.tmp 17, .tmp 22, .const (.bool false)], (some 23), none⟩,
  ⟨(.prim .id), [.tmp 23], (some 24), none⟩,
  ⟨(.prim (.fieldAddr 3 none)), [.tmp 2], (some 25), (some (24, true))⟩,
  ⟨(.prim (.load none)), [.tmp 25], (some 26), (some (24, true))⟩,
  ⟨(.prim (.fieldAddr 3 none)), [.tmp 3], (some 27), (some (24, true))⟩,
  ⟨(.prim (.load none)), [.tmp 27], (some 28), (some (24, true))⟩,
  ⟨(.prim (.bin .eql .none)), [.tmp 26, .tmp 28], (some 29), (some (24, true))⟩,
  ⟨(.prim .pick), [.tmp 24, .tmp 29, .const (.bool false)], (some 30), none⟩,
  ⟨(.prim .id), [.tmp 30], (some 31), none⟩,
  ⟨(.prim (.fieldAddr 4 none)), [.tmp 2], (some 32), (some (31, true))⟩,
  ⟨(.prim (.load none)), [.tmp 32], (some 33), (some (31, true))⟩,
  ⟨(.prim (.fieldAddr 4 none)), [.tmp 3], (some 34), (some (31, true))⟩,
  ⟨(.prim (.load none)), [.tmp 34], (some 35), (some (31, true))⟩,
  ⟨(.prim (.bin .eql .none)), [.tmp 33, .tmp 35], (some 36), (some (31, true))⟩,
  ⟨(.prim .pick), [.tmp 31, .tmp 36, .const (.bool false)], (some 37), none⟩,
  ⟨(.prim .id), [.tmp 37], (some 38), none⟩,
  ⟨(.prim (.fieldAddr 5 (some 3))), [.tmp 2], (some 39), (some (38, true))⟩,
  ⟨(.prim (.load (some 3))), [.tmp 39], (some 40), (some (38, true))⟩,
  ⟨(.prim (.fieldAddr 5 (some 3))), [.tmp 3], (some 41), (some (38, true))⟩,
  ⟨(.prim (.load (some 3))), [.tmp 41], (some 42), (some (38, true))⟩,
  ⟨(.prim (.bin .eql (.flat [0, 0, 0]))), [.tmp 40, .tmp 42], (some 43), (some (38, true))⟩,
  ⟨(.prim .pick), [.tmp 38, .tmp 43, .const (.bool false)], (some 44), none⟩,
  ⟨(.prim .id), [.tmp 44], (some 45), none⟩,
  ⟨(.prim (.fieldAddr 8 none)), [.tmp 2], (some 46), (some (45, true))⟩,
  ⟨(.prim (.load none)), [.tmp 46], (some 47), (some (45, true))⟩,
  ⟨(.prim (.fieldAddr 8 none)), [.tmp 3], (some 48), (some (45, true))⟩,
  ⟨(.prim (.load none)), [.tmp 48], (some 49), (some (45, true))⟩,
  ⟨(.prim (.bin .eql .none)), [.tmp 47, .tmp 49], (some 50), (some (45, true))⟩,
  ⟨(.prim .pick), [.tmp 45, .tmp 50, .const (.bool false)], (some 51), none⟩,
  ⟨(.prim .id), [.tmp 51], (some 52), none⟩,
  ⟨(.prim (.fieldAddr 9 none)), [.tmp 2], (some 53), (some (52, true))⟩,
  ⟨(.prim (.load none)), [.tmp 53], (some 54), (some (52, true))⟩,
  ⟨(.prim (.fieldAddr 9 none)), [.tmp 3], (some 55), (some (52, true))⟩,
  ⟨(.prim (.load none)), [.tmp 55], (some 56), (some (52, true))⟩,
  ⟨(.prim (.bin .eql .none)), [.tmp 54, .tmp 56], (some 57), (some (52, true))⟩,
  ⟨(.prim .pick), [.tmp 52, .tmp 57, .const (.bool false)], (some 58), none⟩,
  ⟨(.prim .id), [.tmp 58], (some 59), none⟩,
  ⟨(.prim (.fieldAddr 10 none)), [.tmp 2], (some 60), (some (59, true))⟩,
  ⟨(.prim (.load none)), [.tmp 60], (some 61), (some (59, true))⟩,
  ⟨(.prim (.fieldAddr 10 none)), [.tmp 3], (some 62), (some (59, true))⟩,
  ⟨(.prim (.load none)), [.tmp 62], (some 63), (some (59, true))⟩,
  ⟨(.prim (.bin .eql .none)), [.tmp 61, .tmp 63], (some 64), (some (59, true))⟩,
  ⟨(.prim .pick), [.tmp 59, .tmp 64, .const (.bool false)], (some 65), none⟩,
  ⟨(.prim .id), [.tmp 65], (some 66), none⟩,
  ⟨(.prim (.fieldAddr 11 (some 8))), [.tmp 2], (some 67), (some (66, true))⟩,
  ⟨(.prim (.load (some 8))), [.tmp 67], (some 68), (some (66, true))⟩,
  ⟨(.prim (.fieldAddr 11 (some 8))), [.tmp 3], (some 69), (some (66, true))⟩,
  ⟨(.prim (.load (some 8))), [.tmp 69], (some 70), (some (66, true))⟩,
  ⟨(.prim (.bin .eql (.flat [0, 0, 0, 0, 0, 0, 0, 0]))), [.tmp 68, .tmp 70], (some 71), (some (66, true))⟩,
  ⟨(.prim .pick), [.tmp 66, .tmp 71, .const (.bool false)], (some 72), none⟩,
  ⟨(.prim .id), [.tmp 72], (some 73), none⟩,
  ⟨(.prim (.fieldAddr 19 none)), [.tmp 2], (some 74), (some (73, true))⟩,
  ⟨(.prim (.load none)), [.tmp 74], (some 75), (some (73, true))⟩,
  ⟨(.prim (.fieldAddr 19 none)), [.tmp 3], (some 76), (some (73, true))⟩,
  ⟨(.prim (.load none)), [.tmp 76], (some 77), (some (73, true))⟩,
  ⟨(.prim (.bin .eql .none)), [.tmp 75, .tmp 77], (some 78), (some (73, true))⟩,
  ⟨(.prim .pick), [.tmp 73, .tmp 78, .const (.bool false)], (some 79), none⟩,
  ⟨(.prim .id), [.tmp 79], (some 80), none⟩,
  ⟨(.prim (.fieldAddr 20 none)), [.tmp 2], (some 81), (some (80, true))⟩,
  ⟨(.prim (.load none)), [.tmp 81], (some 82), (some (80, true))⟩,
  ⟨(.prim (.fieldAddr 20 none)), [.tmp 3], (some 83), (some (80, true))⟩,
  ⟨(.prim (.load none)), [.tmp 83], (some 84), (some (80, true))⟩,
  ⟨(.prim (.bin .eql .bool)), [.tmp 82, .tmp 84], (some 85), (some (80, true))⟩,
  ⟨(.prim .pick), [.tmp 80, .tmp 85, .const (.bool false)], (some 86), none⟩,
  ⟨(.prim .id), [.tmp 86], (some 87), none⟩,
  ⟨(.prim (.fieldAddr 21 none)), [.tmp 2], (some 88), (some (87, true))⟩,
  ⟨(.prim (.load none)), [.tmp 88], (some 89), (some (87, true))⟩,
  ⟨(.prim (.fieldAddr 21 none)), [.tmp 3], (some 90), (some (87, true))⟩,
  ⟨(.prim (.load none)), [.tmp 90], (some 91), (some (87, true))⟩,
  ⟨(.prim (.bin .eql .none)), [.tmp 89, .tmp 91], (some 92), (some (87, true))⟩,
  ⟨(.prim .pick), [.tmp 87, .tmp 92, .const (.bool false)], (some 93), none⟩,
  ⟨(.prim .id), [.tmp 93], (some 94), none⟩,
  ⟨(.prim (.fieldAddr 22 none)), [.tmp 2], (some 95), (some (94, true))⟩,
  ⟨(.prim (.load none)), [.tmp 95], (some 96), (some (94, true))⟩,
  ⟨(.prim (.fieldAddr 22 none)), [.tmp 3], (some 97), (some (94, true))⟩,
  ⟨(.prim (.load none)), [.tmp 97], (some 98), (some (94, true))⟩,
  ⟨(.prim (.bin .eql .none)), [.tmp 96, .tmp 98], (some 99), (some (94, true))⟩,
  ⟨(.prim .pick), [.tmp 94, .tmp 99, .const (.bool false)], (some 100), none⟩,
  ⟨(.prim .id), [.tmp 100], (some 101), none⟩,
  ⟨(.prim (.fieldAddr 23 none)), [.tmp 2], (some 102), (some (101, true))⟩,
  ⟨(.prim (.load none)), [.tmp 102], (some 103), (some (101, true))⟩,
  ⟨(.prim (.fieldAddr 23 none)), [.tmp 3], (some 104), (some (101, true))⟩,
  ⟨(.prim (.load none)), [.tmp 104], (some 105), (some (101, true))⟩,
  ⟨(.call 98), [.tmp 103, .tmp 105], (some 106), (some (101, true))⟩,
  ⟨(.prim .pick), [.tmp 101, .tmp 106, .const (.bool false)], (some 107), none⟩,
  ⟨(.prim .id), [.tmp 107], (some 4), none⟩] none)
 .ret))
theorem F44 : IsFun Try.prog 44 2 108 c44 [.tmp 4] := ⟨by decide, Try.f44, _, [2, 3], Try.func44, rfl, by decide, rfl, by kernel_rfl, by kernel_rfl⟩

-- loop: 1:m, 5:x, 6:g, 88:, 89:, 90:
/-- cashbox/wire.May -/
def c64 : ACode :=
 (.seq (.region [⟨(.prim (.box (some 24))), [.tmp 0], (some 1), none⟩,
  ⟨(.prim .id), [.const (.bool false)], (some 2), none⟩] none)
 (.seq (.region [⟨(.prim (.fieldAddr 0 none)), [.tmp 1], (some 10), none⟩,
  ⟨(.prim (.load none)), [.tmp 10], (some 11), none⟩,
  ⟨(.call 120), [.tmp 11], (some 12), none⟩,
  ⟨(.prim .id), [.tmp 12], (some 9), none⟩,
  ⟨(.prim (.extract 0)), [.tmp 9], (some 13), none⟩,
  ⟨(.prim (.extract 1)), [.tmp 9], (some 14), none⟩,
  ⟨(.prim (.alloc [(.bool false), (.sl .clip []), .nilfn])), [], (some 3), none⟩,
  ⟨(.prim (.store (some 3))), [.tmp 3, .tmp 13], none, none⟩,
  ⟨(.prim .id), [.tmp 14], (some 4), none⟩] none)
 (.seq (.seq (.region [⟨(.prim .id), [.tmp 4], (some 15), none⟩,
  ⟨(.prim (.un .not)), [.tmp 15], (some 16), none⟩,
  ⟨(.prim .id), [.tmp 16], (some 17), none⟩,
  ⟨(.prim (.fieldAddr 1 none)), [.tmp 1], (some 18), (some (17, false))⟩,
  ⟨(.prim (.load none)), [.tmp 18], (some 19), (some (17, false))⟩,
  ⟨(.call 121), [.tmp 19, .const (.int .i64 0), .const (.int .i64 4)], (some 20), (some (17, false))⟩,
  ⟨(.prim (.un .not)), [.tmp 20], (some 21), (some (17, false))⟩,
  ⟨(.prim .pick), [.tmp 17, .const (.bool true), .tmp 21], (some 22), none⟩,
  ⟨(.prim .id), [.tmp 22], (some 23), none⟩,
  ⟨(.prim (.fieldAddr 2 none)), [.tmp 1], (some 24), (some (23, false))⟩,
  ⟨(.prim (.load none)), [.tmp 24], (some 25), (some (23, false))⟩,
  ⟨(.call 121), [.tmp 25, .const (.int .i64 0), .const (.int .i64 4)], (some 26), (some (23, false))⟩,
  ⟨(.prim (.un .not)), [.tmp 26], (some 27), (some (23, false))⟩,
  ⟨(.prim .pick), [.tmp 23, .const (.bool true), .tmp 27], (some 28), none⟩,
  ⟨(.prim .id), [.tmp 28], (some 29), none⟩,
  ⟨(.prim (.fieldAddr 1 none)), [.tmp 1], (some 30), (some (29, false))⟩,
  ⟨(.prim (.load none)), [.tmp 30], (some 31), (some (29, false))⟩,
  ⟨(.prim (.bin .eql .none)), [.tmp 31, .const (.int .i64 0)], (some 32), (some (29, false))⟩,
  ⟨(.prim (.fieldAddr 2 none)), [.tmp 1], (some 33), (some (29, false))⟩,
  ⟨(.prim (.load none)), [.tmp 33], (some 34), (some (29, false))⟩,
  ⟨(.prim (.bin .eql .none)), [.tmp 34, .const (.int .i64 0)], (some 35), (some (29, false))⟩,
  ⟨(.prim (.bin .eql .bool)), [.tmp 32, .tmp 35], (some 36), (some (29, false))⟩,
  ⟨(.prim .pick), [.tmp 29, .const (.bool true), .tmp 36], (some 37), none⟩,
  ⟨(.prim .id), [.tmp 37], (some 38), none⟩,
  ⟨(.prim (.fieldAddr 0 none)), [.tmp 3], (some 39), (some (38, false))⟩,
  ⟨(.prim (.load none)), [.tmp 39], (some 40), (some (38, false))⟩,
  ⟨(.prim (.fieldAddr 1 none)), [.tmp 1], (some 41), (some (38, false))⟩,
  ⟨(.prim (.load none)), [.tmp 41], (some 42), (some (38, false))⟩,
  ⟨(.prim (.bin .eql .none)), [.tmp 42, .const (.int .i64 0)], (some 43), (some (38, false))⟩,
  ⟨(.prim (.bin .neq .bool)), [.tmp 40, .tmp 43], (some 44), (some (38, false))⟩,
  ⟨(.prim .pick), [.tmp 38, .const (.bool true), .tmp 44], (some 45), none⟩,
  ⟨(.prim .id), [.tmp 45], (some 46), none⟩,
  ⟨(.prim (.fieldAddr 3 none)), [.tmp 1], (some 47), (some (46, false))⟩,
  ⟨(.prim (.load none)), [.tmp 47], (some 48), (some (46, false))⟩,
  ⟨(.call 121), [.tmp 48, .const (.int .i64 1), .const (.int .i64 1048576)], (some 49), (some (46, false))⟩,
  ⟨(.prim (.un .not)), [.tmp 49], (some 50), (some (46, false))⟩,
  ⟨(.prim .pick), [.tmp 46, .const (.bool true), .tmp 50], (some 51), none⟩,
  ⟨(.prim .id), [.tmp 51], (some 52), none⟩,
  ⟨(.prim (.fieldAddr 4 none)), [.tmp 1], (some 53), (some (52, false))⟩,
  ⟨(.prim (.load none)), [.tmp 53], (some 54), (some (52, false))⟩,
  ⟨(.call 121), [.tmp 54, .const (.int .i64 0), .const (.int .i64 1048576)], (some 55), (some (52, false))⟩,
  ⟨(.prim (.un .not)), [.tmp 55], (some 56), (some (52, false))⟩,
  ⟨(.prim .pick), [.tmp 52, .const (.bool true), .tmp 56], (some 57), none⟩,
  ⟨(.prim .id), [.tmp 57], (some 58), none⟩,
  ⟨(.prim (.fieldAddr 2 none)), [.tmp 3], (some 59), (some (58, false))⟩,
  ⟨(.prim (.load none)), [.tmp 59], (some 60), (some (58, false))⟩,
  ⟨.callV, [.tmp 60, .tmp 1], (some 61), (some (58, false))⟩,
  ⟨(.prim (.un .not)), [.tmp 61], (some 62), (some (58, false))⟩,
  ⟨(.prim .pick), [.tmp 58, .const (.bool true), .tmp 62], (some 63), none⟩] none)
 (.cond (.tmp 63)
  (.seq (.region [⟨(.prim .id), [.const (.bool false)], (some 2), none⟩] none)
  .ret)
  .skip))
 (.seq (.seq (.region [⟨(.prim (.fieldAddr 1 none)), [.tmp 3], (some 64), none⟩,
  ⟨(.prim (.load none)), [.tmp 64], (some 65), none⟩,
  ⟨(.prim .len), [.tmp 65], (some 66), none⟩,
  ⟨(.prim (.bin .gtr .none)), [.tmp 66, .const (.int .i64 0)], (some 67), none⟩,
  ⟨(.prim .id), [.tmp 67], (some 68), none⟩,
  ⟨(.prim (.fieldAddr 5 (some 3))), [.tmp 1], (some 69), (some (68, true))⟩,
  ⟨(.prim (.load (some 3))), [.tmp 69], (some 70), (some (68, true))⟩,
  ⟨(.call 118), [.tmp 70], (some 71), (some (68, true))⟩,
  ⟨(.prim (.un .not)), [.tmp 71], (some 72), (some (68, true))⟩,
  ⟨(.prim .pick), [.tmp 68, .tmp 72, .const (.bool false)], (some 73), none⟩] none)
 (.cond (.tmp 73)
  (.seq (.region [⟨(.prim .id), [.const (.bool false)], (some 2), none⟩] none)
  .ret)
  .skip))
 (.seq (.region [⟨(.prim (.fieldAddr 0 none)), [.tmp 1], (some 74), none⟩,
  ⟨(.prim (.load none)), [.tmp 74], (some 75), none⟩,
  ⟨(.prim (.fieldAddr 1 none)), [.tmp 1], (some 76), none⟩,
  ⟨(.prim (.load none)), [.tmp 76], (some 77), none⟩,
  ⟨(.prim (.fieldAddr 2 none)), [.tmp 1], (some 78), none⟩,
  ⟨(.prim (.load none)), [.tmp 78], (some 79), none⟩,
  ⟨(.prim (.fieldAddr 3 none)), [.tmp 1], (some 80), none⟩,
  ⟨(.prim (.load none)), [.tmp 80], (some 81), none⟩,
  ⟨(.prim (.fieldAddr 4 none)), [.tmp 1], (some 82), none⟩,
  ⟨(.prim (.load none)), [.tmp 82], (some 83), none⟩,
  ⟨(.prim (.build [(.int .i8 0), (.int .i64 0), (.int .i64 0), (.int .i64 0), (.int .i64 0), (.int .i64 0), (.int .i64 0), (.int .i64 0), (.int .i64 0), (.int .i8 0), (.int .i64 0), (.int .u8 0), (.int .u8 0), (.int .u8 0), (.int .u8 0), (.int .u8 0), (.int .u8 0), (.int .u8 0), (.int .u8 0), (.int .i64 0), (.bool false), (.int .i64 0), (.int .i64 0), (.sl .clip [])] [(0, 1), (1, 1), (2, 1), (3, 1), (4, 1)])), [.tmp 75, .tmp 77, .tmp 79, .tmp 81, .tmp 83], (some 84), none⟩,
  ⟨(.prim (.alloc [(.int .i8 0), (.int .i64 0), (.int .i64 0), (.int .i64 0), (.int .i64 0), (.int .i64 0), (.int .i64 0), (.int .i64 0), (.int .i64 0), (.int .i8 0), (.int .i64 0), (.int .u8 0), (.int .u8 0), (.int .u8 0), (.int .u8 0), (.int .u8 0), (.int .u8 0), (.int .u8 0), (.int .u8 0), (.int .i64 0), (.bool false), (.int .i64 0), (.int .i64 0), (.sl .clip [])])), [], (some 5), none⟩,
  ⟨(.prim (.store (some 24))), [.tmp 5, .tmp 84], none, none⟩] none)
 (.seq (.region [⟨(.call 122), [.tmp 3, .tmp 1], (some 85), none⟩,
  ⟨(.prim (.build [(.sl .clip []), (.bool false)] [(0, 1)])), [.tmp 85], (some 86), none⟩,
  ⟨(.prim (.alloc [(.sl .clip []), (.bool false)])), [], (some 6), none⟩,
  ⟨(.prim (.store (some 2))), [.tmp 6, .tmp 86], none, none⟩] none)
 (.seq (.seq (.region [⟨(.prim (.fieldAddr 1 none)), [.tmp 3], (some 87), none⟩,
  ⟨(.prim (.load none)), [.tmp 87], (some 88), none⟩,
  ⟨(.prim .len), [.tmp 88], (some 89), none⟩,
  ⟨(.prim .id), [.const (.int .i64 0)], (some 90), none⟩] none)
 (.block 0
  (.loop
   (.seq (.region [⟨(.prim (.bin .lss .none)), [.tmp 90, .tmp 89], (some 91), none⟩] none)
   (.seq (.cond (.tmp 91)
    .skip
    (.exit 0))
   (.seq (.block 1
    (.seq (.region [⟨(.prim (.idxSl (some 2))), [.tmp 88, .tmp 90], (some 92), none⟩,
     ⟨(.prim (.load (some 2))), [.tmp 92], (some 93), none⟩,
     ⟨(.prim (.alloc [.nilfn, .nilfn])), [], (some 8), none⟩,
     ⟨(.prim (.store (some 2))), [.tmp 8, .tmp 93], none, none⟩] none)
    (.region [⟨(.prim (.fieldAddr 1 none)), [.tmp 8], (some 94), none⟩,
     ⟨(.prim (.load none)), [.tmp 94], (some 95), none⟩,
     ⟨.callV, [.tmp 95, .tmp 6, .tmp 5], (some 96), none⟩] none)))
   (.region [⟨(.prim (.bin .add .none)), [.tmp 90, .const (.int .i64 1)], (some 97), none⟩,
    ⟨(.prim .id), [.tmp 97], (some 90), none⟩] none)))))))
 (.seq (.region [⟨(.prim (.load (some 24))), [.tmp 1], (some 98), none⟩,
  ⟨(.prim (.load (some 24))), [.tmp 5], (some 99), none⟩,
  ⟨(.call 123), [.tmp 98, .tmp 99], (some 100), none⟩,
  ⟨(.prim .id), [.tmp 100], (some 2), none⟩] none)
 .ret))))))))
theorem F64 : IsFun Try.prog 64 1 101 c64 [.tmp 2] := ⟨by decide, Try.f64, _, [], Try.func64, rfl, by decide, rfl, by kernel_rfl, by kernel_rfl⟩

/-- cashbox/cashboxref15.fields -/
def c77 : ACode :=
 (.seq (.region [⟨(.prim (.boxR (some 24))), [.tmp 0], (some 1), none⟩,
  ⟨(.prim (.alloc [(.int .i8 0), (.int .i64 0), (.int .i64 0), (.int .i64 0), (.int .i64 0), (.int .i64 0), (.int .i64 0), (.int .i64 0), (.int .i64 0), (.int .i8 0), (.int .i64 0), (.int .u8 0), (.int .u8 0), (.int .u8 0), (.int .u8 0), (.int .u8 0), (.int .u8 0), (.int .u8 0), (.int .u8 0), (.int .i64 0), (.bool false), (.int .i64 0), (.int .i64 0), (.sl .clip [])])), [], (some 2), none⟩] none)
 (.seq (.region [⟨(.prim (.fieldAddr 0 none)), [.tmp 1], (some 4), none⟩,
  ⟨(.prim (.load none)), [.tmp 4], (some 5), none⟩,
  ⟨(.prim (.fieldAddr 1 none)), [.tmp 1], (some 6), none⟩,
  ⟨(.prim (.load none)), [.tmp 6], (some 7), none⟩,
  ⟨(.prim (.fieldAddr 2 none)), [.tmp 1], (some 8), none⟩,
  ⟨(.prim (.load none)), [.tmp 8], (some 9), none⟩,
  ⟨(.prim (.fieldAddr 3 none)), [.tmp 1], (some 10), none⟩,
  ⟨(.prim (.load none)), [.tmp 10], (some 11), none⟩,
  ⟨(.prim (.fieldAddr 4 none)), [.tmp 1], (some 12), none⟩,
  ⟨(.prim (.load none)), [.tmp 12], (some 13), none⟩,
  ⟨(.prim (.build [(.int .i8 0), (.int .i64 0), (.int .i64 0), (.int .i64 0), (.int .i64 0), (.int .i64 0), (.int .i64 0), (.int .i64 0), (.int .i64 0), (.int .i8 0), (.int .i64 0), (.int .u8 0), (.int .u8 0), (.int .u8 0), (.int .u8 0), (.int .u8 0), (.int .u8 0), (.int .u8 0), (.int .u8 0), (.int .i64 0), (.bool false), (.int .i64 0), (.int .i64 0), (.sl .clip [])] [(0, 1), (1, 1), (2, 1), (3, 1), (4, 1)])), [.tmp 5, .tmp 7, .tmp 9, .tmp 11, .tmp 13], (some 14), none⟩,
  ⟨(.prim (.alloc [(.int .i8 0), (.int .i64 0), (.int .i64 0), (.int .i64 0), (.int .i64 0), (.int .i64 0), (.int .i64 0), (.int .i64 0), (.int .i64 0), (.int .i8 0), (.int .i64 0), (.int .u8 0), (.int .u8 0), (.int .u8 0), (.int .u8 0), (.int .u8 0), (.int .u8 0), (.int .u8 0), (.int .u8 0), (.int .i64 0), (.bool false), (.int .i64 0), (.int .i64 0), (.sl .clip [])])), [], (some 3), none⟩,
  ⟨(.prim (.store (some 24))), [.tmp 3, .tmp 14], none, none⟩] none)
 (.seq (.seq (.region [⟨(.prim (.fieldAddr 0 none)), [.tmp 1], (some 15), none⟩,
  ⟨(.prim (.load none)), [.tmp 15], (some 16), none⟩,
  ⟨(.prim (.bin .neq .none)), [.tmp 16, .const (.int .i8 1)], (some 17), none⟩,
  ⟨(.prim .id), [.tmp 17], (some 18), none⟩,
  ⟨(.prim (.fieldAddr 0 none)), [.tmp 1], (some 19), (some (18, true))⟩,
  ⟨(.prim (.load none)), [.tmp 19], (some 20), (some (18, true))⟩,
  ⟨(.prim (.bin .neq .none)), [.tmp 20, .const (.int .i8 11)], (some 21), (some (18, true))⟩,
  ⟨(.prim .pick), [.tmp 18, .tmp 21, .const (.bool false)], (some 22), none⟩] none)
 (.cond (.tmp 22)
  (.region [⟨(.prim (.fieldAddr 5 (some 3))), [.tmp 1], (some 23), none⟩,
   ⟨(.prim (.load (some 3))), [.tmp 23], (some 24), none⟩,
   ⟨(.prim (.fieldAddr 5 (some 3))), [.tmp 3], (some 25), none⟩,
   ⟨(.prim (.store (some 3))), [.tmp 25, .tmp 24], none, none⟩] none)
  .skip))
 (.seq (.seq (.region [⟨(.prim (.fieldAddr 0 none)), [.tmp 1], (some 26), none⟩,
  ⟨(.prim (.load none)), [.tmp 26], (some 27), none⟩] none)
 (.block 0
  (.seq (.region [⟨(.prim (.bin .eql .none)), [.tmp 27, .const (.int .i8 2)], (some 29), none⟩,
   ⟨(.prim .id), [.tmp 29], (some 28), none⟩] none)
  (.cond (.tmp 28)
   (.seq (.region [⟨(.prim (.fieldAddr 8 none)), [.tmp 1], (some 30), none⟩,
    ⟨(.prim (.load none)), [.tmp 30], (some 31), none⟩,
    ⟨(.prim (.fieldAddr 8 none)), [.tmp 3], (some 32), none⟩,
    ⟨(.prim (.store none)), [.tmp 32, .tmp 31], none, none⟩] none)
   (.seq (.region [⟨(.prim (.fieldAddr 9 none)), [.tmp 1], (some 33), none⟩,
    ⟨(.prim (.load none)), [.tmp 33], (some 34), none⟩,
    ⟨(.prim (.fieldAddr 9 none)), [.tmp 3], (some 35), none⟩,
    ⟨(.prim (.store none)), [.tmp 35, .tmp 34], none, none⟩] none)
   (.seq (.region [⟨(.prim (.fieldAddr 10 none)), [.tmp 1], (some 36), none⟩,
    ⟨(.prim (.load none)), [.tmp 36], (some 37), none⟩,
    ⟨(.prim (.fieldAddr 10 none)), [.tmp 3], (some 38), none⟩,
    ⟨(.prim (.store none)), [.tmp 38, .tmp 37], none, none⟩] none)
   (.seq (.region [⟨(.prim (.fieldAddr 9 none)), [.tmp 1], (some 39), none⟩,
    ⟨(.prim (.load none)), [.tmp 39], (some 40), none⟩,
    ⟨(.prim (.bin .eql .none)), [.tmp 40, .const (.int .i8 1)], (some 41), none⟩] none)
   (.cond (.tmp 41)
    (.region [⟨(.prim (.fieldAddr 11 (some 8))), [.tmp 1], (some 42), none⟩,
     ⟨(.prim (.load (some 8))), [.tmp 42], (some 43), none⟩,
     ⟨(.prim (.fieldAddr 11 (some 8))), [.tmp 3], (some 44), none⟩,
     ⟨(.prim (.store (some 8))), [.tmp 44, .tmp 43], none, none⟩] none)
    .skip)))))
   (.seq (.region [⟨(.prim (.bin .eql .none)), [.tmp 27, .const (.int .i8 3)], (some 46), none⟩,
    ⟨(.prim .id), [.tmp 46], (some 45), none⟩] none)
   (.cond (.tmp 45)
    (.seq (.region [⟨(.prim (.fieldAddr 8 none)), [.tmp 1], (some 47), none⟩,
     ⟨(.prim (.load none)), [.tmp 47], (some 48), none⟩,
     ⟨(.prim (.fieldAddr 8 none)), [.tmp 3], (some 49), none⟩,
     ⟨(.prim (.store none)), [.tmp 49, .tmp 48], none, none⟩] none)
    (.seq (.region [⟨(.prim (.fieldAddr 19 none)), [.tmp 1], (some 50), none⟩,
     ⟨(.prim (.load none)), [.tmp 50], (some 51), none⟩,
     ⟨(.prim (.fieldAddr 19 none)), [.tmp 3], (some 52), none⟩,
     ⟨(.prim (.store none)), [.tmp 52, .tmp 51], none, none⟩] none)
    (.seq (.region [⟨(.prim (.fieldAddr 19 none)), [.tmp 1], (some 53), none⟩,
     ⟨(.prim (.load none)), [.tmp 53], (some 54), none⟩,
     ⟨(.prim (.bin .eql .none)), [.tmp 54, .const (.int .i64 0)], (some 55), none⟩] none)
    (.cond (.tmp 55)
     (.region [⟨(.prim (.fieldAddr 11 (some 8))), [.tmp 1], (some 56), none⟩,
      ⟨(.prim (.load (some 8))), [.tmp 56], (some 57), none⟩,
      ⟨(.prim (.fieldAddr 11 (some 8))), [.tmp 3], (some 58), none⟩,
      ⟨(.prim (.store (some 8))), [.tmp 58, .tmp 57], none, none⟩] none)
     .skip))))
    (.seq (.region [⟨(.prim (.bin .eql .none)), [.tmp 27, .const (.int .i8 4)], (some 60), none⟩,
     ⟨(.prim .id), [.tmp 60], (some 59), none⟩] none)
    (.cond (.tmp 59)
     (.seq (.region [⟨(.prim (.fieldAddr 21 none)), [.tmp 1], (some 61), none⟩,
      ⟨(.prim (.load none)), [.tmp 61], (some 62), none⟩,
      ⟨(.prim (.fieldAddr 21 none)), [.tmp 3], (some 63), none⟩,
      ⟨(.prim (.store none)), [.tmp 63, .tmp 62], none, none⟩] none)
     (.seq (.region [⟨(.prim (.fieldAddr 22 none)), [.tmp 1], (some 64), none⟩,
      ⟨(.prim (.load none)), [.tmp 64], (some 65), none⟩,
      ⟨(.prim (.fieldAddr 22 none)), [.tmp 3], (some 66), none⟩,
      ⟨(.prim (.store none)), [.tmp 66, .tmp 65], none, none⟩] none)
     (.region [⟨(.prim (.fieldAddr 23 none)), [.tmp 1], (some 67), none⟩,
      ⟨(.prim (.load none)), [.tmp 67], (some 68), none⟩,
      ⟨(.prim (.fieldAddr 23 none)), [.tmp 3], (some 69), none⟩,
      ⟨(.prim (.store none)), [.tmp 69, .tmp 68], none, none⟩] none)))
     (.seq (.seq (.region [⟨(.prim (.bin .eql .none)), [.tmp 27, .const (.int .i8 5)], (some 71), none⟩,
      ⟨(.prim .id), [.tmp 71], (some 70), none⟩] none)
     (.cond (.tmp 70)
      .skip
      (.region [⟨(.prim (.bin .eql .none)), [.tmp 27, .const (.int .i8 6)], (some 72), none⟩,
       ⟨(.prim .id), [.tmp 72], (some 70), none⟩] none)))
     (.cond (.tmp 70)
      (.region [⟨(.prim (.fieldAddr 20 none)), [.tmp 1], (some 73), none⟩,
       ⟨(.prim (.load none)), [.tmp 73], (some 74), none⟩,
       ⟨(.prim (.fieldAddr 20 none)), [.tmp 3], (some 75), none⟩,
       ⟨(.prim (.store none)), [.tmp 75, .tmp 74], none, none⟩] none)
      (.seq (.region [⟨(.prim (.bin .eql .none)), [.tmp 27, .const (.int .i8 10)], (some 77), none⟩,
       ⟨(.prim .id), [.tmp 77], (some 76), none⟩] none)
      (.cond (.tmp 76)
       (.region [⟨(.prim (.fieldAddr 19 none)), [.tmp 1], (some 78), none⟩,
        ⟨(.prim (.load none)), [.tmp 78], (some 79), none⟩,
        ⟨(.prim (.fieldAddr 19 none)), [.tmp 3], (some 80), none⟩,
        ⟨(.prim (.store none)), [.tmp 80, .tmp 79], none, none⟩] none)
       .skip))))))))))))
 (.seq (.region [⟨(.prim (.load (some 24))), [.tmp 3], (some 81), none⟩,
  ⟨(.prim (.store (some 24))), [.tmp 2, .tmp 81], none, none⟩] none)
 .ret)))))
theorem F77 : IsFun Try.prog 77 1 82 c77 [.cell 2 (some 24)] := ⟨by decide, Try.f77, _, [1], Try.func77, rfl, by decide, rfl, by kernel_rfl, by kernel_rfl⟩

/-- cashbox/cashboxref15.down -/
def c78 : ACode :=
 (.seq (.region [⟨(.prim .id), [.const (.bool false)], (some 2), none⟩] none)
 (.seq (.region [⟨(.prim .id), [.tmp 0], (some 3), none⟩,
  ⟨(.prim (.bin .eql .none)), [.tmp 3, .const (.int .i8 1)], (some 4), none⟩,
  ⟨(.prim .id), [.tmp 4], (some 5), none⟩,
  ⟨(.prim .id), [.tmp 0], (some 6), (some (5, false))⟩,
  ⟨(.prim (.bin .eql .none)), [.tmp 6, .const (.int .i8 2)], (some 7), (some (5, false))⟩,
  ⟨(.prim .pick), [.tmp 5, .const (.bool true), .tmp 7], (some 8), none⟩,
  ⟨(.prim .id), [.tmp 8], (some 9), none⟩,
  ⟨(.prim .id), [.tmp 0], (some 10), (some (9, false))⟩,
  ⟨(.prim (.bin .eql .none)), [.tmp 10, .const (.int .i8 4)], (some 11), (some (9, false))⟩,
  ⟨(.prim .pick), [.tmp 9, .const (.bool true), .tmp 11], (some 12), none⟩,
  ⟨(.prim .id), [.tmp 12], (some 13), none⟩,
  ⟨(.prim .id), [.tmp 0], (some 14), (some (13, false))⟩,
  ⟨(.prim (.bin .eql .none)), [.tmp 14, .const (.int .i8 6)], (some 15), (some (13, false))⟩,
  ⟨(.prim .pick), [.tmp 13, .const (.bool true), .tmp 15], (some 16), none⟩,
  ⟨(.prim .id), [.tmp 16], (some 17), none⟩,
  ⟨(.prim .id), [.tmp 0], (some 18), (some (17, false))⟩,
  ⟨(.prim (.bin .eql .none)), [.tmp 18, .const (.int .i8 9)], (some 19), (some (17, false))⟩,
  ⟨(.prim .pick), [.tmp 17, .const (.bool true), .tmp 19], (some 20), none⟩,
  ⟨(.prim .id), [.tmp 20], (some 2), none⟩] none)
 .ret))
theorem F78 : IsFun Try.prog 78 1 21 c78 [.tmp 2] := ⟨by decide, Try.f78, _, [], Try.func78, rfl, by decide, rfl, by kernel_rfl, by kernel_rfl⟩

/-- cashbox/cashboxref07.Named -/
def c79 : ACode :=
 (.seq (.region [⟨(.prim (.boxR (some 3))), [.tmp 0], (some 1), none⟩,
  ⟨(.prim .id), [.const (.bool false)], (some 2), none⟩] none)
 (.seq (.region [⟨(.prim (.fieldAddr 0 none)), [.tmp 1], (some 3), none⟩,
  ⟨(.prim (.load none)), [.tmp 3], (some 4), none⟩,
  ⟨(.prim (.bin .geq .none)), [.tmp 4, .const (.int .i64 1)], (some 5), none⟩,
  ⟨(.prim .id), [.tmp 5], (some 6), none⟩,
  ⟨(.prim (.fieldAddr 0 none)), [.tmp 1], (some 7), (some (6, true))⟩,
  ⟨(.prim (.load none)), [.tmp 7], (some 8), (some (6, true))⟩,
  ⟨(.prim (.bin .leq .none)), [.tmp 8, .const (.int .i64 1048576)], (some 9), (some (6, true))⟩,
  ⟨(.prim .pick), [.tmp 6, .tmp 9, .const (.bool false)], (some 10), none⟩,
  ⟨(.prim .id), [.tmp 10], (some 11), none⟩,
  ⟨(.prim (.fieldAddr 1 none)), [.tmp 1], (some 12), (some (11, true))⟩,
  ⟨(.prim (.load none)), [.tmp 12], (some 13), (some (11, true))⟩,
  ⟨(.prim (.bin .geq .none)), [.tmp 13, .const (.int .i64 1)], (some 14), (some (11, true))⟩,
  ⟨(.prim .pick), [.tmp 11, .tmp 14, .const (.bool false)], (some 15), none⟩,
  ⟨(.prim .id), [.tmp 15], (some 16), none⟩,
  ⟨(.prim (.fieldAddr 1 none)), [.tmp 1], (some 17), (some (16, true))⟩,
  ⟨(.prim (.load none)), [.tmp 17], (some 18), (some (16, true))⟩,
  ⟨(.prim (.bin .leq .none)), [.tmp 18, .const (.int .i64 1048576)], (some 19), (some (16, true))⟩,
  ⟨(.prim .pick), [.tmp 16, .tmp 19, .const (.bool false)], (some 20), none⟩,
  ⟨(.prim .id), [.tmp 20], (some 21), none⟩,
  ⟨(.prim (.fieldAddr 2 none)), [.tmp 1], (some 22), (some (21, true))⟩,
  ⟨(.prim (.load none)), [.tmp 22], (some 23), (some (21, true))⟩,
  ⟨(.prim (.bin .geq .none)), [.tmp 23, .const (.int .i64 1)], (some 24), (some (21, true))⟩,
  ⟨(.prim .pick), [.tmp 21, .tmp 24, .const (.bool false)], (some 25), none⟩,
  ⟨(.prim .id), [.tmp 25], (some 26), none⟩,
  ⟨(.prim (.fieldAddr 2 none)), [.tmp 1], (some 27), (some (26, true))⟩,
  ⟨(.prim (.load none)), [.tmp 27], (some 28), (some (26, true))⟩,
  ⟨(.prim (.bin .leq .none)), [.tmp 28, .const (.int .i64 1048576)], (some 29), (some (26, true))⟩,
  ⟨(.prim .pick), [.tmp 26, .tmp 29, .const (.bool false)], (some 30), none⟩,
  ⟨(.prim .id), [.tmp 30], (some 2), none⟩] none)
 .ret))
theorem F79 : IsFun Try.prog 79 1 31 c79 [.tmp 2] := ⟨by decide, Try.f79, _, [1], Try.func79, rfl, by decide, rfl, by kernel_rfl, by kernel_rfl⟩

/-- cashbox/cashboxref07.Given -/
def c80 : ACode :=
 (.seq (.region [⟨(.prim .id), [.const (.bool false)], (some 4), none⟩] none)
 (.seq (.region [⟨(.prim .id), [.tmp 0], (some 5), none⟩,
  ⟨(.prim (.bin .geq .none)), [.tmp 5, .const (.int .i64 0)], (some 6), none⟩,
  ⟨(.prim .id), [.tmp 6], (some 7), none⟩,
  ⟨(.prim .id), [.tmp 0], (some 8), (some (7, true))⟩,
  ⟨(.prim (.bin .leq .none)), [.tmp 8, .const (.int .i64 255)], (some 9), (some (7, true))⟩,
  ⟨(.prim .pick), [.tmp 7, .tmp 9, .const (.bool false)], (some 10), none⟩,
  ⟨(.prim .id), [.tmp 10], (some 11), none⟩,
  ⟨(.prim .id), [.tmp 1], (some 12), (some (11, true))⟩,
  ⟨(.prim (.bin .geq .none)), [.tmp 12, .const (.int .i64 0)], (some 13), (some (11, true))⟩,
  ⟨(.prim .pick), [.tmp 11, .tmp 13, .const (.bool false)], (some 14), none⟩,
  ⟨(.prim .id), [.tmp 14], (some 15), none⟩,
  ⟨(.prim .id), [.tmp 1], (some 16), (some (15, true))⟩,
  ⟨(.prim (.bin .leq .none)), [.tmp 16, .const (.int .i64 255)], (some 17), (some (15, true))⟩,
  ⟨(.prim .pick), [.tmp 15, .tmp 17, .const (.bool false)], (some 18), none⟩,
  ⟨(.prim .id), [.tmp 18], (some 19), none⟩,
  ⟨(.prim .id), [.tmp 0], (some 20), (some (19, true))⟩,
  ⟨(.prim .id), [.tmp 1], (some 21), (some (19, true))⟩,
  ⟨(.prim (.bin .and .none)), [.tmp 20, .tmp 21], (some 22), (some (19, true))⟩,
  ⟨(.prim (.bin .eql .none)), [.tmp 22, .const (.int .i64 0)], (some 23), (some (19, true))⟩,
  ⟨(.prim .pick), [.tmp 19, .tmp 23, .const (.bool false)], (some 24), none⟩,
  ⟨(.prim .id), [.tmp 24], (some 4), none⟩] none)
 .ret))
theorem F80 : IsFun Try.prog 80 2 25 c80 [.tmp 4] := ⟨by decide, Try.f80, _, [], Try.func80, rfl, by decide, rfl, by kernel_rfl, by kernel_rfl⟩

-- loop: 0:l, 3:i
/-- cashbox/cashboxref07.Written -/
def c81 : ACode :=
 (.seq (.region [⟨(.prim .id), [.const (.bool false)], (some 2), none⟩] none)
 (.seq (.seq (.region [⟨(.prim .id), [.tmp 0], (some 4), none⟩,
  ⟨(.prim .len), [.tmp 4], (some 5), none⟩,
  ⟨(.prim (.bin .gtr .none)), [.tmp 5, .const (.int .i64 8)], (some 6), none⟩] none)
 (.cond (.tmp 6)
  (.seq (.region [⟨(.prim .id), [.const (.bool false)], (some 2), none⟩] none)
  .ret)
  .skip))
 (.seq (.seq (.region [⟨(.prim .id), [.const (.int .i64 0)], (some 3), none⟩] none)
 (.block 0
  (.loop
   (.seq (.seq (.region [⟨(.prim .id), [.tmp 3], (some 7), none⟩,
    ⟨(.prim .id), [.tmp 0], (some 8), none⟩,
    ⟨(.prim .len), [.tmp 8], (some 9), none⟩,
    ⟨(.prim (.bin .lss .none)), [.tmp 7, .tmp 9], (some 10), none⟩] none)
   (.cond (.tmp 10)
    .skip
    (.exit 0)))
   (.seq (.block 1
    (.seq (.region [⟨(.prim .id), [.tmp 0], (some 13), none⟩,
     ⟨(.prim .id), [.tmp 3], (some 14), none⟩,
     ⟨(.prim (.idxSl (some 9))), [.tmp 13, .tmp 14], (some 15), none⟩,
     ⟨(.prim (.fieldAddr 0 none)), [.tmp 15], (some 16), none⟩,
     ⟨(.prim (.load none)), [.tmp 16], (some 17), none⟩,
     ⟨(.prim (.bin .lss .none)), [.tmp 17, .const (.int .i64 0)], (some 18), none⟩,
     ⟨(.prim .id), [.tmp 18], (some 19), none⟩,
     ⟨(.prim .id), [.tmp 0], (some 20), (some (19, false))⟩,
     ⟨(.prim .id), [.tmp 3], (some 21), (some (19, false))⟩,
     ⟨(.prim (.idxSl (some 9))), [.tmp 20, .tmp 21], (some 22), (some (19, false))⟩,
     ⟨(.prim (.fieldAddr 0 none)), [.tmp 22], (some 23), (some (19, false))⟩,
     ⟨(.prim (.load none)), [.tmp 23], (some 24), (some (19, false))⟩,
     ⟨(.prim (.bin .geq .none)), [.tmp 24, .const (.int .i64 32)], (some 25), (some (19, false))⟩,
     ⟨(.prim .pick), [.tmp 19, .const (.bool true), .tmp 25], (some 26), none⟩,
     ⟨(.prim .id), [.tmp 26], (some 27), none⟩,
     ⟨(.prim .id), [.tmp 3], (some 28), (some (27, false))⟩,
     ⟨(.prim (.bin .gtr .none)), [.tmp 28, .const (.int .i64 0)], (some 29), (some (27, false))⟩,
     ⟨(.prim .id), [.tmp 29], (some 30), (some (27, false))⟩,
     ⟨(.prim .id), [.tmp 0], (some 31), (some (30, true))⟩,
     ⟨(.prim .id), [.tmp 3], (some 32), (some (30, true))⟩,
     ⟨(.prim (.idxSl (some 9))), [.tmp 31, .tmp 32], (some 33), (some (30, true))⟩,
     ⟨(.prim (.fieldAddr 0 none)), [.tmp 33], (some 34), (some (30, true))⟩,
     ⟨(.prim (.load none)), [.tmp 34], (some 35), (some (30, true))⟩,
     ⟨(.prim .id), [.tmp 0], (some 36), (some (30, true))⟩,
     ⟨(.prim .id), [.tmp 3], (some 37), (some (30, true))⟩,
     ⟨(.prim (.bin .sub .none)), [.tmp 37, .const (.int .i64 1)], (some 38), (some (30, true))⟩,
     ⟨(.prim (.idxSl (some 9))), [.tmp 36, .tmp 38], (some 39), (some (30, true))⟩,
     ⟨(.prim (.fieldAddr 0 none)), [.tmp 39], (some 40), (some (30, true))⟩,
     ⟨(.prim (.load none)), [.tmp 40], (some 41), (some (30, true))⟩,
     ⟨(.prim (.bin .leq .none)), [.tmp 35, .tmp 41], (some 42), (some (30, true))⟩,
     ⟨(.prim .pick), [.tmp 30, .tmp 42, .const (.bool false)], (some 43), (some (27, false))⟩,
     ⟨(.prim .pick), [.tmp 27, .const (.bool true), .tmp 43], (some 44), none⟩] (some [[], [], [0, 1], [2], [3], [4], [5], [6], [6], [7, 8, 6], [9, 6], [10, 6], [11, 6], [6, 12], [13, 6], [14], [15, 14], [16, 14, 14], [17], [17], [18, 19, 17], [20, 17], [21, 17], [17], [17], [24, 17], [23, 25, 17], [26, 17], [27, 17], [22, 28, 17], [17, 29, 14], [14, 30]]))
    (.cond (.tmp 44)
     (.seq (.region [⟨(.prim .id), [.const (.bool false)], (some 2), none⟩] none)
     .ret)
     .skip)))
   (.region [⟨(.prim .id), [.tmp 3], (some 11), none⟩,
    ⟨(.prim (.bin .add .none)), [.tmp 11, .const (.int .i64 1)], (some 12), none⟩,
    ⟨(.prim .id), [.tmp 12], (some 3), none⟩] none))))))
 (.seq (.region [⟨(.prim .id), [.const (.bool true)], (some 2), none⟩] none)
 .ret))))
theorem F81 : IsFun Try.prog 81 1 45 c81 [.tmp 2] := ⟨by decide, Try.f81, _, [], Try.func81, rfl, by decide, rfl, by kernel_rfl, by kernel_rfl⟩

-- loop: 0:s1, 1:s2, 12:, 13:
/-- slices.Equal[[]cashbox/api.Write,cashbox/api.Write] -/
def c84 : ACode :=
 (.seq (.region [⟨(.prim .id), [.const (.bool false)], (some 4), none⟩] none)
 (.seq (.seq (.region [⟨(.prim .id), [.tmp 0], (some 6), none⟩,
  ⟨(.prim .len), [.tmp 6], (some 7), none⟩,
  ⟨(.prim .id), [.tmp 1], (some 8), none⟩,
  ⟨(.prim .len), [.tmp 8], (some 9), none⟩,
  ⟨(.prim (.bin .neq .none)), [.tmp 7, .tmp 9], (some 10), none⟩] none)
 (.cond (.tmp 10)
  (.seq (.region [⟨(.prim .id), [.const (.bool false)], (some 4), none⟩] none)
  .ret)
  .skip))
 (.seq (.seq (.region [⟨(.prim .id), [.tmp 0], (some 11), none⟩,
  ⟨(.prim .len), [.tmp 11], (some 12), none⟩,
  ⟨(.prim .id), [.const (.int .i64 0)], (some 13), none⟩] none)
 (.block 0
  (.loop
   (.seq (.region [⟨(.prim (.bin .lss .none)), [.tmp 13, .tmp 12], (some 14), none⟩] none)
   (.seq (.cond (.tmp 14)
    .skip
    (.exit 0))
   (.seq (.block 1
    (.seq (.region [⟨(.prim .id), [.tmp 13], (some 15), none⟩,
     ⟨(.prim .id), [.tmp 15], (some 5), none⟩] none)
    (.seq (.region [⟨(.prim .id), [.tmp 0], (some 16), none⟩,
     ⟨(.prim .id), [.tmp 5], (some 17), none⟩,
     ⟨(.prim (.idxSl (some 9))), [.tmp 16, .tmp 17], (some 18), none⟩,
     ⟨(.prim (.load (some 9))), [.tmp 18], (some 19), none⟩,
     ⟨(.prim .id), [.tmp 1], (some 20), none⟩,
     ⟨(.prim .id), [.tmp 5], (some 21), none⟩,
     ⟨(.prim (.idxSl (some 9))), [.tmp 20, .tmp 21], (some 22), none⟩,
     ⟨(.prim (.load (some 9))), [.tmp 22], (some 23), none⟩,
     ⟨(.prim (.bin .neq (.flat [0, 0, 0, 0, 0, 0, 0, 0, 0]))), [.tmp 19, .tmp 23], (some 24), none⟩] (some [[], [], [0, 1], [2], [], [], [4, 5], [6], [3, 7]]))
    (.cond (.tmp 24)
     (.seq (.region [⟨(.prim .id), [.const (.bool false)], (some 4), none⟩] none)
     .ret)
     .skip))))
   (.region [⟨(.prim (.bin .add .none)), [.tmp 13, .const (.int .i64 1)], (some 25), none⟩,
    ⟨(.prim .id), [.tmp 25], (some 13), none⟩] none)))))))
 (.seq (.region [⟨(.prim .id), [.const (.bool true)], (some 4), none⟩] none)
 .ret))))
theorem F84 : IsFun Try.prog 84 2 26 c84 [.tmp 4] := ⟨by decide, Try.f84, _, [], Try.func84, rfl, by decide, rfl, by kernel_rfl, by kernel_rfl⟩

/-- cashbox/wire.Bytes -/
def c91 : ACode :=
 (.seq (.region [⟨(.prim (.box (some 24))), [.tmp 0], (some 1), none⟩,
  ⟨(.prim .id), [.const (.sl .clip [])], (some 2), none⟩,
  ⟨(.prim .id), [.const (.int .i64 0)], (some 3), none⟩] none)
 (.seq (.seq (.region [⟨(.prim (.load (some 24))), [.tmp 1], (some 7), none⟩,
  ⟨(.call 64), [.tmp 7], (some 8), none⟩,
  ⟨(.prim (.un .not)), [.tmp 8], (some 9), none⟩] none)
 (.cond (.tmp 9)
  (.seq (.region [⟨(.prim .id), [.const (.sl .clip [])], (some 2), none⟩,
   ⟨(.prim .id), [.const (.int .i64 2)], (some 3), none⟩] none)
  .ret)
  .skip))
 (.seq (.region [⟨(.prim (.fieldAddr 0 none)), [.tmp 1], (some 11), none⟩,
  ⟨(.prim (.load none)), [.tmp 11], (some 12), none⟩,
  ⟨(.call 120), [.tmp 12], (some 13), none⟩,
  ⟨(.prim .id), [.tmp 13], (some 10), none⟩,
  ⟨(.prim (.extract 0)), [.tmp 10], (some 14), none⟩,
  ⟨(.prim (.extract 1)), [.tmp 10], (some 15), none⟩,
  ⟨(.prim (.alloc [(.bool false), (.sl .clip []), .nilfn])), [], (some 4), none⟩,
  ⟨(.prim (.store (some 3))), [.tmp 4, .tmp 14], none, none⟩,
  ⟨(.prim .id), [.tmp 15], (some 5), none⟩] none)
 (.seq (.region [⟨(.prim (.fieldAddr 0 none)), [.tmp 1], (some 16), none⟩,
  ⟨(.prim (.load none)), [.tmp 16], (some 17), none⟩,
  ⟨(.prim (.conv .u8)), [.tmp 17], (some 18), none⟩,
  ⟨(.prim (.fieldAddr 1 none)), [.tmp 1], (some 19), none⟩,
  ⟨(.prim (.load none)), [.tmp 19], (some 20), none⟩,
  ⟨(.prim (.conv .u8)), [.tmp 20], (some 21), none⟩,
  ⟨(.prim (.fieldAddr 2 none)), [.tmp 1], (some 22), none⟩,
  ⟨(.prim (.load none)), [.tmp 22], (some 23), none⟩,
  ⟨(.prim (.conv .u8)), [.tmp 23], (some 24), none⟩,
  ⟨(.prim (.buildSl none)), [.tmp 18, .tmp 21, .tmp 24], (some 25), none⟩,
  ⟨(.prim (.alloc [(.sl .clip [])])), [], (some 6), none⟩,
  ⟨(.prim (.store none)), [.tmp 6, .tmp 25], none, none⟩] none)
 (.seq (.region [⟨(.prim (.fieldAddr 3 none)), [.tmp 1], (some 26), none⟩,
  ⟨(.prim (.load none)), [.tmp 26], (some 27), none⟩,
  ⟨(.call 137), [.tmp 6, .tmp 27, .const (.int .i64 3)], (some 28), none⟩] none)
 (.seq (.region [⟨(.prim (.fieldAddr 4 none)), [.tmp 1], (some 29), none⟩,
  ⟨(.prim (.load none)), [.tmp 29], (some 30), none⟩,
  ⟨(.call 137), [.tmp 6, .tmp 30, .const (.int .i64 3)], (some 31), none⟩] none)
 (.seq (.region [⟨(.prim (.load none)), [.tmp 6], (some 32), none⟩,
  ⟨(.call 122), [.tmp 4, .tmp 1], (some 33), none⟩,
  ⟨(.prim (.append none)), [.tmp 32, .tmp 33], (some 34), none⟩,
  ⟨(.call 138), [.tmp 34], (some 35), none⟩,
  ⟨(.prim .id), [.tmp 35], (some 2), none⟩,
  ⟨(.prim .id), [.const (.int .i64 0)], (some 3), none⟩] (some [[], [], [0, 1, 1], [2, 2], [3, 3, 0, 1, 2, 3], [4, 0, 1, 2, 3, 4]]))
 .ret)))))))
theorem F91 : IsFun Try.prog 91 1 36 c91 [.tmp 2, .tmp 3] := ⟨by decide, Try.f91, _, [], Try.func91, rfl, by decide, rfl, by kernel_rfl, by kernel_rfl⟩

/-- cashbox/cashboxref15.Read -/
def c96 : ACode :=
 (.seq (.region [⟨(.prim (.alloc [(.int .i8 0), (.int .i64 0), (.int .i64 0), (.int .i64 0), (.int .i64 0), (.int .i64 0), (.int .i64 0), (.int .i64 0), (.int .i64 0), (.int .i8 0), (.int .i64 0), (.int .u8 0), (.int .u8 0), (.int .u8 0), (.int .u8 0), (.int .u8 0), (.int .u8 0), (.int .u8 0), (.int .u8 0), (.int .i64 0), (.bool false), (.int .i64 0), (.int .i64 0), (.sl .clip [])])), [], (some 2), none⟩,
  ⟨(.prim .id), [.const (.int .i64 0)], (some 3), none⟩] none)
 (.seq (.region [⟨(.prim .id), [.tmp 0], (some 12), none⟩,
  ⟨(.call 147), [.tmp 12], (some 13), none⟩,
  ⟨(.prim .id), [.tmp 13], (some 11), none⟩,
  ⟨(.prim (.extract 0)), [.tmp 11], (some 14), none⟩,
  ⟨(.prim (.extract 1)), [.tmp 11], (some 15), none⟩,
  ⟨(.prim .id), [.tmp 14], (some 4), none⟩,
  ⟨(.prim .id), [.tmp 15], (some 5), none⟩] none)
 (.seq (.seq (.region [⟨(.prim .id), [.tmp 5], (some 16), none⟩,
  ⟨(.prim (.un .not)), [.tmp 16], (some 17), none⟩,
  ⟨(.prim .id), [.tmp 17], (some 18), none⟩,
  ⟨(.prim .id), [.tmp 4], (some 19), (some (18, false))⟩,
  ⟨(.prim .len), [.tmp 19], (some 20), (some (18, false))⟩,
  ⟨(.prim (.bin .eql .none)), [.tmp 20, .const (.int .i64 0)], (some 21), (some (18, false))⟩,
  ⟨(.prim .pick), [.tmp 18, .const (.bool true), .tmp 21], (some 22), none⟩,
  ⟨(.prim .id), [.tmp 22], (some 23), none⟩,
  ⟨(.prim .id), [.tmp 4], (some 24), (some (23, false))⟩,
  ⟨(.prim (.idxSl none)), [.tmp 24, .const (.int .i64 0)], (some 25), (some (23, false))⟩,
  ⟨(.prim (.load none)), [.tmp 25], (some 26), (some (23, false))⟩,
  ⟨(.prim (.bin .gtr .none)), [.tmp 26, .const (.int .u8 127)], (some 27), (some (23, false))⟩,
  ⟨(.prim .pick), [.tmp 23, .const (.bool true), .tmp 27], (some 28), none⟩] none)
 (.cond (.tmp 28)
  (.seq (.region [⟨(.prim (.build [(.int .i8 0), (.int .i64 0), (.int .i64 0), (.int .i64 0), (.int .i64 0), (.int .i64 0), (.int .i64 0), (.int .i64 0), (.int .i64 0), (.int .i8 0), (.int .i64 0), (.int .u8 0), (.int .u8 0), (.int .u8 0), (.int .u8 0), (.int .u8 0), (.int .u8 0), (.int .u8 0), (.int .u8 0), (.int .i64 0), (.bool false), (.int .i64 0), (.int .i64 0), (.sl .clip [])] [])), [], (some 29), none⟩,
   ⟨(.prim (.store (some 24))), [.tmp 2, .tmp 29], none, none⟩,
   ⟨(.prim .id), [.const (.int .i64 40)], (some 3), none⟩] none)
  .ret)
  .skip))
 (.seq (.region [⟨(.prim .id), [.tmp 4], (some 30), none⟩,
  ⟨(.prim (.build [(.sl .clip []), (.int .i64 0), (.bool false)] [(0, 1)])), [.tmp 30], (some 31), none⟩,
  ⟨(.prim (.box (some 3))), [.tmp 31], (some 32), none⟩,
  ⟨(.prim .id), [.tmp 32], (some 6), none⟩] none)
 (.seq (.region [⟨(.prim (.alloc [(.int .i8 0), (.int .i64 0), (.int .i64 0), (.int .i64 0), (.int .i64 0), (.int .i64 0), (.int .i64 0), (.int .i64 0), (.int .i64 0), (.int .i8 0), (.int .i64 0), (.int .u8 0), (.int .u8 0), (.int .u8 0), (.int .u8 0), (.int .u8 0), (.int .u8 0), (.int .u8 0), (.int .u8 0), (.int .i64 0), (.bool false), (.int .i64 0), (.int .i64 0), (.sl .clip [])])), [], (some 7), none⟩] none)
 (.seq (.region [⟨(.prim .id), [.tmp 6], (some 33), none⟩,
  ⟨(.call 148), [.tmp 33], (some 34), none⟩,
  ⟨(.prim (.conv .i8)), [.tmp 34], (some 35), none⟩,
  ⟨(.prim (.fieldAddr 0 none)), [.tmp 7], (some 36), none⟩,
  ⟨(.prim (.store none)), [.tmp 36, .tmp 35], none, none⟩] none)
 (.seq (.region [⟨(.prim .id), [.tmp 6], (some 37), none⟩,
  ⟨(.call 148), [.tmp 37], (some 38), none⟩,
  ⟨(.prim (.fieldAddr 1 none)), [.tmp 7], (some 39), none⟩,
  ⟨(.prim (.store none)), [.tmp 39, .tmp 38], none, none⟩] none)
 (.seq (.region [⟨(.prim .id), [.tmp 6], (some 40), none⟩,
  ⟨(.call 148), [.tmp 40], (some 41), none⟩,
  ⟨(.prim (.fieldAddr 2 none)), [.tmp 7], (some 42), none⟩,
  ⟨(.prim (.store none)), [.tmp 42, .tmp 41], none, none⟩] none)
 (.seq (.region [⟨(.prim .id), [.tmp 6], (some 43), none⟩,
  ⟨(.call 149), [.tmp 43], (some 44), none⟩,
  ⟨(.prim (.fieldAddr 3 none)), [.tmp 7], (some 45), none⟩,
  ⟨(.prim (.store none)), [.tmp 45, .tmp 44], none, none⟩] none)
 (.seq (.region [⟨(.prim .id), [.tmp 6], (some 46), none⟩,
  ⟨(.call 149), [.tmp 46], (some 47), none⟩,
  ⟨(.prim (.fieldAddr 4 none)), [.tmp 7], (some 48), none⟩,
  ⟨(.prim (.store none)), [.tmp 48, .tmp 47], none, none⟩] none)
 (.seq (.seq (.region [⟨(.prim (.fieldAddr 0 none)), [.tmp 7], (some 49), none⟩,
  ⟨(.prim (.load none)), [.tmp 49], (some 50), none⟩,
  ⟨(.prim (.bin .neq .none)), [.tmp 50, .const (.int .i8 1)], (some 51), none⟩,
  ⟨(.prim .id), [.tmp 51], (some 52), none⟩,
  ⟨(.prim (.fieldAddr 0 none)), [.tmp 7], (some 53), (some (52, true))⟩,
  ⟨(.prim (.load none)), [.tmp 53], (some 54), (some (52, true))⟩,
  ⟨(.prim (.bin .neq .none)), [.tmp 54, .const (.int .i8 11)], (some 55), (some (52, true))⟩,
  ⟨(.prim .pick), [.tmp 52, .tmp 55, .const (.bool false)], (some 56), none⟩] none)
 (.cond (.tmp 56)
  (.region [⟨(.prim .id), [.tmp 6], (some 57), none⟩,
   ⟨(.call 150), [.tmp 57], (some 58), none⟩,
   ⟨(.prim (.fieldAddr 5 (some 3))), [.tmp 7], (some 59), none⟩,
   ⟨(.prim (.store (some 3))), [.tmp 59, .tmp 58], none, none⟩] none)
  .skip))
 (.seq (.seq (.region [⟨(.prim (.fieldAddr 0 none)), [.tmp 7], (some 60), none⟩,
  ⟨(.prim (.load none)), [.tmp 60], (some 61), none⟩] none)
 (.block 0
  (.seq (.region [⟨(.prim (.bin .eql .none)), [.tmp 61, .const (.int .i8 2)], (some 63), none⟩,
   ⟨(.prim .id), [.tmp 63], (some 62), none⟩] none)
  (.cond (.tmp 62)
   (.seq (.region [⟨(.prim .id), [.tmp 6], (some 64), none⟩,
    ⟨(.call 149), [.tmp 64], (some 65), none⟩,
    ⟨(.prim (.fieldAddr 8 none)), [.tmp 7], (some 66), none⟩,
    ⟨(.prim (.store none)), [.tmp 66, .tmp 65], none, none⟩] none)
   (.seq (.region [⟨(.prim .id), [.tmp 6], (some 67), none⟩,
    ⟨(.call 148), [.tmp 67], (some 68), none⟩,
    ⟨(.prim .id), [.tmp 68], (some 8), none⟩] none)
   (.seq (.region [⟨(.prim .id), [.tmp 6], (some 69), none⟩,
    ⟨(.prim .id), [.tmp 6], (some 70), none⟩,
    ⟨(.prim .nilc), [.tmp 70], (some 71), none⟩,
    ⟨(.prim (.fieldAddr 2 none)), [.tmp 71], (some 72), none⟩,
    ⟨(.prim (.load none)), [.tmp 72], (some 73), none⟩,
    ⟨(.prim .id), [.tmp 73], (some 74), none⟩,
    ⟨(.prim .id), [.tmp 8], (some 75), (some (74, false))⟩,
    ⟨(.prim (.bin .gtr .none)), [.tmp 75, .const (.int .i64 127)], (some 76), (some (74, false))⟩,
    ⟨(.prim .pick), [.tmp 74, .const (.bool true), .tmp 76], (some 77), none⟩,
    ⟨(.prim .nilc), [.tmp 69], (some 78), none⟩,
    ⟨(.prim (.fieldAddr 2 none)), [.tmp 78], (some 79), none⟩,
    ⟨(.prim (.store none)), [.tmp 79, .tmp 77], none, none⟩] none)
   (.seq (.region [⟨(.prim .id), [.tmp 8], (some 80), none⟩,
    ⟨(.prim (.bin .and .none)), [.tmp 80, .const (.int .i64 127)], (some 81), none⟩,
    ⟨(.prim (.conv .i8)), [.tmp 81], (some 82), none⟩,
    ⟨(.prim (.fieldAddr 9 none)), [.tmp 7], (some 83), none⟩,
    ⟨(.prim (.store none)), [.tmp 83, .tmp 82], none, none⟩] none)
   (.seq (.region [⟨(.prim .id), [.tmp 6], (some 84), none⟩,
    ⟨(.call 148), [.tmp 84], (some 85), none⟩,
    ⟨(.prim (.fieldAddr 10 none)), [.tmp 7], (some 86), none⟩,
    ⟨(.prim (.store none)), [.tmp 86, .tmp 85], none, none⟩] none)
   (.region [⟨(.prim .id), [.tmp 6], (some 87), none⟩,
    ⟨(.call 151), [.tmp 87], (some 88), none⟩,
    ⟨(.prim (.fieldAddr 11 (some 8))), [.tmp 7], (some 89), none⟩,
    ⟨(.prim (.store (some 8))), [.tmp 89, .tmp 88], none, none⟩] none))))))
   (.seq (.region [⟨(.prim (.bin .eql .none)), [.tmp 61, .const (.int .i8 3)], (some 91), none⟩,
    ⟨(.prim .id), [.tmp 91], (some 90), none⟩] none)
   (.cond (.tmp 90)
    (.seq (.region [⟨(.prim .id), [.tmp 6], (some 92), none⟩,
     ⟨(.call 149), [.tmp 92], (some 93), none⟩,
     ⟨(.prim (.fieldAddr 8 none)), [.tmp 7], (some 94), none⟩,
     ⟨(.prim (.store none)), [.tmp 94, .tmp 93], none, none⟩] none)
    (.seq (.region [⟨(.prim .id), [.tmp 6], (some 95), none⟩,
     ⟨(.call 151), [.tmp 95], (some 96), none⟩,
     ⟨(.prim (.fieldAddr 11 (some 8))), [.tmp 7], (some 97), none⟩,
     ⟨(.prim (.store (some 8))), [.tmp 97, .tmp 96], none, none⟩] none)
    (.seq (.region [⟨(.prim .id), [.tmp 6], (some 98), none⟩,
     ⟨(.call 148), [.tmp 98], (some 99), none⟩,
     ⟨(.prim .id), [.tmp 99], (some 9), none⟩] none)
    (.region [⟨(.prim .id), [.tmp 9], (some 100), none⟩,
     ⟨(.prim .id), [.tmp 6], (some 101), none⟩,
     ⟨(.call 148), [.tmp 101], (some 102), none⟩,
     ⟨(.prim (.bin .shl .none)), [.tmp 102, .const (.int .u64 8)], (some 103), none⟩,
     ⟨(.prim (.bin .add .none)), [.tmp 100, .tmp 103], (some 104), none⟩,
     ⟨(.prim (.fieldAddr 19 none)), [.tmp 7], (some 105), none⟩,
     ⟨(.prim (.store none)), [.tmp 105, .tmp 104], none, none⟩] none))))
    (.seq (.region [⟨(.prim (.bin .eql .none)), [.tmp 61, .const (.int .i8 4)], (some 107), none⟩,
     ⟨(.prim .id), [.tmp 107], (some 106), none⟩] none)
    (.cond (.tmp 106)
     (.seq (.region [⟨(.prim .id), [.tmp 6], (some 108), none⟩,
      ⟨(.call 148), [.tmp 108], (some 109), none⟩,
      ⟨(.prim (.fieldAddr 21 none)), [.tmp 7], (some 110), none⟩,
      ⟨(.prim (.store none)), [.tmp 110, .tmp 109], none, none⟩] none)
     (.seq (.region [⟨(.prim .id), [.tmp 6], (some 111), none⟩,
      ⟨(.call 148), [.tmp 111], (some 112), none⟩,
      ⟨(.prim (.fieldAddr 22 none)), [.tmp 7], (some 113), none⟩,
      ⟨(.prim (.store none)), [.tmp 113, .tmp 112], none, none⟩] none)
     (.region [⟨(.prim .id), [.tmp 6], (some 114), none⟩,
      ⟨(.call 152), [.tmp 114], (some 115), none⟩,
      ⟨(.prim (.fieldAddr 23 none)), [.tmp 7], (some 116), none⟩,
      ⟨(.prim (.store none)), [.tmp 116, .tmp 115], none, none⟩] none)))
     (.seq (.seq (.region [⟨(.prim (.bin .eql .none)), [.tmp 61, .const (.int .i8 5)], (some 118), none⟩,
      ⟨(.prim .id), [.tmp 118], (some 117), none⟩] none)
     (.cond (.tmp 117)
      .skip
      (.region [⟨(.prim (.bin .eql .none)), [.tmp 61, .const (.int .i8 6)], (some 119), none⟩,
       ⟨(.prim .id), [.tmp 119], (some 117), none⟩] none)))
     (.cond (.tmp 117)
      (.region [⟨(.prim .id), [.tmp 6], (some 120), none⟩,
       ⟨(.call 153), [.tmp 120], (some 121), none⟩,
       ⟨(.prim (.fieldAddr 20 none)), [.tmp 7], (some 122), none⟩,
       ⟨(.prim (.store none)), [.tmp 122, .tmp 121], none, none⟩] none)
      (.seq (.region [⟨(.prim (.bin .eql .none)), [.tmp 61, .const (.int .i8 10)], (some 124), none⟩,
       ⟨(.prim .id), [.tmp 124], (some 123), none⟩] none)
      (.cond (.tmp 123)
       (.seq (.region [⟨(.prim .id), [.tmp 6], (some 125), none⟩,
        ⟨(.call 148), [.tmp 125], (some 126), none⟩,
        ⟨(.prim .id), [.tmp 126], (some 10), none⟩] none)
       (.region [⟨(.prim .id), [.tmp 10], (some 127), none⟩,
        ⟨(.prim .id), [.tmp 6], (some 128), none⟩,
        ⟨(.call 148), [.tmp 128], (some 129), none⟩,
        ⟨(.prim (.bin .shl .none)), [.tmp 129, .const (.int .u64 8)], (some 130), none⟩,
        ⟨(.prim (.bin .add .none)), [.tmp 127, .tmp 130], (some 131), none⟩,
        ⟨(.prim (.fieldAddr 19 none)), [.tmp 7], (some 132), none⟩,
        ⟨(.prim (.store none)), [.tmp 132, .tmp 131], none, none⟩] none))
       .skip))))))))))))
 (.seq (.seq (.region [⟨(.prim .id), [.tmp 6], (some 133), none⟩,
  ⟨(.prim .nilc), [.tmp 133], (some 134), none⟩,
  ⟨(.prim (.fieldAddr 2 none)), [.tmp 134], (some 135), none⟩,
  ⟨(.prim (.load none)), [.tmp 135], (some 136), none⟩,
  ⟨(.prim .id), [.tmp 136], (some 137), none⟩,
  ⟨(.prim .id), [.tmp 6], (some 138), (some (137, false))⟩,
  ⟨(.prim .nilc), [.tmp 138], (some 139), (some (137, false))⟩,
  ⟨(.prim (.fieldAddr 1 none)), [.tmp 139], (some 140), (some (137, false))⟩,
  ⟨(.prim (.load none)), [.tmp 140], (some 141), (some (137, false))⟩,
  ⟨(.prim .id), [.tmp 4], (some 142), (some (137, false))⟩,
  ⟨(.prim .len), [.tmp 142], (some 143), (some (137, false))⟩,
  ⟨(.prim (.bin .neq .none)), [.tmp 141, .tmp 143], (some 144), (some (137, false))⟩,
  ⟨(.prim .pick), [.tmp 137, .const (.bool true), .tmp 144], (some 145), none⟩,
  ⟨(.prim .id), [.tmp 145], (some 146), none⟩,
  ⟨(.prim (.load (some 24))), [.tmp 7], (some 147), (some (146, false))⟩,
  ⟨(.call 25), [.tmp 147], (some 148), (some (146, false))⟩,
  ⟨(.prim (.un .not)), [.tmp 148], (some 149), (some (146, false))⟩,
  ⟨(.prim .pick), [.tmp 146, .const (.bool true), .tmp 149], (some 150), none⟩] none)
 (.cond (.tmp 150)
  (.seq (.region [⟨(.prim (.build [(.int .i8 0), (.int .i64 0), (.int .i64 0), (.int .i64 0), (.int .i64 0), (.int .i64 0), (.int .i64 0), (.int .i64 0), (.int .i64 0), (.int .i8 0), (.int .i64 0), (.int .u8 0), (.int .u8 0), (.int .u8 0), (.int .u8 0), (.int .u8 0), (.int .u8 0), (.int .u8 0), (.int .u8 0), (.int .i64 0), (.bool false), (.int .i64 0), (.int .i64 0), (.sl .clip [])] [])), [], (some 151), none⟩,
   ⟨(.prim (.store (some 24))), [.tmp 2, .tmp 151], none, none⟩,
   ⟨(.prim .id), [.const (.int .i64 40)], (some 3), none⟩] none)
  .ret)
  .skip))
 (.seq (.region [⟨(.prim (.load (some 24))), [.tmp 7], (some 152), none⟩,
  ⟨(.prim (.store (some 24))), [.tmp 2, .tmp 152], none, none⟩,
  ⟨(.prim .id), [.const (.int .i64 0)], (some 3), none⟩] none)
 .ret))))))))))))))
theorem F96 : IsFun Try.prog 96 1 153 c96 [.cell 2 (some 24), .tmp 3] := ⟨by decide, Try.f96, _, [], Try.func96, rfl, by decide, rfl, by kernel_rfl, by kernel_rfl⟩

-- loop: 0:a, 1:b, 5:i
/-- cashbox/cashboxref07.SameWrites -/
def c98 : ACode :=
 (.seq (.region [⟨(.prim .id), [.const (.bool false)], (some 4), none⟩] none)
 (.seq (.seq (.region [⟨(.prim .id), [.tmp 0], (some 6), none⟩,
  ⟨(.prim .len), [.tmp 6], (some 7), none⟩,
  ⟨(.prim .id), [.tmp 1], (some 8), none⟩,
  ⟨(.prim .len), [.tmp 8], (some 9), none⟩,
  ⟨(.prim (.bin .neq .none)), [.tmp 7, .tmp 9], (some 10), none⟩] none)
 (.cond (.tmp 10)
  (.seq (.region [⟨(.prim .id), [.const (.bool false)], (some 4), none⟩] none)
  .ret)
  .skip))
 (.seq (.seq (.region [⟨(.prim .id), [.const (.int .i64 0)], (some 5), none⟩] none)
 (.block 0
  (.loop
   (.seq (.seq (.region [⟨(.prim .id), [.tmp 5], (some 11), none⟩,
    ⟨(.prim .id), [.tmp 0], (some 12), none⟩,
    ⟨(.prim .len), [.tmp 12], (some 13), none⟩,
    ⟨(.prim (.bin .lss .none)), [.tmp 11, .tmp 13], (some 14), none⟩] none)
   (.cond (.tmp 14)
    .skip
    (.exit 0)))
   (.seq (.block 1
    (.seq (.region [⟨(.prim .id), [.tmp 0], (some 17), none⟩,
     ⟨(.prim .id), [.tmp 5], (some 18), none⟩,
     ⟨(.prim (.idxSl (some 9))), [.tmp 17, .tmp 18], (some 19), none⟩,
     ⟨(.prim (.load (some 9))), [.tmp 19], (some 20), none⟩,
     ⟨(.prim .id), [.tmp 1], (some 21), none⟩,
     ⟨(.prim .id), [.tmp 5], (some 22), none⟩,
     ⟨(.prim (.idxSl (some 9))), [.tmp 21, .tmp 22], (some 23), none⟩,
     ⟨(.prim (.load (some 9))), [.tmp 23], (some 24), none⟩,
     ⟨(.prim (.bin .neq (.flat [0, 0, 0, 0, 0, 0, 0, 0, 0]))), [.tmp 20, .tmp 24], (some 25), none⟩] (some [[], [], [0, 1], [2], [], [], [4, 5], [6], [3, 7]]))
    (.cond (.tmp 25)
     (.seq (.region [⟨(.prim .id), [.const (.bool false)], (some 4), none⟩] none)
     .ret)
     .skip)))
   (.region [⟨(.prim .id), [.tmp 5], (some 15), none⟩,
    ⟨(.prim (.bin .add .none)), [.tmp 15, .const (.int .i64 1)], (some 16), none⟩,
    ⟨(.prim .id), [.tmp 16], (some 5), none⟩] none))))))
 (.seq (.region [⟨(.prim .id), [.const (.bool true)], (some 4), none⟩] none)
 .ret))))
theorem F98 : IsFun Try.prog 98 2 26 c98 [.tmp 4] := ⟨by decide, Try.f98, _, [], Try.func98, rfl, by decide, rfl, by kernel_rfl, by kernel_rfl⟩

/-- cashbox/record.Named -/
def c118 : ACode :=
 (.seq (.region [⟨(.prim (.boxR (some 3))), [.tmp 0], (some 1), none⟩,
  ⟨(.prim .id), [.const (.bool false)], (some 2), none⟩] none)
 (.seq (.region [⟨(.prim (.fieldAddr 0 none)), [.tmp 1], (some 3), none⟩,
  ⟨(.prim (.load none)), [.tmp 3], (some 4), none⟩,
  ⟨(.call 169), [.tmp 4, .const (.int .i64 1), .const (.int .i64 1048576)], (some 5), none⟩,
  ⟨(.prim .id), [.tmp 5], (some 6), none⟩,
  ⟨(.prim (.fieldAddr 1 none)), [.tmp 1], (some 7), (some (6, true))⟩,
  ⟨(.prim (.load none)), [.tmp 7], (some 8), (some (6, true))⟩,
  ⟨(.call 169), [.tmp 8, .const (.int .i64 1), .const (.int .i64 1048576)], (some 9), (some (6, true))⟩,
  ⟨(.prim .pick), [.tmp 6, .tmp 9, .const (.bool false)], (some 10), none⟩,
  ⟨(.prim .id), [.tmp 10], (some 11), none⟩,
  ⟨(.prim (.fieldAddr 2 none)), [.tmp 1], (some 12), (some (11, true))⟩,
  ⟨(.prim (.load none)), [.tmp 12], (some 13), (some (11, true))⟩,
  ⟨(.call 169), [.tmp 13, .const (.int .i64 1), .const (.int .i64 1048576)], (some 14), (some (11, true))⟩,
  ⟨(.prim .pick), [.tmp 11, .tmp 14, .const (.bool false)], (some 15), none⟩,
  ⟨(.prim .id), [.tmp 15], (some 2), none⟩] none)
 .ret))
theorem F118 : IsFun Try.prog 118 1 16 c118 [.tmp 2] := ⟨by decide, Try.f118, _, [1], Try.func118, rfl, by decide, rfl, by kernel_rfl, by kernel_rfl⟩

/-- cashbox/wire.kindOf -/
def c120 : ACode :=
 (.seq (.region [⟨(.prim (.alloc [(.bool false), (.sl .clip []), .nilfn])), [], (some 2), none⟩,
  ⟨(.prim .id), [.const (.bool false)], (some 3), none⟩] none)
 (.seq (.region [⟨(.call 170), [], (some 7), none⟩,
  ⟨(.prim (.alloc [.nilfn, .nilfn, .nilfn, .nilfn, .nilfn, .nilfn, .nilfn, .nilfn, .nilfn, .nilfn, .nilfn, .nilfn, .nilfn, .nilfn, .nilfn, .nilfn, .nilfn, .nilfn, .nilfn, .nilfn])), [], (some 4), none⟩,
  ⟨(.prim (.store (some 20))), [.tmp 4, .tmp 7], none, none⟩] none)
 (.seq (.region [⟨(.prim .id), [.const (.fn (.func 171) [] [])], (some 5), none⟩] none)
 (.seq (.region [⟨(.prim (.alloc [.nilfn])), [], (some 6), none⟩,
  ⟨(.prim (.store none)), [.tmp 6, .const (.fn (.func 172) [] [])], none, none⟩] none)
 (.seq (.seq (.region [⟨(.prim .id), [.tmp 0], (some 8), none⟩] none)
 (.block 0
  (.seq (.region [⟨(.prim (.bin .eql .none)), [.tmp 8, .const (.int .i8 1)], (some 10), none⟩,
   ⟨(.prim .id), [.tmp 10], (some 9), none⟩] none)
  (.cond (.tmp 9)
   (.seq (.region [⟨(.prim .id), [.tmp 5], (some 11), none⟩,
    ⟨(.prim (.build [(.bool false), (.sl .clip []), .nilfn] [(0, 1), (1, 1), (2, 1)])), [.const (.bool true), .const (.sl .clip []), .tmp 11], (some 12), none⟩,
    ⟨(.prim (.store (some 3))), [.tmp 2, .tmp 12], none, none⟩,
    ⟨(.prim .id), [.const (.bool true)], (some 3), none⟩] none)
   .ret)
   (.seq (.region [⟨(.prim (.bin .eql .none)), [.tmp 8, .const (.int .i8 11)], (some 14), none⟩,
    ⟨(.prim .id), [.tmp 14], (some 13), none⟩] none)
   (.cond (.tmp 13)
    (.seq (.region [⟨(.prim .id), [.tmp 5], (some 15), none⟩,
     ⟨(.prim (.build [(.bool false), (.sl .clip []), .nilfn] [(0, 1), (1, 1), (2, 1)])), [.const (.bool false), .const (.sl .clip []), .tmp 15], (some 16), none⟩,
     ⟨(.prim (.store (some 3))), [.tmp 2, .tmp 16], none, none⟩,
     ⟨(.prim .id), [.const (.bool true)], (some 3), none⟩] none)
    .ret)
    (.seq (.region [⟨(.prim (.bin .eql .none)), [.tmp 8, .const (.int .i8 2)], (some 18), none⟩,
     ⟨(.prim .id), [.tmp 18], (some 17), none⟩] none)
    (.cond (.tmp 17)
     (.seq (.region [⟨(.prim (.fieldAddr 0 (some 2))), [.tmp 4], (some 19), none⟩,
      ⟨(.prim (.load (some 2))), [.tmp 19], (some 20), none⟩,
      ⟨(.prim (.fieldAddr 2 (some 2))), [.tmp 4], (some 21), none⟩,
      ⟨(.prim (.load (some 2))), [.tmp 21], (some 22), none⟩,
      ⟨(.prim (.fieldAddr 6 (some 2))), [.tmp 4], (some 23), none⟩,
      ⟨(.prim (.load (some 2))), [.tmp 23], (some 24), none⟩,
      ⟨(.prim (.fieldAddr 4 (some 2))), [.tmp 4], (some 25), none⟩,
      ⟨(.prim (.load (some 2))), [.tmp 25], (some 26), none⟩,
      ⟨(.prim (.fieldAddr 8 (some 2))), [.tmp 4], (some 27), none⟩,
      ⟨(.prim (.load (some 2))), [.tmp 27], (some 28), none⟩,
      ⟨(.prim (.buildSl (some 2))), [.tmp 20, .tmp 22, .tmp 24, .tmp 26, .tmp 28], (some 29), none⟩,
      ⟨(.prim (.build [(.bool false), (.sl .clip []), .nilfn] [(0, 1), (1, 1), (2, 1)])), [.const (.bool true), .tmp 29, .const (.fn (.func 175) [] [])], (some 30), none⟩,
      ⟨(.prim (.store (some 3))), [.tmp 2, .tmp 30], none, none⟩,
      ⟨(.prim .id), [.const (.bool true)], (some 3), none⟩] none)
     .ret)
     (.seq (.region [⟨(.prim (.bin .eql .none)), [.tmp 8, .const (.int .i8 3)], (some 32), none⟩,
      ⟨(.prim .id), [.tmp 32], (some 31), none⟩] none)
     (.cond (.tmp 31)
      (.seq (.region [⟨(.prim (.fieldAddr 0 (some 2))), [.tmp 4], (some 33), none⟩,
       ⟨(.prim (.load (some 2))), [.tmp 33], (some 34), none⟩,
       ⟨(.prim (.fieldAddr 2 (some 2))), [.tmp 4], (some 35), none⟩,
       ⟨(.prim (.load (some 2))), [.tmp 35], (some 36), none⟩,
       ⟨(.prim (.fieldAddr 8 (some 2))), [.tmp 4], (some 37), none⟩,
       ⟨(.prim (.load (some 2))), [.tmp 37], (some 38), none⟩,
       ⟨(.prim (.fieldAddr 10 (some 2))), [.tmp 4], (some 39), none⟩,
       ⟨(.prim (.load (some 2))), [.tmp 39], (some 40), none⟩,
       ⟨(.prim (.buildSl (some 2))), [.tmp 34, .tmp 36, .tmp 38, .tmp 40], (some 41), none⟩,
       ⟨(.prim (.mkfn (.func 176) 0)), [.tmp 6], (some 42), none⟩,
       ⟨(.prim (.build [(.bool false), (.sl .clip []), .nilfn] [(0, 1), (1, 1), (2, 1)])), [.const (.bool false), .tmp 41, .tmp 42], (some 43), none⟩,
       ⟨(.prim (.store (some 3))), [.tmp 2, .tmp 43], none, none⟩,
       ⟨(.prim .id), [.const (.bool true)], (some 3), none⟩] none)
      .ret)
      (.seq (.region [⟨(.prim (.bin .eql .none)), [.tmp 8, .const (.int .i8 4)], (some 45), none⟩,
       ⟨(.prim .id), [.tmp 45], (some 44), none⟩] none)
      (.cond (.tmp 44)
       (.seq (.region [⟨(.prim (.fieldAddr 0 (some 2))), [.tmp 4], (some 46), none⟩,
        ⟨(.prim (.load (some 2))), [.tmp 46], (some 47), none⟩,
        ⟨(.prim (.fieldAddr 14 (some 2))), [.tmp 4], (some 48), none⟩,
        ⟨(.prim (.load (some 2))), [.tmp 48], (some 49), none⟩,
        ⟨(.prim (.fieldAddr 16 (some 2))), [.tmp 4], (some 50), none⟩,
        ⟨(.prim (.load (some 2))), [.tmp 50], (some 51), none⟩,
        ⟨(.prim (.fieldAddr 18 (some 2))), [.tmp 4], (some 52), none⟩,
        ⟨(.prim (.load (some 2))), [.tmp 52], (some 53), none⟩,
        ⟨(.prim (.buildSl (some 2))), [.tmp 47, .tmp 49, .tmp 51, .tmp 53], (some 54), none⟩,
        ⟨(.prim (.build [(.bool false), (.sl .clip []), .nilfn] [(0, 1), (1, 1), (2, 1)])), [.const (.bool true), .tmp 54, .const (.fn (.func 177) [] [])], (some 55), none⟩,
        ⟨(.prim (.store (some 3))), [.tmp 2, .tmp 55], none, none⟩,
        ⟨(.prim .id), [.const (.bool true)], (some 3), none⟩] none)
       .ret)
       (.seq (.region [⟨(.prim (.bin .eql .none)), [.tmp 8, .const (.int .i8 5)], (some 57), none⟩,
        ⟨(.prim .id), [.tmp 57], (some 56), none⟩] none)
       (.cond (.tmp 56)
        (.seq (.region [⟨(.prim (.fieldAddr 0 (some 2))), [.tmp 4], (some 58), none⟩,
         ⟨(.prim (.load (some 2))), [.tmp 58], (some 59), none⟩,
         ⟨(.prim (.fieldAddr 12 (some 2))), [.tmp 4], (some 60), none⟩,
         ⟨(.prim (.load (some 2))), [.tmp 60], (some 61), none⟩,
         ⟨(.prim (.buildSl (some 2))), [.tmp 59, .tmp 61], (some 62), none⟩,
         ⟨(.prim .id), [.tmp 5], (some 63), none⟩,
         ⟨(.prim (.build [(.bool false), (.sl .clip []), .nilfn] [(0, 1), (1, 1), (2, 1)])), [.const (.bool false), .tmp 62, .tmp 63], (some 64), none⟩,
         ⟨(.prim (.store (some 3))), [.tmp 2, .tmp 64], none, none⟩,
         ⟨(.prim .id), [.const (.bool true)], (some 3), none⟩] none)
        .ret)
        (.seq (.region [⟨(.prim (.bin .eql .none)), [.tmp 8, .const (.int .i8 6)], (some 66), none⟩,
         ⟨(.prim .id), [.tmp 66], (some 65), none⟩] none)
        (.cond (.tmp 65)
         (.seq (.region [⟨(.prim (.fieldAddr 0 (some 2))), [.tmp 4], (some 67), none⟩,
          ⟨(.prim (.load (some 2))), [.tmp 67], (some 68), none⟩,
          ⟨(.prim (.fieldAddr 12 (some 2))), [.tmp 4], (some 69), none⟩,
          ⟨(.prim (.load (some 2))), [.tmp 69], (some 70), none⟩,
          ⟨(.prim (.buildSl (some 2))), [.tmp 68, .tmp 70], (some 71), none⟩,
          ⟨(.prim .id), [.tmp 5], (some 72), none⟩,
          ⟨(.prim (.build [(.bool false), (.sl .clip []), .nilfn] [(0, 1), (1, 1), (2, 1)])), [.const (.bool true), .tmp 71, .tmp 72], (some 73), none⟩,
          ⟨(.prim (.store (some 3))), [.tmp 2, .tmp 73], none, none⟩,
          ⟨(.prim .id), [.const (.bool true)], (some 3), none⟩] none)
         .ret)
         (.seq (.region [⟨(.prim (.bin .eql .none)), [.tmp 8, .const (.int .i8 7)], (some 75), none⟩,
          ⟨(.prim .id), [.tmp 75], (some 74), none⟩] none)
         (.cond (.tmp 74)
          (.seq (.region [⟨(.prim (.fieldAddr 0 (some 2))), [.tmp 4], (some 76), none⟩,
           ⟨(.prim (.load (some 2))), [.tmp 76], (some 77), none⟩,
           ⟨(.prim (.buildSl (some 2))), [.tmp 77], (some 78), none⟩,
           ⟨(.prim .id), [.tmp 5], (some 79), none⟩,
           ⟨(.prim (.build [(.bool false), (.sl .clip []), .nilfn] [(0, 1), (1, 1), (2, 1)])), [.const (.bool false), .tmp 78, .tmp 79], (some 80), none⟩,
           ⟨(.prim (.store (some 3))), [.tmp 2, .tmp 80], none, none⟩,
           ⟨(.prim .id), [.const (.bool true)], (some 3), none⟩] none)
          .ret)
          (.seq (.region [⟨(.prim (.bin .eql .none)), [.tmp 8, .const (.int .i8 8)], (some 82), none⟩,
           ⟨(.prim .id), [.tmp 82], (some 81), none⟩] none)
          (.cond (.tmp 81)
           (.seq (.region [⟨(.prim (.fieldAddr 0 (some 2))), [.tmp 4], (some 83), none⟩,
            ⟨(.prim (.load (some 2))), [.tmp 83], (some 84), none⟩,
            ⟨(.prim (.buildSl (some 2))), [.tmp 84], (some 85), none⟩,
            ⟨(.prim .id), [.tmp 5], (some 86), none⟩,
            ⟨(.prim (.build [(.bool false), (.sl .clip []), .nilfn] [(0, 1), (1, 1), (2, 1)])), [.const (.bool false), .tmp 85, .tmp 86], (some 87), none⟩,
            ⟨(.prim (.store (some 3))), [.tmp 2, .tmp 87], none, none⟩,
            ⟨(.prim .id), [.const (.bool true)], (some 3), none⟩] none)
           .ret)
           (.seq (.region [⟨(.prim (.bin .eql .none)), [.tmp 8, .const (.int .i8 9)], (some 89), none⟩,
            ⟨(.prim .id), [.tmp 89], (some 88), none⟩] none)
           (.cond (.tmp 88)
            (.seq (.region [⟨(.prim (.fieldAddr 0 (some 2))), [.tmp 4], (some 90), none⟩,
             ⟨(.prim (.load (some 2))), [.tmp 90], (some 91), none⟩,
             ⟨(.prim (.buildSl (some 2))), [.tmp 91], (some 92), none⟩,
             ⟨(.prim .id), [.tmp 5], (some 93), none⟩,
             ⟨(.prim (.build [(.bool false), (.sl .clip []), .nilfn] [(0, 1), (1, 1), (2, 1)])), [.const (.bool true), .tmp 92, .tmp 93], (some 94), none⟩,
             ⟨(.prim (.store (some 3))), [.tmp 2, .tmp 94], none, none⟩,
             ⟨(.prim .id), [.const (.bool true)], (some 3), none⟩] none)
            .ret)
            (.seq (.region [⟨(.prim (.bin .eql .none)), [.tmp 8, .const (.int .i8 10)], (some 96), none⟩,
             ⟨(.prim .id), [.tmp 96], (some 95), none⟩] none)
            (.cond (.tmp 95)
             (.seq (.region [⟨(.prim (.fieldAddr 0 (some 2))), [.tmp 4], (some 97), none⟩,
              ⟨(.prim (.load (some 2))), [.tmp 97], (some 98), none⟩,
              ⟨(.prim (.fieldAddr 10 (some 2))), [.tmp 4], (some 99), none⟩,
              ⟨(.prim (.load (some 2))), [.tmp 99], (some 100), none⟩,
              ⟨(.prim (.buildSl (some 2))), [.tmp 98, .tmp 100], (some 101), none⟩,
              ⟨(.prim (.load none)), [.tmp 6], (some 102), none⟩,
              ⟨(.prim (.buildSl none)), [.const (.int .i64 0), .const (.int .i64 50), .const (.int .i64 121)], (some 103), none⟩,
              ⟨.callV, [.tmp 102, .tmp 103], (some 104), none⟩,
              ⟨(.prim (.build [(.bool false), (.sl .clip []), .nilfn] [(0, 1), (1, 1), (2, 1)])), [.const (.bool false), .tmp 101, .tmp 104], (some 105), none⟩,
              ⟨(.prim (.store (some 3))), [.tmp 2, .tmp 105], none, none⟩,
              ⟨(.prim .id), [.const (.bool true)], (some 3), none⟩] (some [[], [0], [], [2], [1, 3], [], [], [5, 6], [4, 7], [8, 7, 0, 1, 2, 3, 4, 5, 6, 7, 8], [9, 0, 1, 2, 3, 4, 5, 6, 7, 8, 9]]))
             .ret)
             .skip))))))))))))))))))))))))
 (.seq (.region [⟨(.prim (.build [(.bool false), (.sl .clip []), .nilfn] [])), [], (some 106), none⟩,
  ⟨(.prim (.store (some 3))), [.tmp 2, .tmp 106], none, none⟩,
  ⟨(.prim .id), [.const (.bool false)], (some 3), none⟩] none)
 .ret))))))
theorem F120 : IsFun Try.prog 120 1 107 c120 [.cell 2 (some 3), .tmp 3] := ⟨by decide, Try.f120, _, [], Try.func120, rfl, by decide, rfl, by kernel_rfl, by kernel_rfl⟩

/-- cashbox/wire.within -/
def c121 : ACode :=
 (.seq (.region [⟨(.prim .id), [.const (.bool false)], (some 6), none⟩] none)
 (.seq (.region [⟨(.prim .id), [.tmp 0], (some 7), none⟩,
  ⟨(.prim .id), [.tmp 1], (some 8), none⟩,
  ⟨(.prim (.bin .geq .none)), [.tmp 7, .tmp 8], (some 9), none⟩,
  ⟨(.prim .id), [.tmp 9], (some 10), none⟩,
  ⟨(.prim .id), [.tmp 0], (some 11), (some (10, true))⟩,
  ⟨(.prim .id), [.tmp 2], (some 12), (some (10, true))⟩,
  ⟨(.prim (.bin .leq .none)), [.tmp 11, .tmp 12], (some 13), (some (10, true))⟩,
  ⟨(.prim .pick), [.tmp 10, .tmp 13, .const (.bool false)], (some 14), none⟩,
  ⟨(.prim .id), [.tmp 14], (some 6), none⟩] none)
 .ret))
theorem F121 : IsFun Try.prog 121 3 15 c121 [.tmp 6] := ⟨by decide, Try.f121, _, [], Try.func121, rfl, by decide, rfl, by kernel_rfl, by kernel_rfl⟩

-- loop: 1:m, 5:w, 11:, 12:, 13:
/-- cashbox/wire.body -/
def c122 : ACode :=
 (.seq (.region [⟨(.prim .id), [.const (.sl .clip [])], (some 4), none⟩] none)
 (.seq (.region [⟨(.prim (.alloc [(.sl .clip [])])), [], (some 5), none⟩] none)
 (.seq (.seq (.region [⟨(.prim .id), [.tmp 0], (some 8), none⟩,
  ⟨(.prim .nilc), [.tmp 8], (some 9), none⟩,
  ⟨(.prim (.fieldAddr 1 none)), [.tmp 9], (some 10), none⟩,
  ⟨(.prim (.load none)), [.tmp 10], (some 11), none⟩,
  ⟨(.prim .len), [.tmp 11], (some 12), none⟩,
  ⟨(.prim .id), [.const (.int .i64 0)], (some 13), none⟩] none)
 (.block 0
  (.loop
   (.seq (.region [⟨(.prim (.bin .lss .none)), [.tmp 13, .tmp 12], (some 14), none⟩] none)
   (.seq (.cond (.tmp 14)
    .skip
    (.exit 0))
   (.seq (.block 1
    (.seq (.region [⟨(.prim (.idxSl (some 2))), [.tmp 11, .tmp 13], (some 15), none⟩,
     ⟨(.prim (.load (some 2))), [.tmp 15], (some 16), none⟩,
     ⟨(.prim (.alloc [.nilfn, .nilfn])), [], (some 7), none⟩,
     ⟨(.prim (.store (some 2))), [.tmp 7, .tmp 16], none, none⟩] none)
    (.region [⟨(.prim (.fieldAddr 0 none)), [.tmp 7], (some 17), none⟩,
     ⟨(.prim (.load none)), [.tmp 17], (some 18), none⟩,
     ⟨(.prim .id), [.tmp 1], (some 19), none⟩,
     ⟨.callV, [.tmp 18, .tmp 5, .tmp 19], (some 20), none⟩] none)))
   (.region [⟨(.prim (.bin .add .none)), [.tmp 13, .const (.int .i64 1)], (some 21), none⟩,
    ⟨(.prim .id), [.tmp 21], (some 13), none⟩] none)))))))
 (.seq (.region [⟨(.prim (.load none)), [.tmp 5], (some 22), none⟩,
  ⟨(.prim .id), [.tmp 22], (some 4), none⟩] none)
 .ret))))
theorem F122 : IsFun Try.prog 122 2 23 c122 [.tmp 4] := ⟨by decide, Try.f122, _, [], Try.func122, rfl, by decide, rfl, by kernel_rfl, by kernel_rfl⟩

/-- cashbox/wire.Same -/
def c123 : ACode :=
 (.seq (.region [⟨(.prim (.boxR (some 24))), [.tmp 0], (some 2), none⟩,
  ⟨(.prim (.boxR (some 24))), [.tmp 1], (some 3), none⟩,
  ⟨(.prim .id), [.const (.bool false)], (some 4), none⟩] none)
 (.seq (.seq (.region [⟨(.prim (.fieldAddr 23 none)), [.tmp 2], (some 5), none⟩,
  ⟨(.prim (.load none)), [.tmp 5], (some 6), none⟩,
  ⟨(.prim (.fieldAddr 23 none)), [.tmp 3], (some 7), none⟩,
  ⟨(.prim (.load none)), [.tmp 7], (some 8), none⟩,
  ⟨(.call 84), [.tmp 6, .tmp 8], (some 9), none⟩,
  ⟨(.prim (.un .not)), [.tmp 9], (some 10), none⟩] none)
 (.cond (.tmp 10)
  (.seq (.region [⟨(.prim .id), [.const (.bool false)], (some 4), none⟩] none)
  .ret)
  .skip))
 (.seq (.region [⟨(.prim (.fieldAddr 0 none)), [.tmp 2], (some 11), none⟩,
  ⟨(.prim (.load none)), [.tmp 11], (some 12), none⟩,
  ⟨(.prim (.fieldAddr 0 none)), [.tmp 3], (some 13), none⟩,
  ⟨(.prim (.load none)), [.tmp 13], (some 14), none⟩,
  ⟨(.prim (.bin .eql .none)), [.tmp 12, .tmp 14], (some 15), none⟩,
  ⟨(.prim .id), [.tmp 15], (some 16), none⟩,
  ⟨(.prim (.fieldAddr 1 none)), [.tmp 2], (some 17), (some (16, true))⟩,
  ⟨(.prim (.load none)), [.tmp 17], (some 18), (some (16, true))⟩,
  ⟨(.prim (.fieldAddr 1 none)), [.tmp 3], (some 19), (some (16, true))⟩,
  ⟨(.prim (.load none)), [.tmp 19], (some 20), (some (16, true))⟩,
  ⟨(.prim (.bin .eql .none)), [.tmp 18, .tmp 20], (some 21), (some (16, true))⟩,
  ⟨(.prim .pick), [.tmp 16, .tmp 21, .const (.bool false)], (some 22), none⟩,
  ⟨(.prim .id), [.tmp 22], (some 23), none⟩,
  ⟨(.prim (.fieldAddr 2 none)), [.tmp 2], (some 24), (some (23, true))⟩,
  ⟨(.prim (.load none)), [.tmp 24], (some 25), (some (23, true))⟩,
  ⟨(.prim (.fieldAddr 2 none)), [.tmp 3], (some 26), (some (23, true))⟩,
  ⟨(.prim (.load none)), [.tmp 26], (some 27), (some (23, true))⟩,
  ⟨(.prim (.bin .eql .none)), [.tmp 25, .tmp 27], (some 28), (some (23, true))⟩,
  ⟨(.prim .pick), [.tmp 23, .tmp 28, .const (.bool false)], (some 29), none⟩,
  ⟨(.prim .id), [.tmp 29], (some 30), none⟩,
  ⟨(.prim (.fieldAddr 3 none)), [.tmp 2], (some 31), (some (30, true))⟩,
  ⟨(.prim (.load none)), [.tmp 31], (some 32), (some (30, true))⟩,
  ⟨(.prim (.fieldAddr 3 none)), [.tmp 3], (some 33), (some (30, true))⟩,
  ⟨(.prim (.load none)), [.tmp 33], (some 34), (some (30, true))⟩,
  ⟨(.prim (.bin .eql .none)), [.tmp 32, .tmp 34], (some 35), (some (30, true))⟩,
  ⟨(.prim .pick), [.tmp 30, .tmp 35, .const (.bool false)], (some 36), none⟩,
  ⟨(.prim .id), [.tmp 36], (some 37), none⟩,
  ⟨(.prim (.fieldAddr 4 none)), [.tmp 2], (some 38), (some (37, true))⟩,
  ⟨(.prim (.load none)), [.tmp 38], (some 39), (some (37, true))⟩,
  ⟨(.prim (.fieldAddr 4 none)), [.tmp 3], (some 40), (some (37, true))⟩,
  ⟨(.prim (.load none)), [.tmp 40], (some 41), (some (37, true))⟩,
  ⟨(.prim (.bin .eql .none)), [.tmp 39, .tmp 41], (some 42), (some (37, true))⟩,
  ⟨(.prim .pick), [.tmp 37, .tmp 42, .const (.bool false)], (some 43), none⟩,
  ⟨(.prim .id), [.tmp 43], (some 44), none⟩,
  ⟨(.prim (.fieldAddr 5 (some 3))), [.tmp 2], (some 45), (some (44, true))⟩,
  ⟨(.prim (.load (some 3))), [.tmp 45], (some 46), (some (44, true))⟩,
  ⟨(.prim (.fieldAddr 5 (some 3))), [.tmp 3], (some 47), (some (44, true))⟩,
  ⟨(.prim (.load (some 3))), [.tmp 47], (some 48), (some (44, true))⟩,
  ⟨(.prim (.bin .eql (.flat [0, 0, 0]))), [.tmp 46, .tmp 48], (some 49), (some (44, true))⟩,
  ⟨(.prim .pick), [.tmp 44, .tmp 49, .const (.bool false)], (some 50), none⟩,
  ⟨(.prim .id), [.tmp 50], (some 51), none⟩,
  ⟨(.prim (.fieldAddr 8 none)), [.tmp 2], (some 52), (some (51, true))⟩,
  ⟨(.prim (.load none)), [.tmp 52], (some 53), (some (51, true))⟩,
  ⟨(.prim (.fieldAddr 8 none)), [.tmp 3], (some 54), (some (51, true))⟩,
  ⟨(.prim (.load none)), [.tmp 54], (some 55), (some (51, true))⟩,
  ⟨(.prim (.bin .eql .none)), [.tmp 53, .tmp 55], (some 56), (some (51, true))⟩,
  ⟨(.prim .pick), [.tmp 51, .tmp 56, .const (.bool false)], (some 57), none⟩,
  ⟨(.prim .id), [.tmp 57], (some 58), none⟩,
  ⟨(.prim (.fieldAddr 9 none)), [.tmp 2], (some 59), (some (58, true))⟩,
  ⟨(.prim (.load none)), [.tmp 59], (some 60), (some (58, true))⟩,
  ⟨(.prim (.fieldAddr 9 none)), [.tmp 3], (some 61), (some (58, true))⟩,
  ⟨(.prim (.load none)), [.tmp 61], (some 62), (some (58, true))⟩,
  ⟨(.prim (.bin .eql .none)), [.tmp 60, .tmp 62], (some 63), (some (58, true))⟩,
  ⟨(.prim .pick), [.tmp 58, .tmp 63, .const (.bool false)], (some 64), none⟩,
  ⟨(.prim .id), [.tmp 64], (some 65), none⟩,
  ⟨(.prim (.fieldAddr 10 none)), [.tmp 2], (some 66), (some (65, true))⟩,
  ⟨(.prim (.load none)), [.tmp 66], (some 67), (some (65, true))⟩,
  ⟨(.prim (.fieldAddr 10 none)), [.tmp 3], (some 68), (some (65, true))⟩,
  ⟨(.prim (.load none)), [.tmp 68], (some 69), (some (65, true))⟩,
  ⟨(.prim (.bin .eql .none)), [.tmp 67, .tmp 69], (some 70), (some (65, true))⟩,
  ⟨(.prim .pick), [.tmp 65, .tmp 70, .const (.bool false)], (some 71), none⟩,
  ⟨(.prim .id), [.tmp 71], (some 72), none⟩,
  ⟨(.prim (.fieldAddr 11 (some 8))), [.tmp 2], (some 73), (some (72, true))⟩,
  ⟨(.prim (.load (some 8))), [.tmp 73], (some 74), (some (72, true))⟩,
  ⟨(.prim (.fieldAddr 11 (some 8))), [.tmp 3], (some 75), (some (72, true))⟩,
  ⟨(.prim (.load (some 8))), [.tmp 75], (some 76), (some (72, true))⟩,
  ⟨(.prim (.bin .eql (.flat [0, 0, 0, 0, 0, 0, 0, 0]))), [.tmp 74, .tmp 76], (some 77), (some (72, true))⟩,
  ⟨(.prim .pick), [.tmp 72, .tmp 77, .const (.bool false)], (some 78), none⟩,
  ⟨(.prim .id), [.tmp 78], (some 79), none⟩,
  ⟨(.prim (.fieldAddr 19 none)), [.tmp 2], (some 80), (some (79, true))⟩,
  ⟨(.prim (.load none)), [.tmp 80], (some 81), (some (79, true))⟩,
  ⟨(.prim (.fieldAddr 19 none)), [.tmp 3], (some 82), (some (79, true))⟩,
  ⟨(.prim (.load none)), [.tmp 82], (some 83), (some (79, true))⟩,
  ⟨(.prim (.bin .eql .none)), [.tmp 81, .tmp 83], (some 84), (some (79, true))⟩,
  ⟨(.prim .pick), [.tmp 79, .tmp 84, .const (.bool false)], (some 85), none⟩,
  ⟨(.prim .id), [.tmp 85], (some 86), none⟩,
  ⟨(.prim (.fieldAddr 20 none)), [.tmp 2], (some 87), (some (86, true))⟩,
  ⟨(.prim (.load none)), [.tmp 87], (some 88), (some (86, true))⟩,
  ⟨(.prim (.fieldAddr 20 none)), [.tmp 3], (some 89), (some (86, true))⟩,
  ⟨(.prim (.load none)), [.tmp 89], (some 90), (some (86, true))⟩,
  ⟨(.prim (.bin .eql .bool)), [.tmp 88, .tmp 90], (some 91), (some (86, true))⟩,
  ⟨(.prim .pick), [.tmp 86, .tmp 91, .const (.bool false)], (some 92), none⟩,
  ⟨(.prim .id), [.tmp 92], (some 93), none⟩,
  ⟨(.prim (.fieldAddr 21 none)), [.tmp 2], (some 94), (some (93, true))⟩,
  ⟨(.prim (.load none)), [.tmp 94], (some 95), (some (93, true))⟩,
  ⟨(.prim (.fieldAddr 21 none)), [.tmp 3], (some 96), (some (93, true))⟩,
  ⟨(.prim (.load none)), [.tmp 96], (some 97), (some (93, true))⟩,
  ⟨(.prim (.bin .eql .none)), [.tmp 95, .tmp 97], (some 98), (some (93, true))⟩,
  ⟨(.prim .pick), [.tmp 93, .tmp 98, .const (.bool false)], (some 99), none⟩,
  ⟨(.prim .id), [.tmp 99], (some 100), none⟩,
  ⟨(.prim (.fieldAddr 22 none)), [.tmp 2], (some 101), (some (100, true))⟩,
  ⟨(.prim (.load none)), [.tmp 101], (some 102), (some (100, true))⟩,
  ⟨(.prim (.fieldAddr 22 none)), [.tmp 3], (some 103), (some (100, true))⟩,
  ⟨(.prim (.load none)), [.tmp 103], (some 104), (some (100, true))⟩,
  ⟨(.prim (.bin .eql .none)), [.tmp 102, .tmp 104], (some 105), (some (100, true))⟩,
  ⟨(.prim .pick), [.tmp 100, .tmp 105, .const (.bool false)], (some 106), none⟩,
  ⟨(.prim .id), [.tmp 106], (some 4), none⟩] none)
 .ret)))
theorem F123 : IsFun Try.prog 123 2 107 c123 [.tmp 4] := ⟨by decide, Try.f123, _, [2, 3], Try.func123, rfl, by decide, rfl, by kernel_rfl, by kernel_rfl⟩

-- loop: 0:l, 3:last, 6:, 7:, 8:
/-- cashbox/record.Written -/
def c126 : ACode :=
 (.seq (.region [⟨(.prim .id), [.const (.bool false)], (some 2), none⟩] none)
 (.seq (.region [⟨(.prim .id), [.const (.int .i64 (-1))], (some 3), none⟩] none)
 (.seq (.seq (.region [⟨(.prim .id), [.tmp 0], (some 6), none⟩,
  ⟨(.prim .len), [.tmp 6], (some 7), none⟩,
  ⟨(.prim .id), [.const (.int .i64 0)], (some 8), none⟩] none)
 (.block 0
  (.loop
   (.seq (.region [⟨(.prim (.bin .lss .none)), [.tmp 8, .tmp 7], (some 9), none⟩] none)
   (.seq (.cond (.tmp 9)
    .skip
    (.exit 0))
   (.seq (.block 1
    (.seq (.region [⟨(.prim (.idxSl (some 9))), [.tmp 6, .tmp 8], (some 10), none⟩,
     ⟨(.prim (.load (some 9))), [.tmp 10], (some 11), none⟩,
     ⟨(.prim (.alloc [(.int .i64 0), (.int .u8 0), (.int .u8 0), (.int .u8 0), (.int .u8 0), (.int .u8 0), (.int .u8 0), (.int .u8 0), (.int .u8 0)])), [], (some 5), none⟩,
     ⟨(.prim (.store (some 9))), [.tmp 5, .tmp 11], none, none⟩] none)
    (.seq (.seq (.region [⟨(.prim (.fieldAddr 0 none)), [.tmp 5], (some 12), none⟩,
     ⟨(.prim (.load none)), [.tmp 12], (some 13), none⟩,
     ⟨(.prim .id), [.tmp 3], (some 14), none⟩,
     ⟨(.prim (.bin .leq .none)), [.tmp 13, .tmp 14], (some 15), none⟩,
     ⟨(.prim .id), [.tmp 15], (some 16), none⟩,
     ⟨(.prim (.fieldAddr 0 none)), [.tmp 5], (some 17), (some (16, false))⟩,
     ⟨(.prim (.load none)), [.tmp 17], (some 18), (some (16, false))⟩,
     ⟨(.prim (.bin .geq .none)), [.tmp 18, .const (.int .i64 32)], (some 19), (some (16, false))⟩,
     ⟨(.prim .pick), [.tmp 16, .const (.bool true), .tmp 19], (some 20), none⟩] none)
    (.cond (.tmp 20)
     (.seq (.region [⟨(.prim .id), [.const (.bool false)], (some 2), none⟩] none)
     .ret)
     .skip))
    (.region [⟨(.prim (.fieldAddr 0 none)), [.tmp 5], (some 21), none⟩,
     ⟨(.prim (.load none)), [.tmp 21], (some 22), none⟩,
     ⟨(.prim .id), [.tmp 22], (some 3), none⟩] none))))
   (.region [⟨(.prim (.bin .add .none)), [.tmp 8, .const (.int .i64 1)], (some 23), none⟩,
    ⟨(.prim .id), [.tmp 23], (some 8), none⟩] none)))))))
 (.seq (.region [⟨(.prim .id), [.tmp 0], (some 24), none⟩,
  ⟨(.prim .len), [.tmp 24], (some 25), none⟩,
  ⟨(.prim (.bin .leq .none)), [.tmp 25, .const (.int .i64 8)], (some 26), none⟩,
  ⟨(.prim .id), [.tmp 26], (some 2), none⟩] none)
 .ret))))
theorem F126 : IsFun Try.prog 126 1 27 c126 [.tmp 2] := ⟨by decide, Try.f126, _, [], Try.func126, rfl, by decide, rfl, by kernel_rfl, by kernel_rfl⟩

-- loop: 0:w, 1:n, 6:, 7:
/-- (*cashbox/wire.writer).number -/
def c137 : ACode :=
 (.seq (.region [⟨(.prim .id), [.tmp 2], (some 6), none⟩,
  ⟨(.prim .id), [.const (.int .i64 0)], (some 7), none⟩] none)
 (.block 0
  (.loop
   (.seq (.region [⟨(.prim (.bin .lss .none)), [.tmp 7, .tmp 6], (some 8), none⟩] none)
   (.seq (.cond (.tmp 8)
    .skip
    (.exit 0))
   (.seq (.block 1
    (.seq (.region [⟨(.prim .id), [.tmp 0], (some 9), none⟩,
     ⟨(.prim .id), [.tmp 0], (some 10), none⟩,
     ⟨(.prim .nilc), [.tmp 10], (some 11), none⟩,
     ⟨(.prim (.load none)), [.tmp 11], (some 12), none⟩,
     ⟨(.prim .id), [.tmp 1], (some 13), none⟩,
     ⟨(.prim (.conv .u8)), [.tmp 13], (some 14), none⟩,
     ⟨(.prim (.buildSl none)), [.tmp 14], (some 15), none⟩,
     ⟨(.prim (.append none)), [.tmp 12, .tmp 15], (some 16), none⟩,
     ⟨(.prim .nilc), [.tmp 9], (some 17), none⟩,
     ⟨(.prim (.store none)), [.tmp 17, .tmp 16], none, none⟩] none)
    (.region [⟨(.prim .id), [.tmp 1], (some 18), none⟩,
     ⟨(.prim (.bin .shr .none)), [.tmp 18, .const (.int .u64 8)], (some 19), none⟩,
     ⟨(.prim .id), [.tmp 19], (some 1), none⟩] none)))
   (.region [⟨(.prim (.bin .add .none)), [.tmp 7, .const (.int .i64 1)], (some 20), none⟩,
    ⟨(.prim .id), [.tmp 20], (some 7), none⟩] none)))))))
theorem F137 : IsFun Try.prog 137 3 21 c137 [] := ⟨by decide, Try.f137, _, [], Try.func137, rfl, by decide, rfl, by kernel_rfl, by kernel_rfl⟩

/-- cashbox/sums.Seal -/
def c138 : ACode :=
 (.seq (.region [⟨(.prim .id), [.const (.sl .clip [])], (some 2), none⟩] none)
 (.seq (.region [⟨(.prim .id), [.tmp 0], (some 4), none⟩,
  ⟨(.call 180), [.tmp 4], (some 5), none⟩,
  ⟨(.prim .id), [.tmp 5], (some 3), none⟩] none)
 (.seq (.region [⟨(.prim .id), [.tmp 0], (some 6), none⟩,
  ⟨(.prim .id), [.tmp 0], (some 7), none⟩,
  ⟨(.prim .len), [.tmp 7], (some 8), none⟩,
  ⟨(.prim .id), [.tmp 0], (some 9), none⟩,
  ⟨(.prim .len), [.tmp 9], (some 10), none⟩,
  ⟨(.prim (.slcSl none false true true)), [.tmp 6, .tmp 8, .tmp 10], (some 11), none⟩,
  ⟨(.prim .id), [.tmp 3], (some 12), none⟩,
  ⟨(.prim (.conv .u8)), [.tmp 12], (some 13), none⟩,
  ⟨(.prim .id), [.tmp 3], (some 14), none⟩,
  ⟨(.prim (.bin .shr .none)), [.tmp 14, .const (.int .u64 8)], (some 15), none⟩,
  ⟨(.prim (.conv .u8)), [.tmp 15], (some 16), none⟩,
  ⟨(.prim .id), [.tmp 3], (some 17), none⟩,
  ⟨(.prim (.bin .shr .none)), [.tmp 17, .const (.int .u64 16)], (some 18), none⟩,
  ⟨(.prim (.conv .u8)), [.tmp 18], (some 19), none⟩,
  ⟨(.prim .id), [.tmp 3], (some 20), none⟩,
  ⟨(.prim (.bin .shr .none)), [.tmp 20, .const (.int .u64 24)], (some 21), none⟩,
  ⟨(.prim (.conv .u8)), [.tmp 21], (some 22), none⟩,
  ⟨(.prim (.buildSl none)), [.tmp 13, .tmp 16, .tmp 19, .tmp 22], (some 23), none⟩,
  ⟨(.prim (.append none)), [.tmp 11, .tmp 23], (some 24), none⟩,
  ⟨(.prim .id), [.tmp 24], (some 2), none⟩] none)
 .ret)))
theorem F138 : IsFun Try.prog 138 1 25 c138 [.tmp 2] := ⟨by decide, Try.f138, _, [], Try.func138, rfl, by decide, rfl, by kernel_rfl, by kernel_rfl⟩

-- loop: 2:m, 6:g, 58:, 59:, 60:
/-- cashbox/wire.Read -/
def c146 : ACode :=
 (.seq (.region [⟨(.prim (.alloc [(.int .i8 0), (.int .i64 0), (.int .i64 0), (.int .i64 0), (.int .i64 0), (.int .i64 0), (.int .i64 0), (.int .i64 0), (.int .i64 0), (.int .i8 0), (.int .i64 0), (.int .u8 0), (.int .u8 0), (.int .u8 0), (.int .u8 0), (.int .u8 0), (.int .u8 0), (.int .u8 0), (.int .u8 0), (.int .i64 0), (.bool false), (.int .i64 0), (.int .i64 0), (.sl .clip [])])), [], (some 2), none⟩,
  ⟨(.prim .id), [.const (.int .i64 0)], (some 3), none⟩] none)
 (.scope
  (.seq (.region [⟨(.prim .id), [.tmp 0], (some 12), none⟩,
   ⟨(.call 182), [.tmp 12], (some 13), none⟩,
   ⟨(.prim .id), [.tmp 13], (some 11), none⟩,
   ⟨(.prim (.extract 0)), [.tmp 11], (some 14), none⟩,
   ⟨(.prim (.extract 1)), [.tmp 11], (some 15), none⟩,
   ⟨(.prim .id), [.tmp 14], (some 4), none⟩,
   ⟨(.prim .id), [.tmp 15], (some 5), none⟩] none)
  (.seq (.seq (.region [⟨(.prim .id), [.tmp 5], (some 16), none⟩,
   ⟨(.prim (.un .not)), [.tmp 16], (some 17), none⟩,
   ⟨(.prim .id), [.tmp 17], (some 18), none⟩,
   ⟨(.prim .id), [.tmp 4], (some 19), (some (18, false))⟩,
   ⟨(.prim .len), [.tmp 19], (some 20), (some (18, false))⟩,
   ⟨(.prim (.bin .eql .none)), [.tmp 20, .const (.int .i64 0)], (some 21), (some (18, false))⟩,
   ⟨(.prim .pick), [.tmp 18, .const (.bool true), .tmp 21], (some 22), none⟩,
   ⟨(.prim .id), [.tmp 22], (some 23), none⟩,
   ⟨(.prim .id), [.tmp 4], (some 24), (some (23, false))⟩,
   ⟨(.prim (.idxSl none)), [.tmp 24, .const (.int .i64 0)], (some 25), (some (23, false))⟩,
   ⟨(.prim (.load none)), [.tmp 25], (some 26), (some (23, false))⟩,
   ⟨(.prim (.bin .gtr .none)), [.tmp 26, .const (.int .u8 127)], (some 27), (some (23, false))⟩,
   ⟨(.prim .pick), [.tmp 23, .const (.bool true), .tmp 27], (some 28), none⟩] none)
  (.cond (.tmp 28)
   (.seq (.region [⟨(.prim (.load (some 24))), [.tmp 2], (some 29), none⟩,
    ⟨(.prim (.store (some 24))), [.tmp 2, .tmp 29], none, none⟩,
    ⟨(.prim .id), [.const (.int .i64 40)], (some 3), none⟩] none)
   .ret)
   .skip))
  (.seq (.region [⟨(.prim .id), [.tmp 4], (some 30), none⟩,
   ⟨(.prim (.slcSl none true false false)), [.tmp 30, .const (.int .i64 1)], (some 31), none⟩,
   ⟨(.prim (.build [(.sl .clip []), (.bool false)] [(0, 1)])), [.tmp 31], (some 32), none⟩,
   ⟨(.prim (.box (some 2))), [.tmp 32], (some 33), none⟩,
   ⟨(.prim .id), [.tmp 33], (some 6), none⟩] none)
  (.seq (.region [⟨(.prim .id), [.tmp 4], (some 34), none⟩,
   ⟨(.prim (.idxSl none)), [.tmp 34, .const (.int .i64 0)], (some 35), none⟩,
   ⟨(.prim (.load none)), [.tmp 35], (some 36), none⟩,
   ⟨(.prim (.conv .i8)), [.tmp 36], (some 37), none⟩,
   ⟨(.prim .id), [.tmp 6], (some 38), none⟩,
   ⟨(.call 183), [.tmp 38, .const (.int .i64 1)], (some 39), none⟩,
   ⟨(.prim .id), [.tmp 6], (some 40), none⟩,
   ⟨(.call 183), [.tmp 40, .const (.int .i64 1)], (some 41), none⟩,
   ⟨(.prim (.fieldAddr 0 none)), [.tmp 2], (some 42), none⟩,
   ⟨(.prim (.store none)), [.tmp 42, .tmp 37], none, none⟩,
   ⟨(.prim (.fieldAddr 1 none)), [.tmp 2], (some 43), none⟩,
   ⟨(.prim (.store none)), [.tmp 43, .tmp 39], none, none⟩,
   ⟨(.prim (.fieldAddr 2 none)), [.tmp 2], (some 44), none⟩,
   ⟨(.prim (.store none)), [.tmp 44, .tmp 41], none, none⟩] (some [[], [0], [1], [2], [], [4], [], [6, 5], [0, 1, 2, 3, 5, 7], [8, 3, 7, 0, 1, 2, 3, 5, 7], [0, 1, 2, 3, 4, 5, 7, 8, 9], [10, 5, 9, 0, 1, 2, 3, 4, 5, 7, 8, 9], [0, 1, 2, 3, 4, 5, 6, 7, 8, 9, 10, 11], [12, 7, 11, 0, 1, 2, 3, 4, 5, 6, 7, 8, 9, 10, 11]]))
  (.seq (.region [⟨(.prim .id), [.tmp 6], (some 45), none⟩,
   ⟨(.call 183), [.tmp 45, .const (.int .i64 3)], (some 46), none⟩,
   ⟨(.prim .id), [.tmp 6], (some 47), none⟩,
   ⟨(.call 183), [.tmp 47, .const (.int .i64 3)], (some 48), none⟩,
   ⟨(.prim (.fieldAddr 3 none)), [.tmp 2], (some 49), none⟩,
   ⟨(.prim (.store none)), [.tmp 49, .tmp 46], none, none⟩,
   ⟨(.prim (.fieldAddr 4 none)), [.tmp 2], (some 50), none⟩,
   ⟨(.prim (.store none)), [.tmp 50, .tmp 48], none, none⟩] none)
  (.seq (.region [⟨(.prim (.fieldAddr 0 none)), [.tmp 2], (some 52), none⟩,
   ⟨(.prim (.load none)), [.tmp 52], (some 53), none⟩,
   ⟨(.call 120), [.tmp 53], (some 54), none⟩,
   ⟨(.prim .id), [.tmp 54], (some 51), none⟩,
   ⟨(.prim (.extract 0)), [.tmp 51], (some 55), none⟩,
   ⟨(.prim (.extract 1)), [.tmp 51], (some 56), none⟩,
   ⟨(.prim (.alloc [(.bool false), (.sl .clip []), .nilfn])), [], (some 7), none⟩,
   ⟨(.prim (.store (some 3))), [.tmp 7, .tmp 55], none, none⟩,
   ⟨(.prim .id), [.tmp 56], (some 8), none⟩] none)
  (.seq (.label 0)
  (.seq (.seq (.region [⟨(.prim (.fieldAddr 1 none)), [.tmp 7], (some 57), none⟩,
   ⟨(.prim (.load none)), [.tmp 57], (some 58), none⟩,
   ⟨(.prim .len), [.tmp 58], (some 59), none⟩,
   ⟨(.prim .id), [.const (.int .i64 0)], (some 60), none⟩] none)
  (.block 0
   (.loop
    (.seq (.region [⟨(.prim (.bin .lss .none)), [.tmp 60, .tmp 59], (some 61), none⟩] none)
    (.seq (.cond (.tmp 61)
     .skip
     (.exit 0))
    (.seq (.block 1
     (.seq (.region [⟨(.prim (.idxSl (some 2))), [.tmp 58, .tmp 60], (some 62), none⟩,
      ⟨(.prim (.load (some 2))), [.tmp 62], (some 63), none⟩,
      ⟨(.prim (.alloc [.nilfn, .nilfn])), [], (some 10), none⟩,
      ⟨(.prim (.store (some 2))), [.tmp 10, .tmp 63], none, none⟩] none)
     (.seq (.seq (.region [⟨(.prim .id), [.tmp 6], (some 64), none⟩,
      ⟨(.prim .nilc), [.tmp 64], (some 65), none⟩,
      ⟨(.prim (.fieldAddr 1 none)), [.tmp 65], (some 66), none⟩,
      ⟨(.prim (.load none)), [.tmp 66], (some 67), none⟩] none)
     (.cond (.tmp 67)
      (.exit 0)
      .skip))
     (.region [⟨(.prim (.fieldAddr 1 none)), [.tmp 10], (some 68), none⟩,
      ⟨(.prim (.load none)), [.tmp 68], (some 69), none⟩,
      ⟨(.prim .id), [.tmp 6], (some 70), none⟩,
      ⟨.callV, [.tmp 69, .tmp 70, .tmp 2], (some 71), none⟩] none))))
    (.region [⟨(.prim (.bin .add .none)), [.tmp 60, .const (.int .i64 1)], (some 72), none⟩,
     ⟨(.prim .id), [.tmp 72], (some 60), none⟩] none)))))))
  (.seq (.seq (.region [⟨(.prim .id), [.tmp 6], (some 73), none⟩,
   ⟨(.prim .nilc), [.tmp 73], (some 74), none⟩,
   ⟨(.prim (.fieldAddr 1 none)), [.tmp 74], (some 75), none⟩,
   ⟨(.prim (.load none)), [.tmp 75], (some 76), none⟩,
   ⟨(.prim .id), [.tmp 76], (some 77), none⟩,
   ⟨(.prim .id), [.tmp 6], (some 78), (some (77, false))⟩,
   ⟨(.prim .nilc), [.tmp 78], (some 79), (some (77, false))⟩,
   ⟨(.prim (.fieldAddr 0 none)), [.tmp 79], (some 80), (some (77, false))⟩,
   ⟨(.prim (.load none)), [.tmp 80], (some 81), (some (77, false))⟩,
   ⟨(.prim .len), [.tmp 81], (some 82), (some (77, false))⟩,
   ⟨(.prim (.bin .gtr .none)), [.tmp 82, .const (.int .i64 0)], (some 83), (some (77, false))⟩,
   ⟨(.prim .pick), [.tmp 77, .const (.bool true), .tmp 83], (some 84), none⟩,
   ⟨(.prim .id), [.tmp 84], (some 85), none⟩,
   ⟨(.prim (.load (some 24))), [.tmp 2], (some 86), (some (85, false))⟩,
   ⟨(.call 64), [.tmp 86], (some 87), (some (85, false))⟩,
   ⟨(.prim (.un .not)), [.tmp 87], (some 88), (some (85, false))⟩,
   ⟨(.prim .pick), [.tmp 85, .const (.bool true), .tmp 88], (some 89), none⟩] none)
  (.cond (.tmp 89)
   (.seq (.region [⟨(.prim (.build [(.int .i8 0), (.int .i64 0), (.int .i64 0), (.int .i64 0), (.int .i64 0), (.int .i64 0), (.int .i64 0), (.int .i64 0), (.int .i64 0), (.int .i8 0), (.int .i64 0), (.int .u8 0), (.int .u8 0), (.int .u8 0), (.int .u8 0), (.int .u8 0), (.int .u8 0), (.int .u8 0), (.int .u8 0), (.int .i64 0), (.bool false), (.int .i64 0), (.int .i64 0), (.sl .clip [])] [])), [], (some 90), none⟩,
    ⟨(.prim (.store (some 24))), [.tmp 2, .tmp 90], none, none⟩,
    ⟨(.prim .id), [.const (.int .i64 40)], (some 3), none⟩] none)
   .ret)
   .skip))
  (.seq (.region [⟨(.prim (.load (some 24))), [.tmp 2], (some 91), none⟩,
   ⟨(.prim (.store (some 24))), [.tmp 2, .tmp 91], none, none⟩,
   ⟨(.prim .id), [.const (.int .i64 0)], (some 3), none⟩] none)
  .ret))))))))))))
theorem F146 : IsFun Try.prog 146 1 92 c146 [.cell 2 (some 24), .tmp 3] := ⟨by decide, Try.f146, _, [], Try.func146, rfl, by decide, rfl, by kernel_rfl, by kernel_rfl⟩

/-- cashbox/cashboxref01.Open -/
def c147 : ACode :=
 (.seq (.region [⟨(.prim .id), [.const (.sl .clip [])], (some 2), none⟩,
  ⟨(.prim .id), [.const (.bool false)], (some 3), none⟩] none)
 (.seq (.seq (.region [⟨(.prim .id), [.tmp 0], (some 7), none⟩,
  ⟨(.prim .len), [.tmp 7], (some 8), none⟩,
  ⟨(.prim (.bin .lss .none)), [.tmp 8, .const (.int .i64 4)], (some 9), none⟩] none)
 (.cond (.tmp 9)
  (.seq (.region [⟨(.prim .id), [.const (.sl .clip [])], (some 2), none⟩,
   ⟨(.prim .id), [.const (.bool false)], (some 3), none⟩] none)
  .ret)
  .skip))
 (.seq (.region [⟨(.prim .id), [.tmp 0], (some 10), none⟩,
  ⟨(.prim .len), [.tmp 10], (some 11), none⟩,
  ⟨(.prim (.bin .sub .none)), [.tmp 11, .const (.int .i64 4)], (some 12), none⟩,
  ⟨(.prim .id), [.tmp 12], (some 4), none⟩] none)
 (.seq (.region [⟨(.prim .id), [.tmp 0], (some 13), none⟩,
  ⟨(.prim .id), [.tmp 4], (some 14), none⟩,
  ⟨(.prim (.slcSl none false true false)), [.tmp 13, .tmp 14], (some 15), none⟩,
  ⟨(.call 181), [.tmp 15], (some 16), none⟩,
  ⟨(.prim .id), [.tmp 16], (some 5), none⟩] none)
 (.seq (.seq (.region [⟨(.prim .id), [.tmp 0], (some 17), none⟩,
  ⟨(.prim .id), [.tmp 4], (some 18), none⟩,
  ⟨(.prim (.idxSl none)), [.tmp 17, .tmp 18], (some 19), none⟩,
  ⟨(.prim (.load none)), [.tmp 19], (some 20), none⟩,
  ⟨(.prim .id), [.tmp 5], (some 21), none⟩,
  ⟨(.prim (.conv .u8)), [.tmp 21], (some 22), none⟩,
  ⟨(.prim (.bin .neq .none)), [.tmp 20, .tmp 22], (some 23), none⟩,
  ⟨(.prim .id), [.tmp 23], (some 24), none⟩,
  ⟨(.prim .id), [.tmp 0], (some 25), (some (24, false))⟩,
  ⟨(.prim .id), [.tmp 4], (some 26), (some (24, false))⟩,
  ⟨(.prim (.bin .add .none)), [.tmp 26, .const (.int .i64 1)], (some 27), (some (24, false))⟩,
  ⟨(.prim (.idxSl none)), [.tmp 25, .tmp 27], (some 28), (some (24, false))⟩,
  ⟨(.prim (.load none)), [.tmp 28], (some 29), (some (24, false))⟩,
  ⟨(.prim .id), [.tmp 5], (some 30), (some (24, false))⟩,
  ⟨(.prim (.bin .shr .none)), [.tmp 30, .const (.int .u64 8)], (some 31), (some (24, false))⟩,
  ⟨(.prim (.conv .u8)), [.tmp 31], (some 32), (some (24, false))⟩,
  ⟨(.prim (.bin .neq .none)), [.tmp 29, .tmp 32], (some 33), (some (24, false))⟩,
  ⟨(.prim .pick), [.tmp 24, .const (.bool true), .tmp 33], (some 34), none⟩,
  ⟨(.prim .id), [.tmp 34], (some 35), none⟩,
  ⟨(.prim .id), [.tmp 0], (some 36), (some (35, false))⟩,
  ⟨(.prim .id), [.tmp 4], (some 37), (some (35, false))⟩,
  ⟨(.prim (.bin .add .none)), [.tmp 37, .const (.int .i64 2)], (some 38), (some (35, false))⟩,
  ⟨(.prim (.idxSl none)), [.tmp 36, .tmp 38], (some 39), (some (35, false))⟩,
  ⟨(.prim (.load none)), [.tmp 39], (some 40), (some (35, false))⟩,
  ⟨(.prim .id), [.tmp 5], (some 41), (some (35, false))⟩,
  ⟨(.prim (.bin .shr .none)), [.tmp 41, .const (.int .u64 16)], (some 42), (some (35, false))⟩,
  ⟨(.prim (.conv .u8)), [.tmp 42], (some 43), (some (35, false))⟩,
  ⟨(.prim (.bin .neq .none)), [.tmp 40, .tmp 43], (some 44), (some (35, false))⟩,
  ⟨(.prim .pick), [.tmp 35, .const (.bool true), .tmp 44], (some 45), none⟩,
  ⟨(.prim .id), [.tmp 45], (some 46), none⟩,
  ⟨(.prim .id), [.tmp 0], (some 47), (some (46, false))⟩,
  ⟨(.prim .id), [.tmp 4], (some 48), (some (46, false))⟩,
  ⟨(.prim (.bin .add .none)), [.tmp 48, .const (.int .i64 3)], (some 49), (some (46, false))⟩,
  ⟨(.prim (.idxSl none)), [.tmp 47, .tmp 49], (some 50), (some (46, false))⟩,
  ⟨(.prim (.load none)), [.tmp 50], (some 51), (some (46, false))⟩,
  ⟨(.prim .id), [.tmp 5], (some 52), (some (46, false))⟩,
  ⟨(.prim (.bin .shr .none)), [.tmp 52, .const (.int .u64 24)], (some 53), (some (46, false))⟩,
  ⟨(.prim (.conv .u8)), [.tmp 53], (some 54), (some (46, false))⟩,
  ⟨(.prim (.bin .neq .none)), [.tmp 51, .tmp 54], (some 55), (some (46, false))⟩,
  ⟨(.prim .pick), [.tmp 46, .const (.bool true), .tmp 55], (some 56), none⟩] none)
 (.cond (.tmp 56)
  (.seq (.region [⟨(.prim .id), [.const (.sl .clip [])], (some 2), none⟩,
   ⟨(.prim .id), [.const (.bool false)], (some 3), none⟩] none)
  .ret)
  .skip))
 (.seq (.region [⟨(.prim .id), [.const (.sl .clip [])], (some 6), none⟩] none)
 (.seq (.region [⟨(.prim .id), [.tmp 6], (some 57), none⟩,
  ⟨(.prim .id), [.tmp 0], (some 58), none⟩,
  ⟨(.prim .id), [.tmp 4], (some 59), none⟩,
  ⟨(.prim (.slcSl none false true false)), [.tmp 58, .tmp 59], (some 60), none⟩,
  ⟨(.prim (.append none)), [.tmp 57, .tmp 60], (some 61), none⟩,
  ⟨(.prim .id), [.tmp 61], (some 2), none⟩,
  ⟨(.prim .id), [.const (.bool true)], (some 3), none⟩] none)
 .ret)))))))
theorem F147 : IsFun Try.prog 147 1 62 c147 [.tmp 2, .tmp 3] := ⟨by decide, Try.f147, _, [], Try.func147, rfl, by decide, rfl, by kernel_rfl, by kernel_rfl⟩

/-- (*cashbox/cashboxref07.Reader).Byte -/
def c148 : ACode :=
 (.seq (.region [⟨(.prim .id), [.const (.int .i64 0)], (some 2), none⟩] none)
 (.seq (.seq (.region [⟨(.prim .id), [.tmp 0], (some 4), none⟩,
  ⟨(.prim .nilc), [.tmp 4], (some 5), none⟩,
  ⟨(.prim (.fieldAddr 1 none)), [.tmp 5], (some 6), none⟩,
  ⟨(.prim (.load none)), [.tmp 6], (some 7), none⟩,
  ⟨(.prim .id), [.tmp 0], (some 8), none⟩,
  ⟨(.prim .nilc), [.tmp 8], (some 9), none⟩,
  ⟨(.prim (.fieldAddr 0 none)), [.tmp 9], (some 10), none⟩,
  ⟨(.prim (.load none)), [.tmp 10], (some 11), none⟩,
  ⟨(.prim .len), [.tmp 11], (some 12), none⟩,
  ⟨(.prim (.bin .geq .none)), [.tmp 7, .tmp 12], (some 13), none⟩] (some [[], [0], [1], [2], [], [4], [5], [6], [7], [3, 8]]))
 (.cond (.tmp 13)
  (.seq (.region [⟨(.prim .id), [.tmp 0], (some 14), none⟩,
   ⟨(.prim .nilc), [.tmp 14], (some 15), none⟩,
   ⟨(.prim (.fieldAddr 2 none)), [.tmp 15], (some 16), none⟩,
   ⟨(.prim (.store none)), [.tmp 16, .const (.bool true)], none, none⟩] none)
  (.seq (.region [⟨(.prim .id), [.const (.int .i64 0)], (some 2), none⟩] none)
  .ret))
  .skip))
 (.seq (.region [⟨(.prim .id), [.tmp 0], (some 17), none⟩,
  ⟨(.prim .nilc), [.tmp 17], (some 18), none⟩,
  ⟨(.prim (.fieldAddr 0 none)), [.tmp 18], (some 19), none⟩,
  ⟨(.prim (.load none)), [.tmp 19], (some 20), none⟩,
  ⟨(.prim .id), [.tmp 0], (some 21), none⟩,
  ⟨(.prim .nilc), [.tmp 21], (some 22), none⟩,
  ⟨(.prim (.fieldAddr 1 none)), [.tmp 22], (some 23), none⟩,
  ⟨(.prim (.load none)), [.tmp 23], (some 24), none⟩,
  ⟨(.prim (.idxSl none)), [.tmp 20, .tmp 24], (some 25), none⟩,
  ⟨(.prim (.load none)), [.tmp 25], (some 26), none⟩,
  ⟨(.prim (.conv .i64)), [.tmp 26], (some 27), none⟩,
  ⟨(.prim .id), [.tmp 27], (some 3), none⟩] (some [[], [0], [1], [2], [], [4], [5], [6], [3, 7], [8], [9], [10, 0, 1, 2, 3, 4, 5, 6, 7, 8, 9, 10]]))
 (.seq (.region [⟨(.prim .id), [.tmp 0], (some 28), none⟩,
  ⟨(.prim .nilc), [.tmp 28], (some 29), none⟩,
  ⟨(.prim (.fieldAddr 1 none)), [.tmp 29], (some 30), none⟩,
  ⟨(.prim (.load none)), [.tmp 30], (some 31), none⟩,
  ⟨(.prim (.bin .add .none)), [.tmp 31, .const (.int .i64 1)], (some 32), none⟩,
  ⟨(.prim .nilc), [.tmp 28], (some 33), none⟩,
  ⟨(.prim (.fieldAddr 1 none)), [.tmp 33], (some 34), none⟩,
  ⟨(.prim (.store none)), [.tmp 34, .tmp 32], none, none⟩] none)
 (.seq (.region [⟨(.prim .id), [.tmp 3], (some 35), none⟩,
  ⟨(.prim .id), [.tmp 35], (some 2), none⟩] none)
 .ret)))))
theorem F148 : IsFun Try.prog 148 1 36 c148 [.tmp 2] := ⟨by decide, Try.f148, _, [], Try.func148, rfl, by decide, rfl, by kernel_rfl, by kernel_rfl⟩

/-- (*cashbox/cashboxref07.Reader).Three -/
def c149 : ACode :=
 (.seq (.region [⟨(.prim .id), [.const (.int .i64 0)], (some 2), none⟩] none)
 (.seq (.region [⟨(.prim .id), [.tmp 0], (some 6), none⟩,
  ⟨(.call 148), [.tmp 6], (some 7), none⟩,
  ⟨(.prim .id), [.tmp 7], (some 3), none⟩] none)
 (.seq (.region [⟨(.prim .id), [.tmp 0], (some 8), none⟩,
  ⟨(.call 148), [.tmp 8], (some 9), none⟩,
  ⟨(.prim .id), [.tmp 9], (some 4), none⟩] none)
 (.seq (.region [⟨(.prim .id), [.tmp 0], (some 10), none⟩,
  ⟨(.call 148), [.tmp 10], (some 11), none⟩,
  ⟨(.prim .id), [.tmp 11], (some 5), none⟩] none)
 (.seq (.region [⟨(.prim .id), [.tmp 3], (some 12), none⟩,
  ⟨(.prim .id), [.tmp 4], (some 13), none⟩,
  ⟨(.prim (.bin .shl .none)), [.tmp 13, .const (.int .u64 8)], (some 14), none⟩,
  ⟨(.prim (.bin .add .none)), [.tmp 12, .tmp 14], (some 15), none⟩,
  ⟨(.prim .id), [.tmp 5], (some 16), none⟩,
  ⟨(.prim (.bin .shl .none)), [.tmp 16, .const (.int .u64 16)], (some 17), none⟩,
  ⟨(.prim (.bin .add .none)), [.tmp 15, .tmp 17], (some 18), none⟩,
  ⟨(.prim .id), [.tmp 18], (some 2), none⟩] none)
 .ret)))))
theorem F149 : IsFun Try.prog 149 1 19 c149 [.tmp 2] := ⟨by decide, Try.f149, _, [], Try.func149, rfl, by decide, rfl, by kernel_rfl, by kernel_rfl⟩

/-- (*cashbox/cashboxref07.Reader).Name -/
def c150 : ACode :=
 (.seq (.region [⟨(.prim (.alloc [(.int .i64 0), (.int .i64 0), (.int .i64 0)])), [], (some 2), none⟩] none)
 (.seq (.region [⟨(.prim .id), [.tmp 0], (some 6), none⟩,
  ⟨(.call 149), [.tmp 6], (some 7), none⟩,
  ⟨(.prim .id), [.tmp 7], (some 3), none⟩] none)
 (.seq (.region [⟨(.prim .id), [.tmp 0], (some 8), none⟩,
  ⟨(.call 149), [.tmp 8], (some 9), none⟩,
  ⟨(.prim .id), [.tmp 9], (some 4), none⟩] none)
 (.seq (.region [⟨(.prim .id), [.tmp 0], (some 10), none⟩,
  ⟨(.call 149), [.tmp 10], (some 11), none⟩,
  ⟨(.prim .id), [.tmp 11], (some 5), none⟩] none)
 (.seq (.region [⟨(.prim .id), [.tmp 3], (some 12), none⟩,
  ⟨(.prim .id), [.tmp 4], (some 13), none⟩,
  ⟨(.prim .id), [.tmp 5], (some 14), none⟩,
  ⟨(.prim (.build [(.int .i64 0), (.int .i64 0), (.int .i64 0)] [(0, 1), (1, 1), (2, 1)])), [.tmp 12, .tmp 13, .tmp 14], (some 15), none⟩,
  ⟨(.prim (.store (some 3))), [.tmp 2, .tmp 15], none, none⟩] none)
 .ret)))))
theorem F150 : IsFun Try.prog 150 1 16 c150 [.cell 2 (some 3)] := ⟨by decide, Try.f150, _, [], Try.func150, rfl, by decide, rfl, by kernel_rfl, by kernel_rfl⟩

-- loop: 0:r, 2:, 3:v, 4:i
/-- (*cashbox/cashboxref07.Reader).Value -/
def c151 : ACode :=
 (.seq (.region [⟨(.prim (.alloc [(.int .u8 0), (.int .u8 0), (.int .u8 0), (.int .u8 0), (.int .u8 0), (.int .u8 0), (.int .u8 0), (.int .u8 0)])), [], (some 2), none⟩] none)
 (.seq (.region [⟨(.prim (.alloc [(.int .u8 0), (.int .u8 0), (.int .u8 0), (.int .u8 0), (.int .u8 0), (.int .u8 0), (.int .u8 0), (.int .u8 0)])), [], (some 3), none⟩] none)
 (.seq (.seq (.region [⟨(.prim .id), [.const (.int .i64 0)], (some 4), none⟩] none)
 (.block 0
  (.loop
   (.seq (.seq (.region [⟨(.prim .id), [.tmp 4], (some 5), none⟩,
    ⟨(.prim (.bin .lss .none)), [.tmp 5, .const (.int .i64 8)], (some 6), none⟩] none)
   (.cond (.tmp 6)
    .skip
    (.exit 0)))
   (.seq (.block 1
    (.region [⟨(.prim .id), [.tmp 4], (some 9), none⟩,
     ⟨(.prim .id), [.tmp 0], (some 10), none⟩,
     ⟨(.call 148), [.tmp 10], (some 11), none⟩,
     ⟨(.prim (.conv .u8)), [.tmp 11], (some 12), none⟩,
     ⟨(.prim (.idxArr 8 none)), [.tmp 3, .tmp 9], (some 13), none⟩,
     ⟨(.prim (.store none)), [.tmp 13, .tmp 12], none, none⟩] none))
   (.region [⟨(.prim .id), [.tmp 4], (some 7), none⟩,
    ⟨(.prim (.bin .add .none)), [.tmp 7, .const (.int .i64 1)], (some 8), none⟩,
    ⟨(.prim .id), [.tmp 8], (some 4), none⟩] none))))))
 (.seq (.region [⟨(.prim (.load (some 8))), [.tmp 3], (some 14), none⟩,
  ⟨(.prim (.store (some 8))), [.tmp 2, .tmp 14], none, none⟩] none)
 .ret))))
theorem F151 : IsFun Try.prog 151 1 15 c151 [.cell 2 (some 8)] := ⟨by decide, Try.f151, _, [], Try.func151, rfl, by decide, rfl, by kernel_rfl, by kernel_rfl⟩

-- loop: 0:r, 3:n, 4:out, 5:i
/-- (*cashbox/cashboxref07.Reader).Writes -/
def c152 : ACode :=
 (.seq (.region [⟨(.prim .id), [.const (.sl .clip [])], (some 2), none⟩] none)
 (.seq (.region [⟨(.prim .id), [.tmp 0], (some 8), none⟩,
  ⟨(.call 148), [.tmp 8], (some 9), none⟩,
  ⟨(.prim .id), [.tmp 9], (some 3), none⟩] none)
 (.seq (.region [⟨(.prim .id), [.const (.sl .clip [])], (some 4), none⟩] none)
 (.seq (.seq (.region [⟨(.prim .id), [.const (.int .i64 0)], (some 5), none⟩] none)
 (.block 0
  (.loop
   (.seq (.seq (.region [⟨(.prim .id), [.tmp 5], (some 10), none⟩,
    ⟨(.prim .id), [.tmp 3], (some 11), none⟩,
    ⟨(.prim (.bin .lss .none)), [.tmp 10, .tmp 11], (some 12), none⟩,
    ⟨(.prim .id), [.tmp 12], (some 13), none⟩,
    ⟨(.prim .id), [.tmp 0], (some 14), (some (13, true))⟩,
    ⟨(.prim .nilc), [.tmp 14], (some 15), (some (13, true))⟩,
    ⟨(.prim (.fieldAddr 2 none)), [.tmp 15], (some 16), (some (13, true))⟩,
    ⟨(.prim (.load none)), [.tmp 16], (some 17), (some (13, true))⟩,
    ⟨(.prim (.un .not)), [.tmp 17], (some 18), (some (13, true))⟩,
    ⟨(.prim .pick), [.tmp 13, .tmp 18, .const (.bool false)], (some 19), none⟩] none)
   (.cond (.tmp 19)
    .skip
    (.exit 0)))
   (.seq (.block 1
    (.seq (.region [⟨(.prim .id), [.tmp 0], (some 22), none⟩,
     ⟨(.call 148), [.tmp 22], (some 23), none⟩,
     ⟨(.prim .id), [.tmp 23], (some 6), none⟩] none)
    (.seq (.region [⟨(.prim .id), [.tmp 0], (some 24), none⟩,
     ⟨(.call 151), [.tmp 24], (some 25), none⟩,
     ⟨(.prim (.alloc [(.int .u8 0), (.int .u8 0), (.int .u8 0), (.int .u8 0), (.int .u8 0), (.int .u8 0), (.int .u8 0), (.int .u8 0)])), [], (some 7), none⟩,
     ⟨(.prim (.store (some 8))), [.tmp 7, .tmp 25], none, none⟩] none)
    (.region [⟨(.prim .id), [.tmp 4], (some 26), none⟩,
     ⟨(.prim .id), [.tmp 6], (some 27), none⟩,
     ⟨(.prim (.load (some 8))), [.tmp 7], (some 28), none⟩,
     ⟨(.prim (.build [(.int .i64 0), (.int .u8 0), (.int .u8 0), (.int .u8 0), (.int .u8 0), (.int .u8 0), (.int .u8 0), (.int .u8 0), (.int .u8 0)] [(0, 1), (1, 8)])), [.tmp 27, .tmp 28], (some 29), none⟩,
     ⟨(.prim (.buildSl (some 9))), [.tmp 29], (some 30), none⟩,
     ⟨(.prim (.append (some 9))), [.tmp 26, .tmp 30], (some 31), none⟩,
     ⟨(.prim .id), [.tmp 31], (some 4), none⟩] none))))
   (.region [⟨(.prim .id), [.tmp 5], (some 20), none⟩,
    ⟨(.prim (.bin .add .none)), [.tmp 20, .const (.int .i64 1)], (some 21), none⟩,
    ⟨(.prim .id), [.tmp 21], (some 5), none⟩] none))))))
 (.seq (.region [⟨(.prim .id), [.tmp 4], (some 32), none⟩,
  ⟨(.prim .id), [.tmp 32], (some 2), none⟩] none)
 .ret)))))
theorem F152 : IsFun Try.prog 152 1 33 c152 [.tmp 2] := ⟨by decide, Try.f152, _, [], Try.func152, rfl, by decide, rfl, by kernel_rfl, by kernel_rfl⟩

/-- (*cashbox/cashboxref07.Reader).Flag -/
def c153 : ACode :=
 (.seq (.region [⟨(.prim .id), [.const (.bool false)], (some 2), none⟩] none)
 (.seq (.region [⟨(.prim .id), [.tmp 0], (some 4), none⟩,
  ⟨(.call 148), [.tmp 4], (some 5), none⟩,
  ⟨(.prim .id), [.tmp 5], (some 3), none⟩] none)
 (.seq (.region [⟨(.prim .id), [.tmp 0], (some 6), none⟩,
  ⟨(.prim .id), [.tmp 0], (some 7), none⟩,
  ⟨(.prim .nilc), [.tmp 7], (some 8), none⟩,
  ⟨(.prim (.fieldAddr 2 none)), [.tmp 8], (some 9), none⟩,
  ⟨(.prim (.load none)), [.tmp 9], (some 10), none⟩,
  ⟨(.prim .id), [.tmp 10], (some 11), none⟩,
  ⟨(.prim .id), [.tmp 3], (some 12), (some (11, false))⟩,
  ⟨(.prim (.bin .gtr .none)), [.tmp 12, .const (.int .i64 1)], (some 13), (some (11, false))⟩,
  ⟨(.prim .pick), [.tmp 11, .const (.bool true), .tmp 13], (some 14), none⟩,
  ⟨(.prim .nilc), [.tmp 6], (some 15), none⟩,
  ⟨(.prim (.fieldAddr 2 none)), [.tmp 15], (some 16), none⟩,
  ⟨(.prim (.store none)), [.tmp 16, .tmp 14], none, none⟩] none)
 (.seq (.region [⟨(.prim .id), [.tmp 3], (some 17), none⟩,
  ⟨(.prim (.bin .eql .none)), [.tmp 17, .const (.int .i64 1)], (some 18), none⟩,
  ⟨(.prim .id), [.tmp 18], (some 2), none⟩] none)
 .ret))))
theorem F153 : IsFun Try.prog 153 1 19 c153 [.tmp 2] := ⟨by decide, Try.f153, _, [], Try.func153, rfl, by decide, rfl, by kernel_rfl, by kernel_rfl⟩

/-- cashbox/record.within -/
def c169 : ACode :=
 (.seq (.region [⟨(.prim .id), [.const (.bool false)], (some 6), none⟩] none)
 (.seq (.region [⟨(.prim .id), [.tmp 0], (some 7), none⟩,
  ⟨(.prim .id), [.tmp 1], (some 8), none⟩,
  ⟨(.prim (.bin .geq .none)), [.tmp 7, .tmp 8], (some 9), none⟩,
  ⟨(.prim .id), [.tmp 9], (some 10), none⟩,
  ⟨(.prim .id), [.tmp 0], (some 11), (some (10, true))⟩,
  ⟨(.prim .id), [.tmp 2], (some 12), (some (10, true))⟩,
  ⟨(.prim (.bin .leq .none)), [.tmp 11, .tmp 12], (some 13), (some (10, true))⟩,
  ⟨(.prim .pick), [.tmp 10, .tmp 13, .const (.bool false)], (some 14), none⟩,
  ⟨(.prim .id), [.tmp 14], (some 6), none⟩] none)
 .ret))
theorem F169 : IsFun Try.prog 169 3 15 c169 [.tmp 6] := ⟨by decide, Try.f169, _, [], Try.func169, rfl, by decide, rfl, by kernel_rfl, by kernel_rfl⟩

/-- cashbox/wire.all -/
def c170 : ACode :=
 (.seq (.region [⟨(.prim (.alloc [.nilfn, .nilfn, .nilfn, .nilfn, .nilfn, .nilfn, .nilfn, .nilfn, .nilfn, .nilfn, .nilfn, .nilfn, .nilfn, .nilfn, .nilfn, .nilfn, .nilfn, .nilfn, .nilfn, .nilfn])), [], (some 0), none⟩] none)
 (.seq (.region [⟨(.prim .id), [.const (.fn (.func 189) [] [])], (some 1), none⟩] none)
 (.seq (.region [⟨(.prim (.build [.nilfn, .nilfn] [(0, 1), (1, 1)])), [.const (.fn (.func 192) [] []), .const (.fn (.func 193) [] [])], (some 12), none⟩,
  ⟨(.prim (.alloc [.nilfn, .nilfn])), [], (some 2), none⟩,
  ⟨(.prim (.store (some 2))), [.tmp 2, .tmp 12], none, none⟩] none)
 (.seq (.region [⟨(.prim .id), [.tmp 1], (some 13), none⟩,
  ⟨.callV, [.tmp 13, .const (.fn (.func 194) [] []), .const (.int .i64 3)], (some 14), none⟩,
  ⟨(.prim (.alloc [.nilfn, .nilfn])), [], (some 3), none⟩,
  ⟨(.prim (.store (some 2))), [.tmp 3, .tmp 14], none, none⟩] none)
 (.seq (.region [⟨(.prim .id), [.tmp 1], (some 15), none⟩,
  ⟨.callV, [.tmp 15, .const (.fn (.func 195) [] []), .const (.int .i64 1)], (some 16), none⟩,
  ⟨(.prim (.alloc [.nilfn, .nilfn])), [], (some 4), none⟩,
  ⟨(.prim (.store (some 2))), [.tmp 4, .tmp 16], none, none⟩] none)
 (.seq (.region [⟨(.prim (.build [.nilfn, .nilfn] [(0, 1), (1, 1)])), [.const (.fn (.func 196) [] []), .const (.fn (.func 197) [] [])], (some 17), none⟩,
  ⟨(.prim (.alloc [.nilfn, .nilfn])), [], (some 5), none⟩,
  ⟨(.prim (.store (some 2))), [.tmp 5, .tmp 17], none, none⟩] none)
 (.seq (.region [⟨(.prim (.build [.nilfn, .nilfn] [(0, 1), (1, 1)])), [.const (.fn (.func 198) [] []), .const (.fn (.func 199) [] [])], (some 18), none⟩,
  ⟨(.prim (.alloc [.nilfn, .nilfn])), [], (some 6), none⟩,
  ⟨(.prim (.store (some 2))), [.tmp 6, .tmp 18], none, none⟩] none)
 (.seq (.region [⟨(.prim (.build [.nilfn, .nilfn] [(0, 1), (1, 1)])), [.const (.fn (.func 201) [] []), .const (.fn (.func 202) [] [])], (some 19), none⟩,
  ⟨(.prim (.alloc [.nilfn, .nilfn])), [], (some 7), none⟩,
  ⟨(.prim (.store (some 2))), [.tmp 7, .tmp 19], none, none⟩] none)
 (.seq (.region [⟨(.prim (.build [.nilfn, .nilfn] [(0, 1), (1, 1)])), [.const (.fn (.func 203) [] []), .const (.fn (.func 204) [] [])], (some 20), none⟩,
  ⟨(.prim (.alloc [.nilfn, .nilfn])), [], (some 8), none⟩,
  ⟨(.prim (.store (some 2))), [.tmp 8, .tmp 20], none, none⟩] none)
 (.seq (.region [⟨(.prim .id), [.tmp 1], (some 21), none⟩,
  ⟨.callV, [.tmp 21, .const (.fn (.func 205) [] []), .const (.int .i64 1)], (some 22), none⟩,
  ⟨(.prim (.alloc [.nilfn, .nilfn])), [], (some 9), none⟩,
  ⟨(.prim (.store (some 2))), [.tmp 9, .tmp 22], none, none⟩] none)
 (.seq (.region [⟨(.prim .id), [.tmp 1], (some 23), none⟩,
  ⟨.callV, [.tmp 23, .const (.fn (.func 206) [] []), .const (.int .i64 1)], (some 24), none⟩,
  ⟨(.prim (.alloc [.nilfn, .nilfn])), [], (some 10), none⟩,
  ⟨(.prim (.store (some 2))), [.tmp 10, .tmp 24], none, none⟩] none)
 (.seq (.region [⟨(.prim (.build [.nilfn, .nilfn] [(0, 1), (1, 1)])), [.const (.fn (.func 207) [] []), .const (.fn (.func 208) [] [])], (some 25), none⟩,
  ⟨(.prim (.alloc [.nilfn, .nilfn])), [], (some 11), none⟩,
  ⟨(.prim (.store (some 2))), [.tmp 11, .tmp 25], none, none⟩] none)
 (.seq (.region [⟨(.prim (.load (some 2))), [.tmp 2], (some 26), none⟩,
  ⟨(.prim (.load (some 2))), [.tmp 3], (some 27), none⟩,
  ⟨(.prim (.load (some 2))), [.tmp 4], (some 28), none⟩,
  ⟨(.prim (.load (some 2))), [.tmp 5], (some 29), none⟩,
  ⟨(.prim (.load (some 2))), [.tmp 6], (some 30), none⟩,
  ⟨(.prim (.load (some 2))), [.tmp 7], (some 31), none⟩,
  ⟨(.prim (.load (some 2))), [.tmp 8], (some 32), none⟩,
  ⟨(.prim (.load (some 2))), [.tmp 9], (some 33), none⟩,
  ⟨(.prim (.load (some 2))), [.tmp 10], (some 34), none⟩,
  ⟨(.prim (.load (some 2))), [.tmp 11], (some 35), none⟩,
  ⟨(.prim (.build [.nilfn, .nilfn, .nilfn, .nilfn, .nilfn, .nilfn, .nilfn, .nilfn, .nilfn, .nilfn, .nilfn, .nilfn, .nilfn, .nilfn, .nilfn, .nilfn, .nilfn, .nilfn, .nilfn, .nilfn] [(0, 2), (2, 2), (4, 2), (6, 2), (8, 2), (10, 2), (12, 2), (14, 2), (16, 2), (18, 2)])), [.tmp 26, .tmp 27, .tmp 28, .tmp 29, .tmp 30, .tmp 31, .tmp 32, .tmp 33, .tmp 34, .tmp 35], (some 36), none⟩,
  ⟨(.prim (.store (some 20))), [.tmp 0, .tmp 36], none, none⟩] none)
 .ret)))))))))))))
theorem F170 : IsFun Try.prog 170 0 37 c170 [.cell 0 (some 20)] := ⟨by decide, Try.f170, _, [], Try.func170, rfl, by decide, rfl, by kernel_rfl, by kernel_rfl⟩

/-- cashbox/wire.kindOf$1 -/
def c171 : ACode :=
 (.seq (.region [⟨(.prim .id), [.const (.bool false)], (some 2), none⟩] none)
 (.seq (.region [⟨(.prim .id), [.const (.bool true)], (some 2), none⟩] none)
 .ret))
theorem F171 : IsFun Try.prog 171 1 3 c171 [.tmp 2] := ⟨by decide, Try.f171, _, [], Try.func171, rfl, by decide, rfl, by kernel_rfl, by kernel_rfl⟩

/-- cashbox/wire.kindOf$2 -/
def c172 : ACode :=
 (.seq (.region [⟨(.prim (.boxR none)), [.tmp 0], (some 1), none⟩,
  ⟨(.prim .id), [.const .nilfn], (some 2), none⟩] none)
 (.seq (.region [⟨(.prim (.mkfn (.func 173) 0)), [.tmp 1], (some 3), none⟩,
  ⟨(.prim .id), [.tmp 3], (some 2), none⟩] none)
 .ret))
theorem F172 : IsFun Try.prog 172 1 4 c172 [.tmp 2] := ⟨by decide, Try.f172, _, [1], Try.func172, rfl, by decide, rfl, by kernel_rfl, by kernel_rfl⟩

/-- cashbox/wire.kindOf$2$1 -/
def c173 : ACode :=
 (.seq (.region [⟨(.prim .id), [.const (.bool false)], (some 3), none⟩] none)
 (.seq (.region [⟨(.prim (.load none)), [.tmp 1], (some 4), none⟩,
  ⟨(.prim .id), [.tmp 0], (some 5), none⟩,
  ⟨(.prim .nilc), [.tmp 5], (some 6), none⟩,
  ⟨(.prim (.fieldAddr 19 none)), [.tmp 6], (some 7), none⟩,
  ⟨(.prim (.load none)), [.tmp 7], (some 8), none⟩,
  ⟨(.call 174), [.tmp 4, .tmp 8], (some 9), none⟩,
  ⟨(.prim .id), [.tmp 9], (some 3), none⟩] (some [[], [], [1], [2], [3], [0, 4], [5, 5, 0, 1, 2, 3, 4, 5]]))
 .ret))
theorem F173 : IsFun Try.prog 173 2 10 c173 [.tmp 3] := ⟨by decide, Try.f173, _, [], Try.func173, rfl, by decide, rfl, by kernel_rfl, by kernel_rfl⟩

/-- slices.Contains[[]cashbox/api.Errno,cashbox/api.Errno] -/
def c174 : ACode :=
 (.seq (.region [⟨(.prim .id), [.const (.bool false)], (some 4), none⟩] none)
 (.seq (.region [⟨(.prim .id), [.tmp 0], (some 5), none⟩,
  ⟨(.prim .id), [.tmp 1], (some 6), none⟩,
  ⟨(.call 209), [.tmp 5, .tmp 6], (some 7), none⟩,
  ⟨(.prim (.bin .geq .none)), [.tmp 7, .const (.int .i64 0)], (some 8), none⟩,
  ⟨(.prim .id), [.tmp 8], (some 4), none⟩] none)
 .ret))
theorem F174 : IsFun Try.prog 174 2 9 c174 [.tmp 4] := ⟨by decide, Try.f174, _, [], Try.func174, rfl, by decide, rfl, by kernel_rfl, by kernel_rfl⟩

/-- cashbox/wire.kindOf$3 -/
def c175 : ACode :=
 (.seq (.region [⟨(.prim .id), [.const (.bool false)], (some 2), none⟩] none)
 (.seq (.region [⟨(.prim .id), [.tmp 0], (some 3), none⟩,
  ⟨(.prim .nilc), [.tmp 3], (some 4), none⟩,
  ⟨(.prim (.fieldAddr 8 none)), [.tmp 4], (some 5), none⟩,
  ⟨(.prim (.load none)), [.tmp 5], (some 6), none⟩,
  ⟨(.call 121), [.tmp 6, .const (.int .i64 1), .const (.int .i64 1048576)], (some 7), none⟩,
  ⟨(.prim .id), [.tmp 7], (some 8), none⟩,
  ⟨(.prim .id), [.tmp 0], (some 9), (some (8, true))⟩,
  ⟨(.prim .nilc), [.tmp 9], (some 10), (some (8, true))⟩,
  ⟨(.prim (.fieldAddr 9 none)), [.tmp 10], (some 11), (some (8, true))⟩,
  ⟨(.prim (.load none)), [.tmp 11], (some 12), (some (8, true))⟩,
  ⟨(.prim (.bin .geq .none)), [.tmp 12, .const (.int .i8 0)], (some 13), (some (8, true))⟩,
  ⟨(.prim .pick), [.tmp 8, .tmp 13, .const (.bool false)], (some 14), none⟩,
  ⟨(.prim .id), [.tmp 14], (some 15), none⟩,
  ⟨(.prim .id), [.tmp 0], (some 16), (some (15, true))⟩,
  ⟨(.prim .nilc), [.tmp 16], (some 17), (some (15, true))⟩,
  ⟨(.prim (.fieldAddr 9 none)), [.tmp 17], (some 18), (some (15, true))⟩,
  ⟨(.prim (.load none)), [.tmp 18], (some 19), (some (15, true))⟩,
  ⟨(.prim (.bin .leq .none)), [.tmp 19, .const (.int .i8 2)], (some 20), (some (15, true))⟩,
  ⟨(.prim .pick), [.tmp 15, .tmp 20, .const (.bool false)], (some 21), none⟩,
  ⟨(.prim .id), [.tmp 21], (some 22), none⟩,
  ⟨(.prim .id), [.tmp 0], (some 23), (some (22, true))⟩,
  ⟨(.prim .nilc), [.tmp 23], (some 24), (some (22, true))⟩,
  ⟨(.prim (.fieldAddr 10 none)), [.tmp 24], (some 25), (some (22, true))⟩,
  ⟨(.prim (.load none)), [.tmp 25], (some 26), (some (22, true))⟩,
  ⟨(.call 121), [.tmp 26, .const (.int .i64 0), .const (.int .i64 31)], (some 27), (some (22, true))⟩,
  ⟨(.prim .pick), [.tmp 22, .tmp 27, .const (.bool false)], (some 28), none⟩,
  ⟨(.prim .id), [.tmp 28], (some 29), none⟩,
  ⟨(.prim .id), [.tmp 0], (some 30), (some (29, true))⟩,
  ⟨(.prim .nilc), [.tmp 30], (some 31), (some (29, true))⟩,
  ⟨(.prim (.fieldAddr 9 none)), [.tmp 31], (some 32), (some (29, true))⟩,
  ⟨(.prim (.load none)), [.tmp 32], (some 33), (some (29, true))⟩,
  ⟨(.prim (.bin .eql .none)), [.tmp 33, .const (.int .i8 1)], (some 34), (some (29, true))⟩,
  ⟨(.prim .id), [.tmp 34], (some 35), (some (29, true))⟩,
  ⟨(.prim .id), [.tmp 0], (some 36), (some (35, false))⟩,
  ⟨(.prim .nilc), [.tmp 36], (some 37), (some (35, false))⟩,
  ⟨(.prim (.fieldAddr 11 (some 8))), [.tmp 37], (some 38), (some (35, false))⟩,
  ⟨(.prim (.load (some 8))), [.tmp 38], (some 39), (some (35, false))⟩,
  ⟨(.prim (.build [(.int .u8 0), (.int .u8 0), (.int .u8 0), (.int .u8 0), (.int .u8 0), (.int .u8 0), (.int .u8 0), (.int .u8 0)] [])), [], (some 40), (some (35, false))⟩,
  ⟨(.prim (.bin .eql (.flat [0, 0, 0, 0, 0, 0, 0, 0]))), [.tmp 39, .tmp 40], (some 41), (some (35, false))⟩,
  ⟨(.prim .pick), [.tmp 35, .const (.bool true), .tmp 41], (some 42), (some (29, true))⟩,
  ⟨(.prim .pick), [.tmp 29, .tmp 42, .const (.bool false)], (some 43), none⟩,
  ⟨(.prim .id), [.tmp 43], (some 2), none⟩] none)
 .ret))
theorem F175 : IsFun Try.prog 175 1 44 c175 [.tmp 2] := ⟨by decide, Try.f175, _, [], Try.func175, rfl, by decide, rfl, by kernel_rfl, by kernel_rfl⟩

/-- cashbox/wire.kindOf$4 -/
def c176 : ACode :=
 (.seq (.region [⟨(.prim .id), [.const (.bool false)], (some 3), none⟩] none)
 (.seq (.region [⟨(.prim .id), [.tmp 0], (some 4), none⟩,
  ⟨(.prim .nilc), [.tmp 4], (some 5), none⟩,
  ⟨(.prim (.fieldAddr 8 none)), [.tmp 5], (some 6), none⟩,
  ⟨(.prim (.load none)), [.tmp 6], (some 7), none⟩,
  ⟨(.call 121), [.tmp 7, .const (.int .i64 1), .const (.int .i64 1048576)], (some 8), none⟩,
  ⟨(.prim .id), [.tmp 8], (some 9), none⟩,
  ⟨(.prim (.load none)), [.tmp 1], (some 10), (some (9, true))⟩,
  ⟨(.prim (.buildSl none)), [.const (.int .i64 0), .const (.int .i64 120), .const (.int .i64 112), .const (.int .i64 121), .const (.int .i64 50)], (some 11), (some (9, true))⟩,
  ⟨.callV, [.tmp 10, .tmp 11], (some 12), (some (9, true))⟩,
  ⟨(.prim .id), [.tmp 0], (some 13), (some (9, true))⟩,
  ⟨.callV, [.tmp 12, .tmp 13], (some 14), (some (9, true))⟩,
  ⟨(.prim .pick), [.tmp 9, .tmp 14, .const (.bool false)], (some 15), none⟩,
  ⟨(.prim .id), [.tmp 15], (some 16), none⟩,
  ⟨(.prim .id), [.tmp 0], (some 17), (some (16, true))⟩,
  ⟨(.prim .nilc), [.tmp 17], (some 18), (some (16, true))⟩,
  ⟨(.prim (.fieldAddr 19 none)), [.tmp 18], (some 19), (some (16, true))⟩,
  ⟨(.prim (.load none)), [.tmp 19], (some 20), (some (16, true))⟩,
  ⟨(.prim (.bin .eql .none)), [.tmp 20, .const (.int .i64 0)], (some 21), (some (16, true))⟩,
  ⟨(.prim .id), [.tmp 21], (some 22), (some (16, true))⟩,
  ⟨(.prim .id), [.tmp 0], (some 23), (some (22, false))⟩,
  ⟨(.prim .nilc), [.tmp 23], (some 24), (some (22, false))⟩,
  ⟨(.prim (.fieldAddr 11 (some 8))), [.tmp 24], (some 25), (some (22, false))⟩,
  ⟨(.prim (.load (some 8))), [.tmp 25], (some 26), (some (22, false))⟩,
  ⟨(.prim (.build [(.int .u8 0), (.int .u8 0), (.int .u8 0), (.int .u8 0), (.int .u8 0), (.int .u8 0), (.int .u8 0), (.int .u8 0)] [])), [], (some 27), (some (22, false))⟩,
  ⟨(.prim (.bin .eql (.flat [0, 0, 0, 0, 0, 0, 0, 0]))), [.tmp 26, .tmp 27], (some 28), (some (22, false))⟩,
  ⟨(.prim .pick), [.tmp 22, .const (.bool true), .tmp 28], (some 29), (some (16, true))⟩,
  ⟨(.prim .pick), [.tmp 16, .tmp 29, .const (.bool false)], (some 30), none⟩,
  ⟨(.prim .id), [.tmp 30], (some 3), none⟩] none)
 .ret))
theorem F176 : IsFun Try.prog 176 2 31 c176 [.tmp 3] := ⟨by decide, Try.f176, _, [], Try.func176, rfl, by decide, rfl, by kernel_rfl, by kernel_rfl⟩

/-- cashbox/wire.kindOf$5 -/
def c177 : ACode :=
 (.seq (.region [⟨(.prim .id), [.const (.bool false)], (some 2), none⟩] none)
 (.seq (.region [⟨(.prim .id), [.tmp 0], (some 3), none⟩,
  ⟨(.prim .nilc), [.tmp 3], (some 4), none⟩,
  ⟨(.prim (.fieldAddr 21 none)), [.tmp 4], (some 5), none⟩,
  ⟨(.prim (.load none)), [.tmp 5], (some 6), none⟩,
  ⟨(.call 121), [.tmp 6, .const (.int .i64 0), .const (.int .i64 255)], (some 7), none⟩,
  ⟨(.prim .id), [.tmp 7], (some 8), none⟩,
  ⟨(.prim .id), [.tmp 0], (some 9), (some (8, true))⟩,
  ⟨(.prim .nilc), [.tmp 9], (some 10), (some (8, true))⟩,
  ⟨(.prim (.fieldAddr 22 none)), [.tmp 10], (some 11), (some (8, true))⟩,
  ⟨(.prim (.load none)), [.tmp 11], (some 12), (some (8, true))⟩,
  ⟨(.call 121), [.tmp 12, .const (.int .i64 0), .const (.int .i64 255)], (some 13), (some (8, true))⟩,
  ⟨(.prim .pick), [.tmp 8, .tmp 13, .const (.bool false)], (some 14), none⟩,
  ⟨(.prim .id), [.tmp 14], (some 15), none⟩,
  ⟨(.prim .id), [.tmp 0], (some 16), (some (15, true))⟩,
  ⟨(.prim .nilc), [.tmp 16], (some 17), (some (15, true))⟩,
  ⟨(.prim (.fieldAddr 21 none)), [.tmp 17], (some 18), (some (15, true))⟩,
  ⟨(.prim (.load none)), [.tmp 18], (some 19), (some (15, true))⟩,
  ⟨(.prim .id), [.tmp 0], (some 20), (some (15, true))⟩,
  ⟨(.prim .nilc), [.tmp 20], (some 21), (some (15, true))⟩,
  ⟨(.prim (.fieldAddr 22 none)), [.tmp 21], (some 22), (some (15, true))⟩,
  ⟨(.prim (.load none)), [.tmp 22], (some 23), (some (15, true))⟩,
  ⟨(.prim (.bin .and .none)), [.tmp 19, .tmp 23], (some 24), (some (15, true))⟩,
  ⟨(.prim (.bin .eql .none)), [.tmp 24, .const (.int .i64 0)], (some 25), (some (15, true))⟩,
  ⟨(.prim .pick), [.tmp 15, .tmp 25, .const (.bool false)], (some 26), none⟩,
  ⟨(.prim .id), [.tmp 26], (some 27), none⟩,
  ⟨(.prim .id), [.tmp 0], (some 28), (some (27, true))⟩,
  ⟨(.prim .nilc), [.tmp 28], (some 29), (some (27, true))⟩,
  ⟨(.prim (.fieldAddr 23 none)), [.tmp 29], (some 30), (some (27, true))⟩,
  ⟨(.prim (.load none)), [.tmp 30], (some 31), (some (27, true))⟩,
  ⟨(.call 126), [.tmp 31], (some 32), (some (27, true))⟩,
  ⟨(.prim .pick), [.tmp 27, .tmp 32, .const (.bool false)], (some 33), none⟩,
  ⟨(.prim .id), [.tmp 33], (some 2), none⟩] (some [[], [0], [1], [2], [3], [4, 4], [5], [6, 5], [7, 5], [8, 5], [9, 5, 5], [5, 10], [11, 10], [12], [13, 12], [14, 12], [15, 12], [12], [17, 12], [18, 12], [19, 12], [16, 20, 12], [21, 12], [12, 22], [23, 12], [24], [25, 24], [26, 24], [27, 24], [28, 24, 24], [24, 29], [30, 29, 0, 1, 2, 3, 4, 5, 6, 7, 8, 9, 10, 11, 12, 13, 14, 15, 16, 17, 18, 19, 20, 21, 22, 23, 24, 25, 26, 27, 28, 29, 30]]))
 .ret))
theorem F177 : IsFun Try.prog 177 1 34 c177 [.tmp 2] := ⟨by decide, Try.f177, _, [], Try.func177, rfl, by decide, rfl, by kernel_rfl, by kernel_rfl⟩

/-- cashbox/sums.Sum -/
def c180 : ACode :=
 (.seq (.region [⟨(.prim .id), [.const (.int .u32 0)], (some 2), none⟩] none)
 (.seq (.region [⟨(.prim .id), [.tmp 0], (some 3), none⟩,
  ⟨(.call 211), [.const (.int .u32 0), .tmp 3], (some 4), none⟩,
  ⟨(.prim .id), [.tmp 4], (some 2), none⟩] none)
 .ret))
theorem F180 : IsFun Try.prog 180 1 5 c180 [.tmp 2] := ⟨by decide, Try.f180, _, [], Try.func180, rfl, by decide, rfl, by kernel_rfl, by kernel_rfl⟩

/-- cashbox/cashboxref01.Sum -/
def c181 : ACode :=
 (.seq (.region [⟨(.prim .id), [.const (.int .u32 0)], (some 2), none⟩] none)
 (.seq (.region [⟨(.prim .id), [.tmp 0], (some 3), none⟩,
  ⟨(.call 212), [.const (.int .u32 0), .tmp 3], (some 4), none⟩,
  ⟨(.prim .id), [.tmp 4], (some 2), none⟩] none)
 .ret))
theorem F181 : IsFun Try.prog 181 1 5 c181 [.tmp 2] := ⟨by decide, Try.f181, _, [], Try.func181, rfl, by decide, rfl, by kernel_rfl, by kernel_rfl⟩

/-- cashbox/sums.Open -/
def c182 : ACode :=
 (.seq (.region [⟨(.prim .id), [.const (.sl .clip [])], (some 2), none⟩,
  ⟨(.prim .id), [.const (.bool false)], (some 3), none⟩] none)
 (.seq (.region [⟨(.prim .id), [.tmp 0], (some 5), none⟩,
  ⟨(.prim .len), [.tmp 5], (some 6), none⟩,
  ⟨(.prim (.bin .sub .none)), [.tmp 6, .const (.int .i64 4)], (some 7), none⟩,
  ⟨(.prim .id), [.tmp 7], (some 4), none⟩] none)
 (.seq (.seq (.region [⟨(.prim .id), [.tmp 4], (some 8), none⟩,
  ⟨(.prim (.bin .lss .none)), [.tmp 8, .const (.int .i64 0)], (some 9), none⟩,
  ⟨(.prim .id), [.tmp 9], (some 10), none⟩,
  ⟨(.prim .id), [.tmp 0], (some 11), (some (10, false))⟩,
  ⟨(.prim .id), [.tmp 4], (some 12), (some (10, false))⟩,
  ⟨(.prim .id), [.tmp 4], (some 13), (some (10, false))⟩,
  ⟨(.prim (.slcSl none false true true)), [.tmp 11, .tmp 12, .tmp 13], (some 14), (some (10, false))⟩,
  ⟨(.call 138), [.tmp 14], (some 15), (some (10, false))⟩,
  ⟨(.prim .id), [.tmp 4], (some 16), (some (10, false))⟩,
  ⟨(.prim (.slcSl none true false false)), [.tmp 15, .tmp 16], (some 17), (some (10, false))⟩,
  ⟨(.prim .strOf), [.tmp 17], (some 18), (some (10, false))⟩,
  ⟨(.prim .id), [.tmp 0], (some 19), (some (10, false))⟩,
  ⟨(.prim .id), [.tmp 4], (some 20), (some (10, false))⟩,
  ⟨(.prim (.slcSl none true false false)), [.tmp 19, .tmp 20], (some 21), (some (10, false))⟩,
  ⟨(.prim .strOf), [.tmp 21], (some 22), (some (10, false))⟩,
  ⟨(.prim (.bin .neq .none)), [.tmp 18, .tmp 22], (some 23), (some (10, false))⟩,
  ⟨(.prim .pick), [.tmp 10, .const (.bool true), .tmp 23], (some 24), none⟩] (some [[], [0], [1], [2], [2], [2], [3, 4, 5, 2], [6, 2, 2], [2], [7, 8, 2], [9, 2], [2], [2], [11, 12, 2], [13, 2], [10, 14, 2], [2, 15]]))
 (.cond (.tmp 24)
  (.seq (.region [⟨(.prim .id), [.const (.sl .clip [])], (some 2), none⟩,
   ⟨(.prim .id), [.const (.bool false)], (some 3), none⟩] none)
  .ret)
  .skip))
 (.seq (.region [⟨(.prim .id), [.tmp 0], (some 25), none⟩,
  ⟨(.prim .id), [.tmp 4], (some 26), none⟩,
  ⟨(.prim (.slcSl none false true false)), [.tmp 25, .tmp 26], (some 27), none⟩,
  ⟨(.prim (.append none)), [.const (.sl .clip []), .tmp 27], (some 28), none⟩,
  ⟨(.prim .id), [.tmp 28], (some 2), none⟩,
  ⟨(.prim .id), [.const (.bool true)], (some 3), none⟩] none)
 .ret))))
theorem F182 : IsFun Try.prog 182 1 29 c182 [.tmp 2, .tmp 3] := ⟨by decide, Try.f182, _, [], Try.func182, rfl, by decide, rfl, by kernel_rfl, by kernel_rfl⟩

-- loop: 5:n, 10:, 11:, 12:
/-- (*cashbox/wire.reader).number -/
def c183 : ACode :=
 (.seq (.region [⟨(.prim .id), [.const (.int .i64 0)], (some 4), none⟩] none)
 (.seq (.region [⟨(.prim .id), [.const (.int .i64 0)], (some 5), none⟩] none)
 (.seq (.seq (.region [⟨(.prim .id), [.tmp 0], (some 8), none⟩,
  ⟨(.prim .id), [.tmp 1], (some 9), none⟩,
  ⟨(.call 200), [.tmp 8, .tmp 9], (some 10), none⟩,
  ⟨(.prim .len), [.tmp 10], (some 11), none⟩,
  ⟨(.prim .id), [.const (.int .i64 0)], (some 12), none⟩] none)
 (.block 0
  (.loop
   (.seq (.region [⟨(.prim (.bin .lss .none)), [.tmp 12, .tmp 11], (some 13), none⟩] none)
   (.seq (.cond (.tmp 13)
    .skip
    (.exit 0))
   (.seq (.block 1
    (.seq (.region [⟨(.prim .id), [.tmp 12], (some 14), none⟩,
     ⟨(.prim (.idxSl none)), [.tmp 10, .tmp 12], (some 15), none⟩,
     ⟨(.prim (.load none)), [.tmp 15], (some 16), none⟩,
     ⟨(.prim .id), [.tmp 14], (some 6), none⟩,
     ⟨(.prim .id), [.tmp 16], (some 7), none⟩] none)
    (.region [⟨(.prim .id), [.tmp 5], (some 17), none⟩,
     ⟨(.prim .id), [.tmp 7], (some 18), none⟩,
     ⟨(.prim (.conv .i64)), [.tmp 18], (some 19), none⟩,
     ⟨(.prim .id), [.tmp 6], (some 20), none⟩,
     ⟨(.prim (.bin .mul .none)), [.const (.int .i64 8), .tmp 20], (some 21), none⟩,
     ⟨(.prim (.bin .shl .none)), [.tmp 19, .tmp 21], (some 22), none⟩,
     ⟨(.prim (.bin .or .none)), [.tmp 17, .tmp 22], (some 23), none⟩,
     ⟨(.prim .id), [.tmp 23], (some 5), none⟩] none)))
   (.region [⟨(.prim (.bin .add .none)), [.tmp 12, .const (.int .i64 1)], (some 24), none⟩,
    ⟨(.prim .id), [.tmp 24], (some 12), none⟩] none)))))))
 (.seq (.region [⟨(.prim .id), [.tmp 5], (some 25), none⟩,
  ⟨(.prim .id), [.tmp 25], (some 4), none⟩] none)
 .ret))))
theorem F183 : IsFun Try.prog 183 2 26 c183 [.tmp 4] := ⟨by decide, Try.f183, _, [], Try.func183, rfl, by decide, rfl, by kernel_rfl, by kernel_rfl⟩

/-- cashbox/wire.all$1 -/
def c189 : ACode :=
 (.seq (.region [⟨(.prim (.boxR none)), [.tmp 0], (some 2), none⟩,
  ⟨(.prim (.boxR none)), [.tmp 1], (some 3), none⟩,
  ⟨(.prim (.alloc [.nilfn, .nilfn])), [], (some 4), none⟩] none)
 (.seq (.region [⟨(.prim (.mkfn (.func 190) 0)), [.tmp 2, .tmp 3], (some 5), none⟩,
  ⟨(.prim (.mkfn (.func 191) 0)), [.tmp 3, .tmp 2], (some 6), none⟩,
  ⟨(.prim (.build [.nilfn, .nilfn] [(0, 1), (1, 1)])), [.tmp 5, .tmp 6], (some 7), none⟩,
  ⟨(.prim (.store (some 2))), [.tmp 4, .tmp 7], none, none⟩] none)
 .ret))
theorem F189 : IsFun Try.prog 189 2 8 c189 [.cell 4 (some 2)] := ⟨by decide, Try.f189, _, [2, 3], Try.func189, rfl, by decide, rfl, by kernel_rfl, by kernel_rfl⟩

/-- cashbox/wire.all$1$1 -/
def c190 : ACode :=
 (.region [⟨(.prim .id), [.tmp 0], (some 6), none⟩,
  ⟨(.prim (.load none)), [.tmp 2], (some 7), none⟩,
  ⟨(.prim .id), [.tmp 1], (some 8), none⟩,
  ⟨.callV, [.tmp 7, .tmp 8], (some 9), none⟩,
  ⟨(.prim .nilc), [.tmp 9], (some 10), none⟩,
  ⟨(.prim (.load none)), [.tmp 10], (some 11), none⟩,
  ⟨(.prim (.load none)), [.tmp 3], (some 12), none⟩,
  ⟨(.call 137), [.tmp 6, .tmp 11, .tmp 12], (some 13), none⟩] (some [[], [], [], [1, 2], [3], [4], [], [0, 5, 6, 3]]))
theorem F190 : IsFun Try.prog 190 4 14 c190 [] := ⟨by decide, Try.f190, _, [], Try.func190, rfl, by decide, rfl, by kernel_rfl, by kernel_rfl⟩

/-- cashbox/wire.all$1$2 -/
def c191 : ACode :=
 (.region [⟨(.prim (.load none)), [.tmp 3], (some 6), none⟩,
  ⟨(.prim .id), [.tmp 1], (some 7), none⟩,
  ⟨.callV, [.tmp 6, .tmp 7], (some 8), none⟩,
  ⟨(.prim .id), [.tmp 0], (some 9), none⟩,
  ⟨(.prim (.load none)), [.tmp 2], (some 10), none⟩,
  ⟨(.call 183), [.tmp 9, .tmp 10], (some 11), none⟩,
  ⟨(.prim .nilc), [.tmp 8], (some 12), none⟩,
  ⟨(.prim (.store none)), [.tmp 12, .tmp 11], none, none⟩] (some [[], [], [0, 1], [], [], [3, 4, 2], [2, 0, 1, 2, 3, 4, 5], [6, 5, 5, 0, 1, 2, 3, 4, 5]]))
theorem F191 : IsFun Try.prog 191 4 13 c191 [] := ⟨by decide, Try.f191, _, [], Try.func191, rfl, by decide, rfl, by kernel_rfl, by kernel_rfl⟩

-- loop: 0:w, 21:, 22:
/-- cashbox/wire.all$2 -/
def c192 : ACode :=
 (.seq (.region [⟨(.prim .id), [.tmp 1], (some 6), none⟩,
  ⟨(.prim .nilc), [.tmp 6], (some 7), none⟩,
  ⟨(.prim (.fieldAddr 5 (some 3))), [.tmp 7], (some 8), none⟩,
  ⟨(.prim (.fieldAddr 0 none)), [.tmp 8], (some 9), none⟩,
  ⟨(.prim (.load none)), [.tmp 9], (some 10), none⟩,
  ⟨(.prim .id), [.tmp 1], (some 11), none⟩,
  ⟨(.prim .nilc), [.tmp 11], (some 12), none⟩,
  ⟨(.prim (.fieldAddr 5 (some 3))), [.tmp 12], (some 13), none⟩,
  ⟨(.prim (.fieldAddr 1 none)), [.tmp 13], (some 14), none⟩,
  ⟨(.prim (.load none)), [.tmp 14], (some 15), none⟩,
  ⟨(.prim .id), [.tmp 1], (some 16), none⟩,
  ⟨(.prim .nilc), [.tmp 16], (some 17), none⟩,
  ⟨(.prim (.fieldAddr 5 (some 3))), [.tmp 17], (some 18), none⟩,
  ⟨(.prim (.fieldAddr 2 none)), [.tmp 18], (some 19), none⟩,
  ⟨(.prim (.load none)), [.tmp 19], (some 20), none⟩,
  ⟨(.prim (.build [(.int .i64 0), (.int .i64 0), (.int .i64 0)] [(0, 1), (1, 1), (2, 1)])), [.tmp 10, .tmp 15, .tmp 20], (some 21), none⟩,
  ⟨(.prim .id), [.const (.int .i64 0)], (some 22), none⟩] (some [[], [0], [1], [2], [3], [], [5], [6], [7], [8], [], [10], [11], [12], [13], [4, 9, 14], []]))
 (.block 0
  (.loop
   (.seq (.region [⟨(.prim (.bin .lss .none)), [.tmp 22, .const (.int .i64 3)], (some 23), none⟩] none)
   (.seq (.cond (.tmp 23)
    .skip
    (.exit 0))
   (.seq (.block 1
    (.seq (.region [⟨(.prim (.idxArrV 3 none)), [.tmp 21, .tmp 22], (some 24), none⟩,
     ⟨(.prim .id), [.tmp 24], (some 5), none⟩] none)
    (.region [⟨(.prim .id), [.tmp 0], (some 25), none⟩,
     ⟨(.prim .id), [.tmp 5], (some 26), none⟩,
     ⟨(.call 137), [.tmp 25, .tmp 26, .const (.int .i64 3)], (some 27), none⟩] none)))
   (.region [⟨(.prim (.bin .add .none)), [.tmp 22, .const (.int .i64 1)], (some 28), none⟩,
    ⟨(.prim .id), [.tmp 28], (some 22), none⟩] none)))))))
theorem F192 : IsFun Try.prog 192 2 29 c192 [] := ⟨by decide, Try.f192, _, [], Try.func192, rfl, by decide, rfl, by kernel_rfl, by kernel_rfl⟩

-- loop: 0:g, 18:, 19:
/-- cashbox/wire.all$3 -/
def c193 : ACode :=
 (.seq (.region [⟨(.prim .id), [.tmp 1], (some 6), none⟩,
  ⟨(.prim .nilc), [.tmp 6], (some 7), none⟩,
  ⟨(.prim (.fieldAddr 5 (some 3))), [.tmp 7], (some 8), none⟩,
  ⟨(.prim (.fieldAddr 0 none)), [.tmp 8], (some 9), none⟩,
  ⟨(.prim .id), [.tmp 1], (some 10), none⟩,
  ⟨(.prim .nilc), [.tmp 10], (some 11), none⟩,
  ⟨(.prim (.fieldAddr 5 (some 3))), [.tmp 11], (some 12), none⟩,
  ⟨(.prim (.fieldAddr 1 none)), [.tmp 12], (some 13), none⟩,
  ⟨(.prim .id), [.tmp 1], (some 14), none⟩,
  ⟨(.prim .nilc), [.tmp 14], (some 15), none⟩,
  ⟨(.prim (.fieldAddr 5 (some 3))), [.tmp 15], (some 16), none⟩,
  ⟨(.prim (.fieldAddr 2 none)), [.tmp 16], (some 17), none⟩,
  ⟨(.prim (.build [.nilp, .nilp, .nilp] [(0, 1), (1, 1), (2, 1)])), [.tmp 9, .tmp 13, .tmp 17], (some 18), none⟩,
  ⟨(.prim .id), [.const (.int .i64 0)], (some 19), none⟩] (some [[], [0], [1], [2], [], [4], [5], [6], [], [8], [9], [10], [3, 7, 11], []]))
 (.block 0
  (.loop
   (.seq (.region [⟨(.prim (.bin .lss .none)), [.tmp 19, .const (.int .i64 3)], (some 20), none⟩] none)
   (.seq (.cond (.tmp 20)
    .skip
    (.exit 0))
   (.seq (.block 1
    (.seq (.region [⟨(.prim (.idxArrV 3 none)), [.tmp 18, .tmp 19], (some 21), none⟩,
     ⟨(.prim .id), [.tmp 21], (some 5), none⟩] none)
    (.region [⟨(.prim .id), [.tmp 5], (some 22), none⟩,
     ⟨(.prim .id), [.tmp 0], (some 23), none⟩,
     ⟨(.call 183), [.tmp 23, .const (.int .i64 3)], (some 24), none⟩,
     ⟨(.prim .nilc), [.tmp 22], (some 25), none⟩,
     ⟨(.prim (.store none)), [.tmp 25, .tmp 24], none, none⟩] none)))
   (.region [⟨(.prim (.bin .add .none)), [.tmp 19, .const (.int .i64 1)], (some 26), none⟩,
    ⟨(.prim .id), [.tmp 26], (some 19), none⟩] none)))))))
theorem F193 : IsFun Try.prog 193 2 27 c193 [] := ⟨by decide, Try.f193, _, [], Try.func193, rfl, by decide, rfl, by kernel_rfl, by kernel_rfl⟩

/-- cashbox/wire.all$4 -/
def c194 : ACode :=
 (.seq (.region [⟨(.prim .id), [.const .nilp], (some 2), none⟩] none)
 (.seq (.region [⟨(.prim .id), [.tmp 0], (some 3), none⟩,
  ⟨(.prim .nilc), [.tmp 3], (some 4), none⟩,
  ⟨(.prim (.fieldAddr 8 none)), [.tmp 4], (some 5), none⟩,
  ⟨(.prim .id), [.tmp 5], (some 2), none⟩] none)
 .ret))
theorem F194 : IsFun Try.prog 194 1 6 c194 [.tmp 2] := ⟨by decide, Try.f194, _, [], Try.func194, rfl, by decide, rfl, by kernel_rfl, by kernel_rfl⟩

/-- cashbox/wire.all$5 -/
def c195 : ACode :=
 (.seq (.region [⟨(.prim .id), [.const .nilp], (some 2), none⟩] none)
 (.seq (.region [⟨(.prim .id), [.tmp 0], (some 3), none⟩,
  ⟨(.prim .nilc), [.tmp 3], (some 4), none⟩,
  ⟨(.prim (.fieldAddr 10 none)), [.tmp 4], (some 5), none⟩,
  ⟨(.prim .id), [.tmp 5], (some 2), none⟩] none)
 .ret))
theorem F195 : IsFun Try.prog 195 1 6 c195 [.tmp 2] := ⟨by decide, Try.f195, _, [], Try.func195, rfl, by decide, rfl, by kernel_rfl, by kernel_rfl⟩

/-- cashbox/wire.all$6 -/
def c196 : ACode :=
 (.region [⟨(.prim .id), [.tmp 0], (some 4), none⟩,
  ⟨(.prim .id), [.tmp 1], (some 5), none⟩,
  ⟨(.prim .nilc), [.tmp 5], (some 6), none⟩,
  ⟨(.prim (.fieldAddr 9 none)), [.tmp 6], (some 7), none⟩,
  ⟨(.prim (.load none)), [.tmp 7], (some 8), none⟩,
  ⟨(.prim (.conv .i64)), [.tmp 8], (some 9), none⟩,
  ⟨(.call 137), [.tmp 4, .tmp 9, .const (.int .i64 1)], (some 10), none⟩] none)
theorem F196 : IsFun Try.prog 196 2 11 c196 [] := ⟨by decide, Try.f196, _, [], Try.func196, rfl, by decide, rfl, by kernel_rfl, by kernel_rfl⟩

/-- cashbox/wire.all$7 -/
def c197 : ACode :=
 (.seq (.region [⟨(.prim .id), [.tmp 0], (some 5), none⟩,
  ⟨(.call 183), [.tmp 5, .const (.int .i64 1)], (some 6), none⟩,
  ⟨(.prim .id), [.tmp 6], (some 4), none⟩] none)
 (.seq (.region [⟨(.prim .id), [.tmp 0], (some 7), none⟩,
  ⟨(.prim .id), [.tmp 0], (some 8), none⟩,
  ⟨(.prim .nilc), [.tmp 8], (some 9), none⟩,
  ⟨(.prim (.fieldAddr 1 none)), [.tmp 9], (some 10), none⟩,
  ⟨(.prim (.load none)), [.tmp 10], (some 11), none⟩,
  ⟨(.prim .id), [.tmp 11], (some 12), none⟩,
  ⟨(.prim .id), [.tmp 4], (some 13), (some (12, false))⟩,
  ⟨(.prim (.bin .gtr .none)), [.tmp 13, .const (.int .i64 127)], (some 14), (some (12, false))⟩,
  ⟨(.prim .pick), [.tmp 12, .const (.bool true), .tmp 14], (some 15), none⟩,
  ⟨(.prim .nilc), [.tmp 7], (some 16), none⟩,
  ⟨(.prim (.fieldAddr 1 none)), [.tmp 16], (some 17), none⟩,
  ⟨(.prim (.store none)), [.tmp 17, .tmp 15], none, none⟩] none)
 (.region [⟨(.prim .id), [.tmp 1], (some 18), none⟩,
  ⟨(.prim .id), [.tmp 4], (some 19), none⟩,
  ⟨(.prim (.bin .and .none)), [.tmp 19, .const (.int .i64 127)], (some 20), none⟩,
  ⟨(.prim (.conv .i8)), [.tmp 20], (some 21), none⟩,
  ⟨(.prim .nilc), [.tmp 18], (some 22), none⟩,
  ⟨(.prim (.fieldAddr 9 none)), [.tmp 22], (some 23), none⟩,
  ⟨(.prim (.store none)), [.tmp 23, .tmp 21], none, none⟩] none)))
theorem F197 : IsFun Try.prog 197 2 24 c197 [] := ⟨by decide, Try.f197, _, [], Try.func197, rfl, by decide, rfl, by kernel_rfl, by kernel_rfl⟩

/-- cashbox/wire.all$8 -/
def c198 : ACode :=
 (.region [⟨(.prim .id), [.tmp 0], (some 4), none⟩,
  ⟨(.prim .id), [.tmp 0], (some 5), none⟩,
  ⟨(.prim .nilc), [.tmp 5], (some 6), none⟩,
  ⟨(.prim (.load none)), [.tmp 6], (some 7), none⟩,
  ⟨(.prim .id), [.tmp 1], (some 8), none⟩,
  ⟨(.prim .nilc), [.tmp 8], (some 9), none⟩,
  ⟨(.prim (.fieldAddr 11 (some 8))), [.tmp 9], (some 10), none⟩,
  ⟨(.prim (.slcArr 8 none false false)), [.tmp 10], (some 11), none⟩,
  ⟨(.prim (.append none)), [.tmp 7, .tmp 11], (some 12), none⟩,
  ⟨(.prim .nilc), [.tmp 4], (some 13), none⟩,
  ⟨(.prim (.store none)), [.tmp 13, .tmp 12], none, none⟩] (some [[], [], [1], [2], [], [4], [5], [6], [3, 7], [0, 0, 1, 2, 3, 4, 5, 6, 7, 8], [9, 8, 8, 0, 1, 2, 3, 4, 5, 6, 7, 8]]))
theorem F198 : IsFun Try.prog 198 2 14 c198 [] := ⟨by decide, Try.f198, _, [], Try.func198, rfl, by decide, rfl, by kernel_rfl, by kernel_rfl⟩

/-- cashbox/wire.all$9 -/
def c199 : ACode :=
 (.region [⟨(.prim .id), [.tmp 1], (some 4), none⟩,
  ⟨(.prim .nilc), [.tmp 4], (some 5), none⟩,
  ⟨(.prim (.fieldAddr 11 (some 8))), [.tmp 5], (some 6), none⟩,
  ⟨(.prim (.slcArr 8 none false false)), [.tmp 6], (some 7), none⟩,
  ⟨(.prim .id), [.tmp 0], (some 8), none⟩,
  ⟨(.call 200), [.tmp 8, .const (.int .i64 8)], (some 9), none⟩,
  ⟨(.prim (.copy none)), [.tmp 7, .tmp 9], (some 10), none⟩] (some [[], [0], [1], [2], [], [4], [3, 5, 5]]))
theorem F199 : IsFun Try.prog 199 2 11 c199 [] := ⟨by decide, Try.f199, _, [], Try.func199, rfl, by decide, rfl, by kernel_rfl, by kernel_rfl⟩

/-- (*cashbox/wire.reader).take -/
def c200 : ACode :=
 (.seq (.region [⟨(.prim .id), [.const (.sl .clip [])], (some 4), none⟩] none)
 (.seq (.region [⟨(.prim .id), [.tmp 0], (some 9), none⟩,
  ⟨(.prim .nilc), [.tmp 9], (some 10), none⟩,
  ⟨(.prim (.fieldAddr 0 none)), [.tmp 10], (some 11), none⟩,
  ⟨(.prim (.load none)), [.tmp 11], (some 12), none⟩,
  ⟨(.prim .id), [.tmp 1], (some 13), none⟩,
  ⟨(.call 214), [.tmp 12, .tmp 13], (some 14), none⟩,
  ⟨(.prim .id), [.tmp 14], (some 8), none⟩,
  ⟨(.prim (.extract 0)), [.tmp 8], (some 15), none⟩,
  ⟨(.prim (.extract 1)), [.tmp 8], (some 16), none⟩,
  ⟨(.prim (.extract 2)), [.tmp 8], (some 17), none⟩,
  ⟨(.prim .id), [.tmp 15], (some 5), none⟩,
  ⟨(.prim .id), [.tmp 16], (some 6), none⟩,
  ⟨(.prim .id), [.tmp 17], (some 7), none⟩] none)
 (.seq (.region [⟨(.prim .id), [.tmp 0], (some 18), none⟩,
  ⟨(.prim .id), [.tmp 0], (some 19), none⟩,
  ⟨(.prim .id), [.tmp 6], (some 20), none⟩,
  ⟨(.prim .id), [.tmp 0], (some 21), none⟩,
  ⟨(.prim .nilc), [.tmp 21], (some 22), none⟩,
  ⟨(.prim (.fieldAddr 1 none)), [.tmp 22], (some 23), none⟩,
  ⟨(.prim (.load none)), [.tmp 23], (some 24), none⟩,
  ⟨(.prim .id), [.tmp 24], (some 25), none⟩,
  ⟨(.prim .id), [.tmp 7], (some 26), (some (25, false))⟩,
  ⟨(.prim (.un .not)), [.tmp 26], (some 27), (some (25, false))⟩,
  ⟨(.prim .pick), [.tmp 25, .const (.bool true), .tmp 27], (some 28), none⟩,
  ⟨(.prim .nilc), [.tmp 18], (some 29), none⟩,
  ⟨(.prim (.fieldAddr 0 none)), [.tmp 29], (some 30), none⟩,
  ⟨(.prim (.store none)), [.tmp 30, .tmp 20], none, none⟩,
  ⟨(.prim .nilc), [.tmp 19], (some 31), none⟩,
  ⟨(.prim (.fieldAddr 1 none)), [.tmp 31], (some 32), none⟩,
  ⟨(.prim (.store none)), [.tmp 32, .tmp 28], none, none⟩] none)
 (.seq (.region [⟨(.prim .id), [.tmp 5], (some 33), none⟩,
  ⟨(.prim .id), [.tmp 33], (some 4), none⟩] none)
 .ret))))
theorem F200 : IsFun Try.prog 200 2 34 c200 [.tmp 4] := ⟨by decide, Try.f200, _, [], Try.func200, rfl, by decide, rfl, by kernel_rfl, by kernel_rfl⟩

/-- cashbox/wire.all$10 -/
def c201 : ACode :=
 (.region [⟨(.prim .id), [.tmp 0], (some 4), none⟩,
  ⟨(.prim .id), [.tmp 1], (some 5), none⟩,
  ⟨(.prim .nilc), [.tmp 5], (some 6), none⟩,
  ⟨(.prim (.fieldAddr 19 none)), [.tmp 6], (some 7), none⟩,
  ⟨(.prim (.load none)), [.tmp 7], (some 8), none⟩,
  ⟨(.call 137), [.tmp 4, .tmp 8, .const (.int .i64 2)], (some 9), none⟩] none)
theorem F201 : IsFun Try.prog 201 2 10 c201 [] := ⟨by decide, Try.f201, _, [], Try.func201, rfl, by decide, rfl, by kernel_rfl, by kernel_rfl⟩

/-- cashbox/wire.all$11 -/
def c202 : ACode :=
 (.region [⟨(.prim .id), [.tmp 1], (some 4), none⟩,
  ⟨(.prim .id), [.tmp 0], (some 5), none⟩,
  ⟨(.call 183), [.tmp 5, .const (.int .i64 2)], (some 6), none⟩,
  ⟨(.prim .nilc), [.tmp 4], (some 7), none⟩,
  ⟨(.prim (.fieldAddr 19 none)), [.tmp 7], (some 8), none⟩,
  ⟨(.prim (.store none)), [.tmp 8, .tmp 6], none, none⟩] none)
theorem F202 : IsFun Try.prog 202 2 9 c202 [] := ⟨by decide, Try.f202, _, [], Try.func202, rfl, by decide, rfl, by kernel_rfl, by kernel_rfl⟩

/-- cashbox/wire.all$12 -/
def c203 : ACode :=
 (.seq (.region [⟨(.prim .id), [.tmp 1], (some 4), none⟩,
  ⟨(.prim .nilc), [.tmp 4], (some 5), none⟩,
  ⟨(.prim (.fieldAddr 20 none)), [.tmp 5], (some 6), none⟩,
  ⟨(.prim (.load none)), [.tmp 6], (some 7), none⟩] none)
 (.cond (.tmp 7)
  (.region [⟨(.prim .id), [.tmp 0], (some 8), none⟩,
   ⟨(.call 137), [.tmp 8, .const (.int .i64 1), .const (.int .i64 1)], (some 9), none⟩] none)
  (.region [⟨(.prim .id), [.tmp 0], (some 10), none⟩,
   ⟨(.call 137), [.tmp 10, .const (.int .i64 0), .const (.int .i64 1)], (some 11), none⟩] none)))
theorem F203 : IsFun Try.prog 203 2 12 c203 [] := ⟨by decide, Try.f203, _, [], Try.func203, rfl, by decide, rfl, by kernel_rfl, by kernel_rfl⟩

/-- cashbox/wire.all$13 -/
def c204 : ACode :=
 (.seq (.region [⟨(.prim .id), [.tmp 0], (some 5), none⟩,
  ⟨(.call 183), [.tmp 5, .const (.int .i64 1)], (some 6), none⟩,
  ⟨(.prim .id), [.tmp 6], (some 4), none⟩] none)
 (.seq (.region [⟨(.prim .id), [.tmp 0], (some 7), none⟩,
  ⟨(.prim .id), [.tmp 0], (some 8), none⟩,
  ⟨(.prim .nilc), [.tmp 8], (some 9), none⟩,
  ⟨(.prim (.fieldAddr 1 none)), [.tmp 9], (some 10), none⟩,
  ⟨(.prim (.load none)), [.tmp 10], (some 11), none⟩,
  ⟨(.prim .id), [.tmp 11], (some 12), none⟩,
  ⟨(.prim .id), [.tmp 4], (some 13), (some (12, false))⟩,
  ⟨(.prim (.bin .gtr .none)), [.tmp 13, .const (.int .i64 1)], (some 14), (some (12, false))⟩,
  ⟨(.prim .pick), [.tmp 12, .const (.bool true), .tmp 14], (some 15), none⟩,
  ⟨(.prim .nilc), [.tmp 7], (some 16), none⟩,
  ⟨(.prim (.fieldAddr 1 none)), [.tmp 16], (some 17), none⟩,
  ⟨(.prim (.store none)), [.tmp 17, .tmp 15], none, none⟩] none)
 (.region [⟨(.prim .id), [.tmp 1], (some 18), none⟩,
  ⟨(.prim .id), [.tmp 4], (some 19), none⟩,
  ⟨(.prim (.bin .eql .none)), [.tmp 19, .const (.int .i64 1)], (some 20), none⟩,
  ⟨(.prim .nilc), [.tmp 18], (some 21), none⟩,
  ⟨(.prim (.fieldAddr 20 none)), [.tmp 21], (some 22), none⟩,
  ⟨(.prim (.store none)), [.tmp 22, .tmp 20], none, none⟩] none)))
theorem F204 : IsFun Try.prog 204 2 23 c204 [] := ⟨by decide, Try.f204, _, [], Try.func204, rfl, by decide, rfl, by kernel_rfl, by kernel_rfl⟩

/-- cashbox/wire.all$14 -/
def c205 : ACode :=
 (.seq (.region [⟨(.prim .id), [.const .nilp], (some 2), none⟩] none)
 (.seq (.region [⟨(.prim .id), [.tmp 0], (some 3), none⟩,
  ⟨(.prim .nilc), [.tmp 3], (some 4), none⟩,
  ⟨(.prim (.fieldAddr 21 none)), [.tmp 4], (some 5), none⟩,
  ⟨(.prim .id), [.tmp 5], (some 2), none⟩] none)
 .ret))
theorem F205 : IsFun Try.prog 205 1 6 c205 [.tmp 2] := ⟨by decide, Try.f205, _, [], Try.func205, rfl, by decide, rfl, by kernel_rfl, by kernel_rfl⟩

/-- cashbox/wire.all$15 -/
def c206 : ACode :=
 (.seq (.region [⟨(.prim .id), [.const .nilp], (some 2), none⟩] none)
 (.seq (.region [⟨(.prim .id), [.tmp 0], (some 3), none⟩,
  ⟨(.prim .nilc), [.tmp 3], (some 4), none⟩,
  ⟨(.prim (.fieldAddr 22 none)), [.tmp 4], (some 5), none⟩,
  ⟨(.prim .id), [.tmp 5], (some 2), none⟩] none)
 .ret))
theorem F206 : IsFun Try.prog 206 1 6 c206 [.tmp 2] := ⟨by decide, Try.f206, _, [], Try.func206, rfl, by decide, rfl, by kernel_rfl, by kernel_rfl⟩

-- loop: 0:w, 16:, 17:, 18:
/-- cashbox/wire.all$16 -/
def c207 : ACode :=
 (.seq (.region [⟨(.prim .id), [.tmp 0], (some 6), none⟩,
  ⟨(.prim .id), [.tmp 1], (some 7), none⟩,
  ⟨(.prim .nilc), [.tmp 7], (some 8), none⟩,
  ⟨(.prim (.fieldAddr 23 none)), [.tmp 8], (some 9), none⟩,
  ⟨(.prim (.load none)), [.tmp 9], (some 10), none⟩,
  ⟨(.prim .len), [.tmp 10], (some 11), none⟩,
  ⟨(.call 137), [.tmp 6, .tmp 11, .const (.int .i64 1)], (some 12), none⟩] none)
 (.seq (.region [⟨(.prim .id), [.tmp 1], (some 13), none⟩,
  ⟨(.prim .nilc), [.tmp 13], (some 14), none⟩,
  ⟨(.prim (.fieldAddr 23 none)), [.tmp 14], (some 15), none⟩,
  ⟨(.prim (.load none)), [.tmp 15], (some 16), none⟩,
  ⟨(.prim .len), [.tmp 16], (some 17), none⟩,
  ⟨(.prim .id), [.const (.int .i64 0)], (some 18), none⟩] none)
 (.block 0
  (.loop
   (.seq (.region [⟨(.prim (.bin .lss .none)), [.tmp 18, .tmp 17], (some 19), none⟩] none)
   (.seq (.cond (.tmp 19)
    .skip
    (.exit 0))
   (.seq (.block 1
    (.seq (.region [⟨(.prim (.idxSl (some 9))), [.tmp 16, .tmp 18], (some 20), none⟩,
     ⟨(.prim (.load (some 9))), [.tmp 20], (some 21), none⟩,
     ⟨(.prim (.alloc [(.int .i64 0), (.int .u8 0), (.int .u8 0), (.int .u8 0), (.int .u8 0), (.int .u8 0), (.int .u8 0), (.int .u8 0), (.int .u8 0)])), [], (some 5), none⟩,
     ⟨(.prim (.store (some 9))), [.tmp 5, .tmp 21], none, none⟩] none)
    (.seq (.region [⟨(.prim .id), [.tmp 0], (some 22), none⟩,
     ⟨(.prim (.fieldAddr 0 none)), [.tmp 5], (some 23), none⟩,
     ⟨(.prim (.load none)), [.tmp 23], (some 24), none⟩,
     ⟨(.call 137), [.tmp 22, .tmp 24, .const (.int .i64 1)], (some 25), none⟩] none)
    (.region [⟨(.prim .id), [.tmp 0], (some 26), none⟩,
     ⟨(.prim .id), [.tmp 0], (some 27), none⟩,
     ⟨(.prim .nilc), [.tmp 27], (some 28), none⟩,
     ⟨(.prim (.load none)), [.tmp 28], (some 29), none⟩,
     ⟨(.prim (.fieldAddr 1 (some 8))), [.tmp 5], (some 30), none⟩,
     ⟨(.prim (.slcArr 8 none false false)), [.tmp 30], (some 31), none⟩,
     ⟨(.prim (.append none)), [.tmp 29, .tmp 31], (some 32), none⟩,
     ⟨(.prim .nilc), [.tmp 26], (some 33), none⟩,
     ⟨(.prim (.store none)), [.tmp 33, .tmp 32], none, none⟩] (some [[], [], [1], [2], [], [4], [3, 5], [0, 0, 1, 2, 3, 4, 5, 6], [7, 6, 6, 0, 1, 2, 3, 4, 5, 6]])))))
   (.region [⟨(.prim (.bin .add .none)), [.tmp 18, .const (.int .i64 1)], (some 34), none⟩,
    ⟨(.prim .id), [.tmp 34], (some 18), none⟩] none))))))))
theorem F207 : IsFun Try.prog 207 2 35 c207 [] := ⟨by decide, Try.f207, _, [], Try.func207, rfl, by decide, rfl, by kernel_rfl, by kernel_rfl⟩

-- loop: 0:g, 1:m, 4:i
/-- cashbox/wire.all$17 -/
def c208 : ACode :=
 (.seq (.region [⟨(.prim .id), [.tmp 0], (some 6), none⟩,
  ⟨(.call 183), [.tmp 6, .const (.int .i64 1)], (some 7), none⟩,
  ⟨(.prim .id), [.tmp 7], (some 4), none⟩] none)
 (.block 0
  (.loop
   (.seq (.seq (.region [⟨(.prim .id), [.tmp 4], (some 8), none⟩,
    ⟨(.prim (.bin .gtr .none)), [.tmp 8, .const (.int .i64 0)], (some 9), none⟩,
    ⟨(.prim .id), [.tmp 9], (some 10), none⟩,
    ⟨(.prim .id), [.tmp 0], (some 11), (some (10, true))⟩,
    ⟨(.prim .nilc), [.tmp 11], (some 12), (some (10, true))⟩,
    ⟨(.prim (.fieldAddr 1 none)), [.tmp 12], (some 13), (some (10, true))⟩,
    ⟨(.prim (.load none)), [.tmp 13], (some 14), (some (10, true))⟩,
    ⟨(.prim (.un .not)), [.tmp 14], (some 15), (some (10, true))⟩,
    ⟨(.prim .pick), [.tmp 10, .tmp 15, .const (.bool false)], (some 16), none⟩] none)
   (.cond (.tmp 16)
    .skip
    (.exit 0)))
   (.seq (.block 1
    (.seq (.region [⟨(.prim .id), [.tmp 0], (some 19), none⟩,
     ⟨(.call 183), [.tmp 19, .const (.int .i64 1)], (some 20), none⟩,
     ⟨(.prim (.build [(.int .i64 0), (.int .u8 0), (.int .u8 0), (.int .u8 0), (.int .u8 0), (.int .u8 0), (.int .u8 0), (.int .u8 0), (.int .u8 0)] [(0, 1)])), [.tmp 20], (some 21), none⟩,
     ⟨(.prim (.alloc [(.int .i64 0), (.int .u8 0), (.int .u8 0), (.int .u8 0), (.int .u8 0), (.int .u8 0), (.int .u8 0), (.int .u8 0), (.int .u8 0)])), [], (some 5), none⟩,
     ⟨(.prim (.store (some 9))), [.tmp 5, .tmp 21], none, none⟩] none)
    (.seq (.region [⟨(.prim (.fieldAddr 1 (some 8))), [.tmp 5], (some 22), none⟩,
     ⟨(.prim (.slcArr 8 none false false)), [.tmp 22], (some 23), none⟩,
     ⟨(.prim .id), [.tmp 0], (some 24), none⟩,
     ⟨(.call 200), [.tmp 24, .const (.int .i64 8)], (some 25), none⟩,
     ⟨(.prim (.copy none)), [.tmp 23, .tmp 25], (some 26), none⟩] (some [[], [0], [], [2], [1, 3, 3]]))
    (.region [⟨(.prim .id), [.tmp 1], (some 27), none⟩,
     ⟨(.prim .id), [.tmp 1], (some 28), none⟩,
     ⟨(.prim .nilc), [.tmp 28], (some 29), none⟩,
     ⟨(.prim (.fieldAddr 23 none)), [.tmp 29], (some 30), none⟩,
     ⟨(.prim (.load none)), [.tmp 30], (some 31), none⟩,
     ⟨(.prim (.load (some 9))), [.tmp 5], (some 32), none⟩,
     ⟨(.prim (.buildSl (some 9))), [.tmp 32], (some 33), none⟩,
     ⟨(.prim (.append (some 9))), [.tmp 31, .tmp 33], (some 34), none⟩,
     ⟨(.prim .nilc), [.tmp 27], (some 35), none⟩,
     ⟨(.prim (.fieldAddr 23 none)), [.tmp 35], (some 36), none⟩,
     ⟨(.prim (.store none)), [.tmp 36, .tmp 34], none, none⟩] (some [[], [], [1], [2], [3], [], [5], [4, 6], [0, 0, 1, 2, 3, 4, 5, 6, 7], [8, 0, 1, 2, 3, 4, 5, 6, 7], [9, 7, 7, 0, 1, 2, 3, 4, 5, 6, 7]])))))
   (.region [⟨(.prim .id), [.tmp 4], (some 17), none⟩,
    ⟨(.prim (.bin .sub .none)), [.tmp 17, .const (.int .i64 1)], (some 18), none⟩,
    ⟨(.prim .id), [.tmp 18], (some 4), none⟩] none))))))
theorem F208 : IsFun Try.prog 208 2 37 c208 [] := ⟨by decide, Try.f208, _, [], Try.func208, rfl, by decide, rfl, by kernel_rfl, by kernel_rfl⟩

-- loop: 0:s, 1:v, 7:, 8:
/-- slices.Index[[]cashbox/api.Errno,cashbox/api.Errno] -/
def c209 : ACode :=
 (.seq (.region [⟨(.prim .id), [.const (.int .i64 0)], (some 4), none⟩] none)
 (.seq (.seq (.region [⟨(.prim .id), [.tmp 0], (some 6), none⟩,
  ⟨(.prim .len), [.tmp 6], (some 7), none⟩,
  ⟨(.prim .id), [.const (.int .i64 0)], (some 8), none⟩] none)
 (.block 0
  (.loop
   (.seq (.region [⟨(.prim (.bin .lss .none)), [.tmp 8, .tmp 7], (some 9), none⟩] none)
   (.seq (.cond (.tmp 9)
    .skip
    (.exit 0))
   (.seq (.block 1
    (.seq (.region [⟨(.prim .id), [.tmp 8], (some 10), none⟩,
     ⟨(.prim .id), [.tmp 10], (some 5), none⟩] none)
    (.seq (.region [⟨(.prim .id), [.tmp 1], (some 11), none⟩,
     ⟨(.prim .id), [.tmp 0], (some 12), none⟩,
     ⟨(.prim .id), [.tmp 5], (some 13), none⟩,
     ⟨(.prim (.idxSl none)), [.tmp 12, .tmp 13], (some 14), none⟩,
     ⟨(.prim (.load none)), [.tmp 14], (some 15), none⟩,
     ⟨(.prim (.bin .eql .none)), [.tmp 11, .tmp 15], (some 16), none⟩] none)
    (.cond (.tmp 16)
     (.seq (.region [⟨(.prim .id), [.tmp 5], (some 17), none⟩,
      ⟨(.prim .id), [.tmp 17], (some 4), none⟩] none)
     .ret)
     .skip))))
   (.region [⟨(.prim (.bin .add .none)), [.tmp 8, .const (.int .i64 1)], (some 18), none⟩,
    ⟨(.prim .id), [.tmp 18], (some 8), none⟩] none)))))))
 (.seq (.region [⟨(.prim .id), [.const (.int .i64 (-1))], (some 4), none⟩] none)
 .ret)))
theorem F209 : IsFun Try.prog 209 2 19 c209 [.tmp 4] := ⟨by decide, Try.f209, _, [], Try.func209, rfl, by decide, rfl, by kernel_rfl, by kernel_rfl⟩

/-- cashbox/sums.Join -/
def c211 : ACode :=
 (.seq (.region [⟨(.prim .id), [.const (.int .u32 0)], (some 4), none⟩] none)
 (.seq (.region [⟨(.prim .id), [.tmp 0], (some 5), none⟩,
  ⟨(.prim (.un .xor)), [.tmp 5], (some 6), none⟩,
  ⟨(.prim .id), [.tmp 1], (some 7), none⟩,
  ⟨(.call 215), [.tmp 6, .tmp 7], (some 8), none⟩,
  ⟨(.prim (.un .xor)), [.tmp 8], (some 9), none⟩,
  ⟨(.prim .id), [.tmp 9], (some 4), none⟩] none)
 .ret))
theorem F211 : IsFun Try.prog 211 2 10 c211 [.tmp 4] := ⟨by decide, Try.f211, _, [], Try.func211, rfl, by decide, rfl, by kernel_rfl, by kernel_rfl⟩

-- loop: 1:b, 5:r, 6:i
/-- cashbox/cashboxref01.Join -/
def c212 : ACode :=
 (.seq (.region [⟨(.prim .id), [.const (.int .u32 0)], (some 4), none⟩] none)
 (.seq (.region [⟨(.prim .id), [.tmp 0], (some 7), none⟩,
  ⟨(.prim (.un .xor)), [.tmp 7], (some 8), none⟩,
  ⟨(.prim .id), [.tmp 8], (some 5), none⟩] none)
 (.seq (.seq (.region [⟨(.prim .id), [.const (.int .i64 0)], (some 6), none⟩] none)
 (.block 0
  (.loop
   (.seq (.seq (.region [⟨(.prim .id), [.tmp 6], (some 9), none⟩,
    ⟨(.prim .id), [.tmp 1], (some 10), none⟩,
    ⟨(.prim .len), [.tmp 10], (some 11), none⟩,
    ⟨(.prim (.bin .lss .none)), [.tmp 9, .tmp 11], (some 12), none⟩] none)
   (.cond (.tmp 12)
    .skip
    (.exit 0)))
   (.seq (.block 1
    (.region [⟨(.prim .id), [.tmp 5], (some 15), none⟩,
     ⟨(.prim .id), [.tmp 1], (some 16), none⟩,
     ⟨(.prim .id), [.tmp 6], (some 17), none⟩,
     ⟨(.prim (.idxSl none)), [.tmp 16, .tmp 17], (some 18), none⟩,
     ⟨(.prim (.load none)), [.tmp 18], (some 19), none⟩,
     ⟨(.call 216), [.tmp 15, .tmp 19], (some 20), none⟩,
     ⟨(.prim .id), [.tmp 20], (some 5), none⟩] none))
   (.region [⟨(.prim .id), [.tmp 6], (some 13), none⟩,
    ⟨(.prim (.bin .add .none)), [.tmp 13, .const (.int .i64 1)], (some 14), none⟩,
    ⟨(.prim .id), [.tmp 14], (some 6), none⟩] none))))))
 (.seq (.region [⟨(.prim .id), [.tmp 5], (some 21), none⟩,
  ⟨(.prim (.un .xor)), [.tmp 21], (some 22), none⟩,
  ⟨(.prim .id), [.tmp 22], (some 4), none⟩] none)
 .ret))))
theorem F212 : IsFun Try.prog 212 2 23 c212 [.tmp 4] := ⟨by decide, Try.f212, _, [], Try.func212, rfl, by decide, rfl, by kernel_rfl, by kernel_rfl⟩

/-- cashbox/wire.first[byte] -/
def c214 : ACode :=
 (.seq (.region [⟨(.prim .id), [.const (.sl .clip [])], (some 4), none⟩,
  ⟨(.prim .id), [.const (.sl .clip [])], (some 5), none⟩,
  ⟨(.prim .id), [.const (.bool false)], (some 6), none⟩] none)
 (.seq (.seq (.region [⟨(.prim .id), [.tmp 0], (some 7), none⟩,
  ⟨(.prim .len), [.tmp 7], (some 8), none⟩,
  ⟨(.prim .id), [.tmp 1], (some 9), none⟩,
  ⟨(.prim (.bin .lss .none)), [.tmp 8, .tmp 9], (some 10), none⟩] none)
 (.cond (.tmp 10)
  (.seq (.region [⟨(.prim .id), [.tmp 1], (some 11), none⟩,
   ⟨(.prim (.mkslice none [(.int .u8 0)])), [.tmp 11, .tmp 11], (some 12), none⟩,
   ⟨(.prim .id), [.tmp 12], (some 4), none⟩,
   ⟨(.prim .id), [.const (.sl .clip [])], (some 5), none⟩,
   ⟨(.prim .id), [.const (.bool false)], (some 6), none⟩] none)
  .ret)
  .skip))
 (.seq (.region [⟨(.prim .id), [.tmp 0], (some 13), none⟩,
  ⟨(.prim .id), [.tmp 1], (some 14), none⟩,
  ⟨(.prim (.slcSl none false true false)), [.tmp 13, .tmp 14], (some 15), none⟩,
  ⟨(.prim .id), [.tmp 0], (some 16), none⟩,
  ⟨(.prim .id), [.tmp 1], (some 17), none⟩,
  ⟨(.prim (.slcSl none true false false)), [.tmp 16, .tmp 17], (some 18), none⟩,
  ⟨(.prim .id), [.tmp 15], (some 4), none⟩,
  ⟨(.prim .id), [.tmp 18], (some 5), none⟩,
  ⟨(.prim .id), [.const (.bool true)], (some 6), none⟩] (some [[], [], [0, 1], [], [], [3, 4], [2, 0, 1, 2], [5, 6, 0, 1, 2, 3, 4, 5, 6], [7, 0, 1, 2, 3, 4, 5, 6, 7]]))
 .ret)))
theorem F214 : IsFun Try.prog 214 2 19 c214 [.tmp 4, .tmp 5, .tmp 6] := ⟨by decide, Try.f214, _, [], Try.func214, rfl, by decide, rfl, by kernel_rfl, by kernel_rfl⟩

-- loop: 0:r, 1:b, 5:t, 9:, 10:
/-- cashbox/sums.through[[]byte] -/
def c215 : ACode :=
 (.seq (.region [⟨(.prim .id), [.const (.int .u32 0)], (some 4), none⟩] none)
 (.seq (.region [⟨(.call 217), [], (some 7), none⟩,
  ⟨(.prim (.alloc [(.int .u32 0), (.int .u32 0), (.int .u32 0), (.int .u32 0), (.int .u32 0), (.int .u32 0), (.int .u32 0), (.int .u32 0), (.int .u32 0), (.int .u32 0), (.int .u32 0), (.int .u32 0), (.int .u32 0), (.int .u32 0), (.int .u32 0), (.int .u32 0)])), [], (some 5), none⟩,
  ⟨(.prim (.store (some 16))), [.tmp 5, .tmp 7], none, none⟩] none)
 (.seq (.seq (.region [⟨(.prim .id), [.tmp 1], (some 8), none⟩,
  ⟨(.prim .len), [.tmp 8], (some 9), none⟩,
  ⟨(.prim .id), [.const (.int .i64 0)], (some 10), none⟩] none)
 (.block 0
  (.loop
   (.seq (.region [⟨(.prim (.bin .lss .none)), [.tmp 10, .tmp 9], (some 11), none⟩] none)
   (.seq (.cond (.tmp 11)
    .skip
    (.exit 0))
   (.seq (.block 1
    (.seq (.region [⟨(.prim .id), [.tmp 10], (some 12), none⟩,
     ⟨(.prim .id), [.tmp 12], (some 6), none⟩] none)
    (.seq (.region [⟨(.prim .id), [.tmp 0], (some 13), none⟩,
     ⟨(.prim .id), [.tmp 1], (some 14), none⟩,
     ⟨(.prim .id), [.tmp 6], (some 15), none⟩,
     ⟨(.prim (.idxSl none)), [.tmp 14, .tmp 15], (some 16), none⟩,
     ⟨(.prim (.load none)), [.tmp 16], (some 17), none⟩,
     ⟨(.prim (.conv .u32)), [.tmp 17], (some 18), none⟩,
     ⟨(.prim (.bin .xor .none)), [.tmp 13, .tmp 18], (some 19), none⟩,
     ⟨(.prim .id), [.tmp 19], (some 0), none⟩] none)
    (.seq (.region [⟨(.prim .id), [.tmp 0], (some 20), none⟩,
     ⟨(.prim (.bin .shr .none)), [.tmp 20, .const (.int .u64 4)], (some 21), none⟩,
     ⟨(.prim .id), [.tmp 0], (some 22), none⟩,
     ⟨(.prim (.bin .and .none)), [.tmp 22, .const (.int .u32 15)], (some 23), none⟩,
     ⟨(.prim (.idxArr 16 none)), [.tmp 5, .tmp 23], (some 24), none⟩,
     ⟨(.prim (.load none)), [.tmp 24], (some 25), none⟩,
     ⟨(.prim (.bin .xor .none)), [.tmp 21, .tmp 25], (some 26), none⟩,
     ⟨(.prim .id), [.tmp 26], (some 0), none⟩] none)
    (.region [⟨(.prim .id), [.tmp 0], (some 27), none⟩,
     ⟨(.prim (.bin .shr .none)), [.tmp 27, .const (.int .u64 4)], (some 28), none⟩,
     ⟨(.prim .id), [.tmp 0], (some 29), none⟩,
     ⟨(.prim (.bin .and .none)), [.tmp 29, .const (.int .u32 15)], (some 30), none⟩,
     ⟨(.prim (.idxArr 16 none)), [.tmp 5, .tmp 30], (some 31), none⟩,
     ⟨(.prim (.load none)), [.tmp 31], (some 32), none⟩,
     ⟨(.prim (.bin .xor .none)), [.tmp 28, .tmp 32], (some 33), none⟩,
     ⟨(.prim .id), [.tmp 33], (some 0), none⟩] none)))))
   (.region [⟨(.prim (.bin .add .none)), [.tmp 10, .const (.int .i64 1)], (some 34), none⟩,
    ⟨(.prim .id), [.tmp 34], (some 10), none⟩] none)))))))
 (.seq (.region [⟨(.prim .id), [.tmp 0], (some 35), none⟩,
  ⟨(.prim .id), [.tmp 35], (some 4), none⟩] none)
 .ret))))
theorem F215 : IsFun Try.prog 215 2 36 c215 [.tmp 4] := ⟨by decide, Try.f215, _, [], Try.func215, rfl, by decide, rfl, by kernel_rfl, by kernel_rfl⟩

-- loop: 0:r, 5:i
/-- cashbox/cashboxref01.remainder -/
def c216 : ACode :=
 (.seq (.region [⟨(.prim .id), [.const (.int .u32 0)], (some 4), none⟩] none)
 (.seq (.region [⟨(.prim .id), [.tmp 0], (some 6), none⟩,
  ⟨(.prim .id), [.tmp 1], (some 7), none⟩,
  ⟨(.prim (.conv .u32)), [.tmp 7], (some 8), none⟩,
  ⟨(.prim (.bin .xor .none)), [.tmp 6, .tmp 8], (some 9), none⟩,
  ⟨(.prim .id), [.tmp 9], (some 0), none⟩] none)
 (.seq (.seq (.region [⟨(.prim .id), [.const (.int .i64 0)], (some 5), none⟩] none)
 (.block 0
  (.loop
   (.seq (.seq (.region [⟨(.prim .id), [.tmp 5], (some 10), none⟩,
    ⟨(.prim (.bin .lss .none)), [.tmp 10, .const (.int .i64 8)], (some 11), none⟩] none)
   (.cond (.tmp 11)
    .skip
    (.exit 0)))
   (.seq (.block 1
    (.seq (.region [⟨(.prim .id), [.tmp 0], (some 14), none⟩,
     ⟨(.prim (.bin .and .none)), [.tmp 14, .const (.int .u32 1)], (some 15), none⟩,
     ⟨(.prim (.bin .eql .none)), [.tmp 15, .const (.int .u32 1)], (some 16), none⟩] none)
    (.cond (.tmp 16)
     (.region [⟨(.prim .id), [.tmp 0], (some 17), none⟩,
      ⟨(.prim (.bin .shr .none)), [.tmp 17, .const (.int .u64 1)], (some 18), none⟩,
      ⟨(.prim (.bin .xor .none)), [.tmp 18, .const (.int .u32 3988292384)], (some 19), none⟩,
      ⟨(.prim .id), [.tmp 19], (some 0), none⟩] none)
     (.region [⟨(.prim .id), [.tmp 0], (some 20), none⟩,
      ⟨(.prim (.bin .shr .none)), [.tmp 20, .const (.int .u64 1)], (some 21), none⟩,
      ⟨(.prim .id), [.tmp 21], (some 0), none⟩] none))))
   (.region [⟨(.prim .id), [.tmp 5], (some 12), none⟩,
    ⟨(.prim (.bin .add .none)), [.tmp 12, .const (.int .i64 1)], (some 13), none⟩,
    ⟨(.prim .id), [.tmp 13], (some 5), none⟩] none))))))
 (.seq (.region [⟨(.prim .id), [.tmp 0], (some 22), none⟩,
  ⟨(.prim .id), [.tmp 22], (some 4), none⟩] none)
 .ret))))
theorem F216 : IsFun Try.prog 216 2 23 c216 [.tmp 4] := ⟨by decide, Try.f216, _, [], Try.func216, rfl, by decide, rfl, by kernel_rfl, by kernel_rfl⟩

-- loop: 0:, 1:half, 2:t, 4:
/-- cashbox/sums.table -/
def c217 : ACode :=
 (.seq (.region [⟨(.prim (.alloc [(.int .u32 0), (.int .u32 0), (.int .u32 0), (.int .u32 0), (.int .u32 0), (.int .u32 0), (.int .u32 0), (.int .u32 0), (.int .u32 0), (.int .u32 0), (.int .u32 0), (.int .u32 0), (.int .u32 0), (.int .u32 0), (.int .u32 0), (.int .u32 0)])), [], (some 0), none⟩] none)
 (.seq (.region [⟨(.prim .id), [.const (.fn (.func 218) [] [])], (some 1), none⟩] none)
 (.seq (.region [⟨(.prim (.alloc [(.int .u32 0), (.int .u32 0), (.int .u32 0), (.int .u32 0), (.int .u32 0), (.int .u32 0), (.int .u32 0), (.int .u32 0), (.int .u32 0), (.int .u32 0), (.int .u32 0), (.int .u32 0), (.int .u32 0), (.int .u32 0), (.int .u32 0), (.int .u32 0)])), [], (some 2), none⟩] none)
 (.seq (.seq (.region [⟨(.prim .id), [.const (.int .i64 0)], (some 4), none⟩] none)
 (.block 0
  (.loop
   (.seq (.region [⟨(.prim (.bin .lss .none)), [.tmp 4, .const (.int .i64 16)], (some 5), none⟩] none)
   (.seq (.cond (.tmp 5)
    .skip
    (.exit 0))
   (.seq (.block 1
    (.seq (.region [⟨(.prim .id), [.tmp 4], (some 6), none⟩,
     ⟨(.prim .id), [.tmp 6], (some 3), none⟩] none)
    (.region [⟨(.prim .id), [.tmp 3], (some 7), none⟩,
     ⟨(.prim .id), [.tmp 1], (some 8), none⟩,
     ⟨(.prim .id), [.tmp 3], (some 9), none⟩,
     ⟨(.prim (.conv .u32)), [.tmp 9], (some 10), none⟩,
     ⟨.callV, [.tmp 8, .tmp 10], (some 11), none⟩,
     ⟨(.prim (.idxArr 16 none)), [.tmp 2, .tmp 7], (some 12), none⟩,
     ⟨(.prim (.store none)), [.tmp 12, .tmp 11], none, none⟩] none)))
   (.region [⟨(.prim (.bin .add .none)), [.tmp 4, .const (.int .i64 1)], (some 13), none⟩,
    ⟨(.prim .id), [.tmp 13], (some 4), none⟩] none)))))))
 (.seq (.region [⟨(.prim (.load (some 16))), [.tmp 2], (some 14), none⟩,
  ⟨(.prim (.store (some 16))), [.tmp 0, .tmp 14], none, none⟩] none)
 .ret)))))
theorem F217 : IsFun Try.prog 217 0 15 c217 [.cell 0 (some 16)] := ⟨by decide, Try.f217, _, [], Try.func217, rfl, by decide, rfl, by kernel_rfl, by kernel_rfl⟩

-- loop: 0:r, 3:
/-- cashbox/sums.table$1 -/
def c218 : ACode :=
 (.seq (.region [⟨(.prim .id), [.const (.int .u32 0)], (some 2), none⟩] none)
 (.seq (.seq (.region [⟨(.prim .id), [.const (.int .i64 0)], (some 3), none⟩] none)
 (.block 0
  (.loop
   (.seq (.region [⟨(.prim (.bin .lss .none)), [.tmp 3, .const (.int .i64 4)], (some 4), none⟩] none)
   (.seq (.cond (.tmp 4)
    .skip
    (.exit 0))
   (.seq (.block 1
    (.region [⟨(.prim .id), [.tmp 0], (some 5), none⟩,
     ⟨(.prim (.bin .shr .none)), [.tmp 5, .const (.int .u64 1)], (some 6), none⟩,
     ⟨(.prim .id), [.tmp 0], (some 7), none⟩,
     ⟨(.prim (.bin .and .none)), [.tmp 7, .const (.int .u32 1)], (some 8), none⟩,
     ⟨(.prim (.un .neg)), [.tmp 8], (some 9), none⟩,
     ⟨(.prim (.bin .and .none)), [.const (.int .u32 3988292384), .tmp 9], (some 10), none⟩,
     ⟨(.prim (.bin .xor .none)), [.tmp 6, .tmp 10], (some 11), none⟩,
     ⟨(.prim .id), [.tmp 11], (some 0), none⟩] none))
   (.region [⟨(.prim (.bin .add .none)), [.tmp 3, .const (.int .i64 1)], (some 12), none⟩,
    ⟨(.prim .id), [.tmp 12], (some 3), none⟩] none)))))))
 (.seq (.region [⟨(.prim .id), [.tmp 0], (some 13), none⟩,
  ⟨(.prim .id), [.tmp 13], (some 2), none⟩] none)
 .ret)))
theorem F218 : IsFun Try.prog 218 1 14 c218 [.tmp 2] := ⟨by decide, Try.f218, _, [], Try.func218, rfl, by decide, rfl, by kernel_rfl, by kernel_rfl⟩

/-- cashbox/move.within -/
def c65 : ACode :=
 (.seq (.region [⟨(.prim .id), [.const (.bool false)], (some 6), none⟩] none)
 (.seq (.region [⟨(.prim .id), [.tmp 0], (some 7), none⟩,
  ⟨(.prim .id), [.tmp 1], (some 8), none⟩,
  ⟨(.prim (.bin .geq .none)), [.tmp 7, .tmp 8], (some 9), none⟩,
  ⟨(.prim .id), [.tmp 9], (some 10), none⟩,
  ⟨(.prim .id), [.tmp 0], (some 11), (some (10, true))⟩,
  ⟨(.prim .id), [.tmp 2], (some 12), (some (10, true))⟩,
  ⟨(.prim (.bin .leq .none)), [.tmp 11, .tmp 12], (some 13), (some (10, true))⟩,
  ⟨(.prim .pick), [.tmp 10, .tmp 13, .const (.bool false)], (some 14), none⟩,
  ⟨(.prim .id), [.tmp 14], (some 6), none⟩] none)
 .ret))
theorem F65 : IsFun Try.prog 65 3 15 c65 [.tmp 6] := ⟨by decide, Try.f65, _, [], Try.func65, rfl, by decide, rfl, by kernel_rfl, by kernel_rfl⟩

end Go.Proofs.Ytjceilhmgbdgiaa
