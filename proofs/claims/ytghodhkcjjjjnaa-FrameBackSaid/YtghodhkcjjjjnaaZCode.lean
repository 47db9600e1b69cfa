/- The functions' code for the abstract machine, printed by wip/tools/Gen.lean. -/
import Derived.Test.YtghodhkcjjjjnaaProg
import Derived.Test.YtghodhkcjjjjnaaZAmEval
import Derived.KernelRfl
set_option linter.all false
namespace Go.Proofs.Ytghodhkcjjjjnaa
open Go.Am

/-- cashbox/cashboxlaw04.FrameMixed -/
def c3 : ACode :=
 (.seq (.region [⟨(.prim .id), [.const (.bool false)], (some 10), none⟩] none)
 (.seq (.seq (.region [⟨(.prim .id), [.tmp 0], (some 21), none⟩,
  ⟨(.prim .len), [.tmp 21], (some 22), none⟩,
  ⟨(.prim (.bin .gtr .none)), [.tmp 22, .const (.int .i64 90)], (some 23), none⟩,
  ⟨(.prim .id), [.tmp 23], (some 24), none⟩,
  ⟨(.prim .id), [.tmp 1], (some 25), (some (24, false))⟩,
  ⟨(.prim .len), [.tmp 25], (some 26), (some (24, false))⟩,
  ⟨(.prim (.bin .gtr .none)), [.tmp 26, .const (.int .i64 90)], (some 27), (some (24, false))⟩,
  ⟨(.prim .pick), [.tmp 24, .const (.bool true), .tmp 27], (some 28), none⟩] none)
 (.cond (.tmp 28)
  (.seq (.region [⟨(.call 7), [], (some 29), none⟩,
   ⟨(.prim .id), [.tmp 29], (some 10), none⟩] none)
  .ret)
  .skip))
 (.seq (.region [⟨(.prim .id), [.tmp 0], (some 31), none⟩,
  ⟨(.prim .id), [.tmp 2], (some 32), none⟩,
  ⟨(.prim .id), [.tmp 3], (some 33), none⟩,
  ⟨(.call 8), [.tmp 31, .tmp 32, .tmp 33], (some 34), none⟩,
  ⟨(.prim .id), [.tmp 34], (some 30), none⟩,
  ⟨(.prim (.extract 0)), [.tmp 30], (some 35), none⟩,
  ⟨(.prim (.extract 1)), [.tmp 30], (some 36), none⟩,
  ⟨(.prim .id), [.tmp 35], (some 11), none⟩,
  ⟨(.prim .id), [.tmp 36], (some 12), none⟩] none)
 (.seq (.region [⟨(.prim .id), [.tmp 1], (some 38), none⟩,
  ⟨(.prim .id), [.tmp 2], (some 39), none⟩,
  ⟨(.prim .id), [.tmp 4], (some 40), none⟩,
  ⟨(.call 8), [.tmp 38, .tmp 39, .tmp 40], (some 41), none⟩,
  ⟨(.prim .id), [.tmp 41], (some 37), none⟩,
  ⟨(.prim (.extract 0)), [.tmp 37], (some 42), none⟩,
  ⟨(.prim (.extract 1)), [.tmp 37], (some 43), none⟩,
  ⟨(.prim .id), [.tmp 42], (some 13), none⟩,
  ⟨(.prim .id), [.tmp 43], (some 14), none⟩] none)
 (.seq (.seq (.region [⟨(.prim .id), [.tmp 12], (some 44), none⟩,
  ⟨(.prim (.bin .neq .none)), [.tmp 44, .const (.int .i64 0)], (some 45), none⟩,
  ⟨(.prim .id), [.tmp 45], (some 46), none⟩,
  ⟨(.prim .id), [.tmp 14], (some 47), (some (46, false))⟩,
  ⟨(.prim (.bin .neq .none)), [.tmp 47, .const (.int .i64 0)], (some 48), (some (46, false))⟩,
  ⟨(.prim .pick), [.tmp 46, .const (.bool true), .tmp 48], (some 49), none⟩,
  ⟨(.prim .id), [.tmp 49], (some 50), none⟩,
  ⟨(.prim .id), [.tmp 11], (some 51), (some (50, false))⟩,
  ⟨(.prim .len), [.tmp 51], (some 52), (some (50, false))⟩,
  ⟨(.prim (.bin .neq .none)), [.tmp 52, .const (.int .i64 2)], (some 53), (some (50, false))⟩,
  ⟨(.prim .pick), [.tmp 50, .const (.bool true), .tmp 53], (some 54), none⟩,
  ⟨(.prim .id), [.tmp 54], (some 55), none⟩,
  ⟨(.prim .id), [.tmp 13], (some 56), (some (55, false))⟩,
  ⟨(.prim .len), [.tmp 56], (some 57), (some (55, false))⟩,
  ⟨(.prim (.bin .neq .none)), [.tmp 57, .const (.int .i64 2)], (some 58), (some (55, false))⟩,
  ⟨(.prim .pick), [.tmp 55, .const (.bool true), .tmp 58], (some 59), none⟩] none)
 (.cond (.tmp 59)
  (.seq (.region [⟨(.call 7), [], (some 60), none⟩,
   ⟨(.prim .id), [.tmp 60], (some 10), none⟩] none)
  .ret)
  .skip))
 (.seq (.seq (.region [⟨(.prim .id), [.tmp 3], (some 61), none⟩,
  ⟨(.prim .id), [.tmp 4], (some 62), none⟩,
  ⟨(.prim (.bin .eql .none)), [.tmp 61, .tmp 62], (some 63), none⟩,
  ⟨(.prim .id), [.tmp 63], (some 64), none⟩,
  ⟨(.prim .id), [.tmp 0], (some 65), (some (64, true))⟩,
  ⟨(.call 9), [.tmp 65], (some 66), (some (64, true))⟩,
  ⟨(.prim .id), [.tmp 1], (some 67), (some (64, true))⟩,
  ⟨(.call 9), [.tmp 67], (some 68), (some (64, true))⟩,
  ⟨(.prim (.bin .eql .none)), [.tmp 66, .tmp 68], (some 69), (some (64, true))⟩,
  ⟨(.prim .pick), [.tmp 64, .tmp 69, .const (.bool false)], (some 70), none⟩] none)
 (.cond (.tmp 70)
  (.seq (.region [⟨(.call 7), [], (some 71), none⟩,
   ⟨(.prim .id), [.tmp 71], (some 10), none⟩] none)
  .ret)
  .skip))
 (.seq (.region [⟨(.prim .id), [.tmp 11], (some 73), none⟩,
  ⟨(.prim (.idxSl (some 6))), [.tmp 73, .const (.int .i64 0)], (some 74), none⟩,
  ⟨(.prim (.load (some 6))), [.tmp 74], (some 75), none⟩,
  ⟨(.prim .id), [.tmp 13], (some 76), none⟩,
  ⟨(.prim (.idxSl (some 6))), [.tmp 76, .const (.int .i64 1)], (some 77), none⟩,
  ⟨(.prim (.load (some 6))), [.tmp 77], (some 78), none⟩,
  ⟨(.prim (.buildSl (some 6))), [.tmp 75, .tmp 78], (some 79), none⟩,
  ⟨(.call 10), [.tmp 79], (some 80), none⟩,
  ⟨(.prim .id), [.tmp 80], (some 72), none⟩,
  ⟨(.prim (.extract 0)), [.tmp 72], (some 81), none⟩,
  ⟨(.prim (.extract 1)), [.tmp 72], (some 82), none⟩,
  ⟨(.prim .id), [.tmp 81], (some 15), none⟩,
  ⟨(.prim .id), [.tmp 82], (some 16), none⟩] (some [[], [0], [1], [], [3], [4], [2, 5], [6], [7], [8], [8], [9, 7, 0, 1, 2, 3, 4, 5, 6, 7, 8, 9], [10, 11, 0, 1, 2, 3, 4, 5, 6, 7, 8, 9, 10, 11]]))
 (.seq (.region [⟨(.prim .id), [.tmp 13], (some 84), none⟩,
  ⟨(.prim (.idxSl (some 6))), [.tmp 84, .const (.int .i64 0)], (some 85), none⟩,
  ⟨(.prim (.load (some 6))), [.tmp 85], (some 86), none⟩,
  ⟨(.prim .id), [.tmp 11], (some 87), none⟩,
  ⟨(.prim (.idxSl (some 6))), [.tmp 87, .const (.int .i64 1)], (some 88), none⟩,
  ⟨(.prim (.load (some 6))), [.tmp 88], (some 89), none⟩,
  ⟨(.prim (.buildSl (some 6))), [.tmp 86, .tmp 89], (some 90), none⟩,
  ⟨(.call 10), [.tmp 90], (some 91), none⟩,
  ⟨(.prim .id), [.tmp 91], (some 83), none⟩,
  ⟨(.prim (.extract 0)), [.tmp 83], (some 92), none⟩,
  ⟨(.prim (.extract 1)), [.tmp 83], (some 93), none⟩,
  ⟨(.prim .id), [.tmp 92], (some 17), none⟩,
  ⟨(.prim .id), [.tmp 93], (some 18), none⟩] (some [[], [0], [1], [], [3], [4], [2, 5], [6], [7], [8], [8], [9, 7, 0, 1, 2, 3, 4, 5, 6, 7, 8, 9], [10, 11, 0, 1, 2, 3, 4, 5, 6, 7, 8, 9, 10, 11]]))
 (.seq (.region [⟨(.prim .id), [.tmp 11], (some 95), none⟩,
  ⟨(.prim (.idxSl (some 6))), [.tmp 95, .const (.int .i64 1)], (some 96), none⟩,
  ⟨(.prim (.load (some 6))), [.tmp 96], (some 97), none⟩,
  ⟨(.prim .id), [.tmp 11], (some 98), none⟩,
  ⟨(.prim (.idxSl (some 6))), [.tmp 98, .const (.int .i64 0)], (some 99), none⟩,
  ⟨(.prim (.load (some 6))), [.tmp 99], (some 100), none⟩,
  ⟨(.prim (.buildSl (some 6))), [.tmp 97, .tmp 100], (some 101), none⟩,
  ⟨(.call 10), [.tmp 101], (some 102), none⟩,
  ⟨(.prim .id), [.tmp 102], (some 94), none⟩,
  ⟨(.prim (.extract 0)), [.tmp 94], (some 103), none⟩,
  ⟨(.prim (.extract 1)), [.tmp 94], (some 104), none⟩,
  ⟨(.prim .id), [.tmp 103], (some 19), none⟩,
  ⟨(.prim .id), [.tmp 104], (some 20), none⟩] (some [[], [0], [1], [], [3], [4], [2, 5], [6], [7], [8], [8], [9, 7, 0, 1, 2, 3, 4, 5, 6, 7, 8, 9], [10, 11, 0, 1, 2, 3, 4, 5, 6, 7, 8, 9, 10, 11]]))
 (.seq (.region [⟨(.prim .id), [.tmp 16], (some 105), none⟩,
  ⟨(.prim (.bin .eql .none)), [.tmp 105, .const (.int .i64 40)], (some 106), none⟩,
  ⟨(.prim .id), [.tmp 106], (some 107), none⟩,
  ⟨(.prim .id), [.tmp 18], (some 108), (some (107, true))⟩,
  ⟨(.prim (.bin .eql .none)), [.tmp 108, .const (.int .i64 40)], (some 109), (some (107, true))⟩,
  ⟨(.prim .pick), [.tmp 107, .tmp 109, .const (.bool false)], (some 110), none⟩,
  ⟨(.prim .id), [.tmp 110], (some 111), none⟩,
  ⟨(.prim .id), [.tmp 20], (some 112), (some (111, true))⟩,
  ⟨(.prim (.bin .eql .none)), [.tmp 112, .const (.int .i64 40)], (some 113), (some (111, true))⟩,
  ⟨(.prim .pick), [.tmp 111, .tmp 113, .const (.bool false)], (some 114), none⟩,
  ⟨(.prim .id), [.tmp 114], (some 115), none⟩,
  ⟨(.call 7), [], (some 116), (some (115, true))⟩,
  ⟨(.prim .pick), [.tmp 115, .tmp 116, .const (.bool false)], (some 117), none⟩,
  ⟨(.prim .id), [.tmp 117], (some 10), none⟩] none)
 .ret))))))))))
theorem F3 : IsFun Try.prog 3 5 118 c3 [.tmp 10] := ⟨by decide, Try.f3, _, [], Try.func3, rfl, by decide, rfl, by kernel_rfl, by kernel_rfl⟩

-- loop: 0:b, 1:seq, 2:inc, 7:l, 9:all, 10:i
/-- cashbox/cashboxlaw04.FrameLoads -/
def c4 : ACode :=
 (.seq (.region [⟨(.prim .id), [.const (.bool false)], (some 6), none⟩] none)
 (.seq (.seq (.region [⟨(.prim .id), [.tmp 0], (some 12), none⟩,
  ⟨(.prim .len), [.tmp 12], (some 13), none⟩,
  ⟨(.prim (.bin .gtr .none)), [.tmp 13, .const (.int .i64 1000)], (some 14), none⟩] none)
 (.cond (.tmp 14)
  (.seq (.region [⟨(.call 7), [], (some 15), none⟩,
   ⟨(.prim .id), [.tmp 15], (some 6), none⟩] none)
  .ret)
  .skip))
 (.seq (.region [⟨(.prim .id), [.tmp 0], (some 17), none⟩,
  ⟨(.prim .id), [.tmp 1], (some 18), none⟩,
  ⟨(.prim .id), [.tmp 2], (some 19), none⟩,
  ⟨(.call 8), [.tmp 17, .tmp 18, .tmp 19], (some 20), none⟩,
  ⟨(.prim .id), [.tmp 20], (some 16), none⟩,
  ⟨(.prim (.extract 0)), [.tmp 16], (some 21), none⟩,
  ⟨(.prim (.extract 1)), [.tmp 16], (some 22), none⟩,
  ⟨(.prim .id), [.tmp 21], (some 7), none⟩,
  ⟨(.prim .id), [.tmp 22], (some 8), none⟩] none)
 (.seq (.seq (.region [⟨(.prim .id), [.tmp 8], (some 23), none⟩,
  ⟨(.prim (.bin .neq .none)), [.tmp 23, .const (.int .i64 0)], (some 24), none⟩] none)
 (.cond (.tmp 24)
  (.seq (.region [⟨(.prim .id), [.tmp 7], (some 25), none⟩,
   ⟨(.prim .len), [.tmp 25], (some 26), none⟩,
   ⟨(.prim (.bin .eql .none)), [.tmp 26, .const (.int .i64 0)], (some 27), none⟩,
   ⟨(.prim .id), [.tmp 27], (some 28), none⟩,
   ⟨(.call 7), [], (some 29), (some (28, true))⟩,
   ⟨(.prim .pick), [.tmp 28, .tmp 29, .const (.bool false)], (some 30), none⟩,
   ⟨(.prim .id), [.tmp 30], (some 6), none⟩] none)
  .ret)
  .skip))
 (.seq (.region [⟨(.prim .id), [.const (.sl .clip [])], (some 9), none⟩] none)
 (.seq (.seq (.region [⟨(.prim .id), [.const (.int .i64 0)], (some 10), none⟩] none)
 (.block 0
  (.loop
   (.seq (.seq (.region [⟨(.prim .id), [.tmp 10], (some 31), none⟩,
    ⟨(.prim .id), [.tmp 7], (some 32), none⟩,
    ⟨(.prim .len), [.tmp 32], (some 33), none⟩,
    ⟨(.prim (.bin .lss .none)), [.tmp 31, .tmp 33], (some 34), none⟩] none)
   (.cond (.tmp 34)
    .skip
    (.exit 0)))
   (.seq (.block 1
    (.seq (.region [⟨(.prim .id), [.tmp 7], (some 37), none⟩,
     ⟨(.prim .id), [.tmp 10], (some 38), none⟩,
     ⟨(.prim (.idxSl (some 6))), [.tmp 37, .tmp 38], (some 39), none⟩,
     ⟨(.prim (.load (some 6))), [.tmp 39], (some 40), none⟩,
     ⟨(.prim (.alloc [(.int .i64 0), (.int .i64 0), (.int .i64 0), (.int .i64 0), (.int .u32 0), (.sl .clip [])])), [], (some 11), none⟩,
     ⟨(.prim (.store (some 6))), [.tmp 11, .tmp 40], none, none⟩] none)
    (.seq (.seq (.region [⟨(.prim (.fieldAddr 0 none)), [.tmp 11], (some 41), none⟩,
     ⟨(.prim (.load none)), [.tmp 41], (some 42), none⟩,
     ⟨(.prim .id), [.tmp 1], (some 43), none⟩,
     ⟨(.prim .id), [.tmp 10], (some 44), none⟩,
     ⟨(.prim (.bin .add .none)), [.tmp 43, .tmp 44], (some 45), none⟩,
     ⟨(.prim (.bin .neq .none)), [.tmp 42, .tmp 45], (some 46), none⟩,
     ⟨(.prim .id), [.tmp 46], (some 47), none⟩,
     ⟨(.prim (.fieldAddr 1 none)), [.tmp 11], (some 48), (some (47, false))⟩,
     ⟨(.prim (.load none)), [.tmp 48], (some 49), (some (47, false))⟩,
     ⟨(.prim .id), [.tmp 2], (some 50), (some (47, false))⟩,
     ⟨(.prim (.bin .neq .none)), [.tmp 49, .tmp 50], (some 51), (some (47, false))⟩,
     ⟨(.prim .pick), [.tmp 47, .const (.bool true), .tmp 51], (some 52), none⟩,
     ⟨(.prim .id), [.tmp 52], (some 53), none⟩,
     ⟨(.prim (.fieldAddr 2 none)), [.tmp 11], (some 54), (some (53, false))⟩,
     ⟨(.prim (.load none)), [.tmp 54], (some 55), (some (53, false))⟩,
     ⟨(.prim .id), [.tmp 10], (some 56), (some (53, false))⟩,
     ⟨(.prim (.bin .neq .none)), [.tmp 55, .tmp 56], (some 57), (some (53, false))⟩,
     ⟨(.prim .pick), [.tmp 53, .const (.bool true), .tmp 57], (some 58), none⟩,
     ⟨(.prim .id), [.tmp 58], (some 59), none⟩,
     ⟨(.prim (.fieldAddr 3 none)), [.tmp 11], (some 60), (some (59, false))⟩,
     ⟨(.prim (.load none)), [.tmp 60], (some 61), (some (59, false))⟩,
     ⟨(.prim .id), [.tmp 7], (some 62), (some (59, false))⟩,
     ⟨(.prim .len), [.tmp 62], (some 63), (some (59, false))⟩,
     ⟨(.prim (.bin .neq .none)), [.tmp 61, .tmp 63], (some 64), (some (59, false))⟩,
     ⟨(.prim .pick), [.tmp 59, .const (.bool true), .tmp 64], (some 65), none⟩,
     ⟨(.prim .id), [.tmp 65], (some 66), none⟩,
     ⟨(.prim (.fieldAddr 4 none)), [.tmp 11], (some 67), (some (66, false))⟩,
     ⟨(.prim (.load none)), [.tmp 67], (some 68), (some (66, false))⟩,
     ⟨(.prim .id), [.tmp 7], (some 69), (some (66, false))⟩,
     ⟨(.prim (.idxSl (some 6))), [.tmp 69, .const (.int .i64 0)], (some 70), (some (66, false))⟩,
     ⟨(.prim (.fieldAddr 4 none)), [.tmp 70], (some 71), (some (66, false))⟩,
     ⟨(.prim (.load none)), [.tmp 71], (some 72), (some (66, false))⟩,
     ⟨(.prim (.bin .neq .none)), [.tmp 68, .tmp 72], (some 73), (some (66, false))⟩,
     ⟨(.prim .pick), [.tmp 66, .const (.bool true), .tmp 73], (some 74), none⟩,
     ⟨(.prim .id), [.tmp 74], (some 75), none⟩,
     ⟨(.prim .id), [.tmp 10], (some 76), (some (75, false))⟩,
     ⟨(.prim .id), [.tmp 7], (some 77), (some (75, false))⟩,
     ⟨(.prim .len), [.tmp 77], (some 78), (some (75, false))⟩,
     ⟨(.prim (.bin .sub .none)), [.tmp 78, .const (.int .i64 1)], (some 79), (some (75, false))⟩,
     ⟨(.prim (.bin .lss .none)), [.tmp 76, .tmp 79], (some 80), (some (75, false))⟩,
     ⟨(.prim .id), [.tmp 80], (some 81), (some (75, false))⟩,
     ⟨(.prim (.fieldAddr 5 none)), [.tmp 11], (some 82), (some (81, true))⟩,
     ⟨(.prim (.load none)), [.tmp 82], (some 83), (some (81, true))⟩,
     ⟨(.prim .len), [.tmp 83], (some 84), (some (81, true))⟩,
     ⟨(.prim (.bin .neq .none)), [.tmp 84, .const (.int .i64 45)], (some 85), (some (81, true))⟩,
     ⟨(.prim .pick), [.tmp 81, .tmp 85, .const (.bool false)], (some 86), (some (75, false))⟩,
     ⟨(.prim .pick), [.tmp 75, .const (.bool true), .tmp 86], (some 87), none⟩,
     ⟨(.prim .id), [.tmp 87], (some 88), none⟩,
     ⟨(.prim (.load (some 6))), [.tmp 11], (some 89), (some (88, false))⟩,
     ⟨(.call 11), [.tmp 89], (some 90), (some (88, false))⟩,
     ⟨(.prim (.un .not)), [.tmp 90], (some 91), (some (88, false))⟩,
     ⟨(.prim .pick), [.tmp 88, .const (.bool true), .tmp 91], (some 92), none⟩] (some [[], [0], [], [], [2, 3], [1, 4], [5], [6], [7, 6], [6], [8, 9, 6], [6, 10], [11, 6], [12], [13, 12], [12], [14, 15, 12], [12, 16], [17, 12], [18], [19, 18], [18], [21, 18], [20, 22, 18], [18, 23], [24, 18], [25], [26, 25], [25], [28, 25], [29, 25], [30, 25], [27, 31, 25], [25, 32], [33, 25], [34], [34], [36, 34], [37, 34], [35, 38, 34], [39, 34, 34], [40], [41, 40], [42, 40], [43, 40], [40, 44, 34], [34, 45], [46, 40], [47], [48, 47, 47], [49, 47], [47, 50]]))
    (.cond (.tmp 92)
     (.seq (.region [⟨(.prim .id), [.const (.bool false)], (some 6), none⟩] none)
     .ret)
     .skip))
    (.region [⟨(.prim .id), [.tmp 9], (some 93), none⟩,
     ⟨(.prim (.fieldAddr 5 none)), [.tmp 11], (some 94), none⟩,
     ⟨(.prim (.load none)), [.tmp 94], (some 95), none⟩,
     ⟨(.prim (.append none)), [.tmp 93, .tmp 95], (some 96), none⟩,
     ⟨(.prim .id), [.tmp 96], (some 9), none⟩] none))))
   (.region [⟨(.prim .id), [.tmp 10], (some 35), none⟩,
    ⟨(.prim (.bin .add .none)), [.tmp 35, .const (.int .i64 1)], (some 36), none⟩,
    ⟨(.prim .id), [.tmp 36], (some 10), none⟩] none))))))
 (.seq (.region [⟨(.prim .id), [.tmp 9], (some 97), none⟩,
  ⟨(.prim .strOf), [.tmp 97], (some 98), none⟩,
  ⟨(.prim .id), [.tmp 0], (some 99), none⟩,
  ⟨(.prim .strOf), [.tmp 99], (some 100), none⟩,
  ⟨(.prim (.bin .eql .none)), [.tmp 98, .tmp 100], (some 101), none⟩,
  ⟨(.prim .id), [.tmp 101], (some 102), none⟩,
  ⟨(.prim .id), [.tmp 7], (some 103), (some (102, true))⟩,
  ⟨(.prim .len), [.tmp 103], (some 104), (some (102, true))⟩,
  ⟨(.prim (.bin .leq .none)), [.tmp 104, .const (.int .i64 2)], (some 105), (some (102, true))⟩,
  ⟨(.prim .pick), [.tmp 102, .tmp 105, .const (.bool false)], (some 106), none⟩,
  ⟨(.prim .id), [.tmp 106], (some 107), none⟩,
  ⟨(.call 7), [], (some 108), (some (107, true))⟩,
  ⟨(.prim .pick), [.tmp 107, .tmp 108, .const (.bool false)], (some 109), none⟩,
  ⟨(.prim .id), [.tmp 109], (some 6), none⟩] none)
 .ret)))))))
theorem F4 : IsFun Try.prog 4 3 110 c4 [.tmp 6] := ⟨by decide, Try.f4, _, [], Try.func4, rfl, by decide, rfl, by kernel_rfl, by kernel_rfl⟩

/-- cashbox/cashboxlaw04.FrameBytes -/
def c5 : ACode :=
 (.seq (.region [⟨(.prim (.box (some 6))), [.tmp 0], (some 3), none⟩,
  ⟨(.prim (.box (some 6))), [.tmp 1], (some 4), none⟩,
  ⟨(.prim .id), [.const (.bool false)], (some 6), none⟩] none)
 (.seq (.seq (.region [⟨(.prim (.load (some 6))), [.tmp 3], (some 15), none⟩,
  ⟨(.call 12), [.tmp 15], (some 16), none⟩,
  ⟨(.prim .id), [.tmp 16], (some 17), none⟩,
  ⟨(.prim (.load (some 6))), [.tmp 4], (some 18), (some (17, false))⟩,
  ⟨(.call 12), [.tmp 18], (some 19), (some (17, false))⟩,
  ⟨(.prim .pick), [.tmp 17, .const (.bool true), .tmp 19], (some 20), none⟩,
  ⟨(.prim .id), [.tmp 20], (some 21), none⟩,
  ⟨(.prim .id), [.tmp 2], (some 22), (some (21, false))⟩,
  ⟨(.prim .len), [.tmp 22], (some 23), (some (21, false))⟩,
  ⟨(.prim (.bin .gtr .none)), [.tmp 23, .const (.int .i64 1000)], (some 24), (some (21, false))⟩,
  ⟨(.prim .pick), [.tmp 21, .const (.bool true), .tmp 24], (some 25), none⟩] none)
 (.cond (.tmp 25)
  (.seq (.region [⟨(.call 7), [], (some 26), none⟩,
   ⟨(.prim .id), [.tmp 26], (some 6), none⟩] none)
  .ret)
  .skip))
 (.seq (.region [⟨(.prim (.load (some 6))), [.tmp 3], (some 28), none⟩,
  ⟨(.call 13), [.tmp 28], (some 29), none⟩,
  ⟨(.prim .id), [.tmp 29], (some 27), none⟩,
  ⟨(.prim (.extract 0)), [.tmp 27], (some 30), none⟩,
  ⟨(.prim (.extract 1)), [.tmp 27], (some 31), none⟩,
  ⟨(.prim .id), [.tmp 30], (some 7), none⟩,
  ⟨(.prim .id), [.tmp 31], (some 8), none⟩] none)
 (.seq (.region [⟨(.prim (.load (some 6))), [.tmp 3], (some 33), none⟩,
  ⟨(.call 14), [.tmp 33], (some 34), none⟩,
  ⟨(.prim .id), [.tmp 34], (some 32), none⟩,
  ⟨(.prim (.extract 0)), [.tmp 32], (some 35), none⟩,
  ⟨(.prim (.extract 1)), [.tmp 32], (some 36), none⟩,
  ⟨(.prim .id), [.tmp 35], (some 9), none⟩,
  ⟨(.prim .id), [.tmp 36], (some 10), none⟩] none)
 (.seq (.region [⟨(.prim .id), [.tmp 2], (some 38), none⟩,
  ⟨(.call 15), [.tmp 38], (some 39), none⟩,
  ⟨(.prim .id), [.tmp 39], (some 37), none⟩,
  ⟨(.prim (.extract 0)), [.tmp 37], (some 40), none⟩,
  ⟨(.prim (.extract 1)), [.tmp 37], (some 41), none⟩,
  ⟨(.prim (.alloc [(.int .i64 0), (.int .i64 0), (.int .i64 0), (.int .i64 0), (.int .u32 0), (.sl .clip [])])), [], (some 11), none⟩,
  ⟨(.prim (.store (some 6))), [.tmp 11, .tmp 40], none, none⟩,
  ⟨(.prim .id), [.tmp 41], (some 12), none⟩] none)
 (.seq (.region [⟨(.prim .id), [.tmp 2], (some 43), none⟩,
  ⟨(.call 16), [.tmp 43], (some 44), none⟩,
  ⟨(.prim .id), [.tmp 44], (some 42), none⟩,
  ⟨(.prim (.extract 0)), [.tmp 42], (some 45), none⟩,
  ⟨(.prim (.extract 1)), [.tmp 42], (some 46), none⟩,
  ⟨(.prim (.alloc [(.int .i64 0), (.int .i64 0), (.int .i64 0), (.int .i64 0), (.int .u32 0), (.sl .clip [])])), [], (some 13), none⟩,
  ⟨(.prim (.store (some 6))), [.tmp 13, .tmp 45], none, none⟩,
  ⟨(.prim .id), [.tmp 46], (some 14), none⟩] none)
 (.seq (.region [⟨(.prim .id), [.tmp 7], (some 47), none⟩,
  ⟨(.prim .strOf), [.tmp 47], (some 48), none⟩,
  ⟨(.prim .id), [.tmp 9], (some 49), none⟩,
  ⟨(.prim .strOf), [.tmp 49], (some 50), none⟩,
  ⟨(.prim (.bin .eql .none)), [.tmp 48, .tmp 50], (some 51), none⟩,
  ⟨(.prim .id), [.tmp 51], (some 52), none⟩,
  ⟨(.prim .id), [.tmp 8], (some 53), (some (52, true))⟩,
  ⟨(.prim .id), [.tmp 10], (some 54), (some (52, true))⟩,
  ⟨(.prim (.bin .eql .none)), [.tmp 53, .tmp 54], (some 55), (some (52, true))⟩,
  ⟨(.prim .pick), [.tmp 52, .tmp 55, .const (.bool false)], (some 56), none⟩,
  ⟨(.prim .id), [.tmp 56], (some 57), none⟩,
  ⟨(.prim (.load (some 6))), [.tmp 11], (some 58), (some (57, true))⟩,
  ⟨(.prim (.load (some 6))), [.tmp 13], (some 59), (some (57, true))⟩,
  ⟨(.call 17), [.tmp 58, .tmp 59], (some 60), (some (57, true))⟩,
  ⟨(.prim .pick), [.tmp 57, .tmp 60, .const (.bool false)], (some 61), none⟩,
  ⟨(.prim .id), [.tmp 61], (some 62), none⟩,
  ⟨(.prim .id), [.tmp 12], (some 63), (some (62, true))⟩,
  ⟨(.prim .id), [.tmp 14], (some 64), (some (62, true))⟩,
  ⟨(.prim (.bin .eql .none)), [.tmp 63, .tmp 64], (some 65), (some (62, true))⟩,
  ⟨(.prim .pick), [.tmp 62, .tmp 65, .const (.bool false)], (some 66), none⟩,
  ⟨(.prim .id), [.tmp 66], (some 67), none⟩,
  ⟨(.prim (.load (some 6))), [.tmp 3], (some 68), (some (67, true))⟩,
  ⟨(.call 11), [.tmp 68], (some 69), (some (67, true))⟩,
  ⟨(.prim (.load (some 6))), [.tmp 3], (some 70), (some (67, true))⟩,
  ⟨(.call 18), [.tmp 70], (some 71), (some (67, true))⟩,
  ⟨(.prim (.bin .eql .bool)), [.tmp 69, .tmp 71], (some 72), (some (67, true))⟩,
  ⟨(.prim .pick), [.tmp 67, .tmp 72, .const (.bool false)], (some 73), none⟩,
  ⟨(.prim .id), [.tmp 73], (some 74), none⟩,
  ⟨(.prim (.load (some 6))), [.tmp 3], (some 75), (some (74, true))⟩,
  ⟨(.prim (.load (some 6))), [.tmp 4], (some 76), (some (74, true))⟩,
  ⟨(.call 19), [.tmp 75, .tmp 76], (some 77), (some (74, true))⟩,
  ⟨(.prim (.load (some 6))), [.tmp 3], (some 78), (some (74, true))⟩,
  ⟨(.prim (.load (some 6))), [.tmp 4], (some 79), (some (74, true))⟩,
  ⟨(.call 17), [.tmp 78, .tmp 79], (some 80), (some (74, true))⟩,
  ⟨(.prim (.bin .eql .bool)), [.tmp 77, .tmp 80], (some 81), (some (74, true))⟩,
  ⟨(.prim .pick), [.tmp 74, .tmp 81, .const (.bool false)], (some 82), none⟩,
  ⟨(.prim .id), [.tmp 82], (some 83), none⟩,
  ⟨(.call 7), [], (some 84), (some (83, true))⟩,
  ⟨(.prim .pick), [.tmp 83, .tmp 84, .const (.bool false)], (some 85), none⟩,
  ⟨(.prim .id), [.tmp 85], (some 6), none⟩] (some [[], [0], [], [2], [1, 3], [4], [5], [5], [6, 7, 5], [5, 8], [9, 5], [10], [10], [11, 12, 10, 10], [10, 13], [14, 13], [15], [15], [16, 17, 15], [15, 18], [19, 15], [20], [21, 20, 20], [20], [23, 22, 20], [22, 24, 20], [20, 25], [26, 24], [27], [27], [28, 29, 27, 27], [27], [27], [31, 32, 30, 27], [30, 33, 27], [27, 34], [35, 33], [36, 36], [36, 37], [38, 37, 0, 1, 2, 3, 4, 5, 6, 7, 8, 9, 10, 11, 12, 13, 14, 15, 16, 17, 18, 19, 20, 21, 22, 23, 24, 25, 26, 27, 28, 29, 30, 31, 32, 33, 34, 35, 36, 37, 38]]))
 .ret)))))))
theorem F5 : IsFun Try.prog 5 3 86 c5 [.tmp 6] := ⟨by decide, Try.f5, _, [], Try.func5, rfl, by decide, rfl, by kernel_rfl, by kernel_rfl⟩

-- loop: 0:b, 3:bits, 4:at, 5:raw, 13:l, 15:back, 16:i
-- loop: 0:b, 3:bits, 4:at, 5:raw, 13:l, 15:back, 16:i, 21:k, 22:bad, 23:turn, 24:j
/-- cashbox/cashboxlaw04.FrameBack -/
def c6m : ACode :=
 (.seq (.region [⟨(.prim .id), [.const (.bool false)], (some 12), none⟩] none)
 (.seq (.seq (.region [⟨(.prim .id), [.tmp 0], (some 33), none⟩,
  ⟨(.prim .len), [.tmp 33], (some 34), none⟩,
  ⟨(.prim (.bin .gtr .none)), [.tmp 34, .const (.int .i64 90)], (some 35), none⟩,
  ⟨(.prim .id), [.tmp 35], (some 36), none⟩,
  ⟨(.prim .id), [.tmp 5], (some 37), (some (36, false))⟩,
  ⟨(.prim .len), [.tmp 37], (some 38), (some (36, false))⟩,
  ⟨(.prim (.bin .gtr .none)), [.tmp 38, .const (.int .i64 1000)], (some 39), (some (36, false))⟩,
  ⟨(.prim .pick), [.tmp 36, .const (.bool true), .tmp 39], (some 40), none⟩] none)
 (.cond (.tmp 40)
  (.seq (.region [⟨(.call 7), [], (some 41), none⟩,
   ⟨(.prim .id), [.tmp 41], (some 12), none⟩] none)
  .ret)
  .skip))
 (.seq (.region [⟨(.prim .id), [.tmp 0], (some 43), none⟩,
  ⟨(.prim .id), [.tmp 1], (some 44), none⟩,
  ⟨(.prim .id), [.tmp 2], (some 45), none⟩,
  ⟨(.call 8), [.tmp 43, .tmp 44, .tmp 45], (some 46), none⟩,
  ⟨(.prim .id), [.tmp 46], (some 42), none⟩,
  ⟨(.prim (.extract 0)), [.tmp 42], (some 47), none⟩,
  ⟨(.prim (.extract 1)), [.tmp 42], (some 48), none⟩,
  ⟨(.prim .id), [.tmp 47], (some 13), none⟩,
  ⟨(.prim .id), [.tmp 48], (some 14), none⟩] none)
 (.seq (.seq (.region [⟨(.prim .id), [.tmp 14], (some 49), none⟩,
  ⟨(.prim (.bin .eql .none)), [.tmp 49, .const (.int .i64 0)], (some 50), none⟩] none)
 (.cond (.tmp 50)
  (.seq (.region [⟨(.prim .id), [.const (.sl .clip [])], (some 15), none⟩] none)
  (.seq (.seq (.region [⟨(.prim .id), [.const (.int .i64 0)], (some 16), none⟩] none)
  (.block 0
   (.loop
    (.seq (.seq (.region [⟨(.prim .id), [.tmp 16], (some 51), none⟩,
     ⟨(.prim .id), [.tmp 13], (some 52), none⟩,
     ⟨(.prim .len), [.tmp 52], (some 53), none⟩,
     ⟨(.prim (.bin .lss .none)), [.tmp 51, .tmp 53], (some 54), none⟩] none)
    (.cond (.tmp 54)
     .skip
     (.exit 0)))
    (.seq (.block 1
     (.seq (.region [⟨(.prim .id), [.tmp 13], (some 58), none⟩,
      ⟨(.prim .id), [.tmp 16], (some 59), none⟩,
      ⟨(.prim (.idxSl (some 6))), [.tmp 58, .tmp 59], (some 60), none⟩,
      ⟨(.prim (.load (some 6))), [.tmp 60], (some 61), none⟩,
      ⟨(.call 13), [.tmp 61], (some 62), none⟩,
      ⟨(.prim .id), [.tmp 62], (some 57), none⟩,
      ⟨(.prim (.extract 0)), [.tmp 57], (some 63), none⟩,
      ⟨(.prim (.extract 1)), [.tmp 57], (some 64), none⟩,
      ⟨(.prim .id), [.tmp 63], (some 17), none⟩,
      ⟨(.prim .id), [.tmp 64], (some 18), none⟩] none)
     (.seq (.region [⟨(.prim .id), [.tmp 17], (some 66), none⟩,
      ⟨(.call 15), [.tmp 66], (some 67), none⟩,
      ⟨(.prim .id), [.tmp 67], (some 65), none⟩,
      ⟨(.prim (.extract 0)), [.tmp 65], (some 68), none⟩,
      ⟨(.prim (.extract 1)), [.tmp 65], (some 69), none⟩,
      ⟨(.prim (.alloc [(.int .i64 0), (.int .i64 0), (.int .i64 0), (.int .i64 0), (.int .u32 0), (.sl .clip [])])), [], (some 19), none⟩,
      ⟨(.prim (.store (some 6))), [.tmp 19, .tmp 68], none, none⟩,
      ⟨(.prim .id), [.tmp 69], (some 20), none⟩] none)
     (.seq (.seq (.region [⟨(.prim .id), [.tmp 18], (some 70), none⟩,
      ⟨(.prim (.bin .neq .none)), [.tmp 70, .const (.int .i64 0)], (some 71), none⟩,
      ⟨(.prim .id), [.tmp 71], (some 72), none⟩,
      ⟨(.prim .id), [.tmp 20], (some 73), (some (72, false))⟩,
      ⟨(.prim (.bin .neq .none)), [.tmp 73, .const (.int .i64 0)], (some 74), (some (72, false))⟩,
      ⟨(.prim .pick), [.tmp 72, .const (.bool true), .tmp 74], (some 75), none⟩,
      ⟨(.prim .id), [.tmp 75], (some 76), none⟩,
      ⟨(.prim .id), [.tmp 17], (some 77), (some (76, false))⟩,
      ⟨(.prim .len), [.tmp 77], (some 78), (some (76, false))⟩,
      ⟨(.prim (.bin .neq .none)), [.tmp 78, .const (.int .i64 64)], (some 79), (some (76, false))⟩,
      ⟨(.prim .pick), [.tmp 76, .const (.bool true), .tmp 79], (some 80), none⟩,
      ⟨(.prim .id), [.tmp 80], (some 81), none⟩,
      ⟨(.prim (.load (some 6))), [.tmp 19], (some 82), (some (81, false))⟩,
      ⟨(.prim .id), [.tmp 13], (some 83), (some (81, false))⟩,
      ⟨(.prim .id), [.tmp 16], (some 84), (some (81, false))⟩,
      ⟨(.prim (.idxSl (some 6))), [.tmp 83, .tmp 84], (some 85), (some (81, false))⟩,
      ⟨(.prim (.load (some 6))), [.tmp 85], (some 86), (some (81, false))⟩,
      ⟨(.call 19), [.tmp 82, .tmp 86], (some 87), (some (81, false))⟩,
      ⟨(.prim (.un .not)), [.tmp 87], (some 88), (some (81, false))⟩,
      ⟨(.prim .pick), [.tmp 81, .const (.bool true), .tmp 88], (some 89), none⟩] (some [[], [0], [1], [2], [3, 2], [2, 4], [5, 2], [6], [7, 6], [8, 6], [6, 9], [10, 6], [11], [11], [11], [13, 14, 11], [15, 11], [12, 16, 11, 11], [17, 11], [11, 18]]))
     (.cond (.tmp 89)
      (.seq (.region [⟨(.prim .id), [.const (.bool false)], (some 12), none⟩] none)
      .ret)
      .skip))
     (.seq (.region [⟨(.prim .id), [.tmp 15], (some 90), none⟩,
      ⟨(.prim (.load (some 6))), [.tmp 19], (some 91), none⟩,
      ⟨(.prim (.buildSl (some 6))), [.tmp 91], (some 92), none⟩,
      ⟨(.prim (.append (some 6))), [.tmp 90, .tmp 92], (some 93), none⟩,
      ⟨(.prim .id), [.tmp 93], (some 15), none⟩] none)
     (.seq (.region [⟨(.prim .id), [.tmp 4], (some 94), none⟩,
      ⟨(.prim (.bin .rem .none)), [.tmp 94, .const (.int .i64 512)], (some 95), none⟩,
      ⟨(.prim (.bin .add .none)), [.tmp 95, .const (.int .i64 512)], (some 96), none⟩,
      ⟨(.prim (.bin .rem .none)), [.tmp 96, .const (.int .i64 512)], (some 97), none⟩,
      ⟨(.prim .id), [.tmp 97], (some 21), none⟩] none)
     (.seq (.region [⟨(.prim .id), [.const (.sl .clip [])], (some 22), none⟩] none)
     (.seq (.region [⟨(.prim .id), [.tmp 22], (some 98), none⟩,
      ⟨(.prim .id), [.tmp 17], (some 99), none⟩,
      ⟨(.prim (.appendM none)), [.tmp 98, .tmp 99], (some 100), none⟩,
      ⟨(.prim .id), [.tmp 100], (some 22), none⟩] none)
     (.seq (.region [⟨(.prim .id), [.tmp 3], (some 101), none⟩,
      ⟨(.prim (.bin .or .none)), [.tmp 101, .const (.int .u32 1)], (some 102), none⟩,
      ⟨(.prim .id), [.tmp 102], (some 23), none⟩] none)
     (.seq (.seq (.region [⟨(.prim .id), [.const (.int .i64 0)], (some 24), none⟩] none)
     (.block 2
      (.loop
       (.seq (.seq (.region [⟨(.prim .id), [.tmp 24], (some 103), none⟩,
        ⟨(.prim (.bin .lss .none)), [.tmp 103, .const (.int .i64 32)], (some 104), none⟩,
        ⟨(.prim .id), [.tmp 104], (some 105), none⟩,
        ⟨(.prim .id), [.tmp 21], (some 106), (some (105, true))⟩,
        ⟨(.prim .id), [.tmp 24], (some 107), (some (105, true))⟩,
        ⟨(.prim (.bin .add .none)), [.tmp 106, .tmp 107], (some 108), (some (105, true))⟩,
        ⟨(.prim (.bin .lss .none)), [.tmp 108, .const (.int .i64 512)], (some 109), (some (105, true))⟩,
        ⟨(.prim .pick), [.tmp 105, .tmp 109, .const (.bool false)], (some 110), none⟩] none)
       (.cond (.tmp 110)
        .skip
        (.exit 2)))
       (.seq (.block 3
        (.seq (.region [⟨(.prim .id), [.tmp 23], (some 113), none⟩,
         ⟨(.prim .id), [.tmp 24], (some 114), none⟩,
         ⟨(.prim (.bin .shr .none)), [.tmp 113, .tmp 114], (some 115), none⟩,
         ⟨(.prim (.bin .and .none)), [.tmp 115, .const (.int .u32 1)], (some 116), none⟩,
         ⟨(.prim (.bin .eql .none)), [.tmp 116, .const (.int .u32 1)], (some 117), none⟩] none)
        (.cond (.tmp 117)
         (.region [⟨(.prim .id), [.tmp 22], (some 118), none⟩,
          ⟨(.prim .id), [.tmp 21], (some 119), none⟩,
          ⟨(.prim .id), [.tmp 24], (some 120), none⟩,
          ⟨(.prim (.bin .add .none)), [.tmp 119, .tmp 120], (some 121), none⟩,
          ⟨(.prim (.bin .quo .none)), [.tmp 121, .const (.int .i64 8)], (some 122), none⟩,
          ⟨(.prim .id), [.tmp 22], (some 123), none⟩,
          ⟨(.prim .id), [.tmp 21], (some 124), none⟩,
          ⟨(.prim .id), [.tmp 24], (some 125), none⟩,
          ⟨(.prim (.bin .add .none)), [.tmp 124, .tmp 125], (some 126), none⟩,
          ⟨(.prim (.bin .quo .none)), [.tmp 126, .const (.int .i64 8)], (some 127), none⟩,
          ⟨(.prim (.idxSl none)), [.tmp 123, .tmp 127], (some 128), none⟩,
          ⟨(.prim (.load none)), [.tmp 128], (some 129), none⟩,
          ⟨(.prim .id), [.tmp 21], (some 130), none⟩,
          ⟨(.prim .id), [.tmp 24], (some 131), none⟩,
          ⟨(.prim (.bin .add .none)), [.tmp 130, .tmp 131], (some 132), none⟩,
          ⟨(.prim (.bin .rem .none)), [.tmp 132, .const (.int .i64 8)], (some 133), none⟩,
          ⟨(.prim (.bin .shl .none)), [.const (.int .u8 1), .tmp 133], (some 134), none⟩,
          ⟨(.prim (.bin .xor .none)), [.tmp 129, .tmp 134], (some 135), none⟩,
          ⟨(.prim (.idxSl none)), [.tmp 118, .tmp 122], (some 136), none⟩,
          ⟨(.prim (.store none)), [.tmp 136, .tmp 135], none, none⟩] (some [[], [], [], [1, 2], [3], [], [], [], [6, 7], [8], [5, 9], [10], [], [], [12, 13], [14], [15], [11, 16], [0, 4, 0, 1, 2, 3, 4, 5, 6, 7, 8, 9, 10, 11, 12, 13, 14, 15, 16, 17], [18, 17, 0, 1, 2, 3, 4, 5, 6, 7, 8, 9, 10, 11, 12, 13, 14, 15, 16, 17]]))
         .skip)))
       (.region [⟨(.prim .id), [.tmp 24], (some 111), none⟩,
        ⟨(.prim (.bin .add .none)), [.tmp 111, .const (.int .i64 1)], (some 112), none⟩,
        ⟨(.prim .id), [.tmp 112], (some 24), none⟩] none))))))
     (.seq (.region [⟨(.prim .id), [.tmp 22], (some 138), none⟩,
      ⟨(.call 15), [.tmp 138], (some 139), none⟩,
      ⟨(.prim .id), [.tmp 139], (some 137), none⟩,
      ⟨(.prim (.extract 0)), [.tmp 137], (some 140), none⟩,
      ⟨(.prim (.extract 1)), [.tmp 137], (some 141), none⟩,
      ⟨(.prim (.alloc [(.int .i64 0), (.int .i64 0), (.int .i64 0), (.int .i64 0), (.int .u32 0), (.sl .clip [])])), [], (some 25), none⟩,
      ⟨(.prim (.store (some 6))), [.tmp 25, .tmp 140], none, none⟩,
      ⟨(.prim .id), [.tmp 141], (some 26), none⟩] none)
     (.seq (.region [⟨(.prim .id), [.tmp 26], (some 142), none⟩,
      ⟨(.prim (.bin .neq .none)), [.tmp 142, .const (.int .i64 40)], (some 143), none⟩] none)
     (.cond (.tmp 143)
      (.seq (.region [⟨(.prim .id), [.const (.bool false)], (some 12), none⟩] none)
      .ret)
      .skip)))))))))))))
    (.region [⟨(.prim .id), [.tmp 16], (some 55), none⟩,
     ⟨(.prim (.bin .add .none)), [.tmp 55, .const (.int .i64 1)], (some 56), none⟩,
     ⟨(.prim .id), [.tmp 56], (some 16), none⟩] none))))))
  (.seq (.region [⟨(.prim .id), [.tmp 15], (some 145), none⟩,
   ⟨(.call 10), [.tmp 145], (some 146), none⟩,
   ⟨(.prim .id), [.tmp 146], (some 144), none⟩,
   ⟨(.prim (.extract 0)), [.tmp 144], (some 147), none⟩,
   ⟨(.prim (.extract 1)), [.tmp 144], (some 148), none⟩,
   ⟨(.prim .id), [.tmp 147], (some 27), none⟩,
   ⟨(.prim .id), [.tmp 148], (some 28), none⟩] none)
  (.seq (.region [⟨(.prim .id), [.tmp 28], (some 149), none⟩,
   ⟨(.prim (.bin .neq .none)), [.tmp 149, .const (.int .i64 0)], (some 150), none⟩,
   ⟨(.prim .id), [.tmp 150], (some 151), none⟩,
   ⟨(.prim .id), [.tmp 27], (some 152), (some (151, false))⟩,
   ⟨(.prim .strOf), [.tmp 152], (some 153), (some (151, false))⟩,
   ⟨(.prim .id), [.tmp 0], (some 154), (some (151, false))⟩,
   ⟨(.prim .strOf), [.tmp 154], (some 155), (some (151, false))⟩,
   ⟨(.prim (.bin .neq .none)), [.tmp 153, .tmp 155], (some 156), (some (151, false))⟩,
   ⟨(.prim .pick), [.tmp 151, .const (.bool true), .tmp 156], (some 157), none⟩] none)
  (.cond (.tmp 157)
   (.seq (.region [⟨(.prim .id), [.const (.bool false)], (some 12), none⟩] none)
   .ret)
   .skip)))))
  .skip))
 (.seq (.region [⟨(.prim .id), [.tmp 5], (some 159), none⟩,
  ⟨(.call 15), [.tmp 159], (some 160), none⟩,
  ⟨(.prim .id), [.tmp 160], (some 158), none⟩,
  ⟨(.prim (.extract 0)), [.tmp 158], (some 161), none⟩,
  ⟨(.prim (.extract 1)), [.tmp 158], (some 162), none⟩,
  ⟨(.prim (.alloc [(.int .i64 0), (.int .i64 0), (.int .i64 0), (.int .i64 0), (.int .u32 0), (.sl .clip [])])), [], (some 29), none⟩,
  ⟨(.prim (.store (some 6))), [.tmp 29, .tmp 161], none, none⟩,
  ⟨(.prim .id), [.tmp 162], (some 30), none⟩] none)
 (.seq (.seq (.region [⟨(.prim .id), [.tmp 30], (some 163), none⟩,
  ⟨(.prim (.bin .neq .none)), [.tmp 163, .const (.int .i64 0)], (some 164), none⟩] none)
 (.cond (.tmp 164)
  (.seq (.region [⟨(.call 7), [], (some 165), none⟩,
   ⟨(.prim .id), [.tmp 165], (some 12), none⟩] none)
  .ret)
  .skip))
 (.seq (.region [⟨(.prim (.load (some 6))), [.tmp 29], (some 167), none⟩,
  ⟨(.call 13), [.tmp 167], (some 168), none⟩,
  ⟨(.prim .id), [.tmp 168], (some 166), none⟩,
  ⟨(.prim (.extract 0)), [.tmp 166], (some 169), none⟩,
  ⟨(.prim (.extract 1)), [.tmp 166], (some 170), none⟩,
  ⟨(.prim .id), [.tmp 169], (some 31), none⟩,
  ⟨(.prim .id), [.tmp 170], (some 32), none⟩] none)
 (.seq (.region [⟨(.prim .id), [.tmp 32], (some 171), none⟩,
  ⟨(.prim (.bin .eql .none)), [.tmp 171, .const (.int .i64 0)], (some 172), none⟩,
  ⟨(.prim .id), [.tmp 172], (some 173), none⟩,
  ⟨(.prim .id), [.tmp 31], (some 174), (some (173, true))⟩,
  ⟨(.prim .strOf), [.tmp 174], (some 175), (some (173, true))⟩,
  ⟨(.prim .id), [.tmp 5], (some 176), (some (173, true))⟩,
  ⟨(.prim .strOf), [.tmp 176], (some 177), (some (173, true))⟩,
  ⟨(.prim (.bin .eql .none)), [.tmp 175, .tmp 177], (some 178), (some (173, true))⟩,
  ⟨(.prim .pick), [.tmp 173, .tmp 178, .const (.bool false)], (some 179), none⟩,
  ⟨(.prim .id), [.tmp 179], (some 180), none⟩,
  ⟨(.call 7), [], (some 181), (some (180, true))⟩,
  ⟨(.prim .pick), [.tmp 180, .tmp 181, .const (.bool false)], (some 182), none⟩,
  ⟨(.prim .id), [.tmp 182], (some 12), none⟩] none)
 .ret))))))))
theorem F6m : IsFun Try.prog 6 6 183 c6m [.tmp 12] := ⟨by decide, Try.f6, _, [100], Try.func6, rfl, by decide, rfl, by kernel_rfl, by kernel_rfl⟩

/-- cashbox/cashboxlaw04.wakes -/
def c7 : ACode :=
 (.seq (.region [⟨(.prim .id), [.const (.bool false)], (some 0), none⟩] none)
 (.seq (.region [⟨(.prim (.mkslice none [(.int .u8 0)])), [.const (.int .i64 85), .const (.int .i64 85)], (some 8), none⟩,
  ⟨(.call 8), [.tmp 8, .const (.int .i64 7), .const (.int .i64 1)], (some 9), none⟩,
  ⟨(.prim .id), [.tmp 9], (some 7), none⟩,
  ⟨(.prim (.extract 0)), [.tmp 7], (some 10), none⟩,
  ⟨(.prim (.extract 1)), [.tmp 7], (some 11), none⟩,
  ⟨(.prim .id), [.tmp 10], (some 1), none⟩,
  ⟨(.prim .id), [.tmp 11], (some 2), none⟩] none)
 (.seq (.seq (.region [⟨(.prim .id), [.tmp 2], (some 12), none⟩,
  ⟨(.prim (.bin .neq .none)), [.tmp 12, .const (.int .i64 0)], (some 13), none⟩,
  ⟨(.prim .id), [.tmp 13], (some 14), none⟩,
  ⟨(.prim .id), [.tmp 1], (some 15), (some (14, false))⟩,
  ⟨(.prim .len), [.tmp 15], (some 16), (some (14, false))⟩,
  ⟨(.prim (.bin .neq .none)), [.tmp 16, .const (.int .i64 2)], (some 17), (some (14, false))⟩,
  ⟨(.prim .pick), [.tmp 14, .const (.bool true), .tmp 17], (some 18), none⟩] none)
 (.cond (.tmp 18)
  (.seq (.region [⟨(.prim .id), [.const (.bool false)], (some 0), none⟩] none)
  .ret)
  .skip))
 (.seq (.region [⟨(.prim .id), [.tmp 1], (some 20), none⟩,
  ⟨(.call 10), [.tmp 20], (some 21), none⟩,
  ⟨(.prim .id), [.tmp 21], (some 19), none⟩,
  ⟨(.prim (.extract 0)), [.tmp 19], (some 22), none⟩,
  ⟨(.prim (.extract 1)), [.tmp 19], (some 23), none⟩,
  ⟨(.prim .id), [.tmp 22], (some 3), none⟩,
  ⟨(.prim .id), [.tmp 23], (some 4), none⟩] none)
 (.seq (.region [⟨(.prim .id), [.tmp 1], (some 25), none⟩,
  ⟨(.prim (.slcSl (some 6) true false false)), [.tmp 25, .const (.int .i64 1)], (some 26), none⟩,
  ⟨(.call 10), [.tmp 26], (some 27), none⟩,
  ⟨(.prim .id), [.tmp 27], (some 24), none⟩,
  ⟨(.prim (.extract 0)), [.tmp 24], (some 28), none⟩,
  ⟨(.prim (.extract 1)), [.tmp 24], (some 29), none⟩,
  ⟨(.prim .id), [.tmp 28], (some 5), none⟩,
  ⟨(.prim .id), [.tmp 29], (some 6), none⟩] none)
 (.seq (.region [⟨(.prim .id), [.tmp 1], (some 30), none⟩,
  ⟨(.prim (.idxSl (some 6))), [.tmp 30, .const (.int .i64 0)], (some 31), none⟩,
  ⟨(.prim (.fieldAddr 5 none)), [.tmp 31], (some 32), none⟩,
  ⟨(.prim (.load none)), [.tmp 32], (some 33), none⟩,
  ⟨(.prim .len), [.tmp 33], (some 34), none⟩,
  ⟨(.prim (.bin .eql .none)), [.tmp 34, .const (.int .i64 45)], (some 35), none⟩,
  ⟨(.prim .id), [.tmp 35], (some 36), none⟩,
  ⟨(.prim .id), [.tmp 1], (some 37), (some (36, true))⟩,
  ⟨(.prim (.idxSl (some 6))), [.tmp 37, .const (.int .i64 1)], (some 38), (some (36, true))⟩,
  ⟨(.prim (.fieldAddr 5 none)), [.tmp 38], (some 39), (some (36, true))⟩,
  ⟨(.prim (.load none)), [.tmp 39], (some 40), (some (36, true))⟩,
  ⟨(.prim .len), [.tmp 40], (some 41), (some (36, true))⟩,
  ⟨(.prim (.bin .eql .none)), [.tmp 41, .const (.int .i64 40)], (some 42), (some (36, true))⟩,
  ⟨(.prim .pick), [.tmp 36, .tmp 42, .const (.bool false)], (some 43), none⟩,
  ⟨(.prim .id), [.tmp 43], (some 44), none⟩,
  ⟨(.prim .id), [.tmp 1], (some 45), (some (44, true))⟩,
  ⟨(.prim (.idxSl (some 6))), [.tmp 45, .const (.int .i64 1)], (some 46), (some (44, true))⟩,
  ⟨(.prim (.fieldAddr 0 none)), [.tmp 46], (some 47), (some (44, true))⟩,
  ⟨(.prim (.load none)), [.tmp 47], (some 48), (some (44, true))⟩,
  ⟨(.prim (.bin .eql .none)), [.tmp 48, .const (.int .i64 8)], (some 49), (some (44, true))⟩,
  ⟨(.prim .pick), [.tmp 44, .tmp 49, .const (.bool false)], (some 50), none⟩,
  ⟨(.prim .id), [.tmp 50], (some 51), none⟩,
  ⟨(.prim .id), [.tmp 1], (some 52), (some (51, true))⟩,
  ⟨(.prim (.idxSl (some 6))), [.tmp 52, .const (.int .i64 1)], (some 53), (some (51, true))⟩,
  ⟨(.prim (.fieldAddr 2 none)), [.tmp 53], (some 54), (some (51, true))⟩,
  ⟨(.prim (.load none)), [.tmp 54], (some 55), (some (51, true))⟩,
  ⟨(.prim (.bin .eql .none)), [.tmp 55, .const (.int .i64 1)], (some 56), (some (51, true))⟩,
  ⟨(.prim .pick), [.tmp 51, .tmp 56, .const (.bool false)], (some 57), none⟩,
  ⟨(.prim .id), [.tmp 57], (some 58), none⟩,
  ⟨(.prim .id), [.tmp 4], (some 59), (some (58, true))⟩,
  ⟨(.prim (.bin .eql .none)), [.tmp 59, .const (.int .i64 0)], (some 60), (some (58, true))⟩,
  ⟨(.prim .pick), [.tmp 58, .tmp 60, .const (.bool false)], (some 61), none⟩,
  ⟨(.prim .id), [.tmp 61], (some 62), none⟩,
  ⟨(.prim .id), [.tmp 3], (some 63), (some (62, true))⟩,
  ⟨(.prim .len), [.tmp 63], (some 64), (some (62, true))⟩,
  ⟨(.prim (.bin .eql .none)), [.tmp 64, .const (.int .i64 85)], (some 65), (some (62, true))⟩,
  ⟨(.prim .pick), [.tmp 62, .tmp 65, .const (.bool false)], (some 66), none⟩,
  ⟨(.prim .id), [.tmp 66], (some 67), none⟩,
  ⟨(.prim .id), [.tmp 6], (some 68), (some (67, true))⟩,
  ⟨(.prim (.bin .eql .none)), [.tmp 68, .const (.int .i64 40)], (some 69), (some (67, true))⟩,
  ⟨(.prim .pick), [.tmp 67, .tmp 69, .const (.bool false)], (some 70), none⟩,
  ⟨(.prim .id), [.tmp 70], (some 0), none⟩] none)
 .ret))))))
theorem F7 : IsFun Try.prog 7 0 71 c7 [.tmp 0] := ⟨by decide, Try.f7, _, [], Try.func7, rfl, by decide, rfl, by kernel_rfl, by kernel_rfl⟩

-- loop: 0:b, 1:seq, 2:inc, 6:out, 8:of, 9:mark, 48:, 49:
/-- cashbox/frame.Cut -/
def c8 : ACode :=
 (.seq (.region [⟨(.prim .id), [.const (.sl .clip [])], (some 6), none⟩,
  ⟨(.prim .id), [.const (.int .i64 0)], (some 7), none⟩] none)
 (.seq (.region [⟨(.prim .id), [.tmp 0], (some 12), none⟩,
  ⟨(.prim .len), [.tmp 12], (some 13), none⟩,
  ⟨(.prim (.bin .add .none)), [.tmp 13, .const (.int .i64 45)], (some 14), none⟩,
  ⟨(.prim (.bin .sub .none)), [.tmp 14, .const (.int .i64 1)], (some 15), none⟩,
  ⟨(.prim (.bin .quo .none)), [.tmp 15, .const (.int .i64 45)], (some 16), none⟩,
  ⟨(.prim .id), [.tmp 16], (some 8), none⟩] none)
 (.seq (.block 0
  (.seq (.region [⟨(.prim .id), [.tmp 0], (some 18), none⟩,
   ⟨(.prim .len), [.tmp 18], (some 19), none⟩,
   ⟨(.prim (.bin .eql .none)), [.tmp 19, .const (.int .i64 0)], (some 20), none⟩,
   ⟨(.prim .id), [.tmp 20], (some 21), none⟩,
   ⟨(.prim .id), [.tmp 1], (some 22), (some (21, false))⟩,
   ⟨(.prim (.bin .lss .none)), [.tmp 22, .const (.int .i64 1)], (some 23), (some (21, false))⟩,
   ⟨(.prim .pick), [.tmp 21, .const (.bool true), .tmp 23], (some 24), none⟩,
   ⟨(.prim .id), [.tmp 24], (some 25), none⟩,
   ⟨(.prim .id), [.tmp 1], (some 26), (some (25, false))⟩,
   ⟨(.prim (.bin .gtr .none)), [.tmp 26, .const (.int .i64 1099511627776)], (some 27), (some (25, false))⟩,
   ⟨(.prim .pick), [.tmp 25, .const (.bool true), .tmp 27], (some 28), none⟩,
   ⟨(.prim .id), [.tmp 28], (some 29), none⟩,
   ⟨(.prim .id), [.tmp 2], (some 30), (some (29, false))⟩,
   ⟨(.prim (.bin .lss .none)), [.tmp 30, .const (.int .i64 0)], (some 31), (some (29, false))⟩,
   ⟨(.prim .pick), [.tmp 29, .const (.bool true), .tmp 31], (some 32), none⟩,
   ⟨(.prim .id), [.tmp 32], (some 33), none⟩,
   ⟨(.prim .id), [.tmp 2], (some 34), (some (33, false))⟩,
   ⟨(.prim (.bin .gtr .none)), [.tmp 34, .const (.int .i64 1048576)], (some 35), (some (33, false))⟩,
   ⟨(.prim .pick), [.tmp 33, .const (.bool true), .tmp 35], (some 36), none⟩,
   ⟨(.prim .id), [.tmp 36], (some 17), none⟩] none)
  (.cond (.tmp 17)
   (.seq (.region [⟨(.prim .id), [.const (.sl .clip [])], (some 6), none⟩,
    ⟨(.prim .id), [.const (.int .i64 2)], (some 7), none⟩] none)
   .ret)
   (.seq (.region [⟨(.prim .id), [.tmp 8], (some 38), none⟩,
    ⟨(.prim (.bin .gtr .none)), [.tmp 38, .const (.int .i64 2)], (some 39), none⟩,
    ⟨(.prim .id), [.tmp 39], (some 37), none⟩] none)
   (.cond (.tmp 37)
    (.seq (.region [⟨(.prim .id), [.const (.sl .clip [])], (some 6), none⟩,
     ⟨(.prim .id), [.const (.int .i64 3)], (some 7), none⟩] none)
    .ret)
    (.seq (.region [⟨(.prim .id), [.tmp 1], (some 41), none⟩,
     ⟨(.prim .id), [.tmp 8], (some 42), none⟩,
     ⟨(.prim (.bin .add .none)), [.tmp 41, .tmp 42], (some 43), none⟩,
     ⟨(.prim (.bin .sub .none)), [.tmp 43, .const (.int .i64 1)], (some 44), none⟩,
     ⟨(.prim (.bin .gtr .none)), [.tmp 44, .const (.int .i64 1099511627776)], (some 45), none⟩,
     ⟨(.prim .id), [.tmp 45], (some 40), none⟩] none)
    (.cond (.tmp 40)
     (.seq (.region [⟨(.prim .id), [.const (.sl .clip [])], (some 6), none⟩,
      ⟨(.prim .id), [.const (.int .i64 2)], (some 7), none⟩] none)
     .ret)
     .skip)))))))
 (.seq (.region [⟨(.prim .id), [.tmp 0], (some 46), none⟩,
  ⟨(.call 20), [.tmp 46], (some 47), none⟩,
  ⟨(.prim .id), [.tmp 47], (some 9), none⟩] none)
 (.seq (.seq (.region [⟨(.prim .id), [.tmp 8], (some 48), none⟩,
  ⟨(.prim .id), [.const (.int .i64 0)], (some 49), none⟩] none)
 (.block 1
  (.loop
   (.seq (.region [⟨(.prim (.bin .lss .none)), [.tmp 49, .tmp 48], (some 50), none⟩] none)
   (.seq (.cond (.tmp 50)
    .skip
    (.exit 1))
   (.seq (.block 2
    (.seq (.region [⟨(.prim .id), [.tmp 49], (some 51), none⟩,
     ⟨(.prim .id), [.tmp 51], (some 10), none⟩] none)
    (.seq (.region [⟨(.prim .id), [.tmp 0], (some 52), none⟩,
     ⟨(.prim .len), [.tmp 52], (some 53), none⟩,
     ⟨(.prim (.minmax false)), [.const (.int .i64 45), .tmp 53], (some 54), none⟩,
     ⟨(.prim .id), [.tmp 54], (some 11), none⟩] none)
    (.seq (.region [⟨(.prim .id), [.tmp 6], (some 55), none⟩,
     ⟨(.prim .id), [.tmp 1], (some 56), none⟩,
     ⟨(.prim .id), [.tmp 10], (some 57), none⟩,
     ⟨(.prim (.bin .add .none)), [.tmp 56, .tmp 57], (some 58), none⟩,
     ⟨(.prim .id), [.tmp 2], (some 59), none⟩,
     ⟨(.prim .id), [.tmp 10], (some 60), none⟩,
     ⟨(.prim .id), [.tmp 8], (some 61), none⟩,
     ⟨(.prim .id), [.tmp 9], (some 62), none⟩,
     ⟨(.prim .id), [.tmp 0], (some 63), none⟩,
     ⟨(.prim .id), [.tmp 11], (some 64), none⟩,
     ⟨(.prim .id), [.tmp 11], (some 65), none⟩,
     ⟨(.prim (.slcSl none false true true)), [.tmp 63, .tmp 64, .tmp 65], (some 66), none⟩,
     ⟨(.prim (.append none)), [.const (.sl .clip []), .tmp 66], (some 67), none⟩,
     ⟨(.prim (.build [(.int .i64 0), (.int .i64 0), (.int .i64 0), (.int .i64 0), (.int .u32 0), (.sl .clip [])] [(0, 1), (1, 1), (2, 1), (3, 1), (4, 1), (5, 1)])), [.tmp 58, .tmp 59, .tmp 60, .tmp 61, .tmp 62, .tmp 67], (some 68), none⟩,
     ⟨(.prim (.buildSl (some 6))), [.tmp 68], (some 69), none⟩,
     ⟨(.prim (.append (some 6))), [.tmp 55, .tmp 69], (some 70), none⟩,
     ⟨(.prim .id), [.tmp 70], (some 6), none⟩] none)
    (.region [⟨(.prim .id), [.tmp 0], (some 71), none⟩,
     ⟨(.prim .id), [.tmp 11], (some 72), none⟩,
     ⟨(.prim (.slcSl none true false false)), [.tmp 71, .tmp 72], (some 73), none⟩,
     ⟨(.prim .id), [.tmp 73], (some 0), none⟩] none)))))
   (.region [⟨(.prim (.bin .add .none)), [.tmp 49, .const (.int .i64 1)], (some 74), none⟩,
    ⟨(.prim .id), [.tmp 74], (some 49), none⟩] none)))))))
 (.seq (.region [⟨(.prim .id), [.tmp 6], (some 75), none⟩,
  ⟨(.prim .id), [.tmp 75], (some 6), none⟩,
  ⟨(.prim .id), [.const (.int .i64 0)], (some 7), none⟩] none)
 .ret))))))
theorem F8 : IsFun Try.prog 8 3 76 c8 [.tmp 6, .tmp 7] := ⟨by decide, Try.f8, _, [], Try.func8, rfl, by decide, rfl, by kernel_rfl, by kernel_rfl⟩

/-- cashbox/cashboxref01.Sum -/
def c9 : ACode :=
 (.seq (.region [⟨(.prim .id), [.const (.int .u32 0)], (some 2), none⟩] none)
 (.seq (.region [⟨(.prim .id), [.tmp 0], (some 3), none⟩,
  ⟨(.call 21), [.const (.int .u32 0), .tmp 3], (some 4), none⟩,
  ⟨(.prim .id), [.tmp 4], (some 2), none⟩] none)
 .ret))
theorem F9 : IsFun Try.prog 9 1 5 c9 [.tmp 2] := ⟨by decide, Try.f9, _, [], Try.func9, rfl, by decide, rfl, by kernel_rfl, by kernel_rfl⟩

-- loop: 0:l, 2:b, 4:ok, 15:, 16:, 17:
/-- cashbox/frame.Join -/
def c10 : ACode :=
 (.seq (.region [⟨(.prim .id), [.const (.sl .clip [])], (some 2), none⟩,
  ⟨(.prim .id), [.const (.int .i64 0)], (some 3), none⟩] none)
 (.scope
  (.seq (.region [⟨(.prim .id), [.tmp 0], (some 7), none⟩,
   ⟨(.prim .len), [.tmp 7], (some 8), none⟩,
   ⟨(.prim (.bin .gtr .none)), [.tmp 8, .const (.int .i64 0)], (some 9), none⟩,
   ⟨(.prim .id), [.tmp 9], (some 10), none⟩,
   ⟨(.prim .id), [.tmp 0], (some 11), (some (10, true))⟩,
   ⟨(.prim .len), [.tmp 11], (some 12), (some (10, true))⟩,
   ⟨(.prim (.bin .leq .none)), [.tmp 12, .const (.int .i64 2)], (some 13), (some (10, true))⟩,
   ⟨(.prim .pick), [.tmp 10, .tmp 13, .const (.bool false)], (some 14), none⟩,
   ⟨(.prim .id), [.tmp 14], (some 4), none⟩] none)
  (.seq .skip
  (.seq (.seq (.region [⟨(.prim .id), [.tmp 0], (some 15), none⟩,
   ⟨(.prim .len), [.tmp 15], (some 16), none⟩,
   ⟨(.prim .id), [.const (.int .i64 0)], (some 17), none⟩] none)
  (.block 0
   (.loop
    (.seq (.region [⟨(.prim (.bin .lss .none)), [.tmp 17, .tmp 16], (some 18), none⟩] none)
    (.seq (.cond (.tmp 18)
     .skip
     (.exit 0))
    (.seq (.block 1
     (.seq (.region [⟨(.prim .id), [.tmp 17], (some 19), none⟩,
      ⟨(.prim (.idxSl (some 6))), [.tmp 15, .tmp 17], (some 20), none⟩,
      ⟨(.prim (.load (some 6))), [.tmp 20], (some 21), none⟩,
      ⟨(.prim (.alloc [(.int .i64 0), (.int .i64 0), (.int .i64 0), (.int .i64 0), (.int .u32 0), (.sl .clip [])])), [], (some 6), none⟩,
      ⟨(.prim .id), [.tmp 19], (some 5), none⟩,
      ⟨(.prim (.store (some 6))), [.tmp 6, .tmp 21], none, none⟩] none)
     (.seq (.region [⟨(.prim .id), [.tmp 4], (some 22), none⟩,
      ⟨(.prim .id), [.tmp 22], (some 23), none⟩,
      ⟨(.prim (.load (some 6))), [.tmp 6], (some 24), (some (23, true))⟩,
      ⟨(.call 11), [.tmp 24], (some 25), (some (23, true))⟩,
      ⟨(.prim .pick), [.tmp 23, .tmp 25, .const (.bool false)], (some 26), none⟩,
      ⟨(.prim .id), [.tmp 26], (some 27), none⟩,
      ⟨(.prim (.fieldAddr 2 none)), [.tmp 6], (some 28), (some (27, true))⟩,
      ⟨(.prim (.load none)), [.tmp 28], (some 29), (some (27, true))⟩,
      ⟨(.prim .id), [.tmp 5], (some 30), (some (27, true))⟩,
      ⟨(.prim (.bin .eql .none)), [.tmp 29, .tmp 30], (some 31), (some (27, true))⟩,
      ⟨(.prim .pick), [.tmp 27, .tmp 31, .const (.bool false)], (some 32), none⟩,
      ⟨(.prim .id), [.tmp 32], (some 33), none⟩,
      ⟨(.prim (.fieldAddr 3 none)), [.tmp 6], (some 34), (some (33, true))⟩,
      ⟨(.prim (.load none)), [.tmp 34], (some 35), (some (33, true))⟩,
      ⟨(.prim .id), [.tmp 0], (some 36), (some (33, true))⟩,
      ⟨(.prim .len), [.tmp 36], (some 37), (some (33, true))⟩,
      ⟨(.prim (.bin .eql .none)), [.tmp 35, .tmp 37], (some 38), (some (33, true))⟩,
      ⟨(.prim .pick), [.tmp 33, .tmp 38, .const (.bool false)], (some 39), none⟩,
      ⟨(.prim .id), [.tmp 39], (some 40), none⟩,
      ⟨(.prim (.fieldAddr 0 none)), [.tmp 6], (some 41), (some (40, true))⟩,
      ⟨(.prim (.load none)), [.tmp 41], (some 42), (some (40, true))⟩,
      ⟨(.prim .id), [.tmp 0], (some 43), (some (40, true))⟩,
      ⟨(.prim (.idxSl (some 6))), [.tmp 43, .const (.int .i64 0)], (some 44), (some (40, true))⟩,
      ⟨(.prim (.fieldAddr 0 none)), [.tmp 44], (some 45), (some (40, true))⟩,
      ⟨(.prim (.load none)), [.tmp 45], (some 46), (some (40, true))⟩,
      ⟨(.prim .id), [.tmp 5], (some 47), (some (40, true))⟩,
      ⟨(.prim (.bin .add .none)), [.tmp 46, .tmp 47], (some 48), (some (40, true))⟩,
      ⟨(.prim (.bin .eql .none)), [.tmp 42, .tmp 48], (some 49), (some (40, true))⟩,
      ⟨(.prim .pick), [.tmp 40, .tmp 49, .const (.bool false)], (some 50), none⟩,
      ⟨(.prim .id), [.tmp 50], (some 51), none⟩,
      ⟨(.prim (.fieldAddr 1 none)), [.tmp 6], (some 52), (some (51, true))⟩,
      ⟨(.prim (.load none)), [.tmp 52], (some 53), (some (51, true))⟩,
      ⟨(.prim .id), [.tmp 0], (some 54), (some (51, true))⟩,
      ⟨(.prim (.idxSl (some 6))), [.tmp 54, .const (.int .i64 0)], (some 55), (some (51, true))⟩,
      ⟨(.prim (.fieldAddr 1 none)), [.tmp 55], (some 56), (some (51, true))⟩,
      ⟨(.prim (.load none)), [.tmp 56], (some 57), (some (51, true))⟩,
      ⟨(.prim (.bin .eql .none)), [.tmp 53, .tmp 57], (some 58), (some (51, true))⟩,
      ⟨(.prim .pick), [.tmp 51, .tmp 58, .const (.bool false)], (some 59), none⟩,
      ⟨(.prim .id), [.tmp 59], (some 60), none⟩,
      ⟨(.prim (.fieldAddr 4 none)), [.tmp 6], (some 61), (some (60, true))⟩,
      ⟨(.prim (.load none)), [.tmp 61], (some 62), (some (60, true))⟩,
      ⟨(.prim .id), [.tmp 0], (some 63), (some (60, true))⟩,
      ⟨(.prim (.idxSl (some 6))), [.tmp 63, .const (.int .i64 0)], (some 64), (some (60, true))⟩,
      ⟨(.prim (.fieldAddr 4 none)), [.tmp 64], (some 65), (some (60, true))⟩,
      ⟨(.prim (.load none)), [.tmp 65], (some 66), (some (60, true))⟩,
      ⟨(.prim (.bin .eql .none)), [.tmp 62, .tmp 66], (some 67), (some (60, true))⟩,
      ⟨(.prim .pick), [.tmp 60, .tmp 67, .const (.bool false)], (some 68), none⟩,
      ⟨(.prim .id), [.tmp 68], (some 4), none⟩] (some [[], [0], [1], [2, 1, 1], [1, 3], [4, 3], [5], [6, 5], [5], [7, 8, 5], [5, 9], [10, 5], [11], [12, 11], [11], [14, 11], [13, 15, 11], [11, 16], [17, 11], [18], [19, 18], [18], [21, 18], [22, 18], [23, 18], [18], [24, 25, 18], [20, 26, 18], [18, 27], [28, 18], [29], [30, 29], [29], [32, 29], [33, 29], [34, 29], [31, 35, 29], [29, 36], [37, 29], [38], [39, 38], [38], [41, 38], [42, 38], [43, 38], [40, 44, 38], [38, 45], [46, 38, 0, 1, 2, 3, 4, 5, 6, 7, 8, 9, 10, 11, 12, 13, 14, 15, 16, 17, 18, 19, 20, 21, 22, 23, 24, 25, 26, 27, 28, 29, 30, 31, 32, 33, 34, 35, 36, 37, 38, 39, 40, 41, 42, 43, 44, 45, 46]]))
     (.seq (.seq (.region [⟨(.prim .id), [.tmp 4], (some 69), none⟩,
      ⟨(.prim (.un .not)), [.tmp 69], (some 70), none⟩] none)
     (.cond (.tmp 70)
      (.exit 0)
      .skip))
     (.region [⟨(.prim .id), [.tmp 2], (some 71), none⟩,
      ⟨(.prim (.fieldAddr 5 none)), [.tmp 6], (some 72), none⟩,
      ⟨(.prim (.load none)), [.tmp 72], (some 73), none⟩,
      ⟨(.prim (.append none)), [.tmp 71, .tmp 73], (some 74), none⟩,
      ⟨(.prim .id), [.tmp 74], (some 2), none⟩] none)))))
    (.region [⟨(.prim (.bin .add .none)), [.tmp 17, .const (.int .i64 1)], (some 75), none⟩,
     ⟨(.prim .id), [.tmp 75], (some 17), none⟩] none)))))))
  (.seq (.seq (.region [⟨(.prim .id), [.tmp 4], (some 76), none⟩,
   ⟨(.prim (.un .not)), [.tmp 76], (some 77), none⟩,
   ⟨(.prim .id), [.tmp 77], (some 78), none⟩,
   ⟨(.prim .id), [.tmp 2], (some 79), (some (78, false))⟩,
   ⟨(.call 20), [.tmp 79], (some 80), (some (78, false))⟩,
   ⟨(.prim .id), [.tmp 0], (some 81), (some (78, false))⟩,
   ⟨(.prim (.idxSl (some 6))), [.tmp 81, .const (.int .i64 0)], (some 82), (some (78, false))⟩,
   ⟨(.prim (.fieldAddr 4 none)), [.tmp 82], (some 83), (some (78, false))⟩,
   ⟨(.prim (.load none)), [.tmp 83], (some 84), (some (78, false))⟩,
   ⟨(.prim (.bin .neq .none)), [.tmp 80, .tmp 84], (some 85), (some (78, false))⟩,
   ⟨(.prim .pick), [.tmp 78, .const (.bool true), .tmp 85], (some 86), none⟩] (some [[], [0], [1], [2], [3, 2, 2], [2], [5, 2], [6, 2], [7, 2], [4, 8, 2], [2, 9]]))
  (.cond (.tmp 86)
   (.seq (.region [⟨(.prim .id), [.const (.sl .clip [])], (some 2), none⟩,
    ⟨(.prim .id), [.const (.int .i64 40)], (some 3), none⟩] none)
   .ret)
   .skip))
  (.seq (.region [⟨(.prim .id), [.tmp 2], (some 87), none⟩,
   ⟨(.prim .id), [.tmp 87], (some 2), none⟩,
   ⟨(.prim .id), [.const (.int .i64 0)], (some 3), none⟩] none)
  .ret)))))))
theorem F10 : IsFun Try.prog 10 1 88 c10 [.tmp 2, .tmp 3] := ⟨by decide, Try.f10, _, [], Try.func10, rfl, by decide, rfl, by kernel_rfl, by kernel_rfl⟩

/-- cashbox/frame.May -/
def c11 : ACode :=
 (.seq (.region [⟨(.prim (.box (some 6))), [.tmp 0], (some 1), none⟩,
  ⟨(.prim .id), [.const (.bool false)], (some 2), none⟩] none)
 (.seq (.region [⟨(.prim (.fieldAddr 5 none)), [.tmp 1], (some 4), none⟩,
  ⟨(.prim (.load none)), [.tmp 4], (some 5), none⟩,
  ⟨(.prim .len), [.tmp 5], (some 6), none⟩,
  ⟨(.prim .id), [.tmp 6], (some 3), none⟩] none)
 (.seq (.block 0
  (.seq (.region [⟨(.prim (.fieldAddr 0 none)), [.tmp 1], (some 8), none⟩,
   ⟨(.prim (.load none)), [.tmp 8], (some 9), none⟩,
   ⟨(.prim (.bin .lss .none)), [.tmp 9, .const (.int .i64 1)], (some 10), none⟩,
   ⟨(.prim .id), [.tmp 10], (some 11), none⟩,
   ⟨(.prim (.fieldAddr 0 none)), [.tmp 1], (some 12), (some (11, false))⟩,
   ⟨(.prim (.load none)), [.tmp 12], (some 13), (some (11, false))⟩,
   ⟨(.prim (.bin .gtr .none)), [.tmp 13, .const (.int .i64 1099511627776)], (some 14), (some (11, false))⟩,
   ⟨(.prim .pick), [.tmp 11, .const (.bool true), .tmp 14], (some 15), none⟩,
   ⟨(.prim .id), [.tmp 15], (some 16), none⟩,
   ⟨(.prim (.fieldAddr 1 none)), [.tmp 1], (some 17), (some (16, false))⟩,
   ⟨(.prim (.load none)), [.tmp 17], (some 18), (some (16, false))⟩,
   ⟨(.prim (.bin .lss .none)), [.tmp 18, .const (.int .i64 0)], (some 19), (some (16, false))⟩,
   ⟨(.prim .pick), [.tmp 16, .const (.bool true), .tmp 19], (some 20), none⟩,
   ⟨(.prim .id), [.tmp 20], (some 21), none⟩,
   ⟨(.prim (.fieldAddr 1 none)), [.tmp 1], (some 22), (some (21, false))⟩,
   ⟨(.prim (.load none)), [.tmp 22], (some 23), (some (21, false))⟩,
   ⟨(.prim (.bin .gtr .none)), [.tmp 23, .const (.int .i64 1048576)], (some 24), (some (21, false))⟩,
   ⟨(.prim .pick), [.tmp 21, .const (.bool true), .tmp 24], (some 25), none⟩,
   ⟨(.prim .id), [.tmp 25], (some 7), none⟩] none)
  (.cond (.tmp 7)
   (.seq (.region [⟨(.prim .id), [.const (.bool false)], (some 2), none⟩] none)
   .ret)
   (.seq (.region [⟨(.prim (.fieldAddr 3 none)), [.tmp 1], (some 27), none⟩,
    ⟨(.prim (.load none)), [.tmp 27], (some 28), none⟩,
    ⟨(.prim (.bin .lss .none)), [.tmp 28, .const (.int .i64 1)], (some 29), none⟩,
    ⟨(.prim .id), [.tmp 29], (some 30), none⟩,
    ⟨(.prim (.fieldAddr 3 none)), [.tmp 1], (some 31), (some (30, false))⟩,
    ⟨(.prim (.load none)), [.tmp 31], (some 32), (some (30, false))⟩,
    ⟨(.prim (.bin .gtr .none)), [.tmp 32, .const (.int .i64 2)], (some 33), (some (30, false))⟩,
    ⟨(.prim .pick), [.tmp 30, .const (.bool true), .tmp 33], (some 34), none⟩,
    ⟨(.prim .id), [.tmp 34], (some 35), none⟩,
    ⟨(.prim (.fieldAddr 2 none)), [.tmp 1], (some 36), (some (35, false))⟩,
    ⟨(.prim (.load none)), [.tmp 36], (some 37), (some (35, false))⟩,
    ⟨(.prim (.bin .lss .none)), [.tmp 37, .const (.int .i64 0)], (some 38), (some (35, false))⟩,
    ⟨(.prim .pick), [.tmp 35, .const (.bool true), .tmp 38], (some 39), none⟩,
    ⟨(.prim .id), [.tmp 39], (some 40), none⟩,
    ⟨(.prim (.fieldAddr 2 none)), [.tmp 1], (some 41), (some (40, false))⟩,
    ⟨(.prim (.load none)), [.tmp 41], (some 42), (some (40, false))⟩,
    ⟨(.prim (.fieldAddr 3 none)), [.tmp 1], (some 43), (some (40, false))⟩,
    ⟨(.prim (.load none)), [.tmp 43], (some 44), (some (40, false))⟩,
    ⟨(.prim (.bin .geq .none)), [.tmp 42, .tmp 44], (some 45), (some (40, false))⟩,
    ⟨(.prim .pick), [.tmp 40, .const (.bool true), .tmp 45], (some 46), none⟩,
    ⟨(.prim .id), [.tmp 46], (some 26), none⟩] none)
   (.cond (.tmp 26)
    (.seq (.region [⟨(.prim .id), [.const (.bool false)], (some 2), none⟩] none)
    .ret)
    (.seq (.region [⟨(.prim (.fieldAddr 2 none)), [.tmp 1], (some 48), none⟩,
     ⟨(.prim (.load none)), [.tmp 48], (some 49), none⟩,
     ⟨(.prim (.fieldAddr 3 none)), [.tmp 1], (some 50), none⟩,
     ⟨(.prim (.load none)), [.tmp 50], (some 51), none⟩,
     ⟨(.prim (.bin .sub .none)), [.tmp 51, .const (.int .i64 1)], (some 52), none⟩,
     ⟨(.prim (.bin .eql .none)), [.tmp 49, .tmp 52], (some 53), none⟩,
     ⟨(.prim .id), [.tmp 53], (some 47), none⟩] none)
    (.cond (.tmp 47)
     (.seq (.region [⟨(.prim .id), [.tmp 3], (some 54), none⟩,
      ⟨(.prim (.bin .geq .none)), [.tmp 54, .const (.int .i64 1)], (some 55), none⟩,
      ⟨(.prim .id), [.tmp 55], (some 56), none⟩,
      ⟨(.prim .id), [.tmp 3], (some 57), (some (56, true))⟩,
      ⟨(.prim (.bin .leq .none)), [.tmp 57, .const (.int .i64 45)], (some 58), (some (56, true))⟩,
      ⟨(.prim .pick), [.tmp 56, .tmp 58, .const (.bool false)], (some 59), none⟩,
      ⟨(.prim .id), [.tmp 59], (some 2), none⟩] none)
     .ret)
     .skip)))))))
 (.seq (.region [⟨(.prim .id), [.tmp 3], (some 60), none⟩,
  ⟨(.prim (.bin .eql .none)), [.tmp 60, .const (.int .i64 45)], (some 61), none⟩,
  ⟨(.prim .id), [.tmp 61], (some 2), none⟩] none)
 .ret))))
theorem F11 : IsFun Try.prog 11 1 62 c11 [.tmp 2] := ⟨by decide, Try.f11, _, [], Try.func11, rfl, by decide, rfl, by kernel_rfl, by kernel_rfl⟩

/-- cashbox/cashboxlaw04.great -/
def c12 : ACode :=
 (.seq (.region [⟨(.prim (.box (some 6))), [.tmp 0], (some 1), none⟩,
  ⟨(.prim .id), [.const (.bool false)], (some 2), none⟩] none)
 (.seq (.region [⟨(.prim (.fieldAddr 5 none)), [.tmp 1], (some 3), none⟩,
  ⟨(.prim (.load none)), [.tmp 3], (some 4), none⟩,
  ⟨(.prim .len), [.tmp 4], (some 5), none⟩,
  ⟨(.prim (.bin .gtr .none)), [.tmp 5, .const (.int .i64 1000)], (some 6), none⟩,
  ⟨(.prim .id), [.tmp 6], (some 2), none⟩] none)
 .ret))
theorem F12 : IsFun Try.prog 12 1 7 c12 [.tmp 2] := ⟨by decide, Try.f12, _, [], Try.func12, rfl, by decide, rfl, by kernel_rfl, by kernel_rfl⟩

-- loop: 1:f, 4:b, 32:, 33:
/-- cashbox/frame.Bytes -/
def c13 : ACode :=
 (.seq (.region [⟨(.prim (.box (some 6))), [.tmp 0], (some 1), none⟩,
  ⟨(.prim .id), [.const (.sl .clip [])], (some 2), none⟩,
  ⟨(.prim .id), [.const (.int .i64 0)], (some 3), none⟩] none)
 (.seq (.seq (.region [⟨(.prim (.load (some 6))), [.tmp 1], (some 8), none⟩,
  ⟨(.call 11), [.tmp 8], (some 9), none⟩,
  ⟨(.prim (.un .not)), [.tmp 9], (some 10), none⟩] none)
 (.cond (.tmp 10)
  (.seq (.region [⟨(.prim .id), [.const (.sl .clip [])], (some 2), none⟩,
   ⟨(.prim .id), [.const (.int .i64 2)], (some 3), none⟩] none)
  .ret)
  .skip))
 (.seq (.region [⟨(.prim .id), [.const (.sl .clip [])], (some 4), none⟩] none)
 (.seq (.seq (.region [⟨(.prim (.fieldAddr 0 none)), [.tmp 1], (some 11), none⟩,
  ⟨(.prim (.load none)), [.tmp 11], (some 12), none⟩,
  ⟨(.prim (.build [(.int .i64 0), (.int .i64 0)] [(0, 1), (1, 1)])), [.tmp 12, .const (.int .i64 6)], (some 13), none⟩,
  ⟨(.prim (.fieldAddr 1 none)), [.tmp 1], (some 14), none⟩,
  ⟨(.prim (.load none)), [.tmp 14], (some 15), none⟩,
  ⟨(.prim (.build [(.int .i64 0), (.int .i64 0)] [(0, 1), (1, 1)])), [.tmp 15, .const (.int .i64 3)], (some 16), none⟩,
  ⟨(.prim (.fieldAddr 2 none)), [.tmp 1], (some 17), none⟩,
  ⟨(.prim (.load none)), [.tmp 17], (some 18), none⟩,
  ⟨(.prim (.bin .mul .none)), [.const (.int .i64 16), .tmp 18], (some 19), none⟩,
  ⟨(.prim (.fieldAddr 3 none)), [.tmp 1], (some 20), none⟩,
  ⟨(.prim (.load none)), [.tmp 20], (some 21), none⟩,
  ⟨(.prim (.bin .add .none)), [.tmp 19, .tmp 21], (some 22), none⟩,
  ⟨(.prim (.build [(.int .i64 0), (.int .i64 0)] [(0, 1), (1, 1)])), [.tmp 22, .const (.int .i64 1)], (some 23), none⟩,
  ⟨(.prim (.fieldAddr 5 none)), [.tmp 1], (some 24), none⟩,
  ⟨(.prim (.load none)), [.tmp 24], (some 25), none⟩,
  ⟨(.prim .len), [.tmp 25], (some 26), none⟩,
  ⟨(.prim (.build [(.int .i64 0), (.int .i64 0)] [(0, 1), (1, 1)])), [.tmp 26, .const (.int .i64 1)], (some 27), none⟩,
  ⟨(.prim (.fieldAddr 4 none)), [.tmp 1], (some 28), none⟩,
  ⟨(.prim (.load none)), [.tmp 28], (some 29), none⟩,
  ⟨(.prim (.conv .i64)), [.tmp 29], (some 30), none⟩,
  ⟨(.prim (.build [(.int .i64 0), (.int .i64 0)] [(0, 1), (1, 1)])), [.tmp 30, .const (.int .i64 4)], (some 31), none⟩,
  ⟨(.prim (.build [(.int .i64 0), (.int .i64 0), (.int .i64 0), (.int .i64 0), (.int .i64 0), (.int .i64 0), (.int .i64 0), (.int .i64 0), (.int .i64 0), (.int .i64 0)] [(0, 2), (2, 2), (4, 2), (6, 2), (8, 2)])), [.tmp 13, .tmp 16, .tmp 23, .tmp 27, .tmp 31], (some 32), none⟩,
  ⟨(.prim .id), [.const (.int .i64 0)], (some 33), none⟩] none)
 (.block 0
  (.loop
   (.seq (.region [⟨(.prim (.bin .lss .none)), [.tmp 33, .const (.int .i64 5)], (some 34), none⟩] none)
   (.seq (.cond (.tmp 34)
    .skip
    (.exit 0))
   (.seq (.block 1
    (.seq (.region [⟨(.prim (.idxArrV 5 (some 2))), [.tmp 32, .tmp 33], (some 35), none⟩,
     ⟨(.prim (.alloc [(.int .i64 0), (.int .i64 0)])), [], (some 6), none⟩,
     ⟨(.prim (.store (some 2))), [.tmp 6, .tmp 35], none, none⟩] none)
    (.region [⟨(.prim .id), [.tmp 4], (some 37), none⟩,
     ⟨(.prim (.idxArr 2 none)), [.tmp 6, .const (.int .i64 0)], (some 38), none⟩,
     ⟨(.prim (.load none)), [.tmp 38], (some 39), none⟩,
     ⟨(.prim (.idxArr 2 none)), [.tmp 6, .const (.int .i64 1)], (some 40), none⟩,
     ⟨(.prim (.load none)), [.tmp 40], (some 41), none⟩,
     ⟨(.call 22), [.tmp 37, .tmp 39, .tmp 41], (some 42), none⟩,
     ⟨(.prim .id), [.tmp 42], (some 36), none⟩,
     ⟨(.prim (.extract 0)), [.tmp 36], (some 43), none⟩,
     ⟨(.prim (.extract 1)), [.tmp 36], (some 44), none⟩,
     ⟨(.prim .id), [.tmp 43], (some 4), none⟩] none)))
   (.region [⟨(.prim (.bin .add .none)), [.tmp 33, .const (.int .i64 1)], (some 45), none⟩,
    ⟨(.prim .id), [.tmp 45], (some 33), none⟩] none)))))))
 (.seq (.region [⟨(.prim (.alloc (ofBytes (z8 60)))), [], (some 7), none⟩] none)
 (.seq (.region [⟨(.prim (.slcArr 60 none false false)), [.tmp 7], (some 46), none⟩,
  ⟨(.prim .id), [.tmp 4], (some 47), none⟩,
  ⟨(.prim (.copy none)), [.tmp 46, .tmp 47], (some 48), none⟩] none)
 (.seq (.region [⟨(.prim (.slcArr 60 none true false)), [.tmp 7, .const (.int .i64 15)], (some 49), none⟩,
  ⟨(.prim (.fieldAddr 5 none)), [.tmp 1], (some 50), none⟩,
  ⟨(.prim (.load none)), [.tmp 50], (some 51), none⟩,
  ⟨(.prim (.copy none)), [.tmp 49, .tmp 51], (some 52), none⟩] (some [[], [], [1], [0, 2]]))
 (.seq (.region [⟨(.prim (.slcArr 60 none false false)), [.tmp 7], (some 53), none⟩,
  ⟨(.call 23), [.tmp 53], (some 54), none⟩,
  ⟨(.prim .id), [.tmp 54], (some 2), none⟩,
  ⟨(.prim .id), [.const (.int .i64 0)], (some 3), none⟩] none)
 .ret))))))))
theorem F13 : IsFun Try.prog 13 1 55 c13 [.tmp 2, .tmp 3] := ⟨by decide, Try.f13, _, [], Try.func13, rfl, by decide, rfl, by kernel_rfl, by kernel_rfl⟩

-- loop: 4:b
/-- cashbox/cashboxref04.Bytes -/
def c14 : ACode :=
 (.seq (.region [⟨(.prim (.box (some 6))), [.tmp 0], (some 1), none⟩,
  ⟨(.prim .id), [.const (.sl .clip [])], (some 2), none⟩,
  ⟨(.prim .id), [.const (.int .i64 0)], (some 3), none⟩] none)
 (.seq (.seq (.region [⟨(.prim (.load (some 6))), [.tmp 1], (some 5), none⟩,
  ⟨(.call 18), [.tmp 5], (some 6), none⟩,
  ⟨(.prim (.un .not)), [.tmp 6], (some 7), none⟩] none)
 (.cond (.tmp 7)
  (.seq (.region [⟨(.prim .id), [.const (.sl .clip [])], (some 2), none⟩,
   ⟨(.prim .id), [.const (.int .i64 2)], (some 3), none⟩] none)
  .ret)
  .skip))
 (.seq (.region [⟨(.prim (.fieldAddr 0 none)), [.tmp 1], (some 8), none⟩,
  ⟨(.prim (.load none)), [.tmp 8], (some 9), none⟩,
  ⟨(.prim (.conv .u64)), [.tmp 9], (some 10), none⟩,
  ⟨(.call 24), [.const (.sl .clip []), .tmp 10, .const (.int .i64 6)], (some 11), none⟩,
  ⟨(.prim .id), [.tmp 11], (some 4), none⟩] none)
 (.seq (.region [⟨(.prim .id), [.tmp 4], (some 12), none⟩,
  ⟨(.prim (.fieldAddr 1 none)), [.tmp 1], (some 13), none⟩,
  ⟨(.prim (.load none)), [.tmp 13], (some 14), none⟩,
  ⟨(.prim (.conv .u64)), [.tmp 14], (some 15), none⟩,
  ⟨(.call 24), [.tmp 12, .tmp 15, .const (.int .i64 3)], (some 16), none⟩,
  ⟨(.prim .id), [.tmp 16], (some 4), none⟩] none)
 (.seq (.region [⟨(.prim .id), [.tmp 4], (some 17), none⟩,
  ⟨(.prim (.fieldAddr 2 none)), [.tmp 1], (some 18), none⟩,
  ⟨(.prim (.load none)), [.tmp 18], (some 19), none⟩,
  ⟨(.prim (.bin .mul .none)), [.const (.int .i64 16), .tmp 19], (some 20), none⟩,
  ⟨(.prim (.fieldAddr 3 none)), [.tmp 1], (some 21), none⟩,
  ⟨(.prim (.load none)), [.tmp 21], (some 22), none⟩,
  ⟨(.prim (.bin .add .none)), [.tmp 20, .tmp 22], (some 23), none⟩,
  ⟨(.prim (.conv .u8)), [.tmp 23], (some 24), none⟩,
  ⟨(.prim (.fieldAddr 5 none)), [.tmp 1], (some 25), none⟩,
  ⟨(.prim (.load none)), [.tmp 25], (some 26), none⟩,
  ⟨(.prim .len), [.tmp 26], (some 27), none⟩,
  ⟨(.prim (.conv .u8)), [.tmp 27], (some 28), none⟩,
  ⟨(.prim (.buildSl none)), [.tmp 24, .tmp 28], (some 29), none⟩,
  ⟨(.prim (.append none)), [.tmp 17, .tmp 29], (some 30), none⟩,
  ⟨(.prim .id), [.tmp 30], (some 4), none⟩] none)
 (.seq (.region [⟨(.prim .id), [.tmp 4], (some 31), none⟩,
  ⟨(.prim (.fieldAddr 4 none)), [.tmp 1], (some 32), none⟩,
  ⟨(.prim (.load none)), [.tmp 32], (some 33), none⟩,
  ⟨(.prim (.conv .u64)), [.tmp 33], (some 34), none⟩,
  ⟨(.call 24), [.tmp 31, .tmp 34, .const (.int .i64 4)], (some 35), none⟩,
  ⟨(.prim .id), [.tmp 35], (some 4), none⟩] none)
 (.seq (.region [⟨(.prim .id), [.tmp 4], (some 36), none⟩,
  ⟨(.prim (.fieldAddr 5 none)), [.tmp 1], (some 37), none⟩,
  ⟨(.prim (.load none)), [.tmp 37], (some 38), none⟩,
  ⟨(.prim (.append none)), [.tmp 36, .tmp 38], (some 39), none⟩,
  ⟨(.prim .id), [.tmp 39], (some 4), none⟩] none)
 (.seq (.block 0
  (.loop
   (.seq (.seq (.region [⟨(.prim .id), [.tmp 4], (some 40), none⟩,
    ⟨(.prim .len), [.tmp 40], (some 41), none⟩,
    ⟨(.prim (.bin .lss .none)), [.tmp 41, .const (.int .i64 60)], (some 42), none⟩] none)
   (.cond (.tmp 42)
    .skip
    (.exit 0)))
   (.block 1
    (.region [⟨(.prim .id), [.tmp 4], (some 43), none⟩,
     ⟨(.prim (.buildSl none)), [.const (.int .u8 0)], (some 44), none⟩,
     ⟨(.prim (.append none)), [.tmp 43, .tmp 44], (some 45), none⟩,
     ⟨(.prim .id), [.tmp 45], (some 4), none⟩] none)))))
 (.seq (.region [⟨(.prim .id), [.tmp 4], (some 46), none⟩,
  ⟨(.call 25), [.tmp 46], (some 47), none⟩,
  ⟨(.prim .id), [.tmp 47], (some 2), none⟩,
  ⟨(.prim .id), [.const (.int .i64 0)], (some 3), none⟩] none)
 .ret)))))))))
theorem F14 : IsFun Try.prog 14 1 48 c14 [.tmp 2, .tmp 3] := ⟨by decide, Try.f14, _, [], Try.func14, rfl, by decide, rfl, by kernel_rfl, by kernel_rfl⟩

-- loop: 0:b, 2:f, 4:in, 6:n, 7:nums, 8:at, 32:, 33:
/-- cashbox/frame.Read -/
def c15 : ACode :=
 (.seq (.region [⟨(.prim (.alloc [(.int .i64 0), (.int .i64 0), (.int .i64 0), (.int .i64 0), (.int .u32 0), (.sl .clip [])])), [], (some 2), none⟩,
  ⟨(.prim .id), [.const (.int .i64 0)], (some 3), none⟩] none)
 (.seq (.region [⟨(.prim .id), [.tmp 0], (some 13), none⟩,
  ⟨(.call 26), [.tmp 13], (some 14), none⟩,
  ⟨(.prim .id), [.tmp 14], (some 12), none⟩,
  ⟨(.prim (.extract 0)), [.tmp 12], (some 15), none⟩,
  ⟨(.prim (.extract 1)), [.tmp 12], (some 16), none⟩,
  ⟨(.prim .id), [.tmp 15], (some 4), none⟩,
  ⟨(.prim .id), [.tmp 16], (some 5), none⟩] none)
 (.seq (.seq (.region [⟨(.prim .id), [.tmp 5], (some 17), none⟩,
  ⟨(.prim (.un .not)), [.tmp 17], (some 18), none⟩,
  ⟨(.prim .id), [.tmp 18], (some 19), none⟩,
  ⟨(.prim .id), [.tmp 0], (some 20), (some (19, false))⟩,
  ⟨(.prim .len), [.tmp 20], (some 21), (some (19, false))⟩,
  ⟨(.prim (.bin .neq .none)), [.tmp 21, .const (.int .i64 64)], (some 22), (some (19, false))⟩,
  ⟨(.prim .pick), [.tmp 19, .const (.bool true), .tmp 22], (some 23), none⟩] none)
 (.cond (.tmp 23)
  (.seq (.region [⟨(.prim (.load (some 6))), [.tmp 2], (some 24), none⟩,
   ⟨(.prim (.store (some 6))), [.tmp 2, .tmp 24], none, none⟩,
   ⟨(.prim .id), [.const (.int .i64 40)], (some 3), none⟩] none)
  .ret)
  .skip))
 (.seq (.region [⟨(.prim .id), [.tmp 4], (some 25), none⟩,
  ⟨(.prim (.idxSl none)), [.tmp 25, .const (.int .i64 10)], (some 26), none⟩,
  ⟨(.prim (.load none)), [.tmp 26], (some 27), none⟩,
  ⟨(.prim (.conv .i64)), [.tmp 27], (some 28), none⟩,
  ⟨(.prim .id), [.tmp 28], (some 6), none⟩] none)
 (.seq (.seq (.region [⟨(.prim .id), [.tmp 6], (some 29), none⟩,
  ⟨(.prim (.bin .gtr .none)), [.tmp 29, .const (.int .i64 45)], (some 30), none⟩] none)
 (.cond (.tmp 30)
  (.seq (.region [⟨(.prim (.load (some 6))), [.tmp 2], (some 31), none⟩,
   ⟨(.prim (.store (some 6))), [.tmp 2, .tmp 31], none, none⟩,
   ⟨(.prim .id), [.const (.int .i64 40)], (some 3), none⟩] none)
  .ret)
  .skip))
 (.seq (.region [⟨(.prim (.alloc [(.int .i64 0), (.int .i64 0), (.int .i64 0), (.int .i64 0), (.int .i64 0)])), [], (some 7), none⟩] none)
 (.seq (.region [⟨(.prim .id), [.const (.int .i64 0)], (some 8), none⟩] none)
 (.seq (.seq (.region [⟨(.prim (.build [(.int .i64 0), (.int .i64 0), (.int .i64 0), (.int .i64 0), (.int .i64 0)] [(0, 1), (1, 1), (2, 1), (3, 1), (4, 1)])), [.const (.int .i64 6), .const (.int .i64 3), .const (.int .i64 1), .const (.int .i64 1), .const (.int .i64 4)], (some 32), none⟩,
  ⟨(.prim .id), [.const (.int .i64 0)], (some 33), none⟩] none)
 (.block 0
  (.loop
   (.seq (.region [⟨(.prim (.bin .lss .none)), [.tmp 33, .const (.int .i64 5)], (some 34), none⟩] none)
   (.seq (.cond (.tmp 34)
    .skip
    (.exit 0))
   (.seq (.block 1
    (.seq (.region [⟨(.prim .id), [.tmp 33], (some 35), none⟩,
     ⟨(.prim (.idxArrV 5 none)), [.tmp 32, .tmp 33], (some 36), none⟩,
     ⟨(.prim .id), [.tmp 35], (some 9), none⟩,
     ⟨(.prim .id), [.tmp 36], (some 10), none⟩] none)
    (.seq (.region [⟨(.prim .id), [.tmp 9], (some 38), none⟩,
     ⟨(.prim .id), [.tmp 4], (some 39), none⟩,
     ⟨(.prim .id), [.tmp 8], (some 40), none⟩,
     ⟨(.prim .id), [.tmp 10], (some 41), none⟩,
     ⟨(.call 27), [.tmp 39, .tmp 40, .tmp 41], (some 42), none⟩,
     ⟨(.prim .id), [.tmp 42], (some 37), none⟩,
     ⟨(.prim (.extract 0)), [.tmp 37], (some 43), none⟩,
     ⟨(.prim (.extract 1)), [.tmp 37], (some 44), none⟩,
     ⟨(.prim (.idxArr 5 none)), [.tmp 7, .tmp 38], (some 45), none⟩,
     ⟨(.prim (.store none)), [.tmp 45, .tmp 43], none, none⟩] none)
    (.region [⟨(.prim .id), [.tmp 8], (some 46), none⟩,
     ⟨(.prim .id), [.tmp 10], (some 47), none⟩,
     ⟨(.prim (.bin .add .none)), [.tmp 46, .tmp 47], (some 48), none⟩,
     ⟨(.prim .id), [.tmp 48], (some 8), none⟩] none))))
   (.region [⟨(.prim (.bin .add .none)), [.tmp 33, .const (.int .i64 1)], (some 49), none⟩,
    ⟨(.prim .id), [.tmp 49], (some 33), none⟩] none)))))))
 (.seq (.region [⟨(.prim (.idxArr 5 none)), [.tmp 7, .const (.int .i64 0)], (some 50), none⟩,
  ⟨(.prim (.load none)), [.tmp 50], (some 51), none⟩,
  ⟨(.prim (.idxArr 5 none)), [.tmp 7, .const (.int .i64 1)], (some 52), none⟩,
  ⟨(.prim (.load none)), [.tmp 52], (some 53), none⟩,
  ⟨(.prim (.idxArr 5 none)), [.tmp 7, .const (.int .i64 2)], (some 54), none⟩,
  ⟨(.prim (.load none)), [.tmp 54], (some 55), none⟩,
  ⟨(.prim (.bin .shr .none)), [.tmp 55, .const (.int .u64 4)], (some 56), none⟩,
  ⟨(.prim (.idxArr 5 none)), [.tmp 7, .const (.int .i64 2)], (some 57), none⟩,
  ⟨(.prim (.load none)), [.tmp 57], (some 58), none⟩,
  ⟨(.prim (.bin .and .none)), [.tmp 58, .const (.int .i64 15)], (some 59), none⟩,
  ⟨(.prim (.idxArr 5 none)), [.tmp 7, .const (.int .i64 4)], (some 60), none⟩,
  ⟨(.prim (.load none)), [.tmp 60], (some 61), none⟩,
  ⟨(.prim (.conv .u32)), [.tmp 61], (some 62), none⟩,
  ⟨(.prim .id), [.tmp 4], (some 63), none⟩,
  ⟨(.prim .id), [.tmp 6], (some 64), none⟩,
  ⟨(.prim (.bin .add .none)), [.const (.int .i64 15), .tmp 64], (some 65), none⟩,
  ⟨(.prim .id), [.tmp 6], (some 66), none⟩,
  ⟨(.prim (.bin .add .none)), [.const (.int .i64 15), .tmp 66], (some 67), none⟩,
  ⟨(.prim (.slcSl none true true true)), [.tmp 63, .const (.int .i64 15), .tmp 65, .tmp 67], (some 68), none⟩,
  ⟨(.prim (.append none)), [.const (.sl .clip []), .tmp 68], (some 69), none⟩,
  ⟨(.prim (.build [(.int .i64 0), (.int .i64 0), (.int .i64 0), (.int .i64 0), (.int .u32 0), (.sl .clip [])] [(0, 1), (1, 1), (2, 1), (3, 1), (4, 1), (5, 1)])), [.tmp 51, .tmp 53, .tmp 56, .tmp 59, .tmp 62, .tmp 69], (some 70), none⟩,
  ⟨(.prim (.store (some 6))), [.tmp 2, .tmp 70], none, none⟩] (some [[], [0], [], [2], [], [4], [5], [], [7], [8], [], [10], [11], [], [], [14], [], [16], [13, 15, 17], [18], [1, 3, 6, 9, 12, 19], [20, 19, 0, 1, 2, 3, 4, 5, 6, 7, 8, 9, 10, 11, 12, 13, 14, 15, 16, 17, 18, 19, 20]]))
 (.seq (.region [⟨(.prim (.load (some 6))), [.tmp 2], (some 72), none⟩,
  ⟨(.call 13), [.tmp 72], (some 73), none⟩,
  ⟨(.prim .id), [.tmp 73], (some 71), none⟩,
  ⟨(.prim (.extract 0)), [.tmp 71], (some 74), none⟩,
  ⟨(.prim (.extract 1)), [.tmp 71], (some 75), none⟩,
  ⟨(.prim .id), [.tmp 74], (some 11), none⟩,
  ⟨(.prim .id), [.tmp 75], (some 3), none⟩] none)
 (.seq (.seq (.region [⟨(.prim .id), [.tmp 3], (some 76), none⟩,
  ⟨(.prim (.bin .neq .none)), [.tmp 76, .const (.int .i64 0)], (some 77), none⟩,
  ⟨(.prim .id), [.tmp 77], (some 78), none⟩,
  ⟨(.prim .id), [.tmp 11], (some 79), (some (78, false))⟩,
  ⟨(.prim .strOf), [.tmp 79], (some 80), (some (78, false))⟩,
  ⟨(.prim .id), [.tmp 0], (some 81), (some (78, false))⟩,
  ⟨(.prim .strOf), [.tmp 81], (some 82), (some (78, false))⟩,
  ⟨(.prim (.bin .neq .none)), [.tmp 80, .tmp 82], (some 83), (some (78, false))⟩,
  ⟨(.prim .pick), [.tmp 78, .const (.bool true), .tmp 83], (some 84), none⟩] none)
 (.cond (.tmp 84)
  (.seq (.region [⟨(.prim (.build [(.int .i64 0), (.int .i64 0), (.int .i64 0), (.int .i64 0), (.int .u32 0), (.sl .clip [])] [])), [], (some 85), none⟩,
   ⟨(.prim (.store (some 6))), [.tmp 2, .tmp 85], none, none⟩,
   ⟨(.prim .id), [.const (.int .i64 40)], (some 3), none⟩] none)
  .ret)
  .skip))
 (.seq (.region [⟨(.prim (.load (some 6))), [.tmp 2], (some 86), none⟩,
  ⟨(.prim (.store (some 6))), [.tmp 2, .tmp 86], none, none⟩,
  ⟨(.prim .id), [.const (.int .i64 0)], (some 3), none⟩] none)
 .ret))))))))))))
theorem F15 : IsFun Try.prog 15 1 87 c15 [.cell 2 (some 6), .tmp 3] := ⟨by decide, Try.f15, _, [], Try.func15, rfl, by decide, rfl, by kernel_rfl, by kernel_rfl⟩

/-- cashbox/cashboxref04.Read -/
def c16 : ACode :=
 (.seq (.region [⟨(.prim (.alloc [(.int .i64 0), (.int .i64 0), (.int .i64 0), (.int .i64 0), (.int .u32 0), (.sl .clip [])])), [], (some 2), none⟩,
  ⟨(.prim .id), [.const (.int .i64 0)], (some 3), none⟩] none)
 (.seq (.region [⟨(.prim .id), [.tmp 0], (some 11), none⟩,
  ⟨(.call 28), [.tmp 11], (some 12), none⟩,
  ⟨(.prim .id), [.tmp 12], (some 10), none⟩,
  ⟨(.prim (.extract 0)), [.tmp 10], (some 13), none⟩,
  ⟨(.prim (.extract 1)), [.tmp 10], (some 14), none⟩,
  ⟨(.prim .id), [.tmp 13], (some 4), none⟩,
  ⟨(.prim .id), [.tmp 14], (some 5), none⟩] none)
 (.seq (.seq (.region [⟨(.prim .id), [.tmp 5], (some 15), none⟩,
  ⟨(.prim (.un .not)), [.tmp 15], (some 16), none⟩,
  ⟨(.prim .id), [.tmp 16], (some 17), none⟩,
  ⟨(.prim .id), [.tmp 0], (some 18), (some (17, false))⟩,
  ⟨(.prim .len), [.tmp 18], (some 19), (some (17, false))⟩,
  ⟨(.prim (.bin .neq .none)), [.tmp 19, .const (.int .i64 64)], (some 20), (some (17, false))⟩,
  ⟨(.prim .pick), [.tmp 17, .const (.bool true), .tmp 20], (some 21), none⟩] none)
 (.cond (.tmp 21)
  (.seq (.region [⟨(.prim (.build [(.int .i64 0), (.int .i64 0), (.int .i64 0), (.int .i64 0), (.int .u32 0), (.sl .clip [])] [])), [], (some 22), none⟩,
   ⟨(.prim (.store (some 6))), [.tmp 2, .tmp 22], none, none⟩,
   ⟨(.prim .id), [.const (.int .i64 40)], (some 3), none⟩] none)
  .ret)
  .skip))
 (.seq (.region [⟨(.prim .id), [.tmp 4], (some 23), none⟩,
  ⟨(.prim (.idxSl none)), [.tmp 23, .const (.int .i64 10)], (some 24), none⟩,
  ⟨(.prim (.load none)), [.tmp 24], (some 25), none⟩,
  ⟨(.prim (.conv .i64)), [.tmp 25], (some 26), none⟩,
  ⟨(.prim .id), [.tmp 26], (some 6), none⟩] none)
 (.seq (.seq (.region [⟨(.prim .id), [.tmp 6], (some 27), none⟩,
  ⟨(.prim (.bin .gtr .none)), [.tmp 27, .const (.int .i64 45)], (some 28), none⟩] none)
 (.cond (.tmp 28)
  (.seq (.region [⟨(.prim (.build [(.int .i64 0), (.int .i64 0), (.int .i64 0), (.int .i64 0), (.int .u32 0), (.sl .clip [])] [])), [], (some 29), none⟩,
   ⟨(.prim (.store (some 6))), [.tmp 2, .tmp 29], none, none⟩,
   ⟨(.prim .id), [.const (.int .i64 40)], (some 3), none⟩] none)
  .ret)
  .skip))
 (.seq (.region [⟨(.prim .id), [.tmp 4], (some 30), none⟩,
  ⟨(.prim (.slcSl none true true false)), [.tmp 30, .const (.int .i64 0), .const (.int .i64 6)], (some 31), none⟩,
  ⟨(.call 29), [.tmp 31], (some 32), none⟩,
  ⟨(.prim (.conv .i64)), [.tmp 32], (some 33), none⟩,
  ⟨(.prim .id), [.tmp 4], (some 34), none⟩,
  ⟨(.prim (.slcSl none true true false)), [.tmp 34, .const (.int .i64 6), .const (.int .i64 9)], (some 35), none⟩,
  ⟨(.call 29), [.tmp 35], (some 36), none⟩,
  ⟨(.prim (.conv .i64)), [.tmp 36], (some 37), none⟩,
  ⟨(.prim .id), [.tmp 4], (some 38), none⟩,
  ⟨(.prim (.idxSl none)), [.tmp 38, .const (.int .i64 9)], (some 39), none⟩,
  ⟨(.prim (.load none)), [.tmp 39], (some 40), none⟩,
  ⟨(.prim (.bin .quo .none)), [.tmp 40, .const (.int .u8 16)], (some 41), none⟩,
  ⟨(.prim (.conv .i64)), [.tmp 41], (some 42), none⟩,
  ⟨(.prim .id), [.tmp 4], (some 43), none⟩,
  ⟨(.prim (.idxSl none)), [.tmp 43, .const (.int .i64 9)], (some 44), none⟩,
  ⟨(.prim (.load none)), [.tmp 44], (some 45), none⟩,
  ⟨(.prim (.bin .rem .none)), [.tmp 45, .const (.int .u8 16)], (some 46), none⟩,
  ⟨(.prim (.conv .i64)), [.tmp 46], (some 47), none⟩,
  ⟨(.prim .id), [.tmp 4], (some 48), none⟩,
  ⟨(.prim (.slcSl none true true false)), [.tmp 48, .const (.int .i64 11), .const (.int .i64 15)], (some 49), none⟩,
  ⟨(.call 29), [.tmp 49], (some 50), none⟩,
  ⟨(.prim (.conv .u32)), [.tmp 50], (some 51), none⟩,
  ⟨(.prim (.build [(.int .i64 0), (.int .i64 0), (.int .i64 0), (.int .i64 0), (.int .u32 0), (.sl .clip [])] [(0, 1), (1, 1), (2, 1), (3, 1), (4, 1)])), [.tmp 33, .tmp 37, .tmp 42, .tmp 47, .tmp 51], (some 52), none⟩,
  ⟨(.prim (.alloc [(.int .i64 0), (.int .i64 0), (.int .i64 0), (.int .i64 0), (.int .u32 0), (.sl .clip [])])), [], (some 7), none⟩,
  ⟨(.prim (.store (some 6))), [.tmp 7, .tmp 52], none, none⟩] (some [[], [0], [1], [2], [], [4], [5, 2], [6], [], [8], [9], [10], [11], [], [13], [14], [15], [16], [], [18], [19, 6], [20], [3, 7, 12, 17, 21], [], [23, 22, 20, 0, 1, 2, 3, 4, 5, 6, 7, 8, 9, 10, 11, 12, 13, 14, 15, 16, 17, 18, 19, 20, 21, 22, 23]]))
 (.seq (.region [⟨(.prim (.fieldAddr 5 none)), [.tmp 7], (some 53), none⟩,
  ⟨(.prim (.load none)), [.tmp 53], (some 54), none⟩,
  ⟨(.prim .id), [.tmp 4], (some 55), none⟩,
  ⟨(.prim .id), [.tmp 6], (some 56), none⟩,
  ⟨(.prim (.bin .add .none)), [.const (.int .i64 15), .tmp 56], (some 57), none⟩,
  ⟨(.prim (.slcSl none true true false)), [.tmp 55, .const (.int .i64 15), .tmp 57], (some 58), none⟩,
  ⟨(.prim (.append none)), [.tmp 54, .tmp 58], (some 59), none⟩,
  ⟨(.prim (.fieldAddr 5 none)), [.tmp 7], (some 60), none⟩,
  ⟨(.prim (.store none)), [.tmp 60, .tmp 59], none, none⟩] (some [[], [0], [], [], [3], [2, 4], [1, 5], [0, 1, 2, 3, 4, 5, 6], [7, 6, 6, 0, 1, 2, 3, 4, 5, 6]]))
 (.seq (.region [⟨(.prim (.load (some 6))), [.tmp 7], (some 62), none⟩,
  ⟨(.call 14), [.tmp 62], (some 63), none⟩,
  ⟨(.prim .id), [.tmp 63], (some 61), none⟩,
  ⟨(.prim (.extract 0)), [.tmp 61], (some 64), none⟩,
  ⟨(.prim (.extract 1)), [.tmp 61], (some 65), none⟩,
  ⟨(.prim .id), [.tmp 64], (some 8), none⟩,
  ⟨(.prim .id), [.tmp 65], (some 9), none⟩] none)
 (.seq (.seq (.region [⟨(.prim .id), [.tmp 9], (some 66), none⟩,
  ⟨(.prim (.bin .neq .none)), [.tmp 66, .const (.int .i64 0)], (some 67), none⟩,
  ⟨(.prim .id), [.tmp 67], (some 68), none⟩,
  ⟨(.prim .id), [.tmp 8], (some 69), (some (68, false))⟩,
  ⟨(.prim .strOf), [.tmp 69], (some 70), (some (68, false))⟩,
  ⟨(.prim .id), [.tmp 0], (some 71), (some (68, false))⟩,
  ⟨(.prim .strOf), [.tmp 71], (some 72), (some (68, false))⟩,
  ⟨(.prim (.bin .neq .none)), [.tmp 70, .tmp 72], (some 73), (some (68, false))⟩,
  ⟨(.prim .pick), [.tmp 68, .const (.bool true), .tmp 73], (some 74), none⟩] none)
 (.cond (.tmp 74)
  (.seq (.region [⟨(.prim (.build [(.int .i64 0), (.int .i64 0), (.int .i64 0), (.int .i64 0), (.int .u32 0), (.sl .clip [])] [])), [], (some 75), none⟩,
   ⟨(.prim (.store (some 6))), [.tmp 2, .tmp 75], none, none⟩,
   ⟨(.prim .id), [.const (.int .i64 40)], (some 3), none⟩] none)
  .ret)
  .skip))
 (.seq (.region [⟨(.prim (.load (some 6))), [.tmp 7], (some 76), none⟩,
  ⟨(.prim (.store (some 6))), [.tmp 2, .tmp 76], none, none⟩,
  ⟨(.prim .id), [.const (.int .i64 0)], (some 3), none⟩] none)
 .ret))))))))))
theorem F16 : IsFun Try.prog 16 1 77 c16 [.cell 2 (some 6), .tmp 3] := ⟨by decide, Try.f16, _, [], Try.func16, rfl, by decide, rfl, by kernel_rfl, by kernel_rfl⟩

/-- cashbox/cashboxref04.Same -/
def c17 : ACode :=
 (.seq (.region [⟨(.prim (.box (some 6))), [.tmp 0], (some 2), none⟩,
  ⟨(.prim (.box (some 6))), [.tmp 1], (some 3), none⟩,
  ⟨(.prim .id), [.const (.bool false)], (some 4), none⟩] none)
 (.seq (.region [⟨(.prim (.fieldAddr 0 none)), [.tmp 2], (some 5), none⟩,
  ⟨(.prim (.load none)), [.tmp 5], (some 6), none⟩,
  ⟨(.prim (.fieldAddr 0 none)), [.tmp 3], (some 7), none⟩,
  ⟨(.prim (.load none)), [.tmp 7], (some 8), none⟩,
  ⟨(.prim (.bin .eql .none)), [.tmp 6, .tmp 8], (some 9), none⟩,
  ⟨(.prim .id), [.tmp 9], (some 10), none⟩,
  ⟨(.prim (.fieldAddr 1 none)), [.tmp 2], (some 11), (some (10, true))⟩,
  ⟨(.prim (.load none)), [.tmp 11], (some 12), (some (10, true))⟩,
  ⟨(.prim (.fieldAddr 1 none)), [.tmp 3], (some 13), (some (10, true))⟩,
  ⟨(.prim (.load none)), [.tmp 13], (some 14), (some (10, true))⟩,
  ⟨(.prim (.bin .eql .none)), [.tmp 12, .tmp 14], (some 15), (some (10, true))⟩,
  ⟨(.prim .pick), [.tmp 10, .tmp 15, .const (.bool false)], (some 16), none⟩,
  ⟨(.prim .id), [.tmp 16], (some 17), none⟩,
  ⟨(.prim (.fieldAddr 2 none)), [.tmp 2], (some 18), (some (17, true))⟩,
  ⟨(.prim (.load none)), [.tmp 18], (some 19), (some (17, true))⟩,
  ⟨(.prim (.fieldAddr 2 none)), [.tmp 3], (some 20), (some (17, true))⟩,
  ⟨(.prim (.load none)), [.tmp 20], (some 21), (some (17, true))⟩,
  ⟨(.prim (.bin .eql .none)), [.tmp 19, .tmp 21], (some 22), (some (17, true))⟩,
  ⟨(.prim .pick), [.tmp 17, .tmp 22, .const (.bool false)], (some 23), none⟩,
  ⟨(.prim .id), [.tmp 23], (some 24), none⟩,
  ⟨(.prim (.fieldAddr 3 none)), [.tmp 2], (some 25), (some (24, true))⟩,
  ⟨(.prim (.load none)), [.tmp 25], (some 26), (some (24, true))⟩,
  ⟨(.prim (.fieldAddr 3 none)), [.tmp 3], (some 27), (some (24, true))⟩,
  ⟨(.prim (.load none)), [.tmp 27], (some 28), (some (24, true))⟩,
  ⟨(.prim (.bin .eql .none)), [.tmp 26, .tmp 28], (some 29), (some (24, true))⟩,
  ⟨(.prim .pick), [.tmp 24, .tmp 29, .const (.bool false)], (some 30), none⟩,
  ⟨(.prim .id), [.tmp 30], (some 31), none⟩,
  ⟨(.prim (.fieldAddr 4 none)), [.tmp 2], (some 32), (some (31, true))⟩,
  ⟨(.prim (.load none)), [.tmp 32], (some 33), (some (31, true))⟩,
  ⟨(.prim (.fieldAddr 4 none)), [.tmp 3], (some 34), (some (31, true))⟩,
  ⟨(.prim (.load none)), [.tmp 34], (some 35), (some (31, true))⟩,
  ⟨(.prim (.bin .eql .none)), [.tmp 33, .tmp 35], (some 36), (some (31, true))⟩,
  ⟨(.prim .pick), [.tmp 31, .tmp 36, .const (.bool false)], (some 37), none⟩,
  ⟨(.prim .id), [.tmp 37], (some 38), none⟩,
  ⟨(.prim (.fieldAddr 5 none)), [.tmp 2], (some 39), (some (38, true))⟩,
  ⟨(.prim (.load none)), [.tmp 39], (some 40), (some (38, true))⟩,
  ⟨(.prim .strOf), [.tmp 40], (some 41), (some (38, true))⟩,
  ⟨(.prim (.fieldAddr 5 none)), [.tmp 3], (some 42), (some (38, true))⟩,
  ⟨(.prim (.load none)), [.tmp 42], (some 43), (some (38, true))⟩,
  ⟨(.prim .strOf), [.tmp 43], (some 44), (some (38, true))⟩,
  ⟨(.prim (.bin .eql .none)), [.tmp 41, .tmp 44], (some 45), (some (38, true))⟩,
  ⟨(.prim .pick), [.tmp 38, .tmp 45, .const (.bool false)], (some 46), none⟩,
  ⟨(.prim .id), [.tmp 46], (some 4), none⟩] none)
 .ret))
theorem F17 : IsFun Try.prog 17 2 47 c17 [.tmp 4] := ⟨by decide, Try.f17, _, [], Try.func17, rfl, by decide, rfl, by kernel_rfl, by kernel_rfl⟩

/-- cashbox/cashboxref04.May -/
def c18 : ACode :=
 (.seq (.region [⟨(.prim (.box (some 6))), [.tmp 0], (some 1), none⟩,
  ⟨(.prim .id), [.const (.bool false)], (some 2), none⟩] none)
 (.seq (.seq (.region [⟨(.prim (.fieldAddr 0 none)), [.tmp 1], (some 3), none⟩,
  ⟨(.prim (.load none)), [.tmp 3], (some 4), none⟩,
  ⟨(.prim (.bin .lss .none)), [.tmp 4, .const (.int .i64 1)], (some 5), none⟩,
  ⟨(.prim .id), [.tmp 5], (some 6), none⟩,
  ⟨(.prim (.fieldAddr 0 none)), [.tmp 1], (some 7), (some (6, false))⟩,
  ⟨(.prim (.load none)), [.tmp 7], (some 8), (some (6, false))⟩,
  ⟨(.prim (.bin .gtr .none)), [.tmp 8, .const (.int .i64 1099511627776)], (some 9), (some (6, false))⟩,
  ⟨(.prim .pick), [.tmp 6, .const (.bool true), .tmp 9], (some 10), none⟩,
  ⟨(.prim .id), [.tmp 10], (some 11), none⟩,
  ⟨(.prim (.fieldAddr 1 none)), [.tmp 1], (some 12), (some (11, false))⟩,
  ⟨(.prim (.load none)), [.tmp 12], (some 13), (some (11, false))⟩,
  ⟨(.prim (.bin .lss .none)), [.tmp 13, .const (.int .i64 0)], (some 14), (some (11, false))⟩,
  ⟨(.prim .pick), [.tmp 11, .const (.bool true), .tmp 14], (some 15), none⟩,
  ⟨(.prim .id), [.tmp 15], (some 16), none⟩,
  ⟨(.prim (.fieldAddr 1 none)), [.tmp 1], (some 17), (some (16, false))⟩,
  ⟨(.prim (.load none)), [.tmp 17], (some 18), (some (16, false))⟩,
  ⟨(.prim (.bin .gtr .none)), [.tmp 18, .const (.int .i64 1048576)], (some 19), (some (16, false))⟩,
  ⟨(.prim .pick), [.tmp 16, .const (.bool true), .tmp 19], (some 20), none⟩,
  ⟨(.prim .id), [.tmp 20], (some 21), none⟩,
  ⟨(.prim (.fieldAddr 3 none)), [.tmp 1], (some 22), (some (21, false))⟩,
  ⟨(.prim (.load none)), [.tmp 22], (some 23), (some (21, false))⟩,
  ⟨(.prim (.bin .lss .none)), [.tmp 23, .const (.int .i64 1)], (some 24), (some (21, false))⟩,
  ⟨(.prim .pick), [.tmp 21, .const (.bool true), .tmp 24], (some 25), none⟩,
  ⟨(.prim .id), [.tmp 25], (some 26), none⟩,
  ⟨(.prim (.fieldAddr 3 none)), [.tmp 1], (some 27), (some (26, false))⟩,
  ⟨(.prim (.load none)), [.tmp 27], (some 28), (some (26, false))⟩,
  ⟨(.prim (.bin .gtr .none)), [.tmp 28, .const (.int .i64 2)], (some 29), (some (26, false))⟩,
  ⟨(.prim .pick), [.tmp 26, .const (.bool true), .tmp 29], (some 30), none⟩,
  ⟨(.prim .id), [.tmp 30], (some 31), none⟩,
  ⟨(.prim (.fieldAddr 2 none)), [.tmp 1], (some 32), (some (31, false))⟩,
  ⟨(.prim (.load none)), [.tmp 32], (some 33), (some (31, false))⟩,
  ⟨(.prim (.bin .lss .none)), [.tmp 33, .const (.int .i64 0)], (some 34), (some (31, false))⟩,
  ⟨(.prim .pick), [.tmp 31, .const (.bool true), .tmp 34], (some 35), none⟩,
  ⟨(.prim .id), [.tmp 35], (some 36), none⟩,
  ⟨(.prim (.fieldAddr 2 none)), [.tmp 1], (some 37), (some (36, false))⟩,
  ⟨(.prim (.load none)), [.tmp 37], (some 38), (some (36, false))⟩,
  ⟨(.prim (.fieldAddr 3 none)), [.tmp 1], (some 39), (some (36, false))⟩,
  ⟨(.prim (.load none)), [.tmp 39], (some 40), (some (36, false))⟩,
  ⟨(.prim (.bin .geq .none)), [.tmp 38, .tmp 40], (some 41), (some (36, false))⟩,
  ⟨(.prim .pick), [.tmp 36, .const (.bool true), .tmp 41], (some 42), none⟩] none)
 (.cond (.tmp 42)
  (.seq (.region [⟨(.prim .id), [.const (.bool false)], (some 2), none⟩] none)
  .ret)
  .skip))
 (.seq (.region [⟨(.prim (.fieldAddr 5 none)), [.tmp 1], (some 43), none⟩,
  ⟨(.prim (.load none)), [.tmp 43], (some 44), none⟩,
  ⟨(.prim .len), [.tmp 44], (some 45), none⟩,
  ⟨(.prim (.bin .geq .none)), [.tmp 45, .const (.int .i64 1)], (some 46), none⟩,
  ⟨(.prim .id), [.tmp 46], (some 47), none⟩,
  ⟨(.prim (.fieldAddr 5 none)), [.tmp 1], (some 48), (some (47, true))⟩,
  ⟨(.prim (.load none)), [.tmp 48], (some 49), (some (47, true))⟩,
  ⟨(.prim .len), [.tmp 49], (some 50), (some (47, true))⟩,
  ⟨(.prim (.bin .leq .none)), [.tmp 50, .const (.int .i64 45)], (some 51), (some (47, true))⟩,
  ⟨(.prim .pick), [.tmp 47, .tmp 51, .const (.bool false)], (some 52), none⟩,
  ⟨(.prim .id), [.tmp 52], (some 53), none⟩,
  ⟨(.prim (.fieldAddr 2 none)), [.tmp 1], (some 54), (some (53, true))⟩,
  ⟨(.prim (.load none)), [.tmp 54], (some 55), (some (53, true))⟩,
  ⟨(.prim (.fieldAddr 3 none)), [.tmp 1], (some 56), (some (53, true))⟩,
  ⟨(.prim (.load none)), [.tmp 56], (some 57), (some (53, true))⟩,
  ⟨(.prim (.bin .sub .none)), [.tmp 57, .const (.int .i64 1)], (some 58), (some (53, true))⟩,
  ⟨(.prim (.bin .eql .none)), [.tmp 55, .tmp 58], (some 59), (some (53, true))⟩,
  ⟨(.prim .id), [.tmp 59], (some 60), (some (53, true))⟩,
  ⟨(.prim (.fieldAddr 5 none)), [.tmp 1], (some 61), (some (60, false))⟩,
  ⟨(.prim (.load none)), [.tmp 61], (some 62), (some (60, false))⟩,
  ⟨(.prim .len), [.tmp 62], (some 63), (some (60, false))⟩,
  ⟨(.prim (.bin .eql .none)), [.tmp 63, .const (.int .i64 45)], (some 64), (some (60, false))⟩,
  ⟨(.prim .pick), [.tmp 60, .const (.bool true), .tmp 64], (some 65), (some (53, true))⟩,
  ⟨(.prim .pick), [.tmp 53, .tmp 65, .const (.bool false)], (some 66), none⟩,
  ⟨(.prim .id), [.tmp 66], (some 2), none⟩] none)
 .ret)))
theorem F18 : IsFun Try.prog 18 1 67 c18 [.tmp 2] := ⟨by decide, Try.f18, _, [], Try.func18, rfl, by decide, rfl, by kernel_rfl, by kernel_rfl⟩

/-- cashbox/frame.Same -/
def c19 : ACode :=
 (.seq (.region [⟨(.prim (.box (some 6))), [.tmp 0], (some 2), none⟩,
  ⟨(.prim (.box (some 6))), [.tmp 1], (some 3), none⟩,
  ⟨(.prim .id), [.const (.bool false)], (some 4), none⟩] none)
 (.seq (.region [⟨(.prim (.fieldAddr 0 none)), [.tmp 2], (some 5), none⟩,
  ⟨(.prim (.load none)), [.tmp 5], (some 6), none⟩,
  ⟨(.prim (.fieldAddr 0 none)), [.tmp 3], (some 7), none⟩,
  ⟨(.prim (.load none)), [.tmp 7], (some 8), none⟩,
  ⟨(.prim (.bin .eql .none)), [.tmp 6, .tmp 8], (some 9), none⟩,
  ⟨(.prim .id), [.tmp 9], (some 10), none⟩,
  ⟨(.prim (.fieldAddr 1 none)), [.tmp 2], (some 11), (some (10, true))⟩,
  ⟨(.prim (.load none)), [.tmp 11], (some 12), (some (10, true))⟩,
  ⟨(.prim (.fieldAddr 1 none)), [.tmp 3], (some 13), (some (10, true))⟩,
  ⟨(.prim (.load none)), [.tmp 13], (some 14), (some (10, true))⟩,
  ⟨(.prim (.bin .eql .none)), [.tmp 12, .tmp 14], (some 15), (some (10, true))⟩,
  ⟨(.prim .pick), [.tmp 10, .tmp 15, .const (.bool false)], (some 16), none⟩,
  ⟨(.prim .id), [.tmp 16], (some 17), none⟩,
  ⟨(.prim (.fieldAddr 2 none)), [.tmp 2], (some 18), (some (17, true))⟩,
  ⟨(.prim (.load none)), [.tmp 18], (some 19), (some (17, true))⟩,
  ⟨(.prim (.fieldAddr 2 none)), [.tmp 3], (some 20), (some (17, true))⟩,
  ⟨(.prim (.load none)), [.tmp 20], (some 21), (some (17, true))⟩,
  ⟨(.prim (.bin .eql .none)), [.tmp 19, .tmp 21], (some 22), (some (17, true))⟩,
  ⟨(.prim .pick), [.tmp 17, .tmp 22, .const (.bool false)], (some 23), none⟩,
  ⟨(.prim .id), [.tmp 23], (some 24), none⟩,
  ⟨(.prim (.fieldAddr 3 none)), [.tmp 2], (some 25), (some (24, true))⟩,
  ⟨(.prim (.load none)), [.tmp 25], (some 26), (some (24, true))⟩,
  ⟨(.prim (.fieldAddr 3 none)), [.tmp 3], (some 27), (some (24, true))⟩,
  ⟨(.prim (.load none)), [.tmp 27], (some 28), (some (24, true))⟩,
  ⟨(.prim (.bin .eql .none)), [.tmp 26, .tmp 28], (some 29), (some (24, true))⟩,
  ⟨(.prim .pick), [.tmp 24, .tmp 29, .const (.bool false)], (some 30), none⟩,
  ⟨(.prim .id), [.tmp 30], (some 31), none⟩,
  ⟨(.prim (.fieldAddr 4 none)), [.tmp 2], (some 32), (some (31, true))⟩,
  ⟨(.prim (.load none)), [.tmp 32], (some 33), (some (31, true))⟩,
  ⟨(.prim (.fieldAddr 4 none)), [.tmp 3], (some 34), (some (31, true))⟩,
  ⟨(.prim (.load none)), [.tmp 34], (some 35), (some (31, true))⟩,
  ⟨(.prim (.bin .eql .none)), [.tmp 33, .tmp 35], (some 36), (some (31, true))⟩,
  ⟨(.prim .pick), [.tmp 31, .tmp 36, .const (.bool false)], (some 37), none⟩,
  ⟨(.prim .id), [.tmp 37], (some 38), none⟩,
  ⟨(.prim (.fieldAddr 5 none)), [.tmp 2], (some 39), (some (38, true))⟩,
  ⟨(.prim (.load none)), [.tmp 39], (some 40), (some (38, true))⟩,
  ⟨(.prim .strOf), [.tmp 40], (some 41), (some (38, true))⟩,
  ⟨(.prim (.fieldAddr 5 none)), [.tmp 3], (some 42), (some (38, true))⟩,
  ⟨(.prim (.load none)), [.tmp 42], (some 43), (some (38, true))⟩,
  ⟨(.prim .strOf), [.tmp 43], (some 44), (some (38, true))⟩,
  ⟨(.prim (.bin .eql .none)), [.tmp 41, .tmp 44], (some 45), (some (38, true))⟩,
  ⟨(.prim .pick), [.tmp 38, .tmp 45, .const (.bool false)], (some 46), none⟩,
  ⟨(.prim .id), [.tmp 46], (some 4), none⟩] none)
 .ret))
theorem F19 : IsFun Try.prog 19 2 47 c19 [.tmp 4] := ⟨by decide, Try.f19, _, [], Try.func19, rfl, by decide, rfl, by kernel_rfl, by kernel_rfl⟩

/-- cashbox/sums.Sum -/
def c20 : ACode :=
 (.seq (.region [⟨(.prim .id), [.const (.int .u32 0)], (some 2), none⟩] none)
 (.seq (.region [⟨(.prim .id), [.tmp 0], (some 3), none⟩,
  ⟨(.call 30), [.const (.int .u32 0), .tmp 3], (some 4), none⟩,
  ⟨(.prim .id), [.tmp 4], (some 2), none⟩] none)
 .ret))
theorem F20 : IsFun Try.prog 20 1 5 c20 [.tmp 2] := ⟨by decide, Try.f20, _, [], Try.func20, rfl, by decide, rfl, by kernel_rfl, by kernel_rfl⟩

-- loop: 1:b, 5:r, 6:i
/-- cashbox/cashboxref01.Join -/
def c21 : ACode :=
 (.seq (.region [⟨(.prim .id), [.const (.int .u32 0)], (some 4), none⟩] none)
 (.seq (.region [⟨(.prim .id), [.tmp 0], (some 7), none⟩,
  ⟨(.prim (.un .xor)), [.tmp 7], (some 8), none⟩,
  ⟨(.prim .id), [.tmp 8], (some 5), none⟩] none)
 (.seq (.seq (.region [⟨(.prim .id), [.const (.int .i64 0)], (some 6), none⟩] none)
 (.block 0
  (.loop
   (.seq (.seq (.region [⟨(.prim .id), [.tmp 6], (some 9), none⟩,
    ⟨(.prim .id), [.tmp 1], (some 10), none⟩,
    ⟨(.prim .len), [.tmp 10], (some 11), none⟩,
    ⟨(.prim (.bin .lss .none)), [.tmp 9, .tmp 11], (some 12), none⟩] none)
   (.cond (.tmp 12)
    .skip
    (.exit 0)))
   (.seq (.block 1
    (.region [⟨(.prim .id), [.tmp 5], (some 15), none⟩,
     ⟨(.prim .id), [.tmp 1], (some 16), none⟩,
     ⟨(.prim .id), [.tmp 6], (some 17), none⟩,
     ⟨(.prim (.idxSl none)), [.tmp 16, .tmp 17], (some 18), none⟩,
     ⟨(.prim (.load none)), [.tmp 18], (some 19), none⟩,
     ⟨(.call 31), [.tmp 15, .tmp 19], (some 20), none⟩,
     ⟨(.prim .id), [.tmp 20], (some 5), none⟩] none))
   (.region [⟨(.prim .id), [.tmp 6], (some 13), none⟩,
    ⟨(.prim (.bin .add .none)), [.tmp 13, .const (.int .i64 1)], (some 14), none⟩,
    ⟨(.prim .id), [.tmp 14], (some 6), none⟩] none))))))
 (.seq (.region [⟨(.prim .id), [.tmp 5], (some 21), none⟩,
  ⟨(.prim (.un .xor)), [.tmp 21], (some 22), none⟩,
  ⟨(.prim .id), [.tmp 22], (some 4), none⟩] none)
 .ret))))
theorem F21 : IsFun Try.prog 21 2 23 c21 [.tmp 4] := ⟨by decide, Try.f21, _, [], Try.func21, rfl, by decide, rfl, by kernel_rfl, by kernel_rfl⟩

-- loop: 1:n, 8:out, 24:, 25:
/-- cashbox/pack.Put -/
def c22 : ACode :=
 (.seq (.region [⟨(.prim .id), [.const (.sl .clip [])], (some 6), none⟩,
  ⟨(.prim .id), [.const (.int .i64 0)], (some 7), none⟩] none)
 (.seq (.seq (.region [⟨(.prim .id), [.tmp 1], (some 10), none⟩,
  ⟨(.prim .id), [.tmp 2], (some 11), none⟩,
  ⟨(.call 32), [.tmp 10, .tmp 11], (some 12), none⟩,
  ⟨(.prim (.un .not)), [.tmp 12], (some 13), none⟩] none)
 (.cond (.tmp 13)
  (.seq (.region [⟨(.prim .id), [.const (.sl .clip [])], (some 6), none⟩,
   ⟨(.prim .id), [.const (.int .i64 2)], (some 7), none⟩] none)
  .ret)
  .skip))
 (.seq (.region [⟨(.prim .id), [.tmp 0], (some 14), none⟩,
  ⟨(.prim .len), [.tmp 14], (some 15), none⟩,
  ⟨(.prim .id), [.tmp 0], (some 16), none⟩,
  ⟨(.prim .len), [.tmp 16], (some 17), none⟩,
  ⟨(.prim .id), [.tmp 2], (some 18), none⟩,
  ⟨(.prim (.bin .add .none)), [.tmp 17, .tmp 18], (some 19), none⟩,
  ⟨(.prim (.mkslice none [(.int .u8 0)])), [.tmp 15, .tmp 19], (some 20), none⟩,
  ⟨(.prim .id), [.tmp 20], (some 8), none⟩] none)
 (.seq (.region [⟨(.prim .id), [.tmp 8], (some 21), none⟩,
  ⟨(.prim .id), [.tmp 0], (some 22), none⟩,
  ⟨(.prim (.copy none)), [.tmp 21, .tmp 22], (some 23), none⟩] none)
 (.seq (.seq (.region [⟨(.prim .id), [.tmp 2], (some 24), none⟩,
  ⟨(.prim .id), [.const (.int .i64 0)], (some 25), none⟩] none)
 (.block 0
  (.loop
   (.seq (.region [⟨(.prim (.bin .lss .none)), [.tmp 25, .tmp 24], (some 26), none⟩] none)
   (.seq (.cond (.tmp 26)
    .skip
    (.exit 0))
   (.seq (.block 1
    (.seq (.region [⟨(.prim .id), [.tmp 25], (some 27), none⟩,
     ⟨(.prim .id), [.tmp 27], (some 9), none⟩] none)
    (.region [⟨(.prim .id), [.tmp 8], (some 28), none⟩,
     ⟨(.prim .id), [.tmp 1], (some 29), none⟩,
     ⟨(.prim .id), [.tmp 9], (some 30), none⟩,
     ⟨(.prim (.bin .mul .none)), [.const (.int .i64 8), .tmp 30], (some 31), none⟩,
     ⟨(.prim (.bin .shr .none)), [.tmp 29, .tmp 31], (some 32), none⟩,
     ⟨(.prim (.conv .u8)), [.tmp 32], (some 33), none⟩,
     ⟨(.prim (.buildSl none)), [.tmp 33], (some 34), none⟩,
     ⟨(.prim (.append none)), [.tmp 28, .tmp 34], (some 35), none⟩,
     ⟨(.prim .id), [.tmp 35], (some 8), none⟩] none)))
   (.region [⟨(.prim (.bin .add .none)), [.tmp 25, .const (.int .i64 1)], (some 36), none⟩,
    ⟨(.prim .id), [.tmp 36], (some 25), none⟩] none)))))))
 (.seq (.region [⟨(.prim .id), [.tmp 8], (some 37), none⟩,
  ⟨(.prim .id), [.tmp 37], (some 6), none⟩,
  ⟨(.prim .id), [.const (.int .i64 0)], (some 7), none⟩] none)
 .ret))))))
theorem F22 : IsFun Try.prog 22 3 38 c22 [.tmp 6, .tmp 7] := ⟨by decide, Try.f22, _, [], Try.func22, rfl, by decide, rfl, by kernel_rfl, by kernel_rfl⟩

/-- cashbox/sums.Seal -/
def c23 : ACode :=
 (.seq (.region [⟨(.prim .id), [.const (.sl .clip [])], (some 2), none⟩] none)
 (.seq (.region [⟨(.prim .id), [.tmp 0], (some 4), none⟩,
  ⟨(.call 20), [.tmp 4], (some 5), none⟩,
  ⟨(.prim .id), [.tmp 5], (some 3), none⟩] none)
 (.seq (.region [⟨(.prim .id), [.tmp 0], (some 6), none⟩,
  ⟨(.prim .id), [.tmp 0], (some 7), none⟩,
  ⟨(.prim .len), [.tmp 7], (some 8), none⟩,
  ⟨(.prim .id), [.tmp 0], (some 9), none⟩,
  ⟨(.prim .len), [.tmp 9], (some 10), none⟩,
  ⟨(.prim (.slcSl none false true true)), [.tmp 6, .tmp 8, .tmp 10], (some 11), none⟩,
  ⟨(.prim .id), [.tmp 3], (some 12), none⟩,
  ⟨(.prim (.conv .u8)), [.tmp 12], (some 13), none⟩,
  ⟨(.prim .id), [.tmp 3], (some 14), none⟩,
  ⟨(.prim (.bin .shr .none)), [.tmp 14, .const (.int .u64 8)], (some 15), none⟩,
  ⟨(.prim (.conv .u8)), [.tmp 15], (some 16), none⟩,
  ⟨(.prim .id), [.tmp 3], (some 17), none⟩,
  ⟨(.prim (.bin .shr .none)), [.tmp 17, .const (.int .u64 16)], (some 18), none⟩,
  ⟨(.prim (.conv .u8)), [.tmp 18], (some 19), none⟩,
  ⟨(.prim .id), [.tmp 3], (some 20), none⟩,
  ⟨(.prim (.bin .shr .none)), [.tmp 20, .const (.int .u64 24)], (some 21), none⟩,
  ⟨(.prim (.conv .u8)), [.tmp 21], (some 22), none⟩,
  ⟨(.prim (.buildSl none)), [.tmp 13, .tmp 16, .tmp 19, .tmp 22], (some 23), none⟩,
  ⟨(.prim (.append none)), [.tmp 11, .tmp 23], (some 24), none⟩,
  ⟨(.prim .id), [.tmp 24], (some 2), none⟩] none)
 .ret)))
theorem F23 : IsFun Try.prog 23 1 25 c23 [.tmp 2] := ⟨by decide, Try.f23, _, [], Try.func23, rfl, by decide, rfl, by kernel_rfl, by kernel_rfl⟩

-- loop: 0:b, 1:n, 2:w, 7:i
/-- cashbox/cashboxref04.low -/
def c24 : ACode :=
 (.seq (.region [⟨(.prim .id), [.const (.sl .clip [])], (some 6), none⟩] none)
 (.seq (.seq (.region [⟨(.prim .id), [.const (.int .i64 0)], (some 7), none⟩] none)
 (.block 0
  (.loop
   (.seq (.seq (.region [⟨(.prim .id), [.tmp 7], (some 8), none⟩,
    ⟨(.prim .id), [.tmp 2], (some 9), none⟩,
    ⟨(.prim (.bin .lss .none)), [.tmp 8, .tmp 9], (some 10), none⟩] none)
   (.cond (.tmp 10)
    .skip
    (.exit 0)))
   (.seq (.block 1
    (.seq (.region [⟨(.prim .id), [.tmp 0], (some 13), none⟩,
     ⟨(.prim .id), [.tmp 1], (some 14), none⟩,
     ⟨(.prim (.bin .and .none)), [.tmp 14, .const (.int .u64 255)], (some 15), none⟩,
     ⟨(.prim (.conv .u8)), [.tmp 15], (some 16), none⟩,
     ⟨(.prim (.buildSl none)), [.tmp 16], (some 17), none⟩,
     ⟨(.prim (.append none)), [.tmp 13, .tmp 17], (some 18), none⟩,
     ⟨(.prim .id), [.tmp 18], (some 0), none⟩] none)
    (.region [⟨(.prim .id), [.tmp 1], (some 19), none⟩,
     ⟨(.prim (.bin .shr .none)), [.tmp 19, .const (.int .u64 8)], (some 20), none⟩,
     ⟨(.prim .id), [.tmp 20], (some 1), none⟩] none)))
   (.region [⟨(.prim .id), [.tmp 7], (some 11), none⟩,
    ⟨(.prim (.bin .add .none)), [.tmp 11, .const (.int .i64 1)], (some 12), none⟩,
    ⟨(.prim .id), [.tmp 12], (some 7), none⟩] none))))))
 (.seq (.region [⟨(.prim .id), [.tmp 0], (some 21), none⟩,
  ⟨(.prim .id), [.tmp 21], (some 6), none⟩] none)
 .ret)))
theorem F24 : IsFun Try.prog 24 3 22 c24 [.tmp 6] := ⟨by decide, Try.f24, _, [], Try.func24, rfl, by decide, rfl, by kernel_rfl, by kernel_rfl⟩

/-- cashbox/cashboxref01.Seal -/
def c25 : ACode :=
 (.seq (.region [⟨(.prim .id), [.const (.sl .clip [])], (some 2), none⟩] none)
 (.seq (.region [⟨(.prim .id), [.tmp 0], (some 5), none⟩,
  ⟨(.call 9), [.tmp 5], (some 6), none⟩,
  ⟨(.prim .id), [.tmp 6], (some 3), none⟩] none)
 (.seq (.region [⟨(.prim .id), [.const (.sl .clip [])], (some 4), none⟩] none)
 (.seq (.region [⟨(.prim .id), [.tmp 4], (some 7), none⟩,
  ⟨(.prim .id), [.tmp 0], (some 8), none⟩,
  ⟨(.prim (.append none)), [.tmp 7, .tmp 8], (some 9), none⟩,
  ⟨(.prim .id), [.tmp 9], (some 4), none⟩] none)
 (.seq (.region [⟨(.prim .id), [.tmp 4], (some 10), none⟩,
  ⟨(.prim .id), [.tmp 3], (some 11), none⟩,
  ⟨(.prim (.conv .u8)), [.tmp 11], (some 12), none⟩,
  ⟨(.prim .id), [.tmp 3], (some 13), none⟩,
  ⟨(.prim (.bin .shr .none)), [.tmp 13, .const (.int .u64 8)], (some 14), none⟩,
  ⟨(.prim (.conv .u8)), [.tmp 14], (some 15), none⟩,
  ⟨(.prim .id), [.tmp 3], (some 16), none⟩,
  ⟨(.prim (.bin .shr .none)), [.tmp 16, .const (.int .u64 16)], (some 17), none⟩,
  ⟨(.prim (.conv .u8)), [.tmp 17], (some 18), none⟩,
  ⟨(.prim .id), [.tmp 3], (some 19), none⟩,
  ⟨(.prim (.bin .shr .none)), [.tmp 19, .const (.int .u64 24)], (some 20), none⟩,
  ⟨(.prim (.conv .u8)), [.tmp 20], (some 21), none⟩,
  ⟨(.prim (.buildSl none)), [.tmp 12, .tmp 15, .tmp 18, .tmp 21], (some 22), none⟩,
  ⟨(.prim (.append none)), [.tmp 10, .tmp 22], (some 23), none⟩,
  ⟨(.prim .id), [.tmp 23], (some 2), none⟩] none)
 .ret)))))
theorem F25 : IsFun Try.prog 25 1 24 c25 [.tmp 2] := ⟨by decide, Try.f25, _, [], Try.func25, rfl, by decide, rfl, by kernel_rfl, by kernel_rfl⟩

/-- cashbox/sums.Open -/
def c26 : ACode :=
 (.seq (.region [⟨(.prim .id), [.const (.sl .clip [])], (some 2), none⟩,
  ⟨(.prim .id), [.const (.bool false)], (some 3), none⟩] none)
 (.seq (.region [⟨(.prim .id), [.tmp 0], (some 5), none⟩,
  ⟨(.prim .len), [.tmp 5], (some 6), none⟩,
  ⟨(.prim (.bin .sub .none)), [.tmp 6, .const (.int .i64 4)], (some 7), none⟩,
  ⟨(.prim .id), [.tmp 7], (some 4), none⟩] none)
 (.seq (.seq (.region [⟨(.prim .id), [.tmp 4], (some 8), none⟩,
  ⟨(.prim (.bin .lss .none)), [.tmp 8, .const (.int .i64 0)], (some 9), none⟩,
  ⟨(.prim .id), [.tmp 9], (some 10), none⟩,
  ⟨(.prim .id), [.tmp 0], (some 11), (some (10, false))⟩,
  ⟨(.prim .id), [.tmp 4], (some 12), (some (10, false))⟩,
  ⟨(.prim .id), [.tmp 4], (some 13), (some (10, false))⟩,
  ⟨(.prim (.slcSl none false true true)), [.tmp 11, .tmp 12, .tmp 13], (some 14), (some (10, false))⟩,
  ⟨(.call 23), [.tmp 14], (some 15), (some (10, false))⟩,
  ⟨(.prim .id), [.tmp 4], (some 16), (some (10, false))⟩,
  ⟨(.prim (.slcSl none true false false)), [.tmp 15, .tmp 16], (some 17), (some (10, false))⟩,
  ⟨(.prim .strOf), [.tmp 17], (some 18), (some (10, false))⟩,
  ⟨(.prim .id), [.tmp 0], (some 19), (some (10, false))⟩,
  ⟨(.prim .id), [.tmp 4], (some 20), (some (10, false))⟩,
  ⟨(.prim (.slcSl none true false false)), [.tmp 19, .tmp 20], (some 21), (some (10, false))⟩,
  ⟨(.prim .strOf), [.tmp 21], (some 22), (some (10, false))⟩,
  ⟨(.prim (.bin .neq .none)), [.tmp 18, .tmp 22], (some 23), (some (10, false))⟩,
  ⟨(.prim .pick), [.tmp 10, .const (.bool true), .tmp 23], (some 24), none⟩] (some [[], [0], [1], [2], [2], [2], [3, 4, 5, 2], [6, 2, 2], [2], [7, 8, 2], [9, 2], [2], [2], [11, 12, 2], [13, 2], [10, 14, 2], [2, 15]]))
 (.cond (.tmp 24)
  (.seq (.region [⟨(.prim .id), [.const (.sl .clip [])], (some 2), none⟩,
   ⟨(.prim .id), [.const (.bool false)], (some 3), none⟩] none)
  .ret)
  .skip))
 (.seq (.region [⟨(.prim .id), [.tmp 0], (some 25), none⟩,
  ⟨(.prim .id), [.tmp 4], (some 26), none⟩,
  ⟨(.prim (.slcSl none false true false)), [.tmp 25, .tmp 26], (some 27), none⟩,
  ⟨(.prim (.append none)), [.const (.sl .clip []), .tmp 27], (some 28), none⟩,
  ⟨(.prim .id), [.tmp 28], (some 2), none⟩,
  ⟨(.prim .id), [.const (.bool true)], (some 3), none⟩] none)
 .ret))))
theorem F26 : IsFun Try.prog 26 1 29 c26 [.tmp 2, .tmp 3] := ⟨by decide, Try.f26, _, [], Try.func26, rfl, by decide, rfl, by kernel_rfl, by kernel_rfl⟩

-- loop: 0:b, 1:at, 6:n, 33:, 34:
/-- cashbox/pack.Get -/
def c27 : ACode :=
 (.seq (.region [⟨(.prim .id), [.const (.int .i64 0)], (some 6), none⟩,
  ⟨(.prim .id), [.const (.int .i64 0)], (some 7), none⟩] none)
 (.seq (.block 0
  (.seq (.region [⟨(.prim .id), [.tmp 2], (some 10), none⟩,
   ⟨(.prim (.bin .lss .none)), [.tmp 10, .const (.int .i64 1)], (some 11), none⟩,
   ⟨(.prim .id), [.tmp 11], (some 12), none⟩,
   ⟨(.prim .id), [.tmp 2], (some 13), (some (12, false))⟩,
   ⟨(.prim (.bin .gtr .none)), [.tmp 13, .const (.int .i64 6)], (some 14), (some (12, false))⟩,
   ⟨(.prim .pick), [.tmp 12, .const (.bool true), .tmp 14], (some 15), none⟩,
   ⟨(.prim .id), [.tmp 15], (some 9), none⟩] none)
  (.cond (.tmp 9)
   (.seq (.region [⟨(.prim .id), [.const (.int .i64 0)], (some 6), none⟩,
    ⟨(.prim .id), [.const (.int .i64 2)], (some 7), none⟩] none)
   .ret)
   (.seq (.region [⟨(.prim .id), [.tmp 1], (some 17), none⟩,
    ⟨(.prim (.bin .lss .none)), [.tmp 17, .const (.int .i64 0)], (some 18), none⟩,
    ⟨(.prim .id), [.tmp 18], (some 19), none⟩,
    ⟨(.prim .id), [.tmp 0], (some 20), (some (19, false))⟩,
    ⟨(.prim .len), [.tmp 20], (some 21), (some (19, false))⟩,
    ⟨(.prim .id), [.tmp 2], (some 22), (some (19, false))⟩,
    ⟨(.prim (.bin .lss .none)), [.tmp 21, .tmp 22], (some 23), (some (19, false))⟩,
    ⟨(.prim .pick), [.tmp 19, .const (.bool true), .tmp 23], (some 24), none⟩,
    ⟨(.prim .id), [.tmp 24], (some 25), none⟩,
    ⟨(.prim .id), [.tmp 1], (some 26), (some (25, false))⟩,
    ⟨(.prim .id), [.tmp 0], (some 27), (some (25, false))⟩,
    ⟨(.prim .len), [.tmp 27], (some 28), (some (25, false))⟩,
    ⟨(.prim .id), [.tmp 2], (some 29), (some (25, false))⟩,
    ⟨(.prim (.bin .sub .none)), [.tmp 28, .tmp 29], (some 30), (some (25, false))⟩,
    ⟨(.prim (.bin .gtr .none)), [.tmp 26, .tmp 30], (some 31), (some (25, false))⟩,
    ⟨(.prim .pick), [.tmp 25, .const (.bool true), .tmp 31], (some 32), none⟩,
    ⟨(.prim .id), [.tmp 32], (some 16), none⟩] none)
   (.cond (.tmp 16)
    (.seq (.region [⟨(.prim .id), [.const (.int .i64 0)], (some 6), none⟩,
     ⟨(.prim .id), [.const (.int .i64 40)], (some 7), none⟩] none)
    .ret)
    .skip)))))
 (.seq (.seq (.region [⟨(.prim .id), [.tmp 2], (some 33), none⟩,
  ⟨(.prim .id), [.const (.int .i64 0)], (some 34), none⟩] none)
 (.block 1
  (.loop
   (.seq (.region [⟨(.prim (.bin .lss .none)), [.tmp 34, .tmp 33], (some 35), none⟩] none)
   (.seq (.cond (.tmp 35)
    .skip
    (.exit 1))
   (.seq (.block 2
    (.seq (.region [⟨(.prim .id), [.tmp 34], (some 36), none⟩,
     ⟨(.prim .id), [.tmp 36], (some 8), none⟩] none)
    (.region [⟨(.prim .id), [.tmp 6], (some 37), none⟩,
     ⟨(.prim .id), [.tmp 0], (some 38), none⟩,
     ⟨(.prim .id), [.tmp 1], (some 39), none⟩,
     ⟨(.prim .id), [.tmp 8], (some 40), none⟩,
     ⟨(.prim (.bin .add .none)), [.tmp 39, .tmp 40], (some 41), none⟩,
     ⟨(.prim (.idxSl none)), [.tmp 38, .tmp 41], (some 42), none⟩,
     ⟨(.prim (.load none)), [.tmp 42], (some 43), none⟩,
     ⟨(.prim (.conv .i64)), [.tmp 43], (some 44), none⟩,
     ⟨(.prim .id), [.tmp 8], (some 45), none⟩,
     ⟨(.prim (.bin .mul .none)), [.const (.int .i64 8), .tmp 45], (some 46), none⟩,
     ⟨(.prim (.bin .shl .none)), [.tmp 44, .tmp 46], (some 47), none⟩,
     ⟨(.prim (.bin .or .none)), [.tmp 37, .tmp 47], (some 48), none⟩,
     ⟨(.prim .id), [.tmp 48], (some 6), none⟩] none)))
   (.region [⟨(.prim (.bin .add .none)), [.tmp 34, .const (.int .i64 1)], (some 49), none⟩,
    ⟨(.prim .id), [.tmp 49], (some 34), none⟩] none)))))))
 (.seq (.region [⟨(.prim .id), [.tmp 6], (some 50), none⟩,
  ⟨(.prim .id), [.tmp 50], (some 6), none⟩,
  ⟨(.prim .id), [.const (.int .i64 0)], (some 7), none⟩] none)
 .ret))))
theorem F27 : IsFun Try.prog 27 3 51 c27 [.tmp 6, .tmp 7] := ⟨by decide, Try.f27, _, [], Try.func27, rfl, by decide, rfl, by kernel_rfl, by kernel_rfl⟩

/-- cashbox/cashboxref01.Open -/
def c28 : ACode :=
 (.seq (.region [⟨(.prim .id), [.const (.sl .clip [])], (some 2), none⟩,
  ⟨(.prim .id), [.const (.bool false)], (some 3), none⟩] none)
 (.seq (.seq (.region [⟨(.prim .id), [.tmp 0], (some 7), none⟩,
  ⟨(.prim .len), [.tmp 7], (some 8), none⟩,
  ⟨(.prim (.bin .lss .none)), [.tmp 8, .const (.int .i64 4)], (some 9), none⟩] none)
 (.cond (.tmp 9)
  (.seq (.region [⟨(.prim .id), [.const (.sl .clip [])], (some 2), none⟩,
   ⟨(.prim .id), [.const (.bool false)], (some 3), none⟩] none)
  .ret)
  .skip))
 (.seq (.region [⟨(.prim .id), [.tmp 0], (some 10), none⟩,
  ⟨(.prim .len), [.tmp 10], (some 11), none⟩,
  ⟨(.prim (.bin .sub .none)), [.tmp 11, .const (.int .i64 4)], (some 12), none⟩,
  ⟨(.prim .id), [.tmp 12], (some 4), none⟩] none)
 (.seq (.region [⟨(.prim .id), [.tmp 0], (some 13), none⟩,
  ⟨(.prim .id), [.tmp 4], (some 14), none⟩,
  ⟨(.prim (.slcSl none false true false)), [.tmp 13, .tmp 14], (some 15), none⟩,
  ⟨(.call 9), [.tmp 15], (some 16), none⟩,
  ⟨(.prim .id), [.tmp 16], (some 5), none⟩] none)
 (.seq (.seq (.region [⟨(.prim .id), [.tmp 0], (some 17), none⟩,
  ⟨(.prim .id), [.tmp 4], (some 18), none⟩,
  ⟨(.prim (.idxSl none)), [.tmp 17, .tmp 18], (some 19), none⟩,
  ⟨(.prim (.load none)), [.tmp 19], (some 20), none⟩,
  ⟨(.prim .id), [.tmp 5], (some 21), none⟩,
  ⟨(.prim (.conv .u8)), [.tmp 21], (some 22), none⟩,
  ⟨(.prim (.bin .neq .none)), [.tmp 20, .tmp 22], (some 23), none⟩,
  ⟨(.prim .id), [.tmp 23], (some 24), none⟩,
  ⟨(.prim .id), [.tmp 0], (some 25), (some (24, false))⟩,
  ⟨(.prim .id), [.tmp 4], (some 26), (some (24, false))⟩,
  ⟨(.prim (.bin .add .none)), [.tmp 26, .const (.int .i64 1)], (some 27), (some (24, false))⟩,
  ⟨(.prim (.idxSl none)), [.tmp 25, .tmp 27], (some 28), (some (24, false))⟩,
  ⟨(.prim (.load none)), [.tmp 28], (some 29), (some (24, false))⟩,
  ⟨(.prim .id), [.tmp 5], (some 30), (some (24, false))⟩,
  ⟨(.prim (.bin .shr .none)), [.tmp 30, .const (.int .u64 8)], (some 31), (some (24, false))⟩,
  ⟨(.prim (.conv .u8)), [.tmp 31], (some 32), (some (24, false))⟩,
  ⟨(.prim (.bin .neq .none)), [.tmp 29, .tmp 32], (some 33), (some (24, false))⟩,
  ⟨(.prim .pick), [.tmp 24, .const (.bool true), .tmp 33], (some 34), none⟩,
  ⟨(.prim .id), [.tmp 34], (some 35), none⟩,
  ⟨(.prim .id), [.tmp 0], (some 36), (some (35, false))⟩,
  ⟨(.prim .id), [.tmp 4], (some 37), (some (35, false))⟩,
  ⟨(.prim (.bin .add .none)), [.tmp 37, .const (.int .i64 2)], (some 38), (some (35, false))⟩,
  ⟨(.prim (.idxSl none)), [.tmp 36, .tmp 38], (some 39), (some (35, false))⟩,
  ⟨(.prim (.load none)), [.tmp 39], (some 40), (some (35, false))⟩,
  ⟨(.prim .id), [.tmp 5], (some 41), (some (35, false))⟩,
  ⟨(.prim (.bin .shr .none)), [.tmp 41, .const (.int .u64 16)], (some 42), (some (35, false))⟩,
  ⟨(.prim (.conv .u8)), [.tmp 42], (some 43), (some (35, false))⟩,
  ⟨(.prim (.bin .neq .none)), [.tmp 40, .tmp 43], (some 44), (some (35, false))⟩,
  ⟨(.prim .pick), [.tmp 35, .const (.bool true), .tmp 44], (some 45), none⟩,
  ⟨(.prim .id), [.tmp 45], (some 46), none⟩,
  ⟨(.prim .id), [.tmp 0], (some 47), (some (46, false))⟩,
  ⟨(.prim .id), [.tmp 4], (some 48), (some (46, false))⟩,
  ⟨(.prim (.bin .add .none)), [.tmp 48, .const (.int .i64 3)], (some 49), (some (46, false))⟩,
  ⟨(.prim (.idxSl none)), [.tmp 47, .tmp 49], (some 50), (some (46, false))⟩,
  ⟨(.prim (.load none)), [.tmp 50], (some 51), (some (46, false))⟩,
  ⟨(.prim .id), [.tmp 5], (some 52), (some (46, false))⟩,
  ⟨(.prim (.bin .shr .none)), [.tmp 52, .const (.int .u64 24)], (some 53), (some (46, false))⟩,
  ⟨(.prim (.conv .u8)), [.tmp 53], (some 54), (some (46, false))⟩,
  ⟨(.prim (.bin .neq .none)), [.tmp 51, .tmp 54], (some 55), (some (46, false))⟩,
  ⟨(.prim .pick), [.tmp 46, .const (.bool true), .tmp 55], (some 56), none⟩] none)
 (.cond (.tmp 56)
  (.seq (.region [⟨(.prim .id), [.const (.sl .clip [])], (some 2), none⟩,
   ⟨(.prim .id), [.const (.bool false)], (some 3), none⟩] none)
  .ret)
  .skip))
 (.seq (.region [⟨(.prim .id), [.const (.sl .clip [])], (some 6), none⟩] none)
 (.seq (.region [⟨(.prim .id), [.tmp 6], (some 57), none⟩,
  ⟨(.prim .id), [.tmp 0], (some 58), none⟩,
  ⟨(.prim .id), [.tmp 4], (some 59), none⟩,
  ⟨(.prim (.slcSl none false true false)), [.tmp 58, .tmp 59], (some 60), none⟩,
  ⟨(.prim (.append none)), [.tmp 57, .tmp 60], (some 61), none⟩,
  ⟨(.prim .id), [.tmp 61], (some 2), none⟩,
  ⟨(.prim .id), [.const (.bool true)], (some 3), none⟩] none)
 .ret)))))))
theorem F28 : IsFun Try.prog 28 1 62 c28 [.tmp 2, .tmp 3] := ⟨by decide, Try.f28, _, [], Try.func28, rfl, by decide, rfl, by kernel_rfl, by kernel_rfl⟩

-- loop: 0:b, 3:n, 4:i
/-- cashbox/cashboxref04.number -/
def c29 : ACode :=
 (.seq (.region [⟨(.prim .id), [.const (.int .u64 0)], (some 2), none⟩] none)
 (.seq (.region [⟨(.prim .id), [.const (.int .u64 0)], (some 3), none⟩] none)
 (.seq (.seq (.region [⟨(.prim .id), [.tmp 0], (some 5), none⟩,
  ⟨(.prim .len), [.tmp 5], (some 6), none⟩,
  ⟨(.prim (.bin .sub .none)), [.tmp 6, .const (.int .i64 1)], (some 7), none⟩,
  ⟨(.prim .id), [.tmp 7], (some 4), none⟩] none)
 (.block 0
  (.loop
   (.seq (.seq (.region [⟨(.prim .id), [.tmp 4], (some 8), none⟩,
    ⟨(.prim (.bin .geq .none)), [.tmp 8, .const (.int .i64 0)], (some 9), none⟩] none)
   (.cond (.tmp 9)
    .skip
    (.exit 0)))
   (.seq (.block 1
    (.region [⟨(.prim .id), [.tmp 3], (some 12), none⟩,
     ⟨(.prim (.bin .shl .none)), [.tmp 12, .const (.int .u64 8)], (some 13), none⟩,
     ⟨(.prim .id), [.tmp 0], (some 14), none⟩,
     ⟨(.prim .id), [.tmp 4], (some 15), none⟩,
     ⟨(.prim (.idxSl none)), [.tmp 14, .tmp 15], (some 16), none⟩,
     ⟨(.prim (.load none)), [.tmp 16], (some 17), none⟩,
     ⟨(.prim (.conv .u64)), [.tmp 17], (some 18), none⟩,
     ⟨(.prim (.bin .or .none)), [.tmp 13, .tmp 18], (some 19), none⟩,
     ⟨(.prim .id), [.tmp 19], (some 3), none⟩] none))
   (.region [⟨(.prim .id), [.tmp 4], (some 10), none⟩,
    ⟨(.prim (.bin .sub .none)), [.tmp 10, .const (.int .i64 1)], (some 11), none⟩,
    ⟨(.prim .id), [.tmp 11], (some 4), none⟩] none))))))
 (.seq (.region [⟨(.prim .id), [.tmp 3], (some 20), none⟩,
  ⟨(.prim .id), [.tmp 20], (some 2), none⟩] none)
 .ret))))
theorem F29 : IsFun Try.prog 29 1 21 c29 [.tmp 2] := ⟨by decide, Try.f29, _, [], Try.func29, rfl, by decide, rfl, by kernel_rfl, by kernel_rfl⟩

/-- cashbox/sums.Join -/
def c30 : ACode :=
 (.seq (.region [⟨(.prim .id), [.const (.int .u32 0)], (some 4), none⟩] none)
 (.seq (.region [⟨(.prim .id), [.tmp 0], (some 5), none⟩,
  ⟨(.prim (.un .xor)), [.tmp 5], (some 6), none⟩,
  ⟨(.prim .id), [.tmp 1], (some 7), none⟩,
  ⟨(.call 33), [.tmp 6, .tmp 7], (some 8), none⟩,
  ⟨(.prim (.un .xor)), [.tmp 8], (some 9), none⟩,
  ⟨(.prim .id), [.tmp 9], (some 4), none⟩] none)
 .ret))
theorem F30 : IsFun Try.prog 30 2 10 c30 [.tmp 4] := ⟨by decide, Try.f30, _, [], Try.func30, rfl, by decide, rfl, by kernel_rfl, by kernel_rfl⟩

-- loop: 0:r, 5:i
/-- cashbox/cashboxref01.remainder -/
def c31 : ACode :=
 (.seq (.region [⟨(.prim .id), [.const (.int .u32 0)], (some 4), none⟩] none)
 (.seq (.region [⟨(.prim .id), [.tmp 0], (some 6), none⟩,
  ⟨(.prim .id), [.tmp 1], (some 7), none⟩,
  ⟨(.prim (.conv .u32)), [.tmp 7], (some 8), none⟩,
  ⟨(.prim (.bin .xor .none)), [.tmp 6, .tmp 8], (some 9), none⟩,
  ⟨(.prim .id), [.tmp 9], (some 0), none⟩] none)
 (.seq (.seq (.region [⟨(.prim .id), [.const (.int .i64 0)], (some 5), none⟩] none)
 (.block 0
  (.loop
   (.seq (.seq (.region [⟨(.prim .id), [.tmp 5], (some 10), none⟩,
    ⟨(.prim (.bin .lss .none)), [.tmp 10, .const (.int .i64 8)], (some 11), none⟩] none)
   (.cond (.tmp 11)
    .skip
    (.exit 0)))
   (.seq (.block 1
    (.seq (.region [⟨(.prim .id), [.tmp 0], (some 14), none⟩,
     ⟨(.prim (.bin .and .none)), [.tmp 14, .const (.int .u32 1)], (some 15), none⟩,
     ⟨(.prim (.bin .eql .none)), [.tmp 15, .const (.int .u32 1)], (some 16), none⟩] none)
    (.cond (.tmp 16)
     (.region [⟨(.prim .id), [.tmp 0], (some 17), none⟩,
      ⟨(.prim (.bin .shr .none)), [.tmp 17, .const (.int .u64 1)], (some 18), none⟩,
      ⟨(.prim (.bin .xor .none)), [.tmp 18, .const (.int .u32 3988292384)], (some 19), none⟩,
      ⟨(.prim .id), [.tmp 19], (some 0), none⟩] none)
     (.region [⟨(.prim .id), [.tmp 0], (some 20), none⟩,
      ⟨(.prim (.bin .shr .none)), [.tmp 20, .const (.int .u64 1)], (some 21), none⟩,
      ⟨(.prim .id), [.tmp 21], (some 0), none⟩] none))))
   (.region [⟨(.prim .id), [.tmp 5], (some 12), none⟩,
    ⟨(.prim (.bin .add .none)), [.tmp 12, .const (.int .i64 1)], (some 13), none⟩,
    ⟨(.prim .id), [.tmp 13], (some 5), none⟩] none))))))
 (.seq (.region [⟨(.prim .id), [.tmp 0], (some 22), none⟩,
  ⟨(.prim .id), [.tmp 22], (some 4), none⟩] none)
 .ret))))
theorem F31 : IsFun Try.prog 31 2 23 c31 [.tmp 4] := ⟨by decide, Try.f31, _, [], Try.func31, rfl, by decide, rfl, by kernel_rfl, by kernel_rfl⟩

/-- cashbox/pack.Fits -/
def c32 : ACode :=
 (.seq (.region [⟨(.prim .id), [.const (.bool false)], (some 4), none⟩] none)
 (.seq (.region [⟨(.prim .id), [.tmp 1], (some 5), none⟩,
  ⟨(.prim (.bin .geq .none)), [.tmp 5, .const (.int .i64 1)], (some 6), none⟩,
  ⟨(.prim .id), [.tmp 6], (some 7), none⟩,
  ⟨(.prim .id), [.tmp 1], (some 8), (some (7, true))⟩,
  ⟨(.prim (.bin .leq .none)), [.tmp 8, .const (.int .i64 6)], (some 9), (some (7, true))⟩,
  ⟨(.prim .pick), [.tmp 7, .tmp 9, .const (.bool false)], (some 10), none⟩,
  ⟨(.prim .id), [.tmp 10], (some 11), none⟩,
  ⟨(.prim .id), [.tmp 0], (some 12), (some (11, true))⟩,
  ⟨(.prim (.bin .geq .none)), [.tmp 12, .const (.int .i64 0)], (some 13), (some (11, true))⟩,
  ⟨(.prim .pick), [.tmp 11, .tmp 13, .const (.bool false)], (some 14), none⟩,
  ⟨(.prim .id), [.tmp 14], (some 15), none⟩,
  ⟨(.prim .id), [.tmp 0], (some 16), (some (15, true))⟩,
  ⟨(.prim .id), [.tmp 1], (some 17), (some (15, true))⟩,
  ⟨(.prim (.bin .mul .none)), [.const (.int .i64 8), .tmp 17], (some 18), (some (15, true))⟩,
  ⟨(.prim (.bin .shr .none)), [.tmp 16, .tmp 18], (some 19), (some (15, true))⟩,
  ⟨(.prim (.bin .eql .none)), [.tmp 19, .const (.int .i64 0)], (some 20), (some (15, true))⟩,
  ⟨(.prim .pick), [.tmp 15, .tmp 20, .const (.bool false)], (some 21), none⟩,
  ⟨(.prim .id), [.tmp 21], (some 4), none⟩] none)
 .ret))
theorem F32 : IsFun Try.prog 32 2 22 c32 [.tmp 4] := ⟨by decide, Try.f32, _, [], Try.func32, rfl, by decide, rfl, by kernel_rfl, by kernel_rfl⟩

-- loop: 0:r, 1:b, 5:t, 9:, 10:
/-- cashbox/sums.through[[]byte] -/
def c33 : ACode :=
 (.seq (.region [⟨(.prim .id), [.const (.int .u32 0)], (some 4), none⟩] none)
 (.seq (.region [⟨(.call 34), [], (some 7), none⟩,
  ⟨(.prim (.alloc [(.int .u32 0), (.int .u32 0), (.int .u32 0), (.int .u32 0), (.int .u32 0), (.int .u32 0), (.int .u32 0), (.int .u32 0), (.int .u32 0), (.int .u32 0), (.int .u32 0), (.int .u32 0), (.int .u32 0), (.int .u32 0), (.int .u32 0), (.int .u32 0)])), [], (some 5), none⟩,
  ⟨(.prim (.store (some 16))), [.tmp 5, .tmp 7], none, none⟩] none)
 (.seq (.seq (.region [⟨(.prim .id), [.tmp 1], (some 8), none⟩,
  ⟨(.prim .len), [.tmp 8], (some 9), none⟩,
  ⟨(.prim .id), [.const (.int .i64 0)], (some 10), none⟩] none)
 (.block 0
  (.loop
   (.seq (.region [⟨(.prim (.bin .lss .none)), [.tmp 10, .tmp 9], (some 11), none⟩] none)
   (.seq (.cond (.tmp 11)
    .skip
    (.exit 0))
   (.seq (.block 1
    (.seq (.region [⟨(.prim .id), [.tmp 10], (some 12), none⟩,
     ⟨(.prim .id), [.tmp 12], (some 6), none⟩] none)
    (.seq (.region [⟨(.prim .id), [.tmp 0], (some 13), none⟩,
     ⟨(.prim .id), [.tmp 1], (some 14), none⟩,
     ⟨(.prim .id), [.tmp 6], (some 15), none⟩,
     ⟨(.prim (.idxSl none)), [.tmp 14, .tmp 15], (some 16), none⟩,
     ⟨(.prim (.load none)), [.tmp 16], (some 17), none⟩,
     ⟨(.prim (.conv .u32)), [.tmp 17], (some 18), none⟩,
     ⟨(.prim (.bin .xor .none)), [.tmp 13, .tmp 18], (some 19), none⟩,
     ⟨(.prim .id), [.tmp 19], (some 0), none⟩] none)
    (.seq (.region [⟨(.prim .id), [.tmp 0], (some 20), none⟩,
     ⟨(.prim (.bin .shr .none)), [.tmp 20, .const (.int .u64 4)], (some 21), none⟩,
     ⟨(.prim .id), [.tmp 0], (some 22), none⟩,
     ⟨(.prim (.bin .and .none)), [.tmp 22, .const (.int .u32 15)], (some 23), none⟩,
     ⟨(.prim (.idxArr 16 none)), [.tmp 5, .tmp 23], (some 24), none⟩,
     ⟨(.prim (.load none)), [.tmp 24], (some 25), none⟩,
     ⟨(.prim (.bin .xor .none)), [.tmp 21, .tmp 25], (some 26), none⟩,
     ⟨(.prim .id), [.tmp 26], (some 0), none⟩] none)
    (.region [⟨(.prim .id), [.tmp 0], (some 27), none⟩,
     ⟨(.prim (.bin .shr .none)), [.tmp 27, .const (.int .u64 4)], (some 28), none⟩,
     ⟨(.prim .id), [.tmp 0], (some 29), none⟩,
     ⟨(.prim (.bin .and .none)), [.tmp 29, .const (.int .u32 15)], (some 30), none⟩,
     ⟨(.prim (.idxArr 16 none)), [.tmp 5, .tmp 30], (some 31), none⟩,
     ⟨(.prim (.load none)), [.tmp 31], (some 32), none⟩,
     ⟨(.prim (.bin .xor .none)), [.tmp 28, .tmp 32], (some 33), none⟩,
     ⟨(.prim .id), [.tmp 33], (some 0), none⟩] none)))))
   (.region [⟨(.prim (.bin .add .none)), [.tmp 10, .const (.int .i64 1)], (some 34), none⟩,
    ⟨(.prim .id), [.tmp 34], (some 10), none⟩] none)))))))
 (.seq (.region [⟨(.prim .id), [.tmp 0], (some 35), none⟩,
  ⟨(.prim .id), [.tmp 35], (some 4), none⟩] none)
 .ret))))
theorem F33 : IsFun Try.prog 33 2 36 c33 [.tmp 4] := ⟨by decide, Try.f33, _, [], Try.func33, rfl, by decide, rfl, by kernel_rfl, by kernel_rfl⟩

-- loop: 0:, 1:half, 2:t, 4:
/-- cashbox/sums.table -/
def c34 : ACode :=
 (.seq (.region [⟨(.prim (.alloc [(.int .u32 0), (.int .u32 0), (.int .u32 0), (.int .u32 0), (.int .u32 0), (.int .u32 0), (.int .u32 0), (.int .u32 0), (.int .u32 0), (.int .u32 0), (.int .u32 0), (.int .u32 0), (.int .u32 0), (.int .u32 0), (.int .u32 0), (.int .u32 0)])), [], (some 0), none⟩] none)
 (.seq (.region [⟨(.prim .id), [.const (.fn (.func 35) [] [])], (some 1), none⟩] none)
 (.seq (.region [⟨(.prim (.alloc [(.int .u32 0), (.int .u32 0), (.int .u32 0), (.int .u32 0), (.int .u32 0), (.int .u32 0), (.int .u32 0), (.int .u32 0), (.int .u32 0), (.int .u32 0), (.int .u32 0), (.int .u32 0), (.int .u32 0), (.int .u32 0), (.int .u32 0), (.int .u32 0)])), [], (some 2), none⟩] none)
 (.seq (.seq (.region [⟨(.prim .id), [.const (.int .i64 0)], (some 4), none⟩] none)
 (.block 0
  (.loop
   (.seq (.region [⟨(.prim (.bin .lss .none)), [.tmp 4, .const (.int .i64 16)], (some 5), none⟩] none)
   (.seq (.cond (.tmp 5)
    .skip
    (.exit 0))
   (.seq (.block 1
    (.seq (.region [⟨(.prim .id), [.tmp 4], (some 6), none⟩,
     ⟨(.prim .id), [.tmp 6], (some 3), none⟩] none)
    (.region [⟨(.prim .id), [.tmp 3], (some 7), none⟩,
     ⟨(.prim .id), [.tmp 1], (some 8), none⟩,
     ⟨(.prim .id), [.tmp 3], (some 9), none⟩,
     ⟨(.prim (.conv .u32)), [.tmp 9], (some 10), none⟩,
     ⟨.callV, [.tmp 8, .tmp 10], (some 11), none⟩,
     ⟨(.prim (.idxArr 16 none)), [.tmp 2, .tmp 7], (some 12), none⟩,
     ⟨(.prim (.store none)), [.tmp 12, .tmp 11], none, none⟩] none)))
   (.region [⟨(.prim (.bin .add .none)), [.tmp 4, .const (.int .i64 1)], (some 13), none⟩,
    ⟨(.prim .id), [.tmp 13], (some 4), none⟩] none)))))))
 (.seq (.region [⟨(.prim (.load (some 16))), [.tmp 2], (some 14), none⟩,
  ⟨(.prim (.store (some 16))), [.tmp 0, .tmp 14], none, none⟩] none)
 .ret)))))
theorem F34 : IsFun Try.prog 34 0 15 c34 [.cell 0 (some 16)] := ⟨by decide, Try.f34, _, [], Try.func34, rfl, by decide, rfl, by kernel_rfl, by kernel_rfl⟩

-- loop: 0:r, 3:
/-- cashbox/sums.table$1 -/
def c35 : ACode :=
 (.seq (.region [⟨(.prim .id), [.const (.int .u32 0)], (some 2), none⟩] none)
 (.seq (.seq (.region [⟨(.prim .id), [.const (.int .i64 0)], (some 3), none⟩] none)
 (.block 0
  (.loop
   (.seq (.region [⟨(.prim (.bin .lss .none)), [.tmp 3, .const (.int .i64 4)], (some 4), none⟩] none)
   (.seq (.cond (.tmp 4)
    .skip
    (.exit 0))
   (.seq (.block 1
    (.region [⟨(.prim .id), [.tmp 0], (some 5), none⟩,
     ⟨(.prim (.bin .shr .none)), [.tmp 5, .const (.int .u64 1)], (some 6), none⟩,
     ⟨(.prim .id), [.tmp 0], (some 7), none⟩,
     ⟨(.prim (.bin .and .none)), [.tmp 7, .const (.int .u32 1)], (some 8), none⟩,
     ⟨(.prim (.un .neg)), [.tmp 8], (some 9), none⟩,
     ⟨(.prim (.bin .and .none)), [.const (.int .u32 3988292384), .tmp 9], (some 10), none⟩,
     ⟨(.prim (.bin .xor .none)), [.tmp 6, .tmp 10], (some 11), none⟩,
     ⟨(.prim .id), [.tmp 11], (some 0), none⟩] none))
   (.region [⟨(.prim (.bin .add .none)), [.tmp 3, .const (.int .i64 1)], (some 12), none⟩,
    ⟨(.prim .id), [.tmp 12], (some 3), none⟩] none)))))))
 (.seq (.region [⟨(.prim .id), [.tmp 0], (some 13), none⟩,
  ⟨(.prim .id), [.tmp 13], (some 2), none⟩] none)
 .ret)))
theorem F35 : IsFun Try.prog 35 1 14 c35 [.tmp 2] := ⟨by decide, Try.f35, _, [], Try.func35, rfl, by decide, rfl, by kernel_rfl, by kernel_rfl⟩

end Go.Proofs.Ytghodhkcjjjjnaa
