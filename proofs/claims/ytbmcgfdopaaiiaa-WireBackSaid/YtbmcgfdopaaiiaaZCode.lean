/- The functions' code for the abstract machine, printed by wip/tools/Gen.lean. -/
import Derived.Test.YtbmcgfdopaaiiaaProg
import Derived.Test.YtbmcgfdopaaiiaaZAmEval
import Derived.KernelRfl
set_option linter.all false
namespace Go.Proofs.Ytbmcgfdopaaiiaa
open Go.Am

-- loop: 2:k, 20:, 21:, 22:
-- loop: 2:k, 6:m, 7:o, 8:how, 20:, 21:, 22:, 38:
/-- cashbox/cashboxlaw17.EpochRises -/
def c3 : ACode :=
 (.seq (.region [⟨(.prim (.box (some 7))), [.tmp 0], (some 2), none⟩,
  ⟨(.prim .id), [.const (.bool false)], (some 4), none⟩] none)
 (.seq (.seq (.region [⟨(.prim .id), [.tmp 1], (some 11), none⟩,
  ⟨(.prim .len), [.tmp 11], (some 12), none⟩,
  ⟨(.prim (.bin .gtr .none)), [.tmp 12, .const (.int .i64 100)], (some 13), none⟩,
  ⟨(.prim .id), [.tmp 13], (some 14), none⟩,
  ⟨(.prim (.load (some 7))), [.tmp 2], (some 15), (some (14, false))⟩,
  ⟨(.call 9), [.tmp 15], (some 16), (some (14, false))⟩,
  ⟨(.prim (.un .not)), [.tmp 16], (some 17), (some (14, false))⟩,
  ⟨(.prim .pick), [.tmp 14, .const (.bool true), .tmp 17], (some 18), none⟩] none)
 (.cond (.tmp 18)
  (.seq (.region [⟨(.call 10), [], (some 19), none⟩,
   ⟨(.prim .id), [.tmp 19], (some 4), none⟩] none)
  .ret)
  .skip))
 (.seq (.seq (.region [⟨(.prim .id), [.tmp 1], (some 20), none⟩,
  ⟨(.prim .len), [.tmp 20], (some 21), none⟩,
  ⟨(.prim .id), [.const (.int .i64 0)], (some 22), none⟩] none)
 (.block 0
  (.loop
   (.seq (.region [⟨(.prim (.bin .lss .none)), [.tmp 22, .tmp 21], (some 23), none⟩] none)
   (.seq (.cond (.tmp 23)
    .skip
    (.exit 0))
   (.seq (.block 1
    (.seq (.region [⟨(.prim (.idxSl (some 24))), [.tmp 20, .tmp 22], (some 24), none⟩,
     ⟨(.prim (.load (some 24))), [.tmp 24], (some 25), none⟩,
     ⟨(.prim (.alloc [(.int .i8 0), (.int .i64 0), (.int .i64 0), (.int .i64 0), (.int .i64 0), (.int .i64 0), (.int .i64 0), (.int .i64 0), (.int .i64 0), (.int .i8 0), (.int .i64 0), (.int .u8 0), (.int .u8 0), (.int .u8 0), (.int .u8 0), (.int .u8 0), (.int .u8 0), (.int .u8 0), (.int .u8 0), (.int .i64 0), (.bool false), (.int .i64 0), (.int .i64 0), (.sl .clip [])])), [], (some 6), none⟩,
     ⟨(.prim (.store (some 24))), [.tmp 6, .tmp 25], none, none⟩] none)
    (.seq (.seq (.region [⟨(.prim (.load (some 24))), [.tmp 6], (some 26), none⟩,
     ⟨(.call 11), [.tmp 26], (some 27), none⟩] none)
    (.cond (.tmp 27)
     (.seq (.region [⟨(.call 10), [], (some 28), none⟩,
      ⟨(.prim .id), [.tmp 28], (some 4), none⟩] none)
     .ret)
     .skip))
    (.seq (.region [⟨(.prim (.load (some 7))), [.tmp 2], (some 30), none⟩,
     ⟨(.prim (.load (some 24))), [.tmp 6], (some 31), none⟩,
     ⟨(.call 12), [.tmp 30, .tmp 31], (some 32), none⟩,
     ⟨(.prim .id), [.tmp 32], (some 29), none⟩,
     ⟨(.prim (.extract 0)), [.tmp 29], (some 33), none⟩,
     ⟨(.prim (.extract 1)), [.tmp 29], (some 34), none⟩,
     ⟨(.prim (.extract 2)), [.tmp 29], (some 35), none⟩,
     ⟨(.prim (.alloc [(.int .i64 0), (.int .i64 0), (.int .i64 0), (.int .i64 0), (.int .i64 0), (.int .i64 0), (.int .i64 0)])), [], (some 7), none⟩,
     ⟨(.prim (.store (some 7))), [.tmp 7, .tmp 33], none, none⟩,
     ⟨(.prim .id), [.tmp 34], (some 8), none⟩,
     ⟨(.prim .id), [.tmp 35], (some 9), none⟩] none)
    (.seq (.seq (.region [⟨(.prim .id), [.tmp 9], (some 36), none⟩,
     ⟨(.prim (.bin .neq .none)), [.tmp 36, .const (.int .i64 0)], (some 37), none⟩] none)
    (.cond (.tmp 37)
     (.exit 1)
     .skip))
    (.seq (.seq (.region [⟨(.prim .id), [.const (.int .i64 0)], (some 38), none⟩] none)
    (.block 2
     (.loop
      (.seq (.region [⟨(.prim (.bin .lss .none)), [.tmp 38, .const (.int .i64 5)], (some 39), none⟩] none)
      (.seq (.cond (.tmp 39)
       .skip
       (.exit 2))
      (.seq (.block 3
       (.seq (.region [⟨(.prim .id), [.tmp 38], (some 40), none⟩,
        ⟨(.prim .id), [.tmp 40], (some 10), none⟩] none)
       (.seq (.region [⟨(.prim .id), [.tmp 10], (some 41), none⟩,
        ⟨(.prim (.fieldAddr 2 (some 5))), [.tmp 7], (some 42), none⟩,
        ⟨(.prim (.idxArr 5 none)), [.tmp 42, .tmp 41], (some 43), none⟩,
        ⟨(.prim (.load none)), [.tmp 43], (some 44), none⟩,
        ⟨(.prim .id), [.tmp 10], (some 45), none⟩,
        ⟨(.prim (.fieldAddr 2 (some 5))), [.tmp 2], (some 46), none⟩,
        ⟨(.prim (.idxArr 5 none)), [.tmp 46, .tmp 45], (some 47), none⟩,
        ⟨(.prim (.load none)), [.tmp 47], (some 48), none⟩,
        ⟨(.prim (.bin .lss .none)), [.tmp 44, .tmp 48], (some 49), none⟩,
        ⟨(.prim .id), [.tmp 49], (some 50), none⟩,
        ⟨(.prim .id), [.tmp 10], (some 51), (some (50, false))⟩,
        ⟨(.prim (.fieldAddr 2 (some 5))), [.tmp 7], (some 52), (some (50, false))⟩,
        ⟨(.prim (.idxArr 5 none)), [.tmp 52, .tmp 51], (some 53), (some (50, false))⟩,
        ⟨(.prim (.load none)), [.tmp 53], (some 54), (some (50, false))⟩,
        ⟨(.prim .id), [.tmp 10], (some 55), (some (50, false))⟩,
        ⟨(.prim (.fieldAddr 2 (some 5))), [.tmp 2], (some 56), (some (50, false))⟩,
        ⟨(.prim (.idxArr 5 none)), [.tmp 56, .tmp 55], (some 57), (some (50, false))⟩,
        ⟨(.prim (.load none)), [.tmp 57], (some 58), (some (50, false))⟩,
        ⟨(.prim (.bin .neq .none)), [.tmp 54, .tmp 58], (some 59), (some (50, false))⟩,
        ⟨(.prim .id), [.tmp 59], (some 60), (some (50, false))⟩,
        ⟨(.prim .id), [.tmp 10], (some 61), (some (60, true))⟩,
        ⟨(.prim (.fieldAddr 1 none)), [.tmp 6], (some 62), (some (60, true))⟩,
        ⟨(.prim (.load none)), [.tmp 62], (some 63), (some (60, true))⟩,
        ⟨(.prim (.bin .neq .none)), [.tmp 61, .tmp 63], (some 64), (some (60, true))⟩,
        ⟨(.prim .id), [.tmp 64], (some 65), (some (60, true))⟩,
        ⟨(.prim .id), [.tmp 10], (some 66), (some (65, false))⟩,
        ⟨(.prim (.fieldAddr 2 (some 5))), [.tmp 7], (some 67), (some (65, false))⟩,
        ⟨(.prim (.idxArr 5 none)), [.tmp 67, .tmp 66], (some 68), (some (65, false))⟩,
        ⟨(.prim (.load none)), [.tmp 68], (some 69), (some (65, false))⟩,
        ⟨(.prim (.fieldAddr 3 none)), [.tmp 6], (some 70), (some (65, false))⟩,
        ⟨(.prim (.load none)), [.tmp 70], (some 71), (some (65, false))⟩,
        ⟨(.prim (.bin .neq .none)), [.tmp 69, .tmp 71], (some 72), (some (65, false))⟩,
        ⟨(.prim .pick), [.tmp 65, .const (.bool true), .tmp 72], (some 73), (some (60, true))⟩,
        ⟨(.prim .id), [.tmp 73], (some 74), (some (60, true))⟩,
        ⟨(.prim .id), [.tmp 8], (some 75), (some (74, false))⟩,
        ⟨(.prim (.bin .lss .none)), [.tmp 75, .const (.int .i8 2)], (some 76), (some (74, false))⟩,
        ⟨(.prim .pick), [.tmp 74, .const (.bool true), .tmp 76], (some 77), (some (60, true))⟩,
        ⟨(.prim .pick), [.tmp 60, .tmp 77, .const (.bool false)], (some 78), (some (50, false))⟩,
        ⟨(.prim .pick), [.tmp 50, .const (.bool true), .tmp 78], (some 79), none⟩] (some [[], [], [1, 0], [2], [], [], [5, 4], [6], [3, 7], [8], [9], [9], [11, 10, 9], [12, 9], [9], [9], [15, 14, 9], [16, 9], [13, 17, 9], [18, 9, 9], [19], [19], [21, 19], [20, 22, 19], [23, 19, 19], [24], [24], [26, 25, 24], [27, 24], [24], [29, 24], [28, 30, 24], [24, 31, 19], [32, 24, 19], [33], [34, 33], [33, 35, 19], [19, 36, 9], [9, 37]]))
       (.cond (.tmp 79)
        (.seq (.region [⟨(.prim .id), [.const (.bool false)], (some 4), none⟩] none)
        .ret)
        .skip))))
      (.region [⟨(.prim (.bin .add .none)), [.tmp 38, .const (.int .i64 1)], (some 80), none⟩,
       ⟨(.prim .id), [.tmp 80], (some 38), none⟩] none)))))))
    (.seq (.seq (.region [⟨(.prim (.fieldAddr 1 none)), [.tmp 7], (some 81), none⟩,
     ⟨(.prim (.load none)), [.tmp 81], (some 82), none⟩,
     ⟨(.prim (.fieldAddr 1 none)), [.tmp 2], (some 83), none⟩,
     ⟨(.prim (.load none)), [.tmp 83], (some 84), none⟩,
     ⟨(.prim (.bin .neq .none)), [.tmp 82, .tmp 84], (some 85), none⟩,
     ⟨(.prim .id), [.tmp 85], (some 86), none⟩,
     ⟨(.prim (.fieldAddr 0 none)), [.tmp 7], (some 87), (some (86, false))⟩,
     ⟨(.prim (.load none)), [.tmp 87], (some 88), (some (86, false))⟩,
     ⟨(.prim (.fieldAddr 0 none)), [.tmp 2], (some 89), (some (86, false))⟩,
     ⟨(.prim (.load none)), [.tmp 89], (some 90), (some (86, false))⟩,
     ⟨(.prim (.bin .neq .none)), [.tmp 88, .tmp 90], (some 91), (some (86, false))⟩,
     ⟨(.prim .pick), [.tmp 86, .const (.bool true), .tmp 91], (some 92), none⟩,
     ⟨(.prim .id), [.tmp 92], (some 93), none⟩,
     ⟨(.prim .id), [.tmp 8], (some 94), (some (93, false))⟩,
     ⟨(.prim (.bin .eql .none)), [.tmp 94, .const (.int .i8 0)], (some 95), (some (93, false))⟩,
     ⟨(.prim .id), [.tmp 95], (some 96), (some (93, false))⟩,
     ⟨(.prim (.load (some 7))), [.tmp 7], (some 97), (some (96, true))⟩,
     ⟨(.prim (.load (some 7))), [.tmp 2], (some 98), (some (96, true))⟩,
     ⟨(.prim (.bin .neq (.flat [0, 0, 0, 0, 0, 0, 0]))), [.tmp 97, .tmp 98], (some 99), (some (96, true))⟩,
     ⟨(.prim .pick), [.tmp 96, .tmp 99, .const (.bool false)], (some 100), (some (93, false))⟩,
     ⟨(.prim .pick), [.tmp 93, .const (.bool true), .tmp 100], (some 101), none⟩,
     ⟨(.prim .id), [.tmp 101], (some 102), none⟩,
     ⟨(.prim .id), [.tmp 8], (some 103), (some (102, false))⟩,
     ⟨(.prim (.bin .eql .none)), [.tmp 103, .const (.int .i8 3)], (some 104), (some (102, false))⟩,
     ⟨(.prim (.fieldAddr 1 none)), [.tmp 6], (some 105), (some (102, false))⟩,
     ⟨(.prim (.load none)), [.tmp 105], (some 106), (some (102, false))⟩,
     ⟨(.prim (.fieldAddr 2 (some 5))), [.tmp 2], (some 107), (some (102, false))⟩,
     ⟨(.prim (.idxArr 5 none)), [.tmp 107, .tmp 106], (some 108), (some (102, false))⟩,
     ⟨(.prim (.load none)), [.tmp 108], (some 109), (some (102, false))⟩,
     ⟨(.prim (.bin .gtr .none)), [.tmp 109, .const (.int .i64 0)], (some 110), (some (102, false))⟩,
     ⟨(.prim .id), [.tmp 110], (some 111), (some (102, false))⟩,
     ⟨(.prim (.fieldAddr 3 none)), [.tmp 6], (some 112), (some (111, true))⟩,
     ⟨(.prim (.load none)), [.tmp 112], (some 113), (some (111, true))⟩,
     ⟨(.prim (.fieldAddr 1 none)), [.tmp 6], (some 114), (some (111, true))⟩,
     ⟨(.prim (.load none)), [.tmp 114], (some 115), (some (111, true))⟩,
     ⟨(.prim (.fieldAddr 2 (some 5))), [.tmp 2], (some 116), (some (111, true))⟩,
     ⟨(.prim (.idxArr 5 none)), [.tmp 116, .tmp 115], (some 117), (some (111, true))⟩,
     ⟨(.prim (.load none)), [.tmp 117], (some 118), (some (111, true))⟩,
     ⟨(.prim (.bin .gtr .none)), [.tmp 113, .tmp 118], (some 119), (some (111, true))⟩,
     ⟨(.prim .pick), [.tmp 111, .tmp 119, .const (.bool false)], (some 120), (some (102, false))⟩,
     ⟨(.prim .id), [.tmp 120], (some 121), (some (102, false))⟩,
     ⟨(.prim .id), [.tmp 8], (some 122), (some (121, true))⟩,
     ⟨(.prim (.bin .gtr .none)), [.tmp 122, .const (.int .i8 0)], (some 123), (some (121, true))⟩,
     ⟨(.prim .pick), [.tmp 121, .tmp 123, .const (.bool false)], (some 124), (some (102, false))⟩,
     ⟨(.prim (.bin .neq .bool)), [.tmp 104, .tmp 124], (some 125), (some (102, false))⟩,
     ⟨(.prim .pick), [.tmp 102, .const (.bool true), .tmp 125], (some 126), none⟩] (some [[], [0], [], [2], [1, 3], [4], [5], [6, 5], [5], [8, 5], [7, 9, 5], [5, 10], [11, 5], [12], [13, 12], [14, 12, 12], [15], [15], [16, 17, 15], [15, 18, 12], [12, 19], [20, 15], [21], [22, 21], [21], [24, 21], [21], [26, 25, 21], [27, 21], [28, 21], [29, 21, 21], [30], [31, 30], [30], [33, 30], [30], [35, 34, 30], [36, 30], [32, 37, 30], [30, 38, 21], [39, 30, 21], [40], [41, 40], [40, 42, 21], [23, 43, 21], [21, 44]]))
    (.cond (.tmp 126)
     (.seq (.region [⟨(.prim .id), [.const (.bool false)], (some 4), none⟩] none)
     .ret)
     .skip))
    (.region [⟨(.prim (.load (some 7))), [.tmp 7], (some 127), none⟩,
     ⟨(.prim (.store (some 7))), [.tmp 2, .tmp 127], none, none⟩] none))))))))
   (.region [⟨(.prim (.bin .add .none)), [.tmp 22, .const (.int .i64 1)], (some 128), none⟩,
    ⟨(.prim .id), [.tmp 128], (some 22), none⟩] none)))))))
 (.seq (.region [⟨(.call 10), [], (some 129), none⟩,
  ⟨(.prim .id), [.tmp 129], (some 4), none⟩] none)
 .ret))))
theorem F3 : IsFun Try.prog 3 2 130 c3 [.tmp 4] := ⟨by decide, Try.f3, _, [], Try.func3, rfl, by decide, rfl, by kernel_rfl, by kernel_rfl⟩

/-- cashbox/cashboxlaw17.EpochOld -/
def c4 : ACode :=
 (.seq (.region [⟨(.prim (.boxR (some 7))), [.tmp 0], (some 2), none⟩,
  ⟨(.prim (.boxR (some 24))), [.tmp 1], (some 3), none⟩,
  ⟨(.prim .id), [.const (.bool false)], (some 4), none⟩] none)
 (.seq (.seq (.region [⟨(.prim (.load (some 24))), [.tmp 3], (some 9), none⟩,
  ⟨(.call 11), [.tmp 9], (some 10), none⟩,
  ⟨(.prim .id), [.tmp 10], (some 11), none⟩,
  ⟨(.prim (.load (some 7))), [.tmp 2], (some 12), (some (11, false))⟩,
  ⟨(.call 9), [.tmp 12], (some 13), (some (11, false))⟩,
  ⟨(.prim (.un .not)), [.tmp 13], (some 14), (some (11, false))⟩,
  ⟨(.prim .pick), [.tmp 11, .const (.bool true), .tmp 14], (some 15), none⟩,
  ⟨(.prim .id), [.tmp 15], (some 16), none⟩,
  ⟨(.prim (.load (some 24))), [.tmp 3], (some 17), (some (16, false))⟩,
  ⟨(.call 13), [.tmp 17], (some 18), (some (16, false))⟩,
  ⟨(.prim (.un .not)), [.tmp 18], (some 19), (some (16, false))⟩,
  ⟨(.prim .pick), [.tmp 16, .const (.bool true), .tmp 19], (some 20), none⟩,
  ⟨(.prim .id), [.tmp 20], (some 21), none⟩,
  ⟨(.prim (.fieldAddr 2 none)), [.tmp 3], (some 22), (some (21, false))⟩,
  ⟨(.prim (.load none)), [.tmp 22], (some 23), (some (21, false))⟩,
  ⟨(.prim (.fieldAddr 0 none)), [.tmp 2], (some 24), (some (21, false))⟩,
  ⟨(.prim (.load none)), [.tmp 24], (some 25), (some (21, false))⟩,
  ⟨(.prim (.bin .neq .none)), [.tmp 23, .tmp 25], (some 26), (some (21, false))⟩,
  ⟨(.prim .pick), [.tmp 21, .const (.bool true), .tmp 26], (some 27), none⟩] none)
 (.cond (.tmp 27)
  (.seq (.region [⟨(.call 10), [], (some 28), none⟩,
   ⟨(.prim .id), [.tmp 28], (some 4), none⟩] none)
  .ret)
  .skip))
 (.seq (.region [⟨(.prim (.load (some 7))), [.tmp 2], (some 30), none⟩,
  ⟨(.prim (.load (some 24))), [.tmp 3], (some 31), none⟩,
  ⟨(.call 12), [.tmp 30, .tmp 31], (some 32), none⟩,
  ⟨(.prim .id), [.tmp 32], (some 29), none⟩,
  ⟨(.prim (.extract 0)), [.tmp 29], (some 33), none⟩,
  ⟨(.prim (.extract 1)), [.tmp 29], (some 34), none⟩,
  ⟨(.prim (.extract 2)), [.tmp 29], (some 35), none⟩,
  ⟨(.prim (.alloc [(.int .i64 0), (.int .i64 0), (.int .i64 0), (.int .i64 0), (.int .i64 0), (.int .i64 0), (.int .i64 0)])), [], (some 5), none⟩,
  ⟨(.prim (.store (some 7))), [.tmp 5, .tmp 33], none, none⟩,
  ⟨(.prim .id), [.tmp 34], (some 6), none⟩,
  ⟨(.prim .id), [.tmp 35], (some 7), none⟩] none)
 (.seq (.region [⟨(.prim (.fieldAddr 3 none)), [.tmp 3], (some 36), none⟩,
  ⟨(.prim (.load none)), [.tmp 36], (some 37), none⟩,
  ⟨(.prim (.fieldAddr 1 none)), [.tmp 3], (some 38), none⟩,
  ⟨(.prim (.load none)), [.tmp 38], (some 39), none⟩,
  ⟨(.prim (.fieldAddr 2 (some 5))), [.tmp 2], (some 40), none⟩,
  ⟨(.prim (.idxArr 5 none)), [.tmp 40, .tmp 39], (some 41), none⟩,
  ⟨(.prim (.load none)), [.tmp 41], (some 42), none⟩,
  ⟨(.prim (.bin .lss .none)), [.tmp 37, .tmp 42], (some 43), none⟩,
  ⟨(.prim .id), [.tmp 43], (some 44), none⟩,
  ⟨(.prim (.fieldAddr 4 none)), [.tmp 3], (some 45), (some (44, false))⟩,
  ⟨(.prim (.load none)), [.tmp 45], (some 46), (some (44, false))⟩,
  ⟨(.prim (.bin .neq .none)), [.tmp 46, .const (.int .i64 0)], (some 47), (some (44, false))⟩,
  ⟨(.prim .id), [.tmp 47], (some 48), (some (44, false))⟩,
  ⟨(.prim (.fieldAddr 4 none)), [.tmp 3], (some 49), (some (48, true))⟩,
  ⟨(.prim (.load none)), [.tmp 49], (some 50), (some (48, true))⟩,
  ⟨(.prim (.fieldAddr 1 none)), [.tmp 2], (some 51), (some (48, true))⟩,
  ⟨(.prim (.load none)), [.tmp 51], (some 52), (some (48, true))⟩,
  ⟨(.prim (.bin .neq .none)), [.tmp 50, .tmp 52], (some 53), (some (48, true))⟩,
  ⟨(.prim .pick), [.tmp 48, .tmp 53, .const (.bool false)], (some 54), (some (44, false))⟩,
  ⟨(.prim .pick), [.tmp 44, .const (.bool true), .tmp 54], (some 55), none⟩,
  ⟨(.prim .id), [.tmp 55], (some 8), none⟩] (some [[], [0], [], [2], [], [4, 3], [5], [1, 6], [7], [8], [9, 8], [10, 8], [11, 8, 8], [12], [13, 12], [12], [15, 12], [14, 16, 12], [12, 17, 8], [8, 18], [19, 12, 0, 1, 2, 3, 4, 5, 6, 7, 8, 9, 10, 11, 12, 13, 14, 15, 16, 17, 18, 19]]))
 (.seq (.region [⟨(.prim .id), [.tmp 7], (some 56), none⟩,
  ⟨(.prim (.bin .eql .none)), [.tmp 56, .const (.int .i64 0)], (some 57), none⟩,
  ⟨(.prim .id), [.tmp 57], (some 58), none⟩,
  ⟨(.prim .id), [.tmp 6], (some 59), (some (58, true))⟩,
  ⟨(.prim (.bin .eql .none)), [.tmp 59, .const (.int .i8 0)], (some 60), (some (58, true))⟩,
  ⟨(.prim .id), [.tmp 8], (some 61), (some (58, true))⟩,
  ⟨(.prim (.bin .eql .bool)), [.tmp 60, .tmp 61], (some 62), (some (58, true))⟩,
  ⟨(.prim .pick), [.tmp 58, .tmp 62, .const (.bool false)], (some 63), none⟩,
  ⟨(.prim .id), [.tmp 63], (some 64), none⟩,
  ⟨(.prim .id), [.tmp 8], (some 65), (some (64, true))⟩,
  ⟨(.prim (.un .not)), [.tmp 65], (some 66), (some (64, true))⟩,
  ⟨(.prim .id), [.tmp 66], (some 67), (some (64, true))⟩,
  ⟨(.prim (.load (some 7))), [.tmp 5], (some 68), (some (67, false))⟩,
  ⟨(.prim (.load (some 7))), [.tmp 2], (some 69), (some (67, false))⟩,
  ⟨(.prim (.bin .eql (.flat [0, 0, 0, 0, 0, 0, 0]))), [.tmp 68, .tmp 69], (some 70), (some (67, false))⟩,
  ⟨(.prim .pick), [.tmp 67, .const (.bool true), .tmp 70], (some 71), (some (64, true))⟩,
  ⟨(.prim .pick), [.tmp 64, .tmp 71, .const (.bool false)], (some 72), none⟩,
  ⟨(.prim .id), [.tmp 72], (some 73), none⟩,
  ⟨(.prim .id), [.tmp 8], (some 74), (some (73, true))⟩,
  ⟨(.prim .id), [.tmp 74], (some 75), (some (73, true))⟩,
  ⟨(.prim (.fieldAddr 1 none)), [.tmp 3], (some 76), (some (75, false))⟩,
  ⟨(.prim (.load none)), [.tmp 76], (some 77), (some (75, false))⟩,
  ⟨(.prim (.fieldAddr 2 (some 5))), [.tmp 5], (some 78), (some (75, false))⟩,
  ⟨(.prim (.idxArr 5 none)), [.tmp 78, .tmp 77], (some 79), (some (75, false))⟩,
  ⟨(.prim (.load none)), [.tmp 79], (some 80), (some (75, false))⟩,
  ⟨(.prim (.fieldAddr 3 none)), [.tmp 3], (some 81), (some (75, false))⟩,
  ⟨(.prim (.load none)), [.tmp 81], (some 82), (some (75, false))⟩,
  ⟨(.prim (.bin .eql .none)), [.tmp 80, .tmp 82], (some 83), (some (75, false))⟩,
  ⟨(.prim .pick), [.tmp 75, .const (.bool true), .tmp 83], (some 84), (some (73, true))⟩,
  ⟨(.prim .pick), [.tmp 73, .tmp 84, .const (.bool false)], (some 85), none⟩,
  ⟨(.prim .id), [.tmp 85], (some 86), none⟩,
  ⟨(.call 10), [], (some 87), (some (86, true))⟩,
  ⟨(.prim .pick), [.tmp 86, .tmp 87, .const (.bool false)], (some 88), none⟩,
  ⟨(.prim .id), [.tmp 88], (some 4), none⟩] (some [[], [0], [1], [2], [3, 2], [2], [4, 5, 2], [2, 6], [7, 2], [8], [9, 8], [10, 8, 8], [11], [11], [12, 13, 11], [11, 14, 8], [8, 15], [16, 11], [17], [18, 17, 17], [19], [20, 19], [19], [22, 21, 19], [23, 19], [19], [25, 19], [24, 26, 19], [19, 27, 17], [17, 28], [29, 19], [30, 30], [30, 31], [32, 31, 0, 1, 2, 3, 4, 5, 6, 7, 8, 9, 10, 11, 12, 13, 14, 15, 16, 17, 18, 19, 20, 21, 22, 23, 24, 25, 26, 27, 28, 29, 30, 31, 32]]))
 .ret)))))
theorem F4 : IsFun Try.prog 4 2 89 c4 [.tmp 4] := ⟨by decide, Try.f4, _, [2, 3], Try.func4, rfl, by decide, rfl, by kernel_rfl, by kernel_rfl⟩

/-- cashbox/cashboxlaw17.EpochMeets -/
def c5 : ACode :=
 (.seq (.region [⟨(.prim (.boxR (some 7))), [.tmp 0], (some 3), none⟩,
  ⟨(.prim (.boxR (some 7))), [.tmp 1], (some 4), none⟩,
  ⟨(.prim (.boxR (some 24))), [.tmp 2], (some 5), none⟩,
  ⟨(.prim .id), [.const (.bool false)], (some 6), none⟩] none)
 (.seq (.seq (.region [⟨(.prim (.load (some 24))), [.tmp 5], (some 12), none⟩,
  ⟨(.call 11), [.tmp 12], (some 13), none⟩,
  ⟨(.prim .id), [.tmp 13], (some 14), none⟩,
  ⟨(.prim (.load (some 7))), [.tmp 3], (some 15), (some (14, false))⟩,
  ⟨(.call 9), [.tmp 15], (some 16), (some (14, false))⟩,
  ⟨(.prim (.un .not)), [.tmp 16], (some 17), (some (14, false))⟩,
  ⟨(.prim .pick), [.tmp 14, .const (.bool true), .tmp 17], (some 18), none⟩,
  ⟨(.prim .id), [.tmp 18], (some 19), none⟩,
  ⟨(.prim (.load (some 7))), [.tmp 4], (some 20), (some (19, false))⟩,
  ⟨(.call 9), [.tmp 20], (some 21), (some (19, false))⟩,
  ⟨(.prim (.un .not)), [.tmp 21], (some 22), (some (19, false))⟩,
  ⟨(.prim .pick), [.tmp 19, .const (.bool true), .tmp 22], (some 23), none⟩,
  ⟨(.prim .id), [.tmp 23], (some 24), none⟩,
  ⟨(.prim (.fieldAddr 2 none)), [.tmp 5], (some 25), (some (24, false))⟩,
  ⟨(.prim (.load none)), [.tmp 25], (some 26), (some (24, false))⟩,
  ⟨(.prim (.fieldAddr 0 none)), [.tmp 4], (some 27), (some (24, false))⟩,
  ⟨(.prim (.load none)), [.tmp 27], (some 28), (some (24, false))⟩,
  ⟨(.prim (.bin .neq .none)), [.tmp 26, .tmp 28], (some 29), (some (24, false))⟩,
  ⟨(.prim .pick), [.tmp 24, .const (.bool true), .tmp 29], (some 30), none⟩,
  ⟨(.prim .id), [.tmp 30], (some 31), none⟩,
  ⟨(.prim (.fieldAddr 0 none)), [.tmp 3], (some 32), (some (31, false))⟩,
  ⟨(.prim (.load none)), [.tmp 32], (some 33), (some (31, false))⟩,
  ⟨(.prim (.fieldAddr 0 none)), [.tmp 4], (some 34), (some (31, false))⟩,
  ⟨(.prim (.load none)), [.tmp 34], (some 35), (some (31, false))⟩,
  ⟨(.prim (.bin .eql .none)), [.tmp 33, .tmp 35], (some 36), (some (31, false))⟩,
  ⟨(.prim .pick), [.tmp 31, .const (.bool true), .tmp 36], (some 37), none⟩] none)
 (.cond (.tmp 37)
  (.seq (.region [⟨(.call 10), [], (some 38), none⟩,
   ⟨(.prim .id), [.tmp 38], (some 6), none⟩] none)
  .ret)
  .skip))
 (.seq (.region [⟨(.prim (.load (some 7))), [.tmp 3], (some 40), none⟩,
  ⟨(.prim (.load (some 24))), [.tmp 5], (some 41), none⟩,
  ⟨(.call 14), [.tmp 40, .tmp 41], (some 42), none⟩,
  ⟨(.prim .id), [.tmp 42], (some 39), none⟩,
  ⟨(.prim (.extract 0)), [.tmp 39], (some 43), none⟩,
  ⟨(.prim (.extract 1)), [.tmp 39], (some 44), none⟩,
  ⟨(.prim (.alloc [(.int .i8 0), (.int .i64 0), (.int .i64 0), (.int .i64 0), (.int .i64 0), (.int .i64 0), (.int .i64 0), (.int .i64 0), (.int .i64 0), (.int .i8 0), (.int .i64 0), (.int .u8 0), (.int .u8 0), (.int .u8 0), (.int .u8 0), (.int .u8 0), (.int .u8 0), (.int .u8 0), (.int .u8 0), (.int .i64 0), (.bool false), (.int .i64 0), (.int .i64 0), (.sl .clip [])])), [], (some 7), none⟩,
  ⟨(.prim (.store (some 24))), [.tmp 7, .tmp 43], none, none⟩,
  ⟨(.prim .id), [.tmp 44], (some 8), none⟩] none)
 (.seq (.seq (.region [⟨(.prim .id), [.tmp 8], (some 45), none⟩,
  ⟨(.prim (.bin .neq .none)), [.tmp 45, .const (.int .i64 0)], (some 46), none⟩] none)
 (.cond (.tmp 46)
  (.seq (.region [⟨(.prim .id), [.const (.bool false)], (some 6), none⟩] none)
  .ret)
  .skip))
 (.seq (.seq (.region [⟨(.prim (.load (some 24))), [.tmp 7], (some 47), none⟩,
  ⟨(.call 13), [.tmp 47], (some 48), none⟩,
  ⟨(.prim (.un .not)), [.tmp 48], (some 49), none⟩,
  ⟨(.prim .id), [.tmp 49], (some 50), none⟩,
  ⟨(.prim (.fieldAddr 0 none)), [.tmp 4], (some 51), (some (50, false))⟩,
  ⟨(.prim (.load none)), [.tmp 51], (some 52), (some (50, false))⟩,
  ⟨(.prim (.fieldAddr 2 (some 5))), [.tmp 3], (some 53), (some (50, false))⟩,
  ⟨(.prim (.idxArr 5 none)), [.tmp 53, .tmp 52], (some 54), (some (50, false))⟩,
  ⟨(.prim (.load none)), [.tmp 54], (some 55), (some (50, false))⟩,
  ⟨(.prim (.bin .neq .none)), [.tmp 55, .const (.int .i64 0)], (some 56), (some (50, false))⟩,
  ⟨(.prim .id), [.tmp 56], (some 57), (some (50, false))⟩,
  ⟨(.prim (.fieldAddr 0 none)), [.tmp 4], (some 58), (some (57, true))⟩,
  ⟨(.prim (.load none)), [.tmp 58], (some 59), (some (57, true))⟩,
  ⟨(.prim (.fieldAddr 2 (some 5))), [.tmp 3], (some 60), (some (57, true))⟩,
  ⟨(.prim (.idxArr 5 none)), [.tmp 60, .tmp 59], (some 61), (some (57, true))⟩,
  ⟨(.prim (.load none)), [.tmp 61], (some 62), (some (57, true))⟩,
  ⟨(.prim (.fieldAddr 1 none)), [.tmp 4], (some 63), (some (57, true))⟩,
  ⟨(.prim (.load none)), [.tmp 63], (some 64), (some (57, true))⟩,
  ⟨(.prim (.bin .neq .none)), [.tmp 62, .tmp 64], (some 65), (some (57, true))⟩,
  ⟨(.prim .pick), [.tmp 57, .tmp 65, .const (.bool false)], (some 66), (some (50, false))⟩,
  ⟨(.prim .pick), [.tmp 50, .const (.bool true), .tmp 66], (some 67), none⟩,
  ⟨(.prim .id), [.tmp 67], (some 68), none⟩,
  ⟨(.prim (.fieldAddr 0 none)), [.tmp 3], (some 69), (some (68, false))⟩,
  ⟨(.prim (.load none)), [.tmp 69], (some 70), (some (68, false))⟩,
  ⟨(.prim (.fieldAddr 2 (some 5))), [.tmp 4], (some 71), (some (68, false))⟩,
  ⟨(.prim (.idxArr 5 none)), [.tmp 71, .tmp 70], (some 72), (some (68, false))⟩,
  ⟨(.prim (.load none)), [.tmp 72], (some 73), (some (68, false))⟩,
  ⟨(.prim (.fieldAddr 1 none)), [.tmp 3], (some 74), (some (68, false))⟩,
  ⟨(.prim (.load none)), [.tmp 74], (some 75), (some (68, false))⟩,
  ⟨(.prim (.bin .gtr .none)), [.tmp 73, .tmp 75], (some 76), (some (68, false))⟩,
  ⟨(.prim .pick), [.tmp 68, .const (.bool true), .tmp 76], (some 77), none⟩] (some [[], [0], [1], [2, 1], [3], [4, 3], [3], [6, 5, 3], [7, 3], [8, 3], [9, 3, 3], [10], [11, 10], [10], [13, 12, 10], [14, 10], [10], [16, 10], [15, 17, 10], [10, 18, 3], [3, 19], [20, 10], [21], [22, 21], [21], [24, 23, 21], [25, 21], [21], [27, 21], [26, 28, 21], [21, 29]]))
 (.cond (.tmp 77)
  (.seq (.region [⟨(.call 10), [], (some 78), none⟩,
   ⟨(.prim .id), [.tmp 78], (some 6), none⟩] none)
  .ret)
  .skip))
 (.seq (.region [⟨(.prim (.load (some 7))), [.tmp 4], (some 80), none⟩,
  ⟨(.prim (.load (some 24))), [.tmp 7], (some 81), none⟩,
  ⟨(.call 12), [.tmp 80, .tmp 81], (some 82), none⟩,
  ⟨(.prim .id), [.tmp 82], (some 79), none⟩,
  ⟨(.prim (.extract 0)), [.tmp 79], (some 83), none⟩,
  ⟨(.prim (.extract 1)), [.tmp 79], (some 84), none⟩,
  ⟨(.prim (.extract 2)), [.tmp 79], (some 85), none⟩,
  ⟨(.prim (.alloc [(.int .i64 0), (.int .i64 0), (.int .i64 0), (.int .i64 0), (.int .i64 0), (.int .i64 0), (.int .i64 0)])), [], (some 9), none⟩,
  ⟨(.prim (.store (some 7))), [.tmp 9, .tmp 83], none, none⟩,
  ⟨(.prim .id), [.tmp 84], (some 10), none⟩,
  ⟨(.prim .id), [.tmp 85], (some 11), none⟩] none)
 (.seq (.region [⟨(.prim .id), [.tmp 11], (some 86), none⟩,
  ⟨(.prim (.bin .eql .none)), [.tmp 86, .const (.int .i64 0)], (some 87), none⟩,
  ⟨(.prim .id), [.tmp 87], (some 88), none⟩,
  ⟨(.prim .id), [.tmp 10], (some 89), (some (88, true))⟩,
  ⟨(.prim (.bin .gtr .none)), [.tmp 89, .const (.int .i8 0)], (some 90), (some (88, true))⟩,
  ⟨(.prim .pick), [.tmp 88, .tmp 90, .const (.bool false)], (some 91), none⟩,
  ⟨(.prim .id), [.tmp 91], (some 92), none⟩,
  ⟨(.prim (.fieldAddr 0 none)), [.tmp 3], (some 93), (some (92, true))⟩,
  ⟨(.prim (.load none)), [.tmp 93], (some 94), (some (92, true))⟩,
  ⟨(.prim (.fieldAddr 2 (some 5))), [.tmp 9], (some 95), (some (92, true))⟩,
  ⟨(.prim (.idxArr 5 none)), [.tmp 95, .tmp 94], (some 96), (some (92, true))⟩,
  ⟨(.prim (.load none)), [.tmp 96], (some 97), (some (92, true))⟩,
  ⟨(.prim (.fieldAddr 1 none)), [.tmp 3], (some 98), (some (92, true))⟩,
  ⟨(.prim (.load none)), [.tmp 98], (some 99), (some (92, true))⟩,
  ⟨(.prim (.bin .eql .none)), [.tmp 97, .tmp 99], (some 100), (some (92, true))⟩,
  ⟨(.prim .pick), [.tmp 92, .tmp 100, .const (.bool false)], (some 101), none⟩,
  ⟨(.prim .id), [.tmp 101], (some 102), none⟩,
  ⟨(.call 10), [], (some 103), (some (102, true))⟩,
  ⟨(.prim .pick), [.tmp 102, .tmp 103, .const (.bool false)], (some 104), none⟩,
  ⟨(.prim .id), [.tmp 104], (some 6), none⟩] (some [[], [0], [1], [2], [3, 2], [2, 4], [5, 2], [6], [7, 6], [6], [9, 8, 6], [10, 6], [6], [12, 6], [11, 13, 6], [6, 14], [15, 6], [16, 16], [16, 17], [18, 17, 0, 1, 2, 3, 4, 5, 6, 7, 8, 9, 10, 11, 12, 13, 14, 15, 16, 17, 18]]))
 .ret)))))))
theorem F5 : IsFun Try.prog 5 3 105 c5 [.tmp 6] := ⟨by decide, Try.f5, _, [3, 4, 5], Try.func5, rfl, by decide, rfl, by kernel_rfl, by kernel_rfl⟩

/-- cashbox/cashboxlaw15.WireWays -/
def c6 : ACode :=
 (.seq (.region [⟨(.prim (.boxR (some 24))), [.tmp 0], (some 1), none⟩,
  ⟨(.prim .id), [.const (.bool false)], (some 2), none⟩] none)
 (.seq (.seq (.region [⟨(.prim (.load (some 24))), [.tmp 1], (some 5), none⟩,
  ⟨(.call 11), [.tmp 5], (some 6), none⟩,
  ⟨(.prim .id), [.tmp 6], (some 7), none⟩,
  ⟨(.prim (.load (some 24))), [.tmp 1], (some 8), (some (7, false))⟩,
  ⟨(.call 15), [.tmp 8], (some 9), (some (7, false))⟩,
  ⟨(.prim (.un .not)), [.tmp 9], (some 10), (some (7, false))⟩,
  ⟨(.prim .pick), [.tmp 7, .const (.bool true), .tmp 10], (some 11), none⟩] none)
 (.cond (.tmp 11)
  (.seq (.region [⟨(.call 16), [], (some 12), none⟩,
   ⟨(.prim .id), [.tmp 12], (some 2), none⟩] none)
  .ret)
  .skip))
 (.seq (.region [⟨(.prim (.load (some 24))), [.tmp 1], (some 13), none⟩,
  ⟨(.prim (.alloc [(.int .i8 0), (.int .i64 0), (.int .i64 0), (.int .i64 0), (.int .i64 0), (.int .i64 0), (.int .i64 0), (.int .i64 0), (.int .i64 0), (.int .i8 0), (.int .i64 0), (.int .u8 0), (.int .u8 0), (.int .u8 0), (.int .u8 0), (.int .u8 0), (.int .u8 0), (.int .u8 0), (.int .u8 0), (.int .i64 0), (.bool false), (.int .i64 0), (.int .i64 0), (.sl .clip [])])), [], (some 3), none⟩,
  ⟨(.prim (.store (some 24))), [.tmp 3, .tmp 13], none, none⟩] none)
 (.seq (.region [⟨(.prim (.fieldAddr 2 none)), [.tmp 1], (some 14), none⟩,
  ⟨(.prim (.load none)), [.tmp 14], (some 15), none⟩,
  ⟨(.prim (.fieldAddr 1 none)), [.tmp 3], (some 16), none⟩,
  ⟨(.prim (.store none)), [.tmp 16, .tmp 15], none, none⟩] none)
 (.seq (.region [⟨(.prim (.fieldAddr 1 none)), [.tmp 1], (some 17), none⟩,
  ⟨(.prim (.load none)), [.tmp 17], (some 18), none⟩,
  ⟨(.prim (.fieldAddr 2 none)), [.tmp 3], (some 19), none⟩,
  ⟨(.prim (.store none)), [.tmp 19, .tmp 18], none, none⟩] none)
 (.seq (.region [⟨(.prim (.load (some 24))), [.tmp 1], (some 20), none⟩,
  ⟨(.call 17), [.tmp 20, .const (.int .i64 1)], (some 21), none⟩,
  ⟨(.prim (.alloc [(.int .i8 0), (.int .i64 0), (.int .i64 0), (.int .i64 0), (.int .i64 0), (.int .i64 0), (.int .i64 0), (.int .i64 0), (.int .i64 0), (.int .i8 0), (.int .i64 0), (.int .u8 0), (.int .u8 0), (.int .u8 0), (.int .u8 0), (.int .u8 0), (.int .u8 0), (.int .u8 0), (.int .u8 0), (.int .i64 0), (.bool false), (.int .i64 0), (.int .i64 0), (.sl .clip [])])), [], (some 4), none⟩,
  ⟨(.prim (.store (some 24))), [.tmp 4, .tmp 21], none, none⟩] none)
 (.seq (.region [⟨(.prim (.load (some 24))), [.tmp 3], (some 22), none⟩,
  ⟨(.call 15), [.tmp 22], (some 23), none⟩,
  ⟨(.prim (.un .not)), [.tmp 23], (some 24), none⟩,
  ⟨(.prim .id), [.tmp 24], (some 25), none⟩,
  ⟨(.prim (.fieldAddr 1 none)), [.tmp 1], (some 26), (some (25, true))⟩,
  ⟨(.prim (.load none)), [.tmp 26], (some 27), (some (25, true))⟩,
  ⟨(.prim (.bin .eql .none)), [.tmp 27, .const (.int .i64 0)], (some 28), (some (25, true))⟩,
  ⟨(.prim (.fieldAddr 2 none)), [.tmp 1], (some 29), (some (25, true))⟩,
  ⟨(.prim (.load none)), [.tmp 29], (some 30), (some (25, true))⟩,
  ⟨(.prim (.bin .eql .none)), [.tmp 30, .const (.int .i64 0)], (some 31), (some (25, true))⟩,
  ⟨(.prim (.bin .neq .bool)), [.tmp 28, .tmp 31], (some 32), (some (25, true))⟩,
  ⟨(.prim .pick), [.tmp 25, .tmp 32, .const (.bool false)], (some 33), none⟩,
  ⟨(.prim .id), [.tmp 33], (some 34), none⟩,
  ⟨(.prim (.fieldAddr 1 none)), [.tmp 4], (some 35), (some (34, true))⟩,
  ⟨(.prim (.load none)), [.tmp 35], (some 36), (some (34, true))⟩,
  ⟨(.prim (.fieldAddr 2 none)), [.tmp 1], (some 37), (some (34, true))⟩,
  ⟨(.prim (.load none)), [.tmp 37], (some 38), (some (34, true))⟩,
  ⟨(.prim (.bin .eql .none)), [.tmp 36, .tmp 38], (some 39), (some (34, true))⟩,
  ⟨(.prim .pick), [.tmp 34, .tmp 39, .const (.bool false)], (some 40), none⟩,
  ⟨(.prim .id), [.tmp 40], (some 41), none⟩,
  ⟨(.prim (.fieldAddr 2 none)), [.tmp 4], (some 42), (some (41, true))⟩,
  ⟨(.prim (.load none)), [.tmp 42], (some 43), (some (41, true))⟩,
  ⟨(.prim (.fieldAddr 1 none)), [.tmp 1], (some 44), (some (41, true))⟩,
  ⟨(.prim (.load none)), [.tmp 44], (some 45), (some (41, true))⟩,
  ⟨(.prim (.bin .eql .none)), [.tmp 43, .tmp 45], (some 46), (some (41, true))⟩,
  ⟨(.prim .pick), [.tmp 41, .tmp 46, .const (.bool false)], (some 47), none⟩,
  ⟨(.prim .id), [.tmp 47], (some 48), none⟩,
  ⟨(.prim (.fieldAddr 4 none)), [.tmp 4], (some 49), (some (48, true))⟩,
  ⟨(.prim (.load none)), [.tmp 49], (some 50), (some (48, true))⟩,
  ⟨(.prim (.fieldAddr 3 none)), [.tmp 1], (some 51), (some (48, true))⟩,
  ⟨(.prim (.load none)), [.tmp 51], (some 52), (some (48, true))⟩,
  ⟨(.prim (.bin .eql .none)), [.tmp 50, .tmp 52], (some 53), (some (48, true))⟩,
  ⟨(.prim .pick), [.tmp 48, .tmp 53, .const (.bool false)], (some 54), none⟩,
  ⟨(.prim .id), [.tmp 54], (some 55), none⟩,
  ⟨(.prim (.load (some 24))), [.tmp 4], (some 56), (some (55, true))⟩,
  ⟨(.call 15), [.tmp 56], (some 57), (some (55, true))⟩,
  ⟨(.prim (.un .not)), [.tmp 57], (some 58), (some (55, true))⟩,
  ⟨(.prim .pick), [.tmp 55, .tmp 58, .const (.bool false)], (some 59), none⟩,
  ⟨(.prim .id), [.tmp 59], (some 60), none⟩,
  ⟨(.call 16), [], (some 61), (some (60, true))⟩,
  ⟨(.prim .pick), [.tmp 60, .tmp 61, .const (.bool false)], (some 62), none⟩,
  ⟨(.prim .id), [.tmp 62], (some 2), none⟩] none)
 .ret)))))))
theorem F6 : IsFun Try.prog 6 1 63 c6 [.tmp 2] := ⟨by decide, Try.f6, _, [1], Try.func6, rfl, by decide, rfl, by kernel_rfl, by kernel_rfl⟩

/-- cashbox/cashboxlaw15.WireReads -/
def c7 : ACode :=
 (.seq (.region [⟨(.prim .id), [.const (.bool false)], (some 2), none⟩] none)
 (.seq (.seq (.region [⟨(.prim .id), [.tmp 0], (some 7), none⟩,
  ⟨(.prim .len), [.tmp 7], (some 8), none⟩,
  ⟨(.prim (.bin .gtr .none)), [.tmp 8, .const (.int .i64 300)], (some 9), none⟩] none)
 (.cond (.tmp 9)
  (.seq (.region [⟨(.call 16), [], (some 10), none⟩,
   ⟨(.prim .id), [.tmp 10], (some 2), none⟩] none)
  .ret)
  .skip))
 (.seq (.region [⟨(.prim .id), [.tmp 0], (some 12), none⟩,
  ⟨(.call 18), [.tmp 12], (some 13), none⟩,
  ⟨(.prim .id), [.tmp 13], (some 11), none⟩,
  ⟨(.prim (.extract 0)), [.tmp 11], (some 14), none⟩,
  ⟨(.prim (.extract 1)), [.tmp 11], (some 15), none⟩,
  ⟨(.prim (.alloc [(.int .i8 0), (.int .i64 0), (.int .i64 0), (.int .i64 0), (.int .i64 0), (.int .i64 0), (.int .i64 0), (.int .i64 0), (.int .i64 0), (.int .i8 0), (.int .i64 0), (.int .u8 0), (.int .u8 0), (.int .u8 0), (.int .u8 0), (.int .u8 0), (.int .u8 0), (.int .u8 0), (.int .u8 0), (.int .i64 0), (.bool false), (.int .i64 0), (.int .i64 0), (.sl .clip [])])), [], (some 3), none⟩,
  ⟨(.prim (.store (some 24))), [.tmp 3, .tmp 14], none, none⟩,
  ⟨(.prim .id), [.tmp 15], (some 4), none⟩] none)
 (.seq (.region [⟨(.prim .id), [.tmp 0], (some 17), none⟩,
  ⟨(.call 19), [.tmp 17], (some 18), none⟩,
  ⟨(.prim .id), [.tmp 18], (some 16), none⟩,
  ⟨(.prim (.extract 0)), [.tmp 16], (some 19), none⟩,
  ⟨(.prim (.extract 1)), [.tmp 16], (some 20), none⟩,
  ⟨(.prim (.alloc [(.int .i8 0), (.int .i64 0), (.int .i64 0), (.int .i64 0), (.int .i64 0), (.int .i64 0), (.int .i64 0), (.int .i64 0), (.int .i64 0), (.int .i8 0), (.int .i64 0), (.int .u8 0), (.int .u8 0), (.int .u8 0), (.int .u8 0), (.int .u8 0), (.int .u8 0), (.int .u8 0), (.int .u8 0), (.int .i64 0), (.bool false), (.int .i64 0), (.int .i64 0), (.sl .clip [])])), [], (some 5), none⟩,
  ⟨(.prim (.store (some 24))), [.tmp 5, .tmp 19], none, none⟩,
  ⟨(.prim .id), [.tmp 20], (some 6), none⟩] none)
 (.seq (.region [⟨(.prim (.load (some 24))), [.tmp 3], (some 21), none⟩,
  ⟨(.prim (.load (some 24))), [.tmp 5], (some 22), none⟩,
  ⟨(.call 20), [.tmp 21, .tmp 22], (some 23), none⟩,
  ⟨(.prim .id), [.tmp 23], (some 24), none⟩,
  ⟨(.prim .id), [.tmp 4], (some 25), (some (24, true))⟩,
  ⟨(.prim .id), [.tmp 6], (some 26), (some (24, true))⟩,
  ⟨(.prim (.bin .eql .none)), [.tmp 25, .tmp 26], (some 27), (some (24, true))⟩,
  ⟨(.prim .pick), [.tmp 24, .tmp 27, .const (.bool false)], (some 28), none⟩,
  ⟨(.prim .id), [.tmp 28], (some 29), none⟩,
  ⟨(.call 16), [], (some 30), (some (29, true))⟩,
  ⟨(.prim .pick), [.tmp 29, .tmp 30, .const (.bool false)], (some 31), none⟩,
  ⟨(.prim .id), [.tmp 31], (some 2), none⟩] none)
 .ret)))))
theorem F7 : IsFun Try.prog 7 1 32 c7 [.tmp 2] := ⟨by decide, Try.f7, _, [], Try.func7, rfl, by decide, rfl, by kernel_rfl, by kernel_rfl⟩

/-- cashbox/cashboxlaw15.WireBack -/
def c8 : ACode :=
 (.seq (.region [⟨(.prim (.boxR (some 24))), [.tmp 0], (some 3), none⟩,
  ⟨(.prim .id), [.const (.bool false)], (some 6), none⟩] none)
 (.seq (.seq (.region [⟨(.prim (.load (some 24))), [.tmp 3], (some 16), none⟩,
  ⟨(.call 11), [.tmp 16], (some 17), none⟩,
  ⟨(.prim .id), [.tmp 17], (some 18), none⟩,
  ⟨(.prim .id), [.tmp 1], (some 19), (some (18, false))⟩,
  ⟨(.prim .len), [.tmp 19], (some 20), (some (18, false))⟩,
  ⟨(.prim (.bin .gtr .none)), [.tmp 20, .const (.int .i64 300)], (some 21), (some (18, false))⟩,
  ⟨(.prim .pick), [.tmp 18, .const (.bool true), .tmp 21], (some 22), none⟩] none)
 (.cond (.tmp 22)
  (.seq (.region [⟨(.call 16), [], (some 23), none⟩,
   ⟨(.prim .id), [.tmp 23], (some 6), none⟩] none)
  .ret)
  .skip))
 (.seq (.region [⟨(.prim (.load (some 24))), [.tmp 3], (some 25), none⟩,
  ⟨(.call 21), [.tmp 25], (some 26), none⟩,
  ⟨(.prim .id), [.tmp 26], (some 24), none⟩,
  ⟨(.prim (.extract 0)), [.tmp 24], (some 27), none⟩,
  ⟨(.prim (.extract 1)), [.tmp 24], (some 28), none⟩,
  ⟨(.prim .id), [.tmp 27], (some 7), none⟩,
  ⟨(.prim .id), [.tmp 28], (some 8), none⟩] none)
 (.seq (.seq (.region [⟨(.prim .id), [.tmp 8], (some 29), none⟩,
  ⟨(.prim (.bin .eql .none)), [.tmp 29, .const (.int .i64 0)], (some 30), none⟩] none)
 (.cond (.tmp 30)
  (.seq (.region [⟨(.prim .id), [.tmp 7], (some 32), none⟩,
   ⟨(.call 18), [.tmp 32], (some 33), none⟩,
   ⟨(.prim .id), [.tmp 33], (some 31), none⟩,
   ⟨(.prim (.extract 0)), [.tmp 31], (some 34), none⟩,
   ⟨(.prim (.extract 1)), [.tmp 31], (some 35), none⟩,
   ⟨(.prim (.alloc [(.int .i8 0), (.int .i64 0), (.int .i64 0), (.int .i64 0), (.int .i64 0), (.int .i64 0), (.int .i64 0), (.int .i64 0), (.int .i64 0), (.int .i8 0), (.int .i64 0), (.int .u8 0), (.int .u8 0), (.int .u8 0), (.int .u8 0), (.int .u8 0), (.int .u8 0), (.int .u8 0), (.int .u8 0), (.int .i64 0), (.bool false), (.int .i64 0), (.int .i64 0), (.sl .clip [])])), [], (some 9), none⟩,
   ⟨(.prim (.store (some 24))), [.tmp 9, .tmp 34], none, none⟩,
   ⟨(.prim .id), [.tmp 35], (some 10), none⟩] none)
  (.seq (.seq (.region [⟨(.prim .id), [.tmp 10], (some 36), none⟩,
   ⟨(.prim (.bin .neq .none)), [.tmp 36, .const (.int .i64 0)], (some 37), none⟩,
   ⟨(.prim .id), [.tmp 37], (some 38), none⟩,
   ⟨(.prim (.load (some 24))), [.tmp 9], (some 39), (some (38, false))⟩,
   ⟨(.prim (.load (some 24))), [.tmp 3], (some 40), (some (38, false))⟩,
   ⟨(.call 22), [.tmp 39, .tmp 40], (some 41), (some (38, false))⟩,
   ⟨(.prim (.un .not)), [.tmp 41], (some 42), (some (38, false))⟩,
   ⟨(.prim .pick), [.tmp 38, .const (.bool true), .tmp 42], (some 43), none⟩,
   ⟨(.prim .id), [.tmp 43], (some 44), none⟩,
   ⟨(.prim (.load (some 24))), [.tmp 9], (some 45), (some (44, false))⟩,
   ⟨(.call 15), [.tmp 45], (some 46), (some (44, false))⟩,
   ⟨(.prim (.un .not)), [.tmp 46], (some 47), (some (44, false))⟩,
   ⟨(.prim .pick), [.tmp 44, .const (.bool true), .tmp 47], (some 48), none⟩,
   ⟨(.prim .id), [.tmp 48], (some 49), none⟩,
   ⟨(.prim .id), [.tmp 7], (some 50), (some (49, false))⟩,
   ⟨(.prim .len), [.tmp 50], (some 51), (some (49, false))⟩,
   ⟨(.prim (.bin .lss .none)), [.tmp 51, .const (.int .i64 13)], (some 52), (some (49, false))⟩,
   ⟨(.prim .pick), [.tmp 49, .const (.bool true), .tmp 52], (some 53), none⟩] none)
  (.cond (.tmp 53)
   (.seq (.region [⟨(.prim .id), [.const (.bool false)], (some 6), none⟩] none)
   .ret)
   .skip))
  (.seq (.region [⟨(.prim .id), [.tmp 2], (some 54), none⟩,
   ⟨(.prim .id), [.tmp 7], (some 55), none⟩,
   ⟨(.prim .len), [.tmp 55], (some 56), none⟩,
   ⟨(.prim (.bin .mul .none)), [.const (.int .i64 8), .tmp 56], (some 57), none⟩,
   ⟨(.prim (.bin .rem .none)), [.tmp 54, .tmp 57], (some 58), none⟩,
   ⟨(.prim .id), [.tmp 7], (some 59), none⟩,
   ⟨(.prim .len), [.tmp 59], (some 60), none⟩,
   ⟨(.prim (.bin .mul .none)), [.const (.int .i64 8), .tmp 60], (some 61), none⟩,
   ⟨(.prim (.bin .add .none)), [.tmp 58, .tmp 61], (some 62), none⟩,
   ⟨(.prim .id), [.tmp 7], (some 63), none⟩,
   ⟨(.prim .len), [.tmp 63], (some 64), none⟩,
   ⟨(.prim (.bin .mul .none)), [.const (.int .i64 8), .tmp 64], (some 65), none⟩,
   ⟨(.prim (.bin .rem .none)), [.tmp 62, .tmp 65], (some 66), none⟩,
   ⟨(.prim .id), [.tmp 66], (some 11), none⟩] none)
  (.seq (.region [⟨(.prim .id), [.tmp 7], (some 67), none⟩,
   ⟨(.prim .id), [.tmp 11], (some 68), none⟩,
   ⟨(.prim (.bin .quo .none)), [.tmp 68, .const (.int .i64 8)], (some 69), none⟩,
   ⟨(.prim .id), [.tmp 7], (some 70), none⟩,
   ⟨(.prim .id), [.tmp 11], (some 71), none⟩,
   ⟨(.prim (.bin .quo .none)), [.tmp 71, .const (.int .i64 8)], (some 72), none⟩,
   ⟨(.prim (.idxSl none)), [.tmp 70, .tmp 72], (some 73), none⟩,
   ⟨(.prim (.load none)), [.tmp 73], (some 74), none⟩,
   ⟨(.prim .id), [.tmp 11], (some 75), none⟩,
   ⟨(.prim (.bin .rem .none)), [.tmp 75, .const (.int .i64 8)], (some 76), none⟩,
   ⟨(.prim (.bin .shl .none)), [.const (.int .u8 1), .tmp 76], (some 77), none⟩,
   ⟨(.prim (.bin .xor .none)), [.tmp 74, .tmp 77], (some 78), none⟩,
   ⟨(.prim (.idxSl none)), [.tmp 67, .tmp 69], (some 79), none⟩,
   ⟨(.prim (.store none)), [.tmp 79, .tmp 78], none, none⟩] (some [[], [], [1], [], [], [4], [3, 5], [6], [], [8], [9], [7, 10], [0, 2, 0, 1, 2, 3, 4, 5, 6, 7, 8, 9, 10, 11], [12, 11, 0, 1, 2, 3, 4, 5, 6, 7, 8, 9, 10, 11]]))
  (.seq (.region [⟨(.prim .id), [.tmp 7], (some 81), none⟩,
   ⟨(.call 18), [.tmp 81], (some 82), none⟩,
   ⟨(.prim .id), [.tmp 82], (some 80), none⟩,
   ⟨(.prim (.extract 0)), [.tmp 80], (some 83), none⟩,
   ⟨(.prim (.extract 1)), [.tmp 80], (some 84), none⟩,
   ⟨(.prim .id), [.tmp 84], (some 10), none⟩] none)
  (.seq (.region [⟨(.prim .id), [.tmp 10], (some 85), none⟩,
   ⟨(.prim (.bin .neq .none)), [.tmp 85, .const (.int .i64 40)], (some 86), none⟩] none)
  (.cond (.tmp 86)
   (.seq (.region [⟨(.prim .id), [.const (.bool false)], (some 6), none⟩] none)
   .ret)
   .skip)))))))
  .skip))
 (.seq (.region [⟨(.prim .id), [.tmp 1], (some 88), none⟩,
  ⟨(.call 18), [.tmp 88], (some 89), none⟩,
  ⟨(.prim .id), [.tmp 89], (some 87), none⟩,
  ⟨(.prim (.extract 0)), [.tmp 87], (some 90), none⟩,
  ⟨(.prim (.extract 1)), [.tmp 87], (some 91), none⟩,
  ⟨(.prim (.alloc [(.int .i8 0), (.int .i64 0), (.int .i64 0), (.int .i64 0), (.int .i64 0), (.int .i64 0), (.int .i64 0), (.int .i64 0), (.int .i64 0), (.int .i8 0), (.int .i64 0), (.int .u8 0), (.int .u8 0), (.int .u8 0), (.int .u8 0), (.int .u8 0), (.int .u8 0), (.int .u8 0), (.int .u8 0), (.int .i64 0), (.bool false), (.int .i64 0), (.int .i64 0), (.sl .clip [])])), [], (some 12), none⟩,
  ⟨(.prim (.store (some 24))), [.tmp 12, .tmp 90], none, none⟩,
  ⟨(.prim .id), [.tmp 91], (some 13), none⟩] none)
 (.seq (.seq (.region [⟨(.prim .id), [.tmp 13], (some 92), none⟩,
  ⟨(.prim (.bin .eql .none)), [.tmp 92, .const (.int .i64 0)], (some 93), none⟩] none)
 (.cond (.tmp 93)
  (.seq (.region [⟨(.prim (.load (some 24))), [.tmp 12], (some 95), none⟩,
   ⟨(.call 21), [.tmp 95], (some 96), none⟩,
   ⟨(.prim .id), [.tmp 96], (some 94), none⟩,
   ⟨(.prim (.extract 0)), [.tmp 94], (some 97), none⟩,
   ⟨(.prim (.extract 1)), [.tmp 94], (some 98), none⟩,
   ⟨(.prim .id), [.tmp 97], (some 14), none⟩,
   ⟨(.prim .id), [.tmp 98], (some 15), none⟩] none)
  (.seq (.region [⟨(.prim .id), [.tmp 15], (some 99), none⟩,
   ⟨(.prim (.bin .neq .none)), [.tmp 99, .const (.int .i64 0)], (some 100), none⟩,
   ⟨(.prim .id), [.tmp 100], (some 101), none⟩,
   ⟨(.prim .id), [.tmp 14], (some 102), (some (101, false))⟩,
   ⟨(.prim .strOf), [.tmp 102], (some 103), (some (101, false))⟩,
   ⟨(.prim .id), [.tmp 1], (some 104), (some (101, false))⟩,
   ⟨(.prim .strOf), [.tmp 104], (some 105), (some (101, false))⟩,
   ⟨(.prim (.bin .neq .none)), [.tmp 103, .tmp 105], (some 106), (some (101, false))⟩,
   ⟨(.prim .pick), [.tmp 101, .const (.bool true), .tmp 106], (some 107), none⟩] none)
  (.cond (.tmp 107)
   (.seq (.region [⟨(.prim .id), [.const (.bool false)], (some 6), none⟩] none)
   .ret)
   .skip)))
  .skip))
 (.seq (.region [⟨(.call 16), [], (some 108), none⟩,
  ⟨(.prim .id), [.tmp 108], (some 6), none⟩] none)
 .ret)))))))
theorem F8 : IsFun Try.prog 8 3 109 c8 [.tmp 6] := ⟨by decide, Try.f8, _, [3], Try.func8, rfl, by decide, rfl, by kernel_rfl, by kernel_rfl⟩

-- loop: 1:k, 6:, 7:
/-- cashbox/epoch.May -/
def c9 : ACode :=
 (.seq (.region [⟨(.prim (.boxR (some 7))), [.tmp 0], (some 1), none⟩,
  ⟨(.prim .id), [.const (.bool false)], (some 2), none⟩] none)
 (.seq (.seq (.region [⟨(.prim (.fieldAddr 2 (some 5))), [.tmp 1], (some 5), none⟩,
  ⟨(.prim (.load (some 5))), [.tmp 5], (some 6), none⟩,
  ⟨(.prim .id), [.const (.int .i64 0)], (some 7), none⟩] none)
 (.block 0
  (.loop
   (.seq (.region [⟨(.prim (.bin .lss .none)), [.tmp 7, .const (.int .i64 5)], (some 8), none⟩] none)
   (.seq (.cond (.tmp 8)
    .skip
    (.exit 0))
   (.seq (.block 1
    (.seq (.region [⟨(.prim (.idxArrV 5 none)), [.tmp 6, .tmp 7], (some 9), none⟩,
     ⟨(.prim .id), [.tmp 9], (some 4), none⟩] none)
    (.seq (.region [⟨(.prim .id), [.tmp 4], (some 10), none⟩,
     ⟨(.call 23), [.tmp 10, .const (.int .i64 0), .const (.int .i64 1048576)], (some 11), none⟩,
     ⟨(.prim (.un .not)), [.tmp 11], (some 12), none⟩] none)
    (.cond (.tmp 12)
     (.seq (.region [⟨(.prim .id), [.const (.bool false)], (some 2), none⟩] none)
     .ret)
     .skip))))
   (.region [⟨(.prim (.bin .add .none)), [.tmp 7, .const (.int .i64 1)], (some 13), none⟩,
    ⟨(.prim .id), [.tmp 13], (some 7), none⟩] none)))))))
 (.seq (.region [⟨(.prim (.fieldAddr 0 none)), [.tmp 1], (some 14), none⟩,
  ⟨(.prim (.load none)), [.tmp 14], (some 15), none⟩,
  ⟨(.call 23), [.tmp 15, .const (.int .i64 0), .const (.int .i64 4)], (some 16), none⟩,
  ⟨(.prim .id), [.tmp 16], (some 17), none⟩,
  ⟨(.prim (.fieldAddr 1 none)), [.tmp 1], (some 18), (some (17, true))⟩,
  ⟨(.prim (.load none)), [.tmp 18], (some 19), (some (17, true))⟩,
  ⟨(.call 23), [.tmp 19, .const (.int .i64 1), .const (.int .i64 1048576)], (some 20), (some (17, true))⟩,
  ⟨(.prim .pick), [.tmp 17, .tmp 20, .const (.bool false)], (some 21), none⟩,
  ⟨(.prim .id), [.tmp 21], (some 2), none⟩] none)
 .ret)))
theorem F9 : IsFun Try.prog 9 1 22 c9 [.tmp 2] := ⟨by decide, Try.f9, _, [1], Try.func9, rfl, by decide, rfl, by kernel_rfl, by kernel_rfl⟩

/-- cashbox/cashboxlaw17.wakes -/
def c10 : ACode :=
 (.seq (.region [⟨(.prim .id), [.const (.bool false)], (some 0), none⟩] none)
 (.seq (.region [⟨(.call 24), [.const (.int .i64 1), .const (.int .i64 5)], (some 15), none⟩,
  ⟨(.prim .id), [.tmp 15], (some 14), none⟩,
  ⟨(.prim (.extract 0)), [.tmp 14], (some 16), none⟩,
  ⟨(.prim (.extract 1)), [.tmp 14], (some 17), none⟩,
  ⟨(.prim (.alloc [(.int .i64 0), (.int .i64 0), (.int .i64 0), (.int .i64 0), (.int .i64 0), (.int .i64 0), (.int .i64 0)])), [], (some 1), none⟩,
  ⟨(.prim (.store (some 7))), [.tmp 1, .tmp 16], none, none⟩,
  ⟨(.prim .id), [.tmp 17], (some 2), none⟩] none)
 (.seq (.region [⟨(.prim (.load (some 7))), [.tmp 1], (some 19), none⟩,
  ⟨(.call 25), [.const (.int .i64 3)], (some 20), none⟩,
  ⟨(.call 12), [.tmp 19, .tmp 20], (some 21), none⟩,
  ⟨(.prim .id), [.tmp 21], (some 18), none⟩,
  ⟨(.prim (.extract 0)), [.tmp 18], (some 22), none⟩,
  ⟨(.prim (.extract 1)), [.tmp 18], (some 23), none⟩,
  ⟨(.prim (.extract 2)), [.tmp 18], (some 24), none⟩,
  ⟨(.prim (.store (some 7))), [.tmp 1, .tmp 22], none, none⟩,
  ⟨(.prim .id), [.tmp 23], (some 3), none⟩,
  ⟨(.prim .id), [.tmp 24], (some 4), none⟩] (some [[], [], [0, 1, 1], [2], [3], [3], [3], [4, 2, 0, 1, 2, 3, 4], [5, 7, 0, 1, 2, 3, 4, 5, 7], [6, 8, 0, 1, 2, 3, 4, 5, 6, 7, 8]]))
 (.seq (.region [⟨(.prim (.load (some 7))), [.tmp 1], (some 26), none⟩,
  ⟨(.call 25), [.const (.int .i64 2)], (some 27), none⟩,
  ⟨(.call 12), [.tmp 26, .tmp 27], (some 28), none⟩,
  ⟨(.prim .id), [.tmp 28], (some 25), none⟩,
  ⟨(.prim (.extract 0)), [.tmp 25], (some 29), none⟩,
  ⟨(.prim (.extract 1)), [.tmp 25], (some 30), none⟩,
  ⟨(.prim (.extract 2)), [.tmp 25], (some 31), none⟩,
  ⟨(.prim (.alloc [(.int .i64 0), (.int .i64 0), (.int .i64 0), (.int .i64 0), (.int .i64 0), (.int .i64 0), (.int .i64 0)])), [], (some 5), none⟩,
  ⟨(.prim (.store (some 7))), [.tmp 5, .tmp 29], none, none⟩,
  ⟨(.prim .id), [.tmp 30], (some 6), none⟩,
  ⟨(.prim .id), [.tmp 31], (some 7), none⟩] (some [[], [], [0, 1, 1], [2], [3], [3], [3], [], [7, 4, 2, 0, 1, 2, 3, 4, 7], [5, 8, 0, 1, 2, 3, 4, 5, 7, 8], [6, 9, 0, 1, 2, 3, 4, 5, 6, 7, 8, 9]]))
 (.seq (.region [⟨(.prim (.load (some 7))), [.tmp 1], (some 33), none⟩,
  ⟨(.call 25), [.const (.int .i64 4)], (some 34), none⟩,
  ⟨(.call 12), [.tmp 33, .tmp 34], (some 35), none⟩,
  ⟨(.prim .id), [.tmp 35], (some 32), none⟩,
  ⟨(.prim (.extract 0)), [.tmp 32], (some 36), none⟩,
  ⟨(.prim (.extract 1)), [.tmp 32], (some 37), none⟩,
  ⟨(.prim (.extract 2)), [.tmp 32], (some 38), none⟩,
  ⟨(.prim (.alloc [(.int .i64 0), (.int .i64 0), (.int .i64 0), (.int .i64 0), (.int .i64 0), (.int .i64 0), (.int .i64 0)])), [], (some 8), none⟩,
  ⟨(.prim (.store (some 7))), [.tmp 8, .tmp 36], none, none⟩,
  ⟨(.prim .id), [.tmp 37], (some 9), none⟩,
  ⟨(.prim .id), [.tmp 38], (some 10), none⟩] (some [[], [], [0, 1, 1], [2], [3], [3], [3], [], [7, 4, 2, 0, 1, 2, 3, 4, 7], [5, 8, 0, 1, 2, 3, 4, 5, 7, 8], [6, 9, 0, 1, 2, 3, 4, 5, 6, 7, 8, 9]]))
 (.seq (.region [⟨(.prim (.load (some 7))), [.tmp 1], (some 40), none⟩,
  ⟨(.call 25), [.const (.int .i64 3)], (some 41), none⟩,
  ⟨(.call 12), [.tmp 40, .tmp 41], (some 42), none⟩,
  ⟨(.prim .id), [.tmp 42], (some 39), none⟩,
  ⟨(.prim (.extract 0)), [.tmp 39], (some 43), none⟩,
  ⟨(.prim (.extract 1)), [.tmp 39], (some 44), none⟩,
  ⟨(.prim (.extract 2)), [.tmp 39], (some 45), none⟩,
  ⟨(.prim (.alloc [(.int .i64 0), (.int .i64 0), (.int .i64 0), (.int .i64 0), (.int .i64 0), (.int .i64 0), (.int .i64 0)])), [], (some 11), none⟩,
  ⟨(.prim (.store (some 7))), [.tmp 11, .tmp 43], none, none⟩,
  ⟨(.prim .id), [.tmp 44], (some 12), none⟩,
  ⟨(.prim .id), [.tmp 45], (some 13), none⟩] (some [[], [], [0, 1, 1], [2], [3], [3], [3], [], [7, 4, 2, 0, 1, 2, 3, 4, 7], [5, 8, 0, 1, 2, 3, 4, 5, 7, 8], [6, 9, 0, 1, 2, 3, 4, 5, 6, 7, 8, 9]]))
 (.seq (.region [⟨(.prim .id), [.tmp 2], (some 46), none⟩,
  ⟨(.prim (.bin .eql .none)), [.tmp 46, .const (.int .i64 0)], (some 47), none⟩,
  ⟨(.prim .id), [.tmp 47], (some 48), none⟩,
  ⟨(.prim .id), [.tmp 3], (some 49), (some (48, true))⟩,
  ⟨(.prim (.bin .eql .none)), [.tmp 49, .const (.int .i8 2)], (some 50), (some (48, true))⟩,
  ⟨(.prim .pick), [.tmp 48, .tmp 50, .const (.bool false)], (some 51), none⟩,
  ⟨(.prim .id), [.tmp 51], (some 52), none⟩,
  ⟨(.prim .id), [.tmp 6], (some 53), (some (52, true))⟩,
  ⟨(.prim (.bin .eql .none)), [.tmp 53, .const (.int .i8 0)], (some 54), (some (52, true))⟩,
  ⟨(.prim .pick), [.tmp 52, .tmp 54, .const (.bool false)], (some 55), none⟩,
  ⟨(.prim .id), [.tmp 55], (some 56), none⟩,
  ⟨(.prim .id), [.tmp 9], (some 57), (some (56, true))⟩,
  ⟨(.prim (.bin .eql .none)), [.tmp 57, .const (.int .i8 3)], (some 58), (some (56, true))⟩,
  ⟨(.prim .pick), [.tmp 56, .tmp 58, .const (.bool false)], (some 59), none⟩,
  ⟨(.prim .id), [.tmp 59], (some 60), none⟩,
  ⟨(.prim .id), [.tmp 12], (some 61), (some (60, true))⟩,
  ⟨(.prim (.bin .eql .none)), [.tmp 61, .const (.int .i8 1)], (some 62), (some (60, true))⟩,
  ⟨(.prim .pick), [.tmp 60, .tmp 62, .const (.bool false)], (some 63), none⟩,
  ⟨(.prim .id), [.tmp 63], (some 64), none⟩,
  ⟨(.prim .id), [.tmp 13], (some 65), (some (64, true))⟩,
  ⟨(.prim (.bin .eql .none)), [.tmp 65, .const (.int .i64 0)], (some 66), (some (64, true))⟩,
  ⟨(.prim .pick), [.tmp 64, .tmp 66, .const (.bool false)], (some 67), none⟩,
  ⟨(.prim .id), [.tmp 67], (some 0), none⟩] none)
 .ret)))))))
theorem F10 : IsFun Try.prog 10 0 68 c10 [.tmp 0] := ⟨by decide, Try.f10, _, [], Try.func10, rfl, by decide, rfl, by kernel_rfl, by kernel_rfl⟩

/-- cashbox/cashboxref15.Great -/
def c11 : ACode :=
 (.seq (.region [⟨(.prim (.boxR (some 24))), [.tmp 0], (some 1), none⟩,
  ⟨(.prim .id), [.const (.bool false)], (some 2), none⟩] none)
 (.seq (.region [⟨(.prim (.fieldAddr 23 none)), [.tmp 1], (some 3), none⟩,
  ⟨(.prim (.load none)), [.tmp 3], (some 4), none⟩,
  ⟨(.prim .len), [.tmp 4], (some 5), none⟩,
  ⟨(.prim (.bin .gtr .none)), [.tmp 5, .const (.int .i64 40)], (some 6), none⟩,
  ⟨(.prim .id), [.tmp 6], (some 2), none⟩] none)
 .ret))
theorem F11 : IsFun Try.prog 11 1 7 c11 [.tmp 2] := ⟨by decide, Try.f11, _, [1], Try.func11, rfl, by decide, rfl, by kernel_rfl, by kernel_rfl⟩

/-- cashbox/epoch.Hear -/
def c12 : ACode :=
 (.seq (.region [⟨(.prim (.boxR (some 7))), [.tmp 0], (some 2), none⟩,
  ⟨(.prim (.box (some 24))), [.tmp 1], (some 3), none⟩,
  ⟨(.prim (.alloc [(.int .i64 0), (.int .i64 0), (.int .i64 0), (.int .i64 0), (.int .i64 0), (.int .i64 0), (.int .i64 0)])), [], (some 4), none⟩,
  ⟨(.prim .id), [.const (.int .i8 0)], (some 5), none⟩,
  ⟨(.prim .id), [.const (.int .i64 0)], (some 6), none⟩] none)
 (.seq (.seq (.region [⟨(.prim (.load (some 7))), [.tmp 2], (some 9), none⟩,
  ⟨(.call 9), [.tmp 9], (some 10), none⟩,
  ⟨(.prim (.un .not)), [.tmp 10], (some 11), none⟩,
  ⟨(.prim .id), [.tmp 11], (some 12), none⟩,
  ⟨(.prim (.load (some 24))), [.tmp 3], (some 13), (some (12, false))⟩,
  ⟨(.call 15), [.tmp 13], (some 14), (some (12, false))⟩,
  ⟨(.prim (.un .not)), [.tmp 14], (some 15), (some (12, false))⟩,
  ⟨(.prim .pick), [.tmp 12, .const (.bool true), .tmp 15], (some 16), none⟩,
  ⟨(.prim .id), [.tmp 16], (some 17), none⟩,
  ⟨(.prim (.fieldAddr 2 none)), [.tmp 3], (some 18), (some (17, false))⟩,
  ⟨(.prim (.load none)), [.tmp 18], (some 19), (some (17, false))⟩,
  ⟨(.prim (.fieldAddr 0 none)), [.tmp 2], (some 20), (some (17, false))⟩,
  ⟨(.prim (.load none)), [.tmp 20], (some 21), (some (17, false))⟩,
  ⟨(.prim (.bin .neq .none)), [.tmp 19, .tmp 21], (some 22), (some (17, false))⟩,
  ⟨(.prim .pick), [.tmp 17, .const (.bool true), .tmp 22], (some 23), none⟩] none)
 (.cond (.tmp 23)
  (.seq (.region [⟨(.prim (.build [(.int .i64 0), (.int .i64 0), (.int .i64 0), (.int .i64 0), (.int .i64 0), (.int .i64 0), (.int .i64 0)] [])), [], (some 24), none⟩,
   ⟨(.prim (.store (some 7))), [.tmp 4, .tmp 24], none, none⟩,
   ⟨(.prim .id), [.const (.int .i8 0)], (some 5), none⟩,
   ⟨(.prim .id), [.const (.int .i64 2)], (some 6), none⟩] none)
  .ret)
  .skip))
 (.seq (.region [⟨(.prim (.load (some 7))), [.tmp 2], (some 25), none⟩,
  ⟨(.prim (.alloc [(.int .i64 0), (.int .i64 0), (.int .i64 0), (.int .i64 0), (.int .i64 0), (.int .i64 0), (.int .i64 0)])), [], (some 7), none⟩,
  ⟨(.prim (.store (some 7))), [.tmp 7, .tmp 25], none, none⟩] none)
 (.seq (.region [⟨(.call 26), [.tmp 7, .tmp 3], (some 26), none⟩,
  ⟨(.prim .id), [.tmp 26], (some 8), none⟩] none)
 (.seq (.region [⟨(.prim (.load (some 7))), [.tmp 7], (some 27), none⟩,
  ⟨(.prim .id), [.tmp 8], (some 28), none⟩,
  ⟨(.prim (.store (some 7))), [.tmp 4, .tmp 27], none, none⟩,
  ⟨(.prim .id), [.tmp 28], (some 5), none⟩,
  ⟨(.prim .id), [.const (.int .i64 0)], (some 6), none⟩] none)
 .ret)))))
theorem F12 : IsFun Try.prog 12 2 29 c12 [.cell 4 (some 7), .tmp 5, .tmp 6] := ⟨by decide, Try.f12, _, [2], Try.func12, rfl, by decide, rfl, by kernel_rfl, by kernel_rfl⟩

/-- cashbox/cashboxref15.May -/
def c13 : ACode :=
 (.seq (.region [⟨(.prim (.boxR (some 24))), [.tmp 0], (some 1), none⟩,
  ⟨(.prim .id), [.const (.bool false)], (some 2), none⟩] none)
 (.seq (.seq (.region [⟨(.prim (.fieldAddr 0 none)), [.tmp 1], (some 3), none⟩,
  ⟨(.prim (.load none)), [.tmp 3], (some 4), none⟩,
  ⟨(.prim (.bin .lss .none)), [.tmp 4, .const (.int .i8 1)], (some 5), none⟩,
  ⟨(.prim .id), [.tmp 5], (some 6), none⟩,
  ⟨(.prim (.fieldAddr 0 none)), [.tmp 1], (some 7), (some (6, false))⟩,
  ⟨(.prim (.load none)), [.tmp 7], (some 8), (some (6, false))⟩,
  ⟨(.prim (.bin .gtr .none)), [.tmp 8, .const (.int .i8 11)], (some 9), (some (6, false))⟩,
  ⟨(.prim .pick), [.tmp 6, .const (.bool true), .tmp 9], (some 10), none⟩,
  ⟨(.prim .id), [.tmp 10], (some 11), none⟩,
  ⟨(.prim (.load (some 24))), [.tmp 1], (some 12), (some (11, false))⟩,
  ⟨(.prim (.load (some 24))), [.tmp 1], (some 13), (some (11, false))⟩,
  ⟨(.call 27), [.tmp 13], (some 14), (some (11, false))⟩,
  ⟨(.call 20), [.tmp 12, .tmp 14], (some 15), (some (11, false))⟩,
  ⟨(.prim (.un .not)), [.tmp 15], (some 16), (some (11, false))⟩,
  ⟨(.prim .pick), [.tmp 11, .const (.bool true), .tmp 16], (some 17), none⟩,
  ⟨(.prim .id), [.tmp 17], (some 18), none⟩,
  ⟨(.prim (.fieldAddr 1 none)), [.tmp 1], (some 19), (some (18, false))⟩,
  ⟨(.prim (.load none)), [.tmp 19], (some 20), (some (18, false))⟩,
  ⟨(.prim (.bin .lss .none)), [.tmp 20, .const (.int .i64 0)], (some 21), (some (18, false))⟩,
  ⟨(.prim .pick), [.tmp 18, .const (.bool true), .tmp 21], (some 22), none⟩,
  ⟨(.prim .id), [.tmp 22], (some 23), none⟩,
  ⟨(.prim (.fieldAddr 1 none)), [.tmp 1], (some 24), (some (23, false))⟩,
  ⟨(.prim (.load none)), [.tmp 24], (some 25), (some (23, false))⟩,
  ⟨(.prim (.bin .gtr .none)), [.tmp 25, .const (.int .i64 4)], (some 26), (some (23, false))⟩,
  ⟨(.prim .pick), [.tmp 23, .const (.bool true), .tmp 26], (some 27), none⟩,
  ⟨(.prim .id), [.tmp 27], (some 28), none⟩,
  ⟨(.prim (.fieldAddr 2 none)), [.tmp 1], (some 29), (some (28, false))⟩,
  ⟨(.prim (.load none)), [.tmp 29], (some 30), (some (28, false))⟩,
  ⟨(.prim (.bin .lss .none)), [.tmp 30, .const (.int .i64 0)], (some 31), (some (28, false))⟩,
  ⟨(.prim .pick), [.tmp 28, .const (.bool true), .tmp 31], (some 32), none⟩,
  ⟨(.prim .id), [.tmp 32], (some 33), none⟩,
  ⟨(.prim (.fieldAddr 2 none)), [.tmp 1], (some 34), (some (33, false))⟩,
  ⟨(.prim (.load none)), [.tmp 34], (some 35), (some (33, false))⟩,
  ⟨(.prim (.bin .gtr .none)), [.tmp 35, .const (.int .i64 4)], (some 36), (some (33, false))⟩,
  ⟨(.prim .pick), [.tmp 33, .const (.bool true), .tmp 36], (some 37), none⟩,
  ⟨(.prim .id), [.tmp 37], (some 38), none⟩,
  ⟨(.prim (.fieldAddr 1 none)), [.tmp 1], (some 39), (some (38, false))⟩,
  ⟨(.prim (.load none)), [.tmp 39], (some 40), (some (38, false))⟩,
  ⟨(.prim (.bin .eql .none)), [.tmp 40, .const (.int .i64 0)], (some 41), (some (38, false))⟩,
  ⟨(.prim (.fieldAddr 2 none)), [.tmp 1], (some 42), (some (38, false))⟩,
  ⟨(.prim (.load none)), [.tmp 42], (some 43), (some (38, false))⟩,
  ⟨(.prim (.bin .eql .none)), [.tmp 43, .const (.int .i64 0)], (some 44), (some (38, false))⟩,
  ⟨(.prim (.bin .eql .bool)), [.tmp 41, .tmp 44], (some 45), (some (38, false))⟩,
  ⟨(.prim .pick), [.tmp 38, .const (.bool true), .tmp 45], (some 46), none⟩,
  ⟨(.prim .id), [.tmp 46], (some 47), none⟩,
  ⟨(.prim (.fieldAddr 0 none)), [.tmp 1], (some 48), (some (47, false))⟩,
  ⟨(.prim (.load none)), [.tmp 48], (some 49), (some (47, false))⟩,
  ⟨(.call 28), [.tmp 49], (some 50), (some (47, false))⟩,
  ⟨(.prim (.fieldAddr 1 none)), [.tmp 1], (some 51), (some (47, false))⟩,
  ⟨(.prim (.load none)), [.tmp 51], (some 52), (some (47, false))⟩,
  ⟨(.prim (.bin .eql .none)), [.tmp 52, .const (.int .i64 0)], (some 53), (some (47, false))⟩,
  ⟨(.prim (.bin .neq .bool)), [.tmp 50, .tmp 53], (some 54), (some (47, false))⟩,
  ⟨(.prim .pick), [.tmp 47, .const (.bool true), .tmp 54], (some 55), none⟩] (some [[], [0], [1], [2], [3], [4, 3], [5, 3], [3, 6], [7, 3], [8], [8], [10, 8, 8], [9, 11, 11, 8], [12, 8], [8, 13], [14, 12], [15], [16, 15], [17, 15], [15, 18], [19, 15], [20], [21, 20], [22, 20], [20, 23], [24, 20], [25], [26, 25], [27, 25], [25, 28], [29, 25], [30], [31, 30], [32, 30], [30, 33], [34, 30], [35], [36, 35], [37, 35], [35], [39, 35], [40, 35], [38, 41, 35], [35, 42], [43, 35], [44], [45, 44], [46, 44, 44], [44], [48, 44], [49, 44], [47, 50, 44], [44, 51]]))
 (.cond (.tmp 55)
  (.seq (.region [⟨(.prim .id), [.const (.bool false)], (some 2), none⟩] none)
  .ret)
  .skip))
 (.seq (.seq (.region [⟨(.prim (.fieldAddr 3 none)), [.tmp 1], (some 56), none⟩,
  ⟨(.prim (.load none)), [.tmp 56], (some 57), none⟩,
  ⟨(.prim (.bin .lss .none)), [.tmp 57, .const (.int .i64 1)], (some 58), none⟩,
  ⟨(.prim .id), [.tmp 58], (some 59), none⟩,
  ⟨(.prim (.fieldAddr 3 none)), [.tmp 1], (some 60), (some (59, false))⟩,
  ⟨(.prim (.load none)), [.tmp 60], (some 61), (some (59, false))⟩,
  ⟨(.prim (.bin .gtr .none)), [.tmp 61, .const (.int .i64 1048576)], (some 62), (some (59, false))⟩,
  ⟨(.prim .pick), [.tmp 59, .const (.bool true), .tmp 62], (some 63), none⟩,
  ⟨(.prim .id), [.tmp 63], (some 64), none⟩,
  ⟨(.prim (.fieldAddr 4 none)), [.tmp 1], (some 65), (some (64, false))⟩,
  ⟨(.prim (.load none)), [.tmp 65], (some 66), (some (64, false))⟩,
  ⟨(.prim (.bin .lss .none)), [.tmp 66, .const (.int .i64 0)], (some 67), (some (64, false))⟩,
  ⟨(.prim .pick), [.tmp 64, .const (.bool true), .tmp 67], (some 68), none⟩,
  ⟨(.prim .id), [.tmp 68], (some 69), none⟩,
  ⟨(.prim (.fieldAddr 4 none)), [.tmp 1], (some 70), (some (69, false))⟩,
  ⟨(.prim (.load none)), [.tmp 70], (some 71), (some (69, false))⟩,
  ⟨(.prim (.bin .gtr .none)), [.tmp 71, .const (.int .i64 1048576)], (some 72), (some (69, false))⟩,
  ⟨(.prim .pick), [.tmp 69, .const (.bool true), .tmp 72], (some 73), none⟩] none)
 (.cond (.tmp 73)
  (.seq (.region [⟨(.prim .id), [.const (.bool false)], (some 2), none⟩] none)
  .ret)
  .skip))
 (.seq (.seq (.region [⟨(.prim (.fieldAddr 0 none)), [.tmp 1], (some 74), none⟩,
  ⟨(.prim (.load none)), [.tmp 74], (some 75), none⟩,
  ⟨(.prim (.bin .eql .none)), [.tmp 75, .const (.int .i8 1)], (some 76), none⟩,
  ⟨(.prim .id), [.tmp 76], (some 77), none⟩,
  ⟨(.prim (.fieldAddr 0 none)), [.tmp 1], (some 78), (some (77, false))⟩,
  ⟨(.prim (.load none)), [.tmp 78], (some 79), (some (77, false))⟩,
  ⟨(.prim (.bin .eql .none)), [.tmp 79, .const (.int .i8 11)], (some 80), (some (77, false))⟩,
  ⟨(.prim .pick), [.tmp 77, .const (.bool true), .tmp 80], (some 81), none⟩] none)
 (.cond (.tmp 81)
  (.seq (.region [⟨(.prim .id), [.const (.bool true)], (some 2), none⟩] none)
  .ret)
  .skip))
 (.seq (.seq (.region [⟨(.prim (.fieldAddr 5 (some 3))), [.tmp 1], (some 82), none⟩,
  ⟨(.prim (.load (some 3))), [.tmp 82], (some 83), none⟩,
  ⟨(.call 29), [.tmp 83], (some 84), none⟩,
  ⟨(.prim (.un .not)), [.tmp 84], (some 85), none⟩] none)
 (.cond (.tmp 85)
  (.seq (.region [⟨(.prim .id), [.const (.bool false)], (some 2), none⟩] none)
  .ret)
  .skip))
 (.seq (.seq (.region [⟨(.prim (.fieldAddr 0 none)), [.tmp 1], (some 86), none⟩,
  ⟨(.prim (.load none)), [.tmp 86], (some 87), none⟩] none)
 (.block 0
  (.seq (.region [⟨(.prim (.bin .eql .none)), [.tmp 87, .const (.int .i8 2)], (some 89), none⟩,
   ⟨(.prim .id), [.tmp 89], (some 88), none⟩] none)
  (.cond (.tmp 88)
   (.seq (.region [⟨(.prim (.fieldAddr 8 none)), [.tmp 1], (some 90), none⟩,
    ⟨(.prim (.load none)), [.tmp 90], (some 91), none⟩,
    ⟨(.prim (.bin .geq .none)), [.tmp 91, .const (.int .i64 1)], (some 92), none⟩,
    ⟨(.prim .id), [.tmp 92], (some 93), none⟩,
    ⟨(.prim (.fieldAddr 8 none)), [.tmp 1], (some 94), (some (93, true))⟩,
    ⟨(.prim (.load none)), [.tmp 94], (some 95), (some (93, true))⟩,
    ⟨(.prim (.bin .leq .none)), [.tmp 95, .const (.int .i64 1048576)], (some 96), (some (93, true))⟩,
    ⟨(.prim .pick), [.tmp 93, .tmp 96, .const (.bool false)], (some 97), none⟩,
    ⟨(.prim .id), [.tmp 97], (some 98), none⟩,
    ⟨(.prim (.fieldAddr 9 none)), [.tmp 1], (some 99), (some (98, true))⟩,
    ⟨(.prim (.load none)), [.tmp 99], (some 100), (some (98, true))⟩,
    ⟨(.prim (.bin .geq .none)), [.tmp 100, .const (.int .i8 0)], (some 101), (some (98, true))⟩,
    ⟨(.prim .pick), [.tmp 98, .tmp 101, .const (.bool false)], (some 102), none⟩,
    ⟨(.prim .id), [.tmp 102], (some 103), none⟩,
    ⟨(.prim (.fieldAddr 9 none)), [.tmp 1], (some 104), (some (103, true))⟩,
    ⟨(.prim (.load none)), [.tmp 104], (some 105), (some (103, true))⟩,
    ⟨(.prim (.bin .leq .none)), [.tmp 105, .const (.int .i8 2)], (some 106), (some (103, true))⟩,
    ⟨(.prim .pick), [.tmp 103, .tmp 106, .const (.bool false)], (some 107), none⟩,
    ⟨(.prim .id), [.tmp 107], (some 108), none⟩,
    ⟨(.prim (.fieldAddr 10 none)), [.tmp 1], (some 109), (some (108, true))⟩,
    ⟨(.prim (.load none)), [.tmp 109], (some 110), (some (108, true))⟩,
    ⟨(.prim (.bin .geq .none)), [.tmp 110, .const (.int .i64 0)], (some 111), (some (108, true))⟩,
    ⟨(.prim .pick), [.tmp 108, .tmp 111, .const (.bool false)], (some 112), none⟩,
    ⟨(.prim .id), [.tmp 112], (some 113), none⟩,
    ⟨(.prim (.fieldAddr 10 none)), [.tmp 1], (some 114), (some (113, true))⟩,
    ⟨(.prim (.load none)), [.tmp 114], (some 115), (some (113, true))⟩,
    ⟨(.prim (.bin .lss .none)), [.tmp 115, .const (.int .i64 32)], (some 116), (some (113, true))⟩,
    ⟨(.prim .pick), [.tmp 113, .tmp 116, .const (.bool false)], (some 117), none⟩,
    ⟨(.prim .id), [.tmp 117], (some 2), none⟩] none)
   .ret)
   (.seq (.region [⟨(.prim (.bin .eql .none)), [.tmp 87, .const (.int .i8 3)], (some 119), none⟩,
    ⟨(.prim .id), [.tmp 119], (some 118), none⟩] none)
   (.cond (.tmp 118)
    (.seq (.region [⟨(.prim (.fieldAddr 8 none)), [.tmp 1], (some 120), none⟩,
     ⟨(.prim (.load none)), [.tmp 120], (some 121), none⟩,
     ⟨(.prim (.bin .geq .none)), [.tmp 121, .const (.int .i64 1)], (some 122), none⟩,
     ⟨(.prim .id), [.tmp 122], (some 123), none⟩,
     ⟨(.prim (.fieldAddr 8 none)), [.tmp 1], (some 124), (some (123, true))⟩,
     ⟨(.prim (.load none)), [.tmp 124], (some 125), (some (123, true))⟩,
     ⟨(.prim (.bin .leq .none)), [.tmp 125, .const (.int .i64 1048576)], (some 126), (some (123, true))⟩,
     ⟨(.prim .pick), [.tmp 123, .tmp 126, .const (.bool false)], (some 127), none⟩,
     ⟨(.prim .id), [.tmp 127], (some 128), none⟩,
     ⟨(.prim (.fieldAddr 19 none)), [.tmp 1], (some 129), (some (128, true))⟩,
     ⟨(.prim (.load none)), [.tmp 129], (some 130), (some (128, true))⟩,
     ⟨(.prim (.bin .eql .none)), [.tmp 130, .const (.int .i64 0)], (some 131), (some (128, true))⟩,
     ⟨(.prim .id), [.tmp 131], (some 132), (some (128, true))⟩,
     ⟨(.prim (.fieldAddr 19 none)), [.tmp 1], (some 133), (some (132, false))⟩,
     ⟨(.prim (.load none)), [.tmp 133], (some 134), (some (132, false))⟩,
     ⟨(.prim (.bin .eql .none)), [.tmp 134, .const (.int .i64 120)], (some 135), (some (132, false))⟩,
     ⟨(.prim .pick), [.tmp 132, .const (.bool true), .tmp 135], (some 136), (some (128, true))⟩,
     ⟨(.prim .id), [.tmp 136], (some 137), (some (128, true))⟩,
     ⟨(.prim (.fieldAddr 19 none)), [.tmp 1], (some 138), (some (137, false))⟩,
     ⟨(.prim (.load none)), [.tmp 138], (some 139), (some (137, false))⟩,
     ⟨(.prim (.bin .eql .none)), [.tmp 139, .const (.int .i64 112)], (some 140), (some (137, false))⟩,
     ⟨(.prim .pick), [.tmp 137, .const (.bool true), .tmp 140], (some 141), (some (128, true))⟩,
     ⟨(.prim .id), [.tmp 141], (some 142), (some (128, true))⟩,
     ⟨(.prim (.fieldAddr 19 none)), [.tmp 1], (some 143), (some (142, false))⟩,
     ⟨(.prim (.load none)), [.tmp 143], (some 144), (some (142, false))⟩,
     ⟨(.prim (.bin .eql .none)), [.tmp 144, .const (.int .i64 121)], (some 145), (some (142, false))⟩,
     ⟨(.prim .pick), [.tmp 142, .const (.bool true), .tmp 145], (some 146), (some (128, true))⟩,
     ⟨(.prim .id), [.tmp 146], (some 147), (some (128, true))⟩,
     ⟨(.prim (.fieldAddr 19 none)), [.tmp 1], (some 148), (some (147, false))⟩,
     ⟨(.prim (.load none)), [.tmp 148], (some 149), (some (147, false))⟩,
     ⟨(.prim (.bin .eql .none)), [.tmp 149, .const (.int .i64 50)], (some 150), (some (147, false))⟩,
     ⟨(.prim .pick), [.tmp 147, .const (.bool true), .tmp 150], (some 151), (some (128, true))⟩,
     ⟨(.prim .pick), [.tmp 128, .tmp 151, .const (.bool false)], (some 152), none⟩,
     ⟨(.prim .id), [.tmp 152], (some 2), none⟩] none)
    .ret)
    (.seq (.region [⟨(.prim (.bin .eql .none)), [.tmp 87, .const (.int .i8 4)], (some 154), none⟩,
     ⟨(.prim .id), [.tmp 154], (some 153), none⟩] none)
    (.cond (.tmp 153)
     (.seq (.region [⟨(.prim (.fieldAddr 21 none)), [.tmp 1], (some 155), none⟩,
      ⟨(.prim (.load none)), [.tmp 155], (some 156), none⟩,
      ⟨(.prim (.fieldAddr 22 none)), [.tmp 1], (some 157), none⟩,
      ⟨(.prim (.load none)), [.tmp 157], (some 158), none⟩,
      ⟨(.call 30), [.tmp 156, .tmp 158], (some 159), none⟩,
      ⟨(.prim .id), [.tmp 159], (some 160), none⟩,
      ⟨(.prim (.fieldAddr 23 none)), [.tmp 1], (some 161), (some (160, true))⟩,
      ⟨(.prim (.load none)), [.tmp 161], (some 162), (some (160, true))⟩,
      ⟨(.call 31), [.tmp 162], (some 163), (some (160, true))⟩,
      ⟨(.prim .pick), [.tmp 160, .tmp 163, .const (.bool false)], (some 164), none⟩,
      ⟨(.prim .id), [.tmp 164], (some 2), none⟩] none)
     .ret)
     (.seq (.region [⟨(.prim (.bin .eql .none)), [.tmp 87, .const (.int .i8 10)], (some 166), none⟩,
      ⟨(.prim .id), [.tmp 166], (some 165), none⟩] none)
     (.cond (.tmp 165)
      (.seq (.region [⟨(.prim (.fieldAddr 19 none)), [.tmp 1], (some 167), none⟩,
       ⟨(.prim (.load none)), [.tmp 167], (some 168), none⟩,
       ⟨(.prim (.bin .eql .none)), [.tmp 168, .const (.int .i64 0)], (some 169), none⟩,
       ⟨(.prim .id), [.tmp 169], (some 170), none⟩,
       ⟨(.prim (.fieldAddr 19 none)), [.tmp 1], (some 171), (some (170, false))⟩,
       ⟨(.prim (.load none)), [.tmp 171], (some 172), (some (170, false))⟩,
       ⟨(.prim (.bin .eql .none)), [.tmp 172, .const (.int .i64 50)], (some 173), (some (170, false))⟩,
       ⟨(.prim .pick), [.tmp 170, .const (.bool true), .tmp 173], (some 174), none⟩,
       ⟨(.prim .id), [.tmp 174], (some 175), none⟩,
       ⟨(.prim (.fieldAddr 19 none)), [.tmp 1], (some 176), (some (175, false))⟩,
       ⟨(.prim (.load none)), [.tmp 176], (some 177), (some (175, false))⟩,
       ⟨(.prim (.bin .eql .none)), [.tmp 177, .const (.int .i64 121)], (some 178), (some (175, false))⟩,
       ⟨(.prim .pick), [.tmp 175, .const (.bool true), .tmp 178], (some 179), none⟩,
       ⟨(.prim .id), [.tmp 179], (some 2), none⟩] none)
      .ret)
      .skip))))))))))
 (.seq (.region [⟨(.prim .id), [.const (.bool true)], (some 2), none⟩] none)
 .ret)))))))
theorem F13 : IsFun Try.prog 13 1 180 c13 [.tmp 2] := ⟨by decide, Try.f13, _, [1], Try.func13, rfl, by decide, rfl, by kernel_rfl, by kernel_rfl⟩

/-- cashbox/epoch.Stamp -/
def c14 : ACode :=
 (.seq (.region [⟨(.prim (.boxR (some 7))), [.tmp 0], (some 2), none⟩,
  ⟨(.prim (.box (some 24))), [.tmp 1], (some 3), none⟩,
  ⟨(.prim (.alloc [(.int .i8 0), (.int .i64 0), (.int .i64 0), (.int .i64 0), (.int .i64 0), (.int .i64 0), (.int .i64 0), (.int .i64 0), (.int .i64 0), (.int .i8 0), (.int .i64 0), (.int .u8 0), (.int .u8 0), (.int .u8 0), (.int .u8 0), (.int .u8 0), (.int .u8 0), (.int .u8 0), (.int .u8 0), (.int .i64 0), (.bool false), (.int .i64 0), (.int .i64 0), (.sl .clip [])])), [], (some 4), none⟩,
  ⟨(.prim .id), [.const (.int .i64 0)], (some 5), none⟩] none)
 (.seq (.seq (.region [⟨(.prim (.load (some 7))), [.tmp 2], (some 8), none⟩,
  ⟨(.call 9), [.tmp 8], (some 9), none⟩,
  ⟨(.prim (.un .not)), [.tmp 9], (some 10), none⟩,
  ⟨(.prim .id), [.tmp 10], (some 11), none⟩,
  ⟨(.prim (.fieldAddr 2 none)), [.tmp 3], (some 12), (some (11, false))⟩,
  ⟨(.prim (.load none)), [.tmp 12], (some 13), (some (11, false))⟩,
  ⟨(.call 23), [.tmp 13, .const (.int .i64 0), .const (.int .i64 4)], (some 14), (some (11, false))⟩,
  ⟨(.prim (.un .not)), [.tmp 14], (some 15), (some (11, false))⟩,
  ⟨(.prim .pick), [.tmp 11, .const (.bool true), .tmp 15], (some 16), none⟩,
  ⟨(.prim .id), [.tmp 16], (some 17), none⟩,
  ⟨(.prim (.fieldAddr 2 none)), [.tmp 3], (some 18), (some (17, false))⟩,
  ⟨(.prim (.load none)), [.tmp 18], (some 19), (some (17, false))⟩,
  ⟨(.prim (.fieldAddr 0 none)), [.tmp 2], (some 20), (some (17, false))⟩,
  ⟨(.prim (.load none)), [.tmp 20], (some 21), (some (17, false))⟩,
  ⟨(.prim (.bin .eql .none)), [.tmp 19, .tmp 21], (some 22), (some (17, false))⟩,
  ⟨(.prim .pick), [.tmp 17, .const (.bool true), .tmp 22], (some 23), none⟩] none)
 (.cond (.tmp 23)
  (.seq (.region [⟨(.prim (.build [(.int .i8 0), (.int .i64 0), (.int .i64 0), (.int .i64 0), (.int .i64 0), (.int .i64 0), (.int .i64 0), (.int .i64 0), (.int .i64 0), (.int .i8 0), (.int .i64 0), (.int .u8 0), (.int .u8 0), (.int .u8 0), (.int .u8 0), (.int .u8 0), (.int .u8 0), (.int .u8 0), (.int .u8 0), (.int .i64 0), (.bool false), (.int .i64 0), (.int .i64 0), (.sl .clip [])] [])), [], (some 24), none⟩,
   ⟨(.prim (.store (some 24))), [.tmp 4, .tmp 24], none, none⟩,
   ⟨(.prim .id), [.const (.int .i64 2)], (some 5), none⟩] none)
  .ret)
  .skip))
 (.seq (.region [⟨(.prim (.load (some 7))), [.tmp 2], (some 25), none⟩,
  ⟨(.prim (.alloc [(.int .i64 0), (.int .i64 0), (.int .i64 0), (.int .i64 0), (.int .i64 0), (.int .i64 0), (.int .i64 0)])), [], (some 6), none⟩,
  ⟨(.prim (.store (some 7))), [.tmp 6, .tmp 25], none, none⟩,
  ⟨(.prim .id), [.const (.fn (.func 32) [] [])], (some 7), none⟩] none)
 (.seq (.region [⟨(.prim .id), [.tmp 7], (some 26), none⟩,
  ⟨.callV, [.tmp 26, .tmp 6, .tmp 3], (some 27), none⟩] none)
 (.seq (.region [⟨(.prim (.load (some 24))), [.tmp 3], (some 28), none⟩,
  ⟨(.prim (.store (some 24))), [.tmp 4, .tmp 28], none, none⟩,
  ⟨(.prim .id), [.const (.int .i64 0)], (some 5), none⟩] none)
 .ret)))))
theorem F14 : IsFun Try.prog 14 2 29 c14 [.cell 4 (some 24), .tmp 5] := ⟨by decide, Try.f14, _, [2], Try.func14, rfl, by decide, rfl, by kernel_rfl, by kernel_rfl⟩

-- loop: 1:m, 5:x, 6:g, 88:, 89:, 90:
/-- cashbox/wire.May -/
def c15 : ACode :=
 (.seq (.region [⟨(.prim (.box (some 24))), [.tmp 0], (some 1), none⟩,
  ⟨(.prim .id), [.const (.bool false)], (some 2), none⟩] none)
 (.seq (.region [⟨(.prim (.fieldAddr 0 none)), [.tmp 1], (some 10), none⟩,
  ⟨(.prim (.load none)), [.tmp 10], (some 11), none⟩,
  ⟨(.call 33), [.tmp 11], (some 12), none⟩,
  ⟨(.prim .id), [.tmp 12], (some 9), none⟩,
  ⟨(.prim (.extract 0)), [.tmp 9], (some 13), none⟩,
  ⟨(.prim (.extract 1)), [.tmp 9], (some 14), none⟩,
  ⟨(.prim (.alloc [(.bool false), (.sl .clip []), .nilfn])), [], (some 3), none⟩,
  ⟨(.prim (.store (some 3))), [.tmp 3, .tmp 13], none, none⟩,
  ⟨(.prim .id), [.tmp 14], (some 4), none⟩] none)
 (.seq (.seq (.region [⟨(.prim .id), [.tmp 4], (some 15), none⟩,
  ⟨(.prim (.un .not)), [.tmp 15], (some 16), none⟩,
  ⟨(.prim .id), [.tmp 16], (some 17), none⟩,
  ⟨(.prim (.fieldAddr 1 none)), [.tmp 1], (some 18), (some (17, false))⟩,
  ⟨(.prim (.load none)), [.tmp 18], (some 19), (some (17, false))⟩,
  ⟨(.call 34), [.tmp 19, .const (.int .i64 0), .const (.int .i64 4)], (some 20), (some (17, false))⟩,
  ⟨(.prim (.un .not)), [.tmp 20], (some 21), (some (17, false))⟩,
  ⟨(.prim .pick), [.tmp 17, .const (.bool true), .tmp 21], (some 22), none⟩,
  ⟨(.prim .id), [.tmp 22], (some 23), none⟩,
  ⟨(.prim (.fieldAddr 2 none)), [.tmp 1], (some 24), (some (23, false))⟩,
  ⟨(.prim (.load none)), [.tmp 24], (some 25), (some (23, false))⟩,
  ⟨(.call 34), [.tmp 25, .const (.int .i64 0), .const (.int .i64 4)], (some 26), (some (23, false))⟩,
  ⟨(.prim (.un .not)), [.tmp 26], (some 27), (some (23, false))⟩,
  ⟨(.prim .pick), [.tmp 23, .const (.bool true), .tmp 27], (some 28), none⟩,
  ⟨(.prim .id), [.tmp 28], (some 29), none⟩,
  ⟨(.prim (.fieldAddr 1 none)), [.tmp 1], (some 30), (some (29, false))⟩,
  ⟨(.prim (.load none)), [.tmp 30], (some 31), (some (29, false))⟩,
  ⟨(.prim (.bin .eql .none)), [.tmp 31, .const (.int .i64 0)], (some 32), (some (29, false))⟩,
  ⟨(.prim (.fieldAddr 2 none)), [.tmp 1], (some 33), (some (29, false))⟩,
  ⟨(.prim (.load none)), [.tmp 33], (some 34), (some (29, false))⟩,
  ⟨(.prim (.bin .eql .none)), [.tmp 34, .const (.int .i64 0)], (some 35), (some (29, false))⟩,
  ⟨(.prim (.bin .eql .bool)), [.tmp 32, .tmp 35], (some 36), (some (29, false))⟩,
  ⟨(.prim .pick), [.tmp 29, .const (.bool true), .tmp 36], (some 37), none⟩,
  ⟨(.prim .id), [.tmp 37], (some 38), none⟩,
  ⟨(.prim (.fieldAddr 0 none)), [.tmp 3], (some 39), (some (38, false))⟩,
  ⟨(.prim (.load none)), [.tmp 39], (some 40), (some (38, false))⟩,
  ⟨(.prim (.fieldAddr 1 none)), [.tmp 1], (some 41), (some (38, false))⟩,
  ⟨(.prim (.load none)), [.tmp 41], (some 42), (some (38, false))⟩,
  ⟨(.prim (.bin .eql .none)), [.tmp 42, .const (.int .i64 0)], (some 43), (some (38, false))⟩,
  ⟨(.prim (.bin .neq .bool)), [.tmp 40, .tmp 43], (some 44), (some (38, false))⟩,
  ⟨(.prim .pick), [.tmp 38, .const (.bool true), .tmp 44], (some 45), none⟩,
  ⟨(.prim .id), [.tmp 45], (some 46), none⟩,
  ⟨(.prim (.fieldAddr 3 none)), [.tmp 1], (some 47), (some (46, false))⟩,
  ⟨(.prim (.load none)), [.tmp 47], (some 48), (some (46, false))⟩,
  ⟨(.call 34), [.tmp 48, .const (.int .i64 1), .const (.int .i64 1048576)], (some 49), (some (46, false))⟩,
  ⟨(.prim (.un .not)), [.tmp 49], (some 50), (some (46, false))⟩,
  ⟨(.prim .pick), [.tmp 46, .const (.bool true), .tmp 50], (some 51), none⟩,
  ⟨(.prim .id), [.tmp 51], (some 52), none⟩,
  ⟨(.prim (.fieldAddr 4 none)), [.tmp 1], (some 53), (some (52, false))⟩,
  ⟨(.prim (.load none)), [.tmp 53], (some 54), (some (52, false))⟩,
  ⟨(.call 34), [.tmp 54, .const (.int .i64 0), .const (.int .i64 1048576)], (some 55), (some (52, false))⟩,
  ⟨(.prim (.un .not)), [.tmp 55], (some 56), (some (52, false))⟩,
  ⟨(.prim .pick), [.tmp 52, .const (.bool true), .tmp 56], (some 57), none⟩,
  ⟨(.prim .id), [.tmp 57], (some 58), none⟩,
  ⟨(.prim (.fieldAddr 2 none)), [.tmp 3], (some 59), (some (58, false))⟩,
  ⟨(.prim (.load none)), [.tmp 59], (some 60), (some (58, false))⟩,
  ⟨.callV, [.tmp 60, .tmp 1], (some 61), (some (58, false))⟩,
  ⟨(.prim (.un .not)), [.tmp 61], (some 62), (some (58, false))⟩,
  ⟨(.prim .pick), [.tmp 58, .const (.bool true), .tmp 62], (some 63), none⟩] none)
 (.cond (.tmp 63)
  (.seq (.region [⟨(.prim .id), [.const (.bool false)], (some 2), none⟩] none)
  .ret)
  .skip))
 (.seq (.seq (.region [⟨(.prim (.fieldAddr 1 none)), [.tmp 3], (some 64), none⟩,
  ⟨(.prim (.load none)), [.tmp 64], (some 65), none⟩,
  ⟨(.prim .len), [.tmp 65], (some 66), none⟩,
  ⟨(.prim (.bin .gtr .none)), [.tmp 66, .const (.int .i64 0)], (some 67), none⟩,
  ⟨(.prim .id), [.tmp 67], (some 68), none⟩,
  ⟨(.prim (.fieldAddr 5 (some 3))), [.tmp 1], (some 69), (some (68, true))⟩,
  ⟨(.prim (.load (some 3))), [.tmp 69], (some 70), (some (68, true))⟩,
  ⟨(.call 35), [.tmp 70], (some 71), (some (68, true))⟩,
  ⟨(.prim (.un .not)), [.tmp 71], (some 72), (some (68, true))⟩,
  ⟨(.prim .pick), [.tmp 68, .tmp 72, .const (.bool false)], (some 73), none⟩] none)
 (.cond (.tmp 73)
  (.seq (.region [⟨(.prim .id), [.const (.bool false)], (some 2), none⟩] none)
  .ret)
  .skip))
 (.seq (.region [⟨(.prim (.fieldAddr 0 none)), [.tmp 1], (some 74), none⟩,
  ⟨(.prim (.load none)), [.tmp 74], (some 75), none⟩,
  ⟨(.prim (.fieldAddr 1 none)), [.tmp 1], (some 76), none⟩,
  ⟨(.prim (.load none)), [.tmp 76], (some 77), none⟩,
  ⟨(.prim (.fieldAddr 2 none)), [.tmp 1], (some 78), none⟩,
  ⟨(.prim (.load none)), [.tmp 78], (some 79), none⟩,
  ⟨(.prim (.fieldAddr 3 none)), [.tmp 1], (some 80), none⟩,
  ⟨(.prim (.load none)), [.tmp 80], (some 81), none⟩,
  ⟨(.prim (.fieldAddr 4 none)), [.tmp 1], (some 82), none⟩,
  ⟨(.prim (.load none)), [.tmp 82], (some 83), none⟩,
  ⟨(.prim (.build [(.int .i8 0), (.int .i64 0), (.int .i64 0), (.int .i64 0), (.int .i64 0), (.int .i64 0), (.int .i64 0), (.int .i64 0), (.int .i64 0), (.int .i8 0), (.int .i64 0), (.int .u8 0), (.int .u8 0), (.int .u8 0), (.int .u8 0), (.int .u8 0), (.int .u8 0), (.int .u8 0), (.int .u8 0), (.int .i64 0), (.bool false), (.int .i64 0), (.int .i64 0), (.sl .clip [])] [(0, 1), (1, 1), (2, 1), (3, 1), (4, 1)])), [.tmp 75, .tmp 77, .tmp 79, .tmp 81, .tmp 83], (some 84), none⟩,
  ⟨(.prim (.alloc [(.int .i8 0), (.int .i64 0), (.int .i64 0), (.int .i64 0), (.int .i64 0), (.int .i64 0), (.int .i64 0), (.int .i64 0), (.int .i64 0), (.int .i8 0), (.int .i64 0), (.int .u8 0), (.int .u8 0), (.int .u8 0), (.int .u8 0), (.int .u8 0), (.int .u8 0), (.int .u8 0), (.int .u8 0), (.int .i64 0), (.bool false), (.int .i64 0), (.int .i64 0), (.sl .clip [])])), [], (some 5), none⟩,
  ⟨(.prim (.store (some 24))), [.tmp 5, .tmp 84], none, none⟩] none)
 (.seq (.region [⟨(.call 36), [.tmp 3, .tmp 1], (some 85), none⟩,
  ⟨(.prim (.build [(.sl .clip []), (.bool false)] [(0, 1)])), [.tmp 85], (some 86), none⟩,
  ⟨(.prim (.alloc [(.sl .clip []), (.bool false)])), [], (some 6), none⟩,
  ⟨(.prim (.store (some 2))), [.tmp 6, .tmp 86], none, none⟩] none)
 (.seq (.seq (.region [⟨(.prim (.fieldAddr 1 none)), [.tmp 3], (some 87), none⟩,
  ⟨(.prim (.load none)), [.tmp 87], (some 88), none⟩,
  ⟨(.prim .len), [.tmp 88], (some 89), none⟩,
  ⟨(.prim .id), [.const (.int .i64 0)], (some 90), none⟩] none)
 (.block 0
  (.loop
   (.seq (.region [⟨(.prim (.bin .lss .none)), [.tmp 90, .tmp 89], (some 91), none⟩] none)
   (.seq (.cond (.tmp 91)
    .skip
    (.exit 0))
   (.seq (.block 1
    (.seq (.region [⟨(.prim (.idxSl (some 2))), [.tmp 88, .tmp 90], (some 92), none⟩,
     ⟨(.prim (.load (some 2))), [.tmp 92], (some 93), none⟩,
     ⟨(.prim (.alloc [.nilfn, .nilfn])), [], (some 8), none⟩,
     ⟨(.prim (.store (some 2))), [.tmp 8, .tmp 93], none, none⟩] none)
    (.region [⟨(.prim (.fieldAddr 1 none)), [.tmp 8], (some 94), none⟩,
     ⟨(.prim (.load none)), [.tmp 94], (some 95), none⟩,
     ⟨.callV, [.tmp 95, .tmp 6, .tmp 5], (some 96), none⟩] none)))
   (.region [⟨(.prim (.bin .add .none)), [.tmp 90, .const (.int .i64 1)], (some 97), none⟩,
    ⟨(.prim .id), [.tmp 97], (some 90), none⟩] none)))))))
 (.seq (.region [⟨(.prim (.load (some 24))), [.tmp 1], (some 98), none⟩,
  ⟨(.prim (.load (some 24))), [.tmp 5], (some 99), none⟩,
  ⟨(.call 22), [.tmp 98, .tmp 99], (some 100), none⟩,
  ⟨(.prim .id), [.tmp 100], (some 2), none⟩] none)
 .ret))))))))
theorem F15 : IsFun Try.prog 15 1 101 c15 [.tmp 2] := ⟨by decide, Try.f15, _, [], Try.func15, rfl, by decide, rfl, by kernel_rfl, by kernel_rfl⟩

/-- cashbox/cashboxlaw15.wakes -/
def c16 : ACode :=
 (.seq (.region [⟨(.prim .id), [.const (.bool false)], (some 0), none⟩] none)
 (.seq (.region [⟨(.prim (.build [(.int .i8 0), (.int .i64 0), (.int .i64 0), (.int .i64 0), (.int .i64 0), (.int .i64 0), (.int .i64 0), (.int .i64 0), (.int .i64 0), (.int .i8 0), (.int .i64 0), (.int .u8 0), (.int .u8 0), (.int .u8 0), (.int .u8 0), (.int .u8 0), (.int .u8 0), (.int .u8 0), (.int .u8 0), (.int .i64 0), (.bool false), (.int .i64 0), (.int .i64 0), (.sl .clip [])] [(0, 1), (2, 1), (3, 1)])), [.const (.int .i8 1), .const (.int .i64 1), .const (.int .i64 1)], (some 6), none⟩,
  ⟨(.call 21), [.tmp 6], (some 7), none⟩,
  ⟨(.prim .id), [.tmp 7], (some 5), none⟩,
  ⟨(.prim (.extract 0)), [.tmp 5], (some 8), none⟩,
  ⟨(.prim (.extract 1)), [.tmp 5], (some 9), none⟩,
  ⟨(.prim .id), [.tmp 8], (some 1), none⟩,
  ⟨(.prim .id), [.tmp 9], (some 2), none⟩] none)
 (.seq (.region [⟨(.prim (.build [(.int .i64 0), (.int .i64 0), (.int .i64 0)] [(0, 1), (1, 1), (2, 1)])), [.const (.int .i64 1), .const (.int .i64 1), .const (.int .i64 1)], (some 11), none⟩,
  ⟨(.prim (.build [(.int .i8 0), (.int .i64 0), (.int .i64 0), (.int .i64 0), (.int .i64 0), (.int .i64 0), (.int .i64 0), (.int .i64 0), (.int .i64 0), (.int .i8 0), (.int .i64 0), (.int .u8 0), (.int .u8 0), (.int .u8 0), (.int .u8 0), (.int .u8 0), (.int .u8 0), (.int .u8 0), (.int .u8 0), (.int .i64 0), (.bool false), (.int .i64 0), (.int .i64 0), (.sl .clip [])] [(0, 1), (1, 1), (3, 1), (5, 3)])), [.const (.int .i8 7), .const (.int .i64 1), .const (.int .i64 1), .tmp 11], (some 12), none⟩,
  ⟨(.call 21), [.tmp 12], (some 13), none⟩,
  ⟨(.prim .id), [.tmp 13], (some 10), none⟩,
  ⟨(.prim (.extract 0)), [.tmp 10], (some 14), none⟩,
  ⟨(.prim (.extract 1)), [.tmp 10], (some 15), none⟩,
  ⟨(.prim .id), [.tmp 14], (some 3), none⟩,
  ⟨(.prim .id), [.tmp 15], (some 4), none⟩] none)
 (.seq (.region [⟨(.prim .id), [.tmp 2], (some 16), none⟩,
  ⟨(.prim (.bin .eql .none)), [.tmp 16, .const (.int .i64 0)], (some 17), none⟩,
  ⟨(.prim .id), [.tmp 17], (some 18), none⟩,
  ⟨(.prim .id), [.tmp 4], (some 19), (some (18, true))⟩,
  ⟨(.prim (.bin .eql .none)), [.tmp 19, .const (.int .i64 0)], (some 20), (some (18, true))⟩,
  ⟨(.prim .pick), [.tmp 18, .tmp 20, .const (.bool false)], (some 21), none⟩,
  ⟨(.prim .id), [.tmp 21], (some 22), none⟩,
  ⟨(.prim .id), [.tmp 1], (some 23), (some (22, true))⟩,
  ⟨(.prim .len), [.tmp 23], (some 24), (some (22, true))⟩,
  ⟨(.prim (.bin .eql .none)), [.tmp 24, .const (.int .i64 13)], (some 25), (some (22, true))⟩,
  ⟨(.prim .pick), [.tmp 22, .tmp 25, .const (.bool false)], (some 26), none⟩,
  ⟨(.prim .id), [.tmp 26], (some 27), none⟩,
  ⟨(.prim .id), [.tmp 3], (some 28), (some (27, true))⟩,
  ⟨(.prim .len), [.tmp 28], (some 29), (some (27, true))⟩,
  ⟨(.prim (.bin .eql .none)), [.tmp 29, .const (.int .i64 22)], (some 30), (some (27, true))⟩,
  ⟨(.prim .pick), [.tmp 27, .tmp 30, .const (.bool false)], (some 31), none⟩,
  ⟨(.prim .id), [.tmp 31], (some 0), none⟩] none)
 .ret))))
theorem F16 : IsFun Try.prog 16 0 32 c16 [.tmp 0] := ⟨by decide, Try.f16, _, [], Try.func16, rfl, by decide, rfl, by kernel_rfl, by kernel_rfl⟩

/-- cashbox/wire.Reply -/
def c17 : ACode :=
 (.seq (.region [⟨(.prim (.boxR (some 24))), [.tmp 0], (some 2), none⟩,
  ⟨(.prim (.alloc [(.int .i8 0), (.int .i64 0), (.int .i64 0), (.int .i64 0), (.int .i64 0), (.int .i64 0), (.int .i64 0), (.int .i64 0), (.int .i64 0), (.int .i8 0), (.int .i64 0), (.int .u8 0), (.int .u8 0), (.int .u8 0), (.int .u8 0), (.int .u8 0), (.int .u8 0), (.int .u8 0), (.int .u8 0), (.int .i64 0), (.bool false), (.int .i64 0), (.int .i64 0), (.sl .clip [])])), [], (some 4), none⟩] none)
 (.seq (.region [⟨(.prim (.fieldAddr 2 none)), [.tmp 2], (some 5), none⟩,
  ⟨(.prim (.load none)), [.tmp 5], (some 6), none⟩,
  ⟨(.prim (.fieldAddr 1 none)), [.tmp 2], (some 7), none⟩,
  ⟨(.prim (.load none)), [.tmp 7], (some 8), none⟩,
  ⟨(.prim .id), [.tmp 1], (some 9), none⟩,
  ⟨(.prim (.fieldAddr 3 none)), [.tmp 2], (some 10), none⟩,
  ⟨(.prim (.load none)), [.tmp 10], (some 11), none⟩,
  ⟨(.prim (.build [(.int .i8 0), (.int .i64 0), (.int .i64 0), (.int .i64 0), (.int .i64 0), (.int .i64 0), (.int .i64 0), (.int .i64 0), (.int .i64 0), (.int .i8 0), (.int .i64 0), (.int .u8 0), (.int .u8 0), (.int .u8 0), (.int .u8 0), (.int .u8 0), (.int .u8 0), (.int .u8 0), (.int .u8 0), (.int .i64 0), (.bool false), (.int .i64 0), (.int .i64 0), (.sl .clip [])] [(1, 1), (2, 1), (3, 1), (4, 1)])), [.tmp 6, .tmp 8, .tmp 9, .tmp 11], (some 12), none⟩,
  ⟨(.prim (.store (some 24))), [.tmp 4, .tmp 12], none, none⟩] none)
 .ret))
theorem F17 : IsFun Try.prog 17 2 13 c17 [.cell 4 (some 24)] := ⟨by decide, Try.f17, _, [2], Try.func17, rfl, by decide, rfl, by kernel_rfl, by kernel_rfl⟩

-- loop: 2:m, 6:g, 58:, 59:, 60:
/-- cashbox/wire.Read -/
def c18 : ACode :=
 (.seq (.region [⟨(.prim (.alloc [(.int .i8 0), (.int .i64 0), (.int .i64 0), (.int .i64 0), (.int .i64 0), (.int .i64 0), (.int .i64 0), (.int .i64 0), (.int .i64 0), (.int .i8 0), (.int .i64 0), (.int .u8 0), (.int .u8 0), (.int .u8 0), (.int .u8 0), (.int .u8 0), (.int .u8 0), (.int .u8 0), (.int .u8 0), (.int .i64 0), (.bool false), (.int .i64 0), (.int .i64 0), (.sl .clip [])])), [], (some 2), none⟩,
  ⟨(.prim .id), [.const (.int .i64 0)], (some 3), none⟩] none)
 (.scope
  (.seq (.region [⟨(.prim .id), [.tmp 0], (some 12), none⟩,
   ⟨(.call 37), [.tmp 12], (some 13), none⟩,
   ⟨(.prim .id), [.tmp 13], (some 11), none⟩,
   ⟨(.prim (.extract 0)), [.tmp 11], (some 14), none⟩,
   ⟨(.prim (.extract 1)), [.tmp 11], (some 15), none⟩,
   ⟨(.prim .id), [.tmp 14], (some 4), none⟩,
   ⟨(.prim .id), [.tmp 15], (some 5), none⟩] none)
  (.seq (.seq (.region [⟨(.prim .id), [.tmp 5], (some 16), none⟩,
   ⟨(.prim (.un .not)), [.tmp 16], (some 17), none⟩,
   ⟨(.prim .id), [.tmp 17], (some 18), none⟩,
   ⟨(.prim .id), [.tmp 4], (some 19), (some (18, false))⟩,
   ⟨(.prim .len), [.tmp 19], (some 20), (some (18, false))⟩,
   ⟨(.prim (.bin .eql .none)), [.tmp 20, .const (.int .i64 0)], (some 21), (some (18, false))⟩,
   ⟨(.prim .pick), [.tmp 18, .const (.bool true), .tmp 21], (some 22), none⟩,
   ⟨(.prim .id), [.tmp 22], (some 23), none⟩,
   ⟨(.prim .id), [.tmp 4], (some 24), (some (23, false))⟩,
   ⟨(.prim (.idxSl none)), [.tmp 24, .const (.int .i64 0)], (some 25), (some (23, false))⟩,
   ⟨(.prim (.load none)), [.tmp 25], (some 26), (some (23, false))⟩,
   ⟨(.prim (.bin .gtr .none)), [.tmp 26, .const (.int .u8 127)], (some 27), (some (23, false))⟩,
   ⟨(.prim .pick), [.tmp 23, .const (.bool true), .tmp 27], (some 28), none⟩] none)
  (.cond (.tmp 28)
   (.seq (.region [⟨(.prim (.load (some 24))), [.tmp 2], (some 29), none⟩,
    ⟨(.prim (.store (some 24))), [.tmp 2, .tmp 29], none, none⟩,
    ⟨(.prim .id), [.const (.int .i64 40)], (some 3), none⟩] none)
   .ret)
   .skip))
  (.seq (.region [⟨(.prim .id), [.tmp 4], (some 30), none⟩,
   ⟨(.prim (.slcSl none true false false)), [.tmp 30, .const (.int .i64 1)], (some 31), none⟩,
   ⟨(.prim (.build [(.sl .clip []), (.bool false)] [(0, 1)])), [.tmp 31], (some 32), none⟩,
   ⟨(.prim (.box (some 2))), [.tmp 32], (some 33), none⟩,
   ⟨(.prim .id), [.tmp 33], (some 6), none⟩] none)
  (.seq (.region [⟨(.prim .id), [.tmp 4], (some 34), none⟩,
   ⟨(.prim (.idxSl none)), [.tmp 34, .const (.int .i64 0)], (some 35), none⟩,
   ⟨(.prim (.load none)), [.tmp 35], (some 36), none⟩,
   ⟨(.prim (.conv .i8)), [.tmp 36], (some 37), none⟩,
   ⟨(.prim .id), [.tmp 6], (some 38), none⟩,
   ⟨(.call 38), [.tmp 38, .const (.int .i64 1)], (some 39), none⟩,
   ⟨(.prim .id), [.tmp 6], (some 40), none⟩,
   ⟨(.call 38), [.tmp 40, .const (.int .i64 1)], (some 41), none⟩,
   ⟨(.prim (.fieldAddr 0 none)), [.tmp 2], (some 42), none⟩,
   ⟨(.prim (.store none)), [.tmp 42, .tmp 37], none, none⟩,
   ⟨(.prim (.fieldAddr 1 none)), [.tmp 2], (some 43), none⟩,
   ⟨(.prim (.store none)), [.tmp 43, .tmp 39], none, none⟩,
   ⟨(.prim (.fieldAddr 2 none)), [.tmp 2], (some 44), none⟩,
   ⟨(.prim (.store none)), [.tmp 44, .tmp 41], none, none⟩] (some [[], [0], [1], [2], [], [4], [], [6, 5], [0, 1, 2, 3, 5, 7], [8, 3, 7, 0, 1, 2, 3, 5, 7], [0, 1, 2, 3, 4, 5, 7, 8, 9], [10, 5, 9, 0, 1, 2, 3, 4, 5, 7, 8, 9], [0, 1, 2, 3, 4, 5, 6, 7, 8, 9, 10, 11], [12, 7, 11, 0, 1, 2, 3, 4, 5, 6, 7, 8, 9, 10, 11]]))
  (.seq (.region [⟨(.prim .id), [.tmp 6], (some 45), none⟩,
   ⟨(.call 38), [.tmp 45, .const (.int .i64 3)], (some 46), none⟩,
   ⟨(.prim .id), [.tmp 6], (some 47), none⟩,
   ⟨(.call 38), [.tmp 47, .const (.int .i64 3)], (some 48), none⟩,
   ⟨(.prim (.fieldAddr 3 none)), [.tmp 2], (some 49), none⟩,
   ⟨(.prim (.store none)), [.tmp 49, .tmp 46], none, none⟩,
   ⟨(.prim (.fieldAddr 4 none)), [.tmp 2], (some 50), none⟩,
   ⟨(.prim (.store none)), [.tmp 50, .tmp 48], none, none⟩] none)
  (.seq (.region [⟨(.prim (.fieldAddr 0 none)), [.tmp 2], (some 52), none⟩,
   ⟨(.prim (.load none)), [.tmp 52], (some 53), none⟩,
   ⟨(.call 33), [.tmp 53], (some 54), none⟩,
   ⟨(.prim .id), [.tmp 54], (some 51), none⟩,
   ⟨(.prim (.extract 0)), [.tmp 51], (some 55), none⟩,
   ⟨(.prim (.extract 1)), [.tmp 51], (some 56), none⟩,
   ⟨(.prim (.alloc [(.bool false), (.sl .clip []), .nilfn])), [], (some 7), none⟩,
   ⟨(.prim (.store (some 3))), [.tmp 7, .tmp 55], none, none⟩,
   ⟨(.prim .id), [.tmp 56], (some 8), none⟩] none)
  (.seq .skip
  (.seq (.seq (.region [⟨(.prim (.fieldAddr 1 none)), [.tmp 7], (some 57), none⟩,
   ⟨(.prim (.load none)), [.tmp 57], (some 58), none⟩,
   ⟨(.prim .len), [.tmp 58], (some 59), none⟩,
   ⟨(.prim .id), [.const (.int .i64 0)], (some 60), none⟩] none)
  (.block 0
   (.loop
    (.seq (.region [⟨(.prim (.bin .lss .none)), [.tmp 60, .tmp 59], (some 61), none⟩] none)
    (.seq (.cond (.tmp 61)
     .skip
     (.exit 0))
    (.seq (.block 1
     (.seq (.region [⟨(.prim (.idxSl (some 2))), [.tmp 58, .tmp 60], (some 62), none⟩,
      ⟨(.prim (.load (some 2))), [.tmp 62], (some 63), none⟩,
      ⟨(.prim (.alloc [.nilfn, .nilfn])), [], (some 10), none⟩,
      ⟨(.prim (.store (some 2))), [.tmp 10, .tmp 63], none, none⟩] none)
     (.seq (.seq (.region [⟨(.prim .id), [.tmp 6], (some 64), none⟩,
      ⟨(.prim .nilc), [.tmp 64], (some 65), none⟩,
      ⟨(.prim (.fieldAddr 1 none)), [.tmp 65], (some 66), none⟩,
      ⟨(.prim (.load none)), [.tmp 66], (some 67), none⟩] none)
     (.cond (.tmp 67)
      (.exit 0)
      .skip))
     (.region [⟨(.prim (.fieldAddr 1 none)), [.tmp 10], (some 68), none⟩,
      ⟨(.prim (.load none)), [.tmp 68], (some 69), none⟩,
      ⟨(.prim .id), [.tmp 6], (some 70), none⟩,
      ⟨.callV, [.tmp 69, .tmp 70, .tmp 2], (some 71), none⟩] none))))
    (.region [⟨(.prim (.bin .add .none)), [.tmp 60, .const (.int .i64 1)], (some 72), none⟩,
     ⟨(.prim .id), [.tmp 72], (some 60), none⟩] none)))))))
  (.seq (.seq (.region [⟨(.prim .id), [.tmp 6], (some 73), none⟩,
   ⟨(.prim .nilc), [.tmp 73], (some 74), none⟩,
   ⟨(.prim (.fieldAddr 1 none)), [.tmp 74], (some 75), none⟩,
   ⟨(.prim (.load none)), [.tmp 75], (some 76), none⟩,
   ⟨(.prim .id), [.tmp 76], (some 77), none⟩,
   ⟨(.prim .id), [.tmp 6], (some 78), (some (77, false))⟩,
   ⟨(.prim .nilc), [.tmp 78], (some 79), (some (77, false))⟩,
   ⟨(.prim (.fieldAddr 0 none)), [.tmp 79], (some 80), (some (77, false))⟩,
   ⟨(.prim (.load none)), [.tmp 80], (some 81), (some (77, false))⟩,
   ⟨(.prim .len), [.tmp 81], (some 82), (some (77, false))⟩,
   ⟨(.prim (.bin .gtr .none)), [.tmp 82, .const (.int .i64 0)], (some 83), (some (77, false))⟩,
   ⟨(.prim .pick), [.tmp 77, .const (.bool true), .tmp 83], (some 84), none⟩,
   ⟨(.prim .id), [.tmp 84], (some 85), none⟩,
   ⟨(.prim (.load (some 24))), [.tmp 2], (some 86), (some (85, false))⟩,
   ⟨(.call 15), [.tmp 86], (some 87), (some (85, false))⟩,
   ⟨(.prim (.un .not)), [.tmp 87], (some 88), (some (85, false))⟩,
   ⟨(.prim .pick), [.tmp 85, .const (.bool true), .tmp 88], (some 89), none⟩] none)
  (.cond (.tmp 89)
   (.seq (.region [⟨(.prim (.build [(.int .i8 0), (.int .i64 0), (.int .i64 0), (.int .i64 0), (.int .i64 0), (.int .i64 0), (.int .i64 0), (.int .i64 0), (.int .i64 0), (.int .i8 0), (.int .i64 0), (.int .u8 0), (.int .u8 0), (.int .u8 0), (.int .u8 0), (.int .u8 0), (.int .u8 0), (.int .u8 0), (.int .u8 0), (.int .i64 0), (.bool false), (.int .i64 0), (.int .i64 0), (.sl .clip [])] [])), [], (some 90), none⟩,
    ⟨(.prim (.store (some 24))), [.tmp 2, .tmp 90], none, none⟩,
    ⟨(.prim .id), [.const (.int .i64 40)], (some 3), none⟩] none)
   .ret)
   .skip))
  (.seq (.region [⟨(.prim (.load (some 24))), [.tmp 2], (some 91), none⟩,
   ⟨(.prim (.store (some 24))), [.tmp 2, .tmp 91], none, none⟩,
   ⟨(.prim .id), [.const (.int .i64 0)], (some 3), none⟩] none)
  .ret))))))))))))
theorem F18 : IsFun Try.prog 18 1 92 c18 [.cell 2 (some 24), .tmp 3] := ⟨by decide, Try.f18, _, [], Try.func18, rfl, by decide, rfl, by kernel_rfl, by kernel_rfl⟩

/-- cashbox/cashboxref15.Read -/
def c19 : ACode :=
 (.seq (.region [⟨(.prim (.alloc [(.int .i8 0), (.int .i64 0), (.int .i64 0), (.int .i64 0), (.int .i64 0), (.int .i64 0), (.int .i64 0), (.int .i64 0), (.int .i64 0), (.int .i8 0), (.int .i64 0), (.int .u8 0), (.int .u8 0), (.int .u8 0), (.int .u8 0), (.int .u8 0), (.int .u8 0), (.int .u8 0), (.int .u8 0), (.int .i64 0), (.bool false), (.int .i64 0), (.int .i64 0), (.sl .clip [])])), [], (some 2), none⟩,
  ⟨(.prim .id), [.const (.int .i64 0)], (some 3), none⟩] none)
 (.seq (.region [⟨(.prim .id), [.tmp 0], (some 12), none⟩,
  ⟨(.call 39), [.tmp 12], (some 13), none⟩,
  ⟨(.prim .id), [.tmp 13], (some 11), none⟩,
  ⟨(.prim (.extract 0)), [.tmp 11], (some 14), none⟩,
  ⟨(.prim (.extract 1)), [.tmp 11], (some 15), none⟩,
  ⟨(.prim .id), [.tmp 14], (some 4), none⟩,
  ⟨(.prim .id), [.tmp 15], (some 5), none⟩] none)
 (.seq (.seq (.region [⟨(.prim .id), [.tmp 5], (some 16), none⟩,
  ⟨(.prim (.un .not)), [.tmp 16], (some 17), none⟩,
  ⟨(.prim .id), [.tmp 17], (some 18), none⟩,
  ⟨(.prim .id), [.tmp 4], (some 19), (some (18, false))⟩,
  ⟨(.prim .len), [.tmp 19], (some 20), (some (18, false))⟩,
  ⟨(.prim (.bin .eql .none)), [.tmp 20, .const (.int .i64 0)], (some 21), (some (18, false))⟩,
  ⟨(.prim .pick), [.tmp 18, .const (.bool true), .tmp 21], (some 22), none⟩,
  ⟨(.prim .id), [.tmp 22], (some 23), none⟩,
  ⟨(.prim .id), [.tmp 4], (some 24), (some (23, false))⟩,
  ⟨(.prim (.idxSl none)), [.tmp 24, .const (.int .i64 0)], (some 25), (some (23, false))⟩,
  ⟨(.prim (.load none)), [.tmp 25], (some 26), (some (23, false))⟩,
  ⟨(.prim (.bin .gtr .none)), [.tmp 26, .const (.int .u8 127)], (some 27), (some (23, false))⟩,
  ⟨(.prim .pick), [.tmp 23, .const (.bool true), .tmp 27], (some 28), none⟩] none)
 (.cond (.tmp 28)
  (.seq (.region [⟨(.prim (.build [(.int .i8 0), (.int .i64 0), (.int .i64 0), (.int .i64 0), (.int .i64 0), (.int .i64 0), (.int .i64 0), (.int .i64 0), (.int .i64 0), (.int .i8 0), (.int .i64 0), (.int .u8 0), (.int .u8 0), (.int .u8 0), (.int .u8 0), (.int .u8 0), (.int .u8 0), (.int .u8 0), (.int .u8 0), (.int .i64 0), (.bool false), (.int .i64 0), (.int .i64 0), (.sl .clip [])] [])), [], (some 29), none⟩,
   ⟨(.prim (.store (some 24))), [.tmp 2, .tmp 29], none, none⟩,
   ⟨(.prim .id), [.const (.int .i64 40)], (some 3), none⟩] none)
  .ret)
  .skip))
 (.seq (.region [⟨(.prim .id), [.tmp 4], (some 30), none⟩,
  ⟨(.prim (.build [(.sl .clip []), (.int .i64 0), (.bool false)] [(0, 1)])), [.tmp 30], (some 31), none⟩,
  ⟨(.prim (.box (some 3))), [.tmp 31], (some 32), none⟩,
  ⟨(.prim .id), [.tmp 32], (some 6), none⟩] none)
 (.seq (.region [⟨(.prim (.alloc [(.int .i8 0), (.int .i64 0), (.int .i64 0), (.int .i64 0), (.int .i64 0), (.int .i64 0), (.int .i64 0), (.int .i64 0), (.int .i64 0), (.int .i8 0), (.int .i64 0), (.int .u8 0), (.int .u8 0), (.int .u8 0), (.int .u8 0), (.int .u8 0), (.int .u8 0), (.int .u8 0), (.int .u8 0), (.int .i64 0), (.bool false), (.int .i64 0), (.int .i64 0), (.sl .clip [])])), [], (some 7), none⟩] none)
 (.seq (.region [⟨(.prim .id), [.tmp 6], (some 33), none⟩,
  ⟨(.call 40), [.tmp 33], (some 34), none⟩,
  ⟨(.prim (.conv .i8)), [.tmp 34], (some 35), none⟩,
  ⟨(.prim (.fieldAddr 0 none)), [.tmp 7], (some 36), none⟩,
  ⟨(.prim (.store none)), [.tmp 36, .tmp 35], none, none⟩] none)
 (.seq (.region [⟨(.prim .id), [.tmp 6], (some 37), none⟩,
  ⟨(.call 40), [.tmp 37], (some 38), none⟩,
  ⟨(.prim (.fieldAddr 1 none)), [.tmp 7], (some 39), none⟩,
  ⟨(.prim (.store none)), [.tmp 39, .tmp 38], none, none⟩] none)
 (.seq (.region [⟨(.prim .id), [.tmp 6], (some 40), none⟩,
  ⟨(.call 40), [.tmp 40], (some 41), none⟩,
  ⟨(.prim (.fieldAddr 2 none)), [.tmp 7], (some 42), none⟩,
  ⟨(.prim (.store none)), [.tmp 42, .tmp 41], none, none⟩] none)
 (.seq (.region [⟨(.prim .id), [.tmp 6], (some 43), none⟩,
  ⟨(.call 41), [.tmp 43], (some 44), none⟩,
  ⟨(.prim (.fieldAddr 3 none)), [.tmp 7], (some 45), none⟩,
  ⟨(.prim (.store none)), [.tmp 45, .tmp 44], none, none⟩] none)
 (.seq (.region [⟨(.prim .id), [.tmp 6], (some 46), none⟩,
  ⟨(.call 41), [.tmp 46], (some 47), none⟩,
  ⟨(.prim (.fieldAddr 4 none)), [.tmp 7], (some 48), none⟩,
  ⟨(.prim (.store none)), [.tmp 48, .tmp 47], none, none⟩] none)
 (.seq (.seq (.region [⟨(.prim (.fieldAddr 0 none)), [.tmp 7], (some 49), none⟩,
  ⟨(.prim (.load none)), [.tmp 49], (some 50), none⟩,
  ⟨(.prim (.bin .neq .none)), [.tmp 50, .const (.int .i8 1)], (some 51), none⟩,
  ⟨(.prim .id), [.tmp 51], (some 52), none⟩,
  ⟨(.prim (.fieldAddr 0 none)), [.tmp 7], (some 53), (some (52, true))⟩,
  ⟨(.prim (.load none)), [.tmp 53], (some 54), (some (52, true))⟩,
  ⟨(.prim (.bin .neq .none)), [.tmp 54, .const (.int .i8 11)], (some 55), (some (52, true))⟩,
  ⟨(.prim .pick), [.tmp 52, .tmp 55, .const (.bool false)], (some 56), none⟩] none)
 (.cond (.tmp 56)
  (.region [⟨(.prim .id), [.tmp 6], (some 57), none⟩,
   ⟨(.call 42), [.tmp 57], (some 58), none⟩,
   ⟨(.prim (.fieldAddr 5 (some 3))), [.tmp 7], (some 59), none⟩,
   ⟨(.prim (.store (some 3))), [.tmp 59, .tmp 58], none, none⟩] none)
  .skip))
 (.seq (.seq (.region [⟨(.prim (.fieldAddr 0 none)), [.tmp 7], (some 60), none⟩,
  ⟨(.prim (.load none)), [.tmp 60], (some 61), none⟩] none)
 (.block 0
  (.seq (.region [⟨(.prim (.bin .eql .none)), [.tmp 61, .const (.int .i8 2)], (some 63), none⟩,
   ⟨(.prim .id), [.tmp 63], (some 62), none⟩] none)
  (.cond (.tmp 62)
   (.seq (.region [⟨(.prim .id), [.tmp 6], (some 64), none⟩,
    ⟨(.call 41), [.tmp 64], (some 65), none⟩,
    ⟨(.prim (.fieldAddr 8 none)), [.tmp 7], (some 66), none⟩,
    ⟨(.prim (.store none)), [.tmp 66, .tmp 65], none, none⟩] none)
   (.seq (.region [⟨(.prim .id), [.tmp 6], (some 67), none⟩,
    ⟨(.call 40), [.tmp 67], (some 68), none⟩,
    ⟨(.prim .id), [.tmp 68], (some 8), none⟩] none)
   (.seq (.region [⟨(.prim .id), [.tmp 6], (some 69), none⟩,
    ⟨(.prim .id), [.tmp 6], (some 70), none⟩,
    ⟨(.prim .nilc), [.tmp 70], (some 71), none⟩,
    ⟨(.prim (.fieldAddr 2 none)), [.tmp 71], (some 72), none⟩,
    ⟨(.prim (.load none)), [.tmp 72], (some 73), none⟩,
    ⟨(.prim .id), [.tmp 73], (some 74), none⟩,
    ⟨(.prim .id), [.tmp 8], (some 75), (some (74, false))⟩,
    ⟨(.prim (.bin .gtr .none)), [.tmp 75, .const (.int .i64 127)], (some 76), (some (74, false))⟩,
    ⟨(.prim .pick), [.tmp 74, .const (.bool true), .tmp 76], (some 77), none⟩,
    ⟨(.prim .nilc), [.tmp 69], (some 78), none⟩,
    ⟨(.prim (.fieldAddr 2 none)), [.tmp 78], (some 79), none⟩,
    ⟨(.prim (.store none)), [.tmp 79, .tmp 77], none, none⟩] none)
   (.seq (.region [⟨(.prim .id), [.tmp 8], (some 80), none⟩,
    ⟨(.prim (.bin .and .none)), [.tmp 80, .const (.int .i64 127)], (some 81), none⟩,
    ⟨(.prim (.conv .i8)), [.tmp 81], (some 82), none⟩,
    ⟨(.prim (.fieldAddr 9 none)), [.tmp 7], (some 83), none⟩,
    ⟨(.prim (.store none)), [.tmp 83, .tmp 82], none, none⟩] none)
   (.seq (.region [⟨(.prim .id), [.tmp 6], (some 84), none⟩,
    ⟨(.call 40), [.tmp 84], (some 85), none⟩,
    ⟨(.prim (.fieldAddr 10 none)), [.tmp 7], (some 86), none⟩,
    ⟨(.prim (.store none)), [.tmp 86, .tmp 85], none, none⟩] none)
   (.region [⟨(.prim .id), [.tmp 6], (some 87), none⟩,
    ⟨(.call 43), [.tmp 87], (some 88), none⟩,
    ⟨(.prim (.fieldAddr 11 (some 8))), [.tmp 7], (some 89), none⟩,
    ⟨(.prim (.store (some 8))), [.tmp 89, .tmp 88], none, none⟩] none))))))
   (.seq (.region [⟨(.prim (.bin .eql .none)), [.tmp 61, .const (.int .i8 3)], (some 91), none⟩,
    ⟨(.prim .id), [.tmp 91], (some 90), none⟩] none)
   (.cond (.tmp 90)
    (.seq (.region [⟨(.prim .id), [.tmp 6], (some 92), none⟩,
     ⟨(.call 41), [.tmp 92], (some 93), none⟩,
     ⟨(.prim (.fieldAddr 8 none)), [.tmp 7], (some 94), none⟩,
     ⟨(.prim (.store none)), [.tmp 94, .tmp 93], none, none⟩] none)
    (.seq (.region [⟨(.prim .id), [.tmp 6], (some 95), none⟩,
     ⟨(.call 43), [.tmp 95], (some 96), none⟩,
     ⟨(.prim (.fieldAddr 11 (some 8))), [.tmp 7], (some 97), none⟩,
     ⟨(.prim (.store (some 8))), [.tmp 97, .tmp 96], none, none⟩] none)
    (.seq (.region [⟨(.prim .id), [.tmp 6], (some 98), none⟩,
     ⟨(.call 40), [.tmp 98], (some 99), none⟩,
     ⟨(.prim .id), [.tmp 99], (some 9), none⟩] none)
    (.region [⟨(.prim .id), [.tmp 9], (some 100), none⟩,
     ⟨(.prim .id), [.tmp 6], (some 101), none⟩,
     ⟨(.call 40), [.tmp 101], (some 102), none⟩,
     ⟨(.prim (.bin .shl .none)), [.tmp 102, .const (.int .u64 8)], (some 103), none⟩,
     ⟨(.prim (.bin .add .none)), [.tmp 100, .tmp 103], (some 104), none⟩,
     ⟨(.prim (.fieldAddr 19 none)), [.tmp 7], (some 105), none⟩,
     ⟨(.prim (.store none)), [.tmp 105, .tmp 104], none, none⟩] none))))
    (.seq (.region [⟨(.prim (.bin .eql .none)), [.tmp 61, .const (.int .i8 4)], (some 107), none⟩,
     ⟨(.prim .id), [.tmp 107], (some 106), none⟩] none)
    (.cond (.tmp 106)
     (.seq (.region [⟨(.prim .id), [.tmp 6], (some 108), none⟩,
      ⟨(.call 40), [.tmp 108], (some 109), none⟩,
      ⟨(.prim (.fieldAddr 21 none)), [.tmp 7], (some 110), none⟩,
      ⟨(.prim (.store none)), [.tmp 110, .tmp 109], none, none⟩] none)
     (.seq (.region [⟨(.prim .id), [.tmp 6], (some 111), none⟩,
      ⟨(.call 40), [.tmp 111], (some 112), none⟩,
      ⟨(.prim (.fieldAddr 22 none)), [.tmp 7], (some 113), none⟩,
      ⟨(.prim (.store none)), [.tmp 113, .tmp 112], none, none⟩] none)
     (.region [⟨(.prim .id), [.tmp 6], (some 114), none⟩,
      ⟨(.call 44), [.tmp 114], (some 115), none⟩,
      ⟨(.prim (.fieldAddr 23 none)), [.tmp 7], (some 116), none⟩,
      ⟨(.prim (.store none)), [.tmp 116, .tmp 115], none, none⟩] none)))
     (.seq (.seq (.region [⟨(.prim (.bin .eql .none)), [.tmp 61, .const (.int .i8 5)], (some 118), none⟩,
      ⟨(.prim .id), [.tmp 118], (some 117), none⟩] none)
     (.cond (.tmp 117)
      .skip
      (.region [⟨(.prim (.bin .eql .none)), [.tmp 61, .const (.int .i8 6)], (some 119), none⟩,
       ⟨(.prim .id), [.tmp 119], (some 117), none⟩] none)))
     (.cond (.tmp 117)
      (.region [⟨(.prim .id), [.tmp 6], (some 120), none⟩,
       ⟨(.call 45), [.tmp 120], (some 121), none⟩,
       ⟨(.prim (.fieldAddr 20 none)), [.tmp 7], (some 122), none⟩,
       ⟨(.prim (.store none)), [.tmp 122, .tmp 121], none, none⟩] none)
      (.seq (.region [⟨(.prim (.bin .eql .none)), [.tmp 61, .const (.int .i8 10)], (some 124), none⟩,
       ⟨(.prim .id), [.tmp 124], (some 123), none⟩] none)
      (.cond (.tmp 123)
       (.seq (.region [⟨(.prim .id), [.tmp 6], (some 125), none⟩,
        ⟨(.call 40), [.tmp 125], (some 126), none⟩,
        ⟨(.prim .id), [.tmp 126], (some 10), none⟩] none)
       (.region [⟨(.prim .id), [.tmp 10], (some 127), none⟩,
        ⟨(.prim .id), [.tmp 6], (some 128), none⟩,
        ⟨(.call 40), [.tmp 128], (some 129), none⟩,
        ⟨(.prim (.bin .shl .none)), [.tmp 129, .const (.int .u64 8)], (some 130), none⟩,
        ⟨(.prim (.bin .add .none)), [.tmp 127, .tmp 130], (some 131), none⟩,
        ⟨(.prim (.fieldAddr 19 none)), [.tmp 7], (some 132), none⟩,
        ⟨(.prim (.store none)), [.tmp 132, .tmp 131], none, none⟩] none))
       .skip))))))))))))
 (.seq (.seq (.region [⟨(.prim .id), [.tmp 6], (some 133), none⟩,
  ⟨(.prim .nilc), [.tmp 133], (some 134), none⟩,
  ⟨(.prim (.fieldAddr 2 none)), [.tmp 134], (some 135), none⟩,
  ⟨(.prim (.load none)), [.tmp 135], (some 136), none⟩,
  ⟨(.prim .id), [.tmp 136], (some 137), none⟩,
  ⟨(.prim .id), [.tmp 6], (some 138), (some (137, false))⟩,
  ⟨(.prim .nilc), [.tmp 138], (some 139), (some (137, false))⟩,
  ⟨(.prim (.fieldAddr 1 none)), [.tmp 139], (some 140), (some (137, false))⟩,
  ⟨(.prim (.load none)), [.tmp 140], (some 141), (some (137, false))⟩,
  ⟨(.prim .id), [.tmp 4], (some 142), (some (137, false))⟩,
  ⟨(.prim .len), [.tmp 142], (some 143), (some (137, false))⟩,
  ⟨(.prim (.bin .neq .none)), [.tmp 141, .tmp 143], (some 144), (some (137, false))⟩,
  ⟨(.prim .pick), [.tmp 137, .const (.bool true), .tmp 144], (some 145), none⟩,
  ⟨(.prim .id), [.tmp 145], (some 146), none⟩,
  ⟨(.prim (.load (some 24))), [.tmp 7], (some 147), (some (146, false))⟩,
  ⟨(.call 13), [.tmp 147], (some 148), (some (146, false))⟩,
  ⟨(.prim (.un .not)), [.tmp 148], (some 149), (some (146, false))⟩,
  ⟨(.prim .pick), [.tmp 146, .const (.bool true), .tmp 149], (some 150), none⟩] none)
 (.cond (.tmp 150)
  (.seq (.region [⟨(.prim (.build [(.int .i8 0), (.int .i64 0), (.int .i64 0), (.int .i64 0), (.int .i64 0), (.int .i64 0), (.int .i64 0), (.int .i64 0), (.int .i64 0), (.int .i8 0), (.int .i64 0), (.int .u8 0), (.int .u8 0), (.int .u8 0), (.int .u8 0), (.int .u8 0), (.int .u8 0), (.int .u8 0), (.int .u8 0), (.int .i64 0), (.bool false), (.int .i64 0), (.int .i64 0), (.sl .clip [])] [])), [], (some 151), none⟩,
   ⟨(.prim (.store (some 24))), [.tmp 2, .tmp 151], none, none⟩,
   ⟨(.prim .id), [.const (.int .i64 40)], (some 3), none⟩] none)
  .ret)
  .skip))
 (.seq (.region [⟨(.prim (.load (some 24))), [.tmp 7], (some 152), none⟩,
  ⟨(.prim (.store (some 24))), [.tmp 2, .tmp 152], none, none⟩,
  ⟨(.prim .id), [.const (.int .i64 0)], (some 3), none⟩] none)
 .ret))))))))))))))
theorem F19 : IsFun Try.prog 19 1 153 c19 [.cell 2 (some 24), .tmp 3] := ⟨by decide, Try.f19, _, [], Try.func19, rfl, by decide, rfl, by kernel_rfl, by kernel_rfl⟩

/-- cashbox/cashboxref15.Same -/
def c20 : ACode :=
 (.seq (.region [⟨(.prim (.boxR (some 24))), [.tmp 0], (some 2), none⟩,
  ⟨(.prim (.boxR (some 24))), [.tmp 1], (some 3), none⟩,
  ⟨(.prim .id), [.const (.bool false)], (some 4), none⟩] none)
 (.seq (.region [⟨(.prim (.fieldAddr 0 none)), [.tmp 2], (some 5), none⟩,
  ⟨(.prim (.load none)), [.tmp 5], (some 6), none⟩,
  ⟨(.prim (.fieldAddr 0 none)), [.tmp 3], (some 7), none⟩,
  ⟨(.prim (.load none)), [.tmp 7], (some 8), none⟩,
  ⟨(.prim (.bin .eql .none)), [.tmp 6, .tmp 8], (some 9), none⟩,
  ⟨(.prim .id), [.tmp 9], (some 10), none⟩,
  ⟨(.prim (.fieldAddr 1 none)), [.tmp 2], (some 11), (some (10, true))⟩,
  ⟨(.prim (.load none)), [.tmp 11], (some 12), (some (10, true))⟩,
  ⟨(.prim (.fieldAddr 1 none)), [.tmp 3], (some 13), (some (10, true))⟩,
  ⟨(.prim (.load none)), [.tmp 13], (some 14), (some (10, true))⟩,
  ⟨(.prim (.bin .eql .none)), [.tmp 12, .tmp 14], (some 15), (some (10, true))⟩,
  ⟨(.prim .pick), [.tmp 10, .tmp 15, .const (.bool false)], (some 16), none⟩,
  ⟨(.prim .id), [.tmp 16], (some 17), none⟩,
  ⟨(.prim (.fieldAddr 2 none)), [.tmp 2], (some 18), (some (17, true))⟩,
  ⟨(.prim (.load none)), [.tmp 18], (some 19), (some (17, true))⟩,
  ⟨(.prim (.fieldAddr 2 none)), [.tmp 3], (some 20), (some (17, true))⟩,
  ⟨(.prim (.load none)), [.tmp 20], (some 21), (some (17, true))⟩,
  ⟨(.prim (.bin .eql .none)), [.tmp 19, .tmp 21], (some 22), (some (17, true))⟩,
  ⟨(.prim .pick), [.tmp 17, .tmp 22, .const (.bool false)], (some 23), none⟩,
  ⟨(.prim .id), [.tmp 23], (some 24), none⟩,
  ⟨(.prim (.fieldAddr 3 none)), [.tmp 2], (some 25), (some (24, true))⟩,
  ⟨(.prim (.load none)), [.tmp 25], (some 26), (some (24, true))⟩,
  ⟨(.prim (.fieldAddr 3 none)), [.tmp 3], (some 27), (some (24, true))⟩,
  ⟨(.prim (.load none)), [.tmp 27], (some 28), (some (24, true))⟩,
  ⟨(.prim (.bin .eql .none)), [.tmp 26, .tmp 28], (some 29), (some (24, true))⟩,
  ⟨(.prim .pick), [.tmp 24, .tmp 29, .const (.bool false)], (some 30), none⟩,
  ⟨(.prim .id), [.tmp 30], (some 31), none⟩,
  ⟨(.prim (.fieldAddr 4 none)), [.tmp 2], (some 32), (some (31, true))⟩,
  ⟨(.prim (.load none)), [.tmp 32], (some 33), (some (31, true))⟩,
  ⟨(.prim (.fieldAddr 4 none)), [.tmp 3], (some 34), (some (31, true))⟩,
  ⟨(.prim (.load none)), [.tmp 34], (some 35), (some (31, true))⟩,
  ⟨(.prim (.bin .eql .none)), [.tmp 33, .tmp 35], (some 36), (some (31, true))⟩,
  ⟨(.prim .pick), [.tmp 31, .tmp 36, .const (.bool false)], (some 37), none⟩,
  ⟨(.prim .id), [.tmp 37], (some 38), none⟩,
  ⟨(.prim (.fieldAddr 5 (some 3))), [.tmp 2], (some 39), (some (38, true))⟩,
  ⟨(.prim (.load (some 3))), [.tmp 39], (some 40), (some (38, true))⟩,
  ⟨(.prim (.fieldAddr 5 (some 3))), [.tmp 3], (some 41), (some (38, true))⟩,
  ⟨(.prim (.load (some 3))), [.tmp 41], (some 42), (some (38, true))⟩,
  ⟨(.prim (.bin .eql (.flat [0, 0, 0]))), [.tmp 40, .tmp 42], (some 43), (some (38, true))⟩,
  ⟨(.prim .pick), [.tmp 38, .tmp 43, .const (.bool false)], (some 44), none⟩,
  ⟨(.prim .id), [.tmp 44], (some 45), none⟩,
  ⟨(.prim (.fieldAddr 8 none)), [.tmp 2], (some 46), (some (45, true))⟩,
  ⟨(.prim (.load none)), [.tmp 46], (some 47), (some (45, true))⟩,
  ⟨(.prim (.fieldAddr 8 none)), [.tmp 3], (some 48), (some (45, true))⟩,
  ⟨(.prim (.load none)), [.tmp 48], (some 49), (some (45, true))⟩,
  ⟨(.prim (.bin .eql .none)), [.tmp 47, .tmp 49], (some 50), (some (45, true))⟩,
  ⟨(.prim .pick), [.tmp 45, .tmp 50, .const (.bool false)], (some 51), none⟩,
  ⟨(.prim .id), [.tmp 51], (some 52), none⟩,
  ⟨(.prim (.fieldAddr 9 none)), [.tmp 2], (some 53), (some (52, true))⟩,
  ⟨(.prim (.load none)), [.tmp 53], (some 54), (some (52, true))⟩,
  ⟨(.prim (.fieldAddr 9 none)), [.tmp 3], (some 55), (some (52, true))⟩,
  ⟨(.prim (.load none)), [.tmp 55], (some 56), (some (52, true))⟩,
  ⟨(.prim (.bin .eql .none)), [.tmp 54, .tmp 56], (some 57), (some (52, true))⟩,
  ⟨(.prim .pick), [.tmp 52, .tmp 57, .const (.bool false)], (some 58), none⟩,
  ⟨(.prim .id), [.tmp 58], (some 59), none⟩,
  ⟨(.prim (.fieldAddr 10 none)), [.tmp 2], (some 60), (some (59, true))⟩,
  ⟨(.prim (.load none)), [.tmp 60], (some 61), (some (59, true))⟩,
  ⟨(.prim (.fieldAddr 10 none)), [.tmp 3], (some 62), (some (59, true))⟩,
  ⟨(.prim (.load none)), [.tmp 62], (some 63), (some (59, true))⟩,
  ⟨(.prim (.bin .eql .none)), [.tmp 61, .tmp 63], (some 64), (some (59, true))⟩,
  ⟨(.prim .pick), [.tmp 59, .tmp 64, .const (.bool false)], (some 65), none⟩,
  ⟨(.prim .id), [.tmp 65], (some 66), none⟩,
  ⟨(.prim (.fieldAddr 11 (some 8))), [.tmp 2], (some 67), (some (66, true))⟩,
  ⟨(.prim (.load (some 8))), [.tmp 67], (some 68), (some (66, true))⟩,
  ⟨(.prim (.fieldAddr 11 (some 8))), [.tmp 3], (some 69), (some (66, true))⟩,
  ⟨(.prim (.load (some 8))), [.tmp 69], (some 70), (some (66, true))⟩,
  ⟨(.prim (.bin .eql (.flat [0, 0, 0, 0, 0, 0, 0, 0]))), [.tmp 68, .tmp 70], (some 71), (some (66, true))⟩,
  ⟨(.prim .pick), [.tmp 66, .tmp 71, .const (.bool false)], (some 72), none⟩,
  ⟨(.prim .id), [.tmp 72], (some 73), none⟩,
  ⟨(.prim (.fieldAddr 19 none)), [.tmp 2], (some 74), (some (73, true))⟩,
  ⟨(.prim (.load none)), [.tmp 74], (some 75), (some (73, true))⟩,
  ⟨(.prim (.fieldAddr 19 none)), [.tmp 3], (some 76), (some (73, true))⟩,
  ⟨(.prim (.load none)), [.tmp 76], (some 77), (some (73, true))⟩,
  ⟨(.prim (.bin .eql .none)), [.tmp 75, .tmp 77], (some 78), (some (73, true))⟩,
  ⟨(.prim .pick), [.tmp 73, .tmp 78, .const (.bool false)], (some 79), none⟩,
  ⟨(.prim .id), [.tmp 79], (some 80), none⟩,
  ⟨(.prim (.fieldAddr 20 none)), [.tmp 2], (some 81), (some (80, true))⟩,
  ⟨(.prim (.load none)), [.tmp 81], (some 82), (some (80, true))⟩,
  ⟨(.prim (.fieldAddr 20 none)), [.tmp 3], (some 83), (some (80, true))⟩,
  ⟨(.prim (.load none)), [.tmp 83], (some 84), (some (80, true))⟩,
  ⟨(.prim (.bin .eql .bool)), [.tmp 82, .tmp 84], (some 85), (some (80, true))⟩,
  ⟨(.prim .pick), [.tmp 80, .tmp 85, .const (.bool false)], (some 86), none⟩,
  ⟨(.prim .id), [.tmp 86], (some 87), none⟩,
  ⟨(.prim (.fieldAddr 21 none)), [.tmp 2], (some 88), (some (87, true))⟩,
  ⟨(.prim (.load none)), [.tmp 88], (some 89), (some (87, true))⟩,
  ⟨(.prim (.fieldAddr 21 none)), [.tmp 3], (some 90), (some (87, true))⟩,
  ⟨(.prim (.load none)), [.tmp 90], (some 91), (some (87, true))⟩,
  ⟨(.prim (.bin .eql .none)), [.tmp 89, .tmp 91], (some 92), (some (87, true))⟩,
  ⟨(.prim .pick), [.tmp 87, .tmp 92, .const (.bool false)], (some 93), none⟩,
  ⟨(.prim .id), [.tmp 93], (some 94), none⟩,
  ⟨(.prim (.fieldAddr 22 none)), [.tmp 2], (some 95), (some (94, true))⟩,
  ⟨(.prim (.load none)), [.tmp 95], (some 96), (some (94, true))⟩,
  ⟨(.prim (.fieldAddr 22 none)), [.tmp 3], (some 97), (some (94, true))⟩,
  ⟨(.prim (.load none)), [.tmp 97], (some 98), (some (94, true))⟩,
  ⟨(.prim (.bin .eql .none)), [.tmp 96, .tmp 98], (some 99), (some (94, true))⟩,
  ⟨(.prim .pick), [.tmp 94, .tmp 99, .const (.bool false)], (some 100), none⟩,
  ⟨(.prim .id), [.tmp 100], (some 101), none⟩,
  ⟨(.prim (.fieldAddr 23 none)), [.tmp 2], (some 102), (some (101, true))⟩,
  ⟨(.prim (.load none)), [.tmp 102], (some 103), (some (101, true))⟩,
  ⟨(.prim (.fieldAddr 23 none)), [.tmp 3], (some 104), (some (101, true))⟩,
  ⟨(.prim (.load none)), [.tmp 104], (some 105), (some (101, true))⟩,
  ⟨(.call 46), [.tmp 103, .tmp 105], (some 106), (some (101, true))⟩,
  ⟨(.prim .pick), [.tmp 101, .tmp 106, .const (.bool false)], (some 107), none⟩,
  ⟨(.prim .id), [.tmp 107], (some 4), none⟩] none)
 .ret))
theorem F20 : IsFun Try.prog 20 2 108 c20 [.tmp 4] := ⟨by decide, Try.f20, _, [2, 3], Try.func20, rfl, by decide, rfl, by kernel_rfl, by kernel_rfl⟩

/-- cashbox/wire.Bytes -/
def c21 : ACode :=
 (.seq (.region [⟨(.prim (.box (some 24))), [.tmp 0], (some 1), none⟩,
  ⟨(.prim .id), [.const (.sl .clip [])], (some 2), none⟩,
  ⟨(.prim .id), [.const (.int .i64 0)], (some 3), none⟩] none)
 (.seq (.seq (.region [⟨(.prim (.load (some 24))), [.tmp 1], (some 7), none⟩,
  ⟨(.call 15), [.tmp 7], (some 8), none⟩,
  ⟨(.prim (.un .not)), [.tmp 8], (some 9), none⟩] none)
 (.cond (.tmp 9)
  (.seq (.region [⟨(.prim .id), [.const (.sl .clip [])], (some 2), none⟩,
   ⟨(.prim .id), [.const (.int .i64 2)], (some 3), none⟩] none)
  .ret)
  .skip))
 (.seq (.region [⟨(.prim (.fieldAddr 0 none)), [.tmp 1], (some 11), none⟩,
  ⟨(.prim (.load none)), [.tmp 11], (some 12), none⟩,
  ⟨(.call 33), [.tmp 12], (some 13), none⟩,
  ⟨(.prim .id), [.tmp 13], (some 10), none⟩,
  ⟨(.prim (.extract 0)), [.tmp 10], (some 14), none⟩,
  ⟨(.prim (.extract 1)), [.tmp 10], (some 15), none⟩,
  ⟨(.prim (.alloc [(.bool false), (.sl .clip []), .nilfn])), [], (some 4), none⟩,
  ⟨(.prim (.store (some 3))), [.tmp 4, .tmp 14], none, none⟩,
  ⟨(.prim .id), [.tmp 15], (some 5), none⟩] none)
 (.seq (.region [⟨(.prim (.fieldAddr 0 none)), [.tmp 1], (some 16), none⟩,
  ⟨(.prim (.load none)), [.tmp 16], (some 17), none⟩,
  ⟨(.prim (.conv .u8)), [.tmp 17], (some 18), none⟩,
  ⟨(.prim (.fieldAddr 1 none)), [.tmp 1], (some 19), none⟩,
  ⟨(.prim (.load none)), [.tmp 19], (some 20), none⟩,
  ⟨(.prim (.conv .u8)), [.tmp 20], (some 21), none⟩,
  ⟨(.prim (.fieldAddr 2 none)), [.tmp 1], (some 22), none⟩,
  ⟨(.prim (.load none)), [.tmp 22], (some 23), none⟩,
  ⟨(.prim (.conv .u8)), [.tmp 23], (some 24), none⟩,
  ⟨(.prim (.buildSl none)), [.tmp 18, .tmp 21, .tmp 24], (some 25), none⟩,
  ⟨(.prim (.alloc [(.sl .clip [])])), [], (some 6), none⟩,
  ⟨(.prim (.store none)), [.tmp 6, .tmp 25], none, none⟩] none)
 (.seq (.region [⟨(.prim (.fieldAddr 3 none)), [.tmp 1], (some 26), none⟩,
  ⟨(.prim (.load none)), [.tmp 26], (some 27), none⟩,
  ⟨(.call 47), [.tmp 6, .tmp 27, .const (.int .i64 3)], (some 28), none⟩] none)
 (.seq (.region [⟨(.prim (.fieldAddr 4 none)), [.tmp 1], (some 29), none⟩,
  ⟨(.prim (.load none)), [.tmp 29], (some 30), none⟩,
  ⟨(.call 47), [.tmp 6, .tmp 30, .const (.int .i64 3)], (some 31), none⟩] none)
 (.seq (.region [⟨(.prim (.load none)), [.tmp 6], (some 32), none⟩,
  ⟨(.call 36), [.tmp 4, .tmp 1], (some 33), none⟩,
  ⟨(.prim (.append none)), [.tmp 32, .tmp 33], (some 34), none⟩,
  ⟨(.call 48), [.tmp 34], (some 35), none⟩,
  ⟨(.prim .id), [.tmp 35], (some 2), none⟩,
  ⟨(.prim .id), [.const (.int .i64 0)], (some 3), none⟩] (some [[], [], [0, 1, 1], [2, 2], [3, 3, 0, 1, 2, 3], [4, 0, 1, 2, 3, 4]]))
 .ret)))))))
theorem F21 : IsFun Try.prog 21 1 36 c21 [.tmp 2, .tmp 3] := ⟨by decide, Try.f21, _, [], Try.func21, rfl, by decide, rfl, by kernel_rfl, by kernel_rfl⟩

/-- cashbox/wire.Same -/
def c22 : ACode :=
 (.seq (.region [⟨(.prim (.boxR (some 24))), [.tmp 0], (some 2), none⟩,
  ⟨(.prim (.boxR (some 24))), [.tmp 1], (some 3), none⟩,
  ⟨(.prim .id), [.const (.bool false)], (some 4), none⟩] none)
 (.seq (.seq (.region [⟨(.prim (.fieldAddr 23 none)), [.tmp 2], (some 5), none⟩,
  ⟨(.prim (.load none)), [.tmp 5], (some 6), none⟩,
  ⟨(.prim (.fieldAddr 23 none)), [.tmp 3], (some 7), none⟩,
  ⟨(.prim (.load none)), [.tmp 7], (some 8), none⟩,
  ⟨(.call 49), [.tmp 6, .tmp 8], (some 9), none⟩,
  ⟨(.prim (.un .not)), [.tmp 9], (some 10), none⟩] none)
 (.cond (.tmp 10)
  (.seq (.region [⟨(.prim .id), [.const (.bool false)], (some 4), none⟩] none)
  .ret)
  .skip))
 (.seq (.region [⟨(.prim (.fieldAddr 0 none)), [.tmp 2], (some 11), none⟩,
  ⟨(.prim (.load none)), [.tmp 11], (some 12), none⟩,
  ⟨(.prim (.fieldAddr 0 none)), [.tmp 3], (some 13), none⟩,
  ⟨(.prim (.load none)), [.tmp 13], (some 14), none⟩,
  ⟨(.prim (.bin .eql .none)), [.tmp 12, .tmp 14], (some 15), none⟩,
  ⟨(.prim .id), [.tmp 15], (some 16), none⟩,
  ⟨(.prim (.fieldAddr 1 none)), [.tmp 2], (some 17), (some (16, true))⟩,
  ⟨(.prim (.load none)), [.tmp 17], (some 18), (some (16, true))⟩,
  ⟨(.prim (.fieldAddr 1 none)), [.tmp 3], (some 19), (some (16, true))⟩,
  ⟨(.prim (.load none)), [.tmp 19], (some 20), (some (16, true))⟩,
  ⟨(.prim (.bin .eql .none)), [.tmp 18, .tmp 20], (some 21), (some (16, true))⟩,
  ⟨(.prim .pick), [.tmp 16, .tmp 21, .const (.bool false)], (some 22), none⟩,
  ⟨(.prim .id), [.tmp 22], (some 23), none⟩,
  ⟨(.prim (.fieldAddr 2 none)), [.tmp 2], (some 24), (some (23, true))⟩,
  ⟨(.prim (.load none)), [.tmp 24], (some 25), (some (23, true))⟩,
  ⟨(.prim (.fieldAddr 2 none)), [.tmp 3], (some 26), (some (23, true))⟩,
  ⟨(.prim (.load none)), [.tmp 26], (some 27), (some (23, true))⟩,
  ⟨(.prim (.bin .eql .none)), [.tmp 25, .tmp 27], (some 28), (some (23, true))⟩,
  ⟨(.prim .pick), [.tmp 23, .tmp 28, .const (.bool false)], (some 29), none⟩,
  ⟨(.prim .id), [.tmp 29], (some 30), none⟩,
  ⟨(.prim (.fieldAddr 3 none)), [.tmp 2], (some 31), (some (30, true))⟩,
  ⟨(.prim (.load none)), [.tmp 31], (some 32), (some (30, true))⟩,
  ⟨(.prim (.fieldAddr 3 none)), [.tmp 3], (some 33), (some (30, true))⟩,
  ⟨(.prim (.load none)), [.tmp 33], (some 34), (some (30, true))⟩,
  ⟨(.prim (.bin .eql .none)), [.tmp 32, .tmp 34], (some 35), (some (30, true))⟩,
  ⟨(.prim .pick), [.tmp 30, .tmp 35, .const (.bool false)], (some 36), none⟩,
  ⟨(.prim .id), [.tmp 36], (some 37), none⟩,
  ⟨(.prim (.fieldAddr 4 none)), [.tmp 2], (some 38), (some (37, true))⟩,
  ⟨(.prim (.load none)), [.tmp 38], (some 39), (some (37, true))⟩,
  ⟨(.prim (.fieldAddr 4 none)), [.tmp 3], (some 40), (some (37, true))⟩,
  ⟨(.prim (.load none)), [.tmp 40], (some 41), (some (37, true))⟩,
  ⟨(.prim (.bin .eql .none)), [.tmp 39, .tmp 41], (some 42), (some (37, true))⟩,
  ⟨(.prim .pick), [.tmp 37, .tmp 42, .const (.bool false)], (some 43), none⟩,
  ⟨(.prim .id), [.tmp 43], (some 44), none⟩,
  ⟨(.prim (.fieldAddr 5 (some 3))), [.tmp 2], (some 45), (some (44, true))⟩,
  ⟨(.prim (.load (some 3))), [.tmp 45], (some 46), (some (44, true))⟩,
  ⟨(.prim (.fieldAddr 5 (some 3))), [.tmp 3], (some 47), (some (44, true))⟩,
  ⟨(.prim (.load (some 3))), [.tmp 47], (some 48), (some (44, true))⟩,
  ⟨(.prim (.bin .eql (.flat [0, 0, 0]))), [.tmp 46, .tmp 48], (some 49), (some (44, true))⟩,
  ⟨(.prim .pick), [.tmp 44, .tmp 49, .const (.bool false)], (some 50), none⟩,
  ⟨(.prim .id), [.tmp 50], (some 51), none⟩,
  ⟨(.prim (.fieldAddr 8 none)), [.tmp 2], (some 52), (some (51, true))⟩,
  ⟨(.prim (.load none)), [.tmp 52], (some 53), (some (51, true))⟩,
  ⟨(.prim (.fieldAddr 8 none)), [.tmp 3], (some 54), (some (51, true))⟩,
  ⟨(.prim (.load none)), [.tmp 54], (some 55), (some (51, true))⟩,
  ⟨(.prim (.bin .eql .none)), [.tmp 53, .tmp 55], (some 56), (some (51, true))⟩,
  ⟨(.prim .pick), [.tmp 51, .tmp 56, .const (.bool false)], (some 57), none⟩,
  ⟨(.prim .id), [.tmp 57], (some 58), none⟩,
  ⟨(.prim (.fieldAddr 9 none)), [.tmp 2], (some 59), (some (58, true))⟩,
  ⟨(.prim (.load none)), [.tmp 59], (some 60), (some (58, true))⟩,
  ⟨(.prim (.fieldAddr 9 none)), [.tmp 3], (some 61), (some (58, true))⟩,
  ⟨(.prim (.load none)), [.tmp 61], (some 62), (some (58, true))⟩,
  ⟨(.prim (.bin .eql .none)), [.tmp 60, .tmp 62], (some 63), (some (58, true))⟩,
  ⟨(.prim .pick), [.tmp 58, .tmp 63, .const (.bool false)], (some 64), none⟩,
  ⟨(.prim .id), [.tmp 64], (some 65), none⟩,
  ⟨(.prim (.fieldAddr 10 none)), [.tmp 2], (some 66), (some (65, true))⟩,
  ⟨(.prim (.load none)), [.tmp 66], (some 67), (some (65, true))⟩,
  ⟨(.prim (.fieldAddr 10 none)), [.tmp 3], (some 68), (some (65, true))⟩,
  ⟨(.prim (.load none)), [.tmp 68], (some 69), (some (65, true))⟩,
  ⟨(.prim (.bin .eql .none)), [.tmp 67, .tmp 69], (some 70), (some (65, true))⟩,
  ⟨(.prim .pick), [.tmp 65, .tmp 70, .const (.bool false)], (some 71), none⟩,
  ⟨(.prim .id), [.tmp 71], (some 72), none⟩,
  ⟨(.prim (.fieldAddr 11 (some 8))), [.tmp 2], (some 73), (some (72, true))⟩,
  ⟨(.prim (.load (some 8))), [.tmp 73], (some 74), (some (72, true))⟩,
  ⟨(.prim (.fieldAddr 11 (some 8))), [.tmp 3], (some 75), (some (72, true))⟩,
  ⟨(.prim (.load (some 8))), [.tmp 75], (some 76), (some (72, true))⟩,
  ⟨(.prim (.bin .eql (.flat [0, 0, 0, 0, 0, 0, 0, 0]))), [.tmp 74, .tmp 76], (some 77), (some (72, true))⟩,
  ⟨(.prim .pick), [.tmp 72, .tmp 77, .const (.bool false)], (some 78), none⟩,
  ⟨(.prim .id), [.tmp 78], (some 79), none⟩,
  ⟨(.prim (.fieldAddr 19 none)), [.tmp 2], (some 80), (some (79, true))⟩,
  ⟨(.prim (.load none)), [.tmp 80], (some 81), (some (79, true))⟩,
  ⟨(.prim (.fieldAddr 19 none)), [.tmp 3], (some 82), (some (79, true))⟩,
  ⟨(.prim (.load none)), [.tmp 82], (some 83), (some (79, true))⟩,
  ⟨(.prim (.bin .eql .none)), [.tmp 81, .tmp 83], (some 84), (some (79, true))⟩,
  ⟨(.prim .pick), [.tmp 79, .tmp 84, .const (.bool false)], (some 85), none⟩,
  ⟨(.prim .id), [.tmp 85], (some 86), none⟩,
  ⟨(.prim (.fieldAddr 20 none)), [.tmp 2], (some 87), (some (86, true))⟩,
  ⟨(.prim (.load none)), [.tmp 87], (some 88), (some (86, true))⟩,
  ⟨(.prim (.fieldAddr 20 none)), [.tmp 3], (some 89), (some (86, true))⟩,
  ⟨(.prim (.load none)), [.tmp 89], (some 90), (some (86, true))⟩,
  ⟨(.prim (.bin .eql .bool)), [.tmp 88, .tmp 90], (some 91), (some (86, true))⟩,
  ⟨(.prim .pick), [.tmp 86, .tmp 91, .const (.bool false)], (some 92), none⟩,
  ⟨(.prim .id), [.tmp 92], (some 93), none⟩,
  ⟨(.prim (.fieldAddr 21 none)), [.tmp 2], (some 94), (some (93, true))⟩,
  ⟨(.prim (.load none)), [.tmp 94], (some 95), (some (93, true))⟩,
  ⟨(.prim (.fieldAddr 21 none)), [.tmp 3], (some 96), (some (93, true))⟩,
  ⟨(.prim (.load none)), [.tmp 96], (some 97), (some (93, true))⟩,
  ⟨(.prim (.bin .eql .none)), [.tmp 95, .tmp 97], (some 98), (some (93, true))⟩,
  ⟨(.prim .pick), [.tmp 93, .tmp 98, .const (.bool false)], (some 99), none⟩,
  ⟨(.prim .id), [.tmp 99], (some 100), none⟩,
  ⟨(.prim (.fieldAddr 22 none)), [.tmp 2], (some 101), (some (100, true))⟩,
  ⟨(.prim (.load none)), [.tmp 101], (some 102), (some (100, true))⟩,
  ⟨(.prim (.fieldAddr 22 none)), [.tmp 3], (some 103), (some (100, true))⟩,
  ⟨(.prim (.load none)), [.tmp 103], (some 104), (some (100, true))⟩,
  ⟨(.prim (.bin .eql .none)), [.tmp 102, .tmp 104], (some 105), (some (100, true))⟩,
  ⟨(.prim .pick), [.tmp 100, .tmp 105, .const (.bool false)], (some 106), none⟩,
  ⟨(.prim .id), [.tmp 106], (some 4), none⟩] none)
 .ret)))
theorem F22 : IsFun Try.prog 22 2 107 c22 [.tmp 4] := ⟨by decide, Try.f22, _, [2, 3], Try.func22, rfl, by decide, rfl, by kernel_rfl, by kernel_rfl⟩

/-- cashbox/epoch.within -/
def c23 : ACode :=
 (.seq (.region [⟨(.prim .id), [.const (.bool false)], (some 6), none⟩] none)
 (.seq (.region [⟨(.prim .id), [.tmp 0], (some 7), none⟩,
  ⟨(.prim .id), [.tmp 1], (some 8), none⟩,
  ⟨(.prim (.bin .geq .none)), [.tmp 7, .tmp 8], (some 9), none⟩,
  ⟨(.prim .id), [.tmp 9], (some 10), none⟩,
  ⟨(.prim .id), [.tmp 0], (some 11), (some (10, true))⟩,
  ⟨(.prim .id), [.tmp 2], (some 12), (some (10, true))⟩,
  ⟨(.prim (.bin .leq .none)), [.tmp 11, .tmp 12], (some 13), (some (10, true))⟩,
  ⟨(.prim .pick), [.tmp 10, .tmp 13, .const (.bool false)], (some 14), none⟩,
  ⟨(.prim .id), [.tmp 14], (some 6), none⟩] none)
 .ret))
theorem F23 : IsFun Try.prog 23 3 15 c23 [.tmp 6] := ⟨by decide, Try.f23, _, [], Try.func23, rfl, by decide, rfl, by kernel_rfl, by kernel_rfl⟩

/-- cashbox/epoch.New -/
def c24 : ACode :=
 (.seq (.region [⟨(.prim (.alloc [(.int .i64 0), (.int .i64 0), (.int .i64 0), (.int .i64 0), (.int .i64 0), (.int .i64 0), (.int .i64 0)])), [], (some 4), none⟩,
  ⟨(.prim .id), [.const (.int .i64 0)], (some 5), none⟩] none)
 (.seq (.region [⟨(.prim .id), [.tmp 0], (some 7), none⟩,
  ⟨(.prim .id), [.tmp 1], (some 8), none⟩,
  ⟨(.prim (.build [(.int .i64 0), (.int .i64 0), (.int .i64 0), (.int .i64 0), (.int .i64 0), (.int .i64 0), (.int .i64 0)] [(0, 1), (1, 1)])), [.tmp 7, .tmp 8], (some 9), none⟩,
  ⟨(.prim (.alloc [(.int .i64 0), (.int .i64 0), (.int .i64 0), (.int .i64 0), (.int .i64 0), (.int .i64 0), (.int .i64 0)])), [], (some 6), none⟩,
  ⟨(.prim (.store (some 7))), [.tmp 6, .tmp 9], none, none⟩] none)
 (.seq (.seq (.region [⟨(.prim (.load (some 7))), [.tmp 6], (some 10), none⟩,
  ⟨(.call 9), [.tmp 10], (some 11), none⟩,
  ⟨(.prim (.un .not)), [.tmp 11], (some 12), none⟩] none)
 (.cond (.tmp 12)
  (.seq (.region [⟨(.prim (.build [(.int .i64 0), (.int .i64 0), (.int .i64 0), (.int .i64 0), (.int .i64 0), (.int .i64 0), (.int .i64 0)] [])), [], (some 13), none⟩,
   ⟨(.prim (.store (some 7))), [.tmp 4, .tmp 13], none, none⟩,
   ⟨(.prim .id), [.const (.int .i64 2)], (some 5), none⟩] none)
  .ret)
  .skip))
 (.seq (.region [⟨(.prim (.load (some 7))), [.tmp 6], (some 14), none⟩,
  ⟨(.prim (.store (some 7))), [.tmp 4, .tmp 14], none, none⟩,
  ⟨(.prim .id), [.const (.int .i64 0)], (some 5), none⟩] none)
 .ret))))
theorem F24 : IsFun Try.prog 24 2 15 c24 [.cell 4 (some 7), .tmp 5] := ⟨by decide, Try.f24, _, [], Try.func24, rfl, by decide, rfl, by kernel_rfl, by kernel_rfl⟩

/-- cashbox/cashboxlaw17.ping -/
def c25 : ACode :=
 (.seq (.region [⟨(.prim (.alloc [(.int .i8 0), (.int .i64 0), (.int .i64 0), (.int .i64 0), (.int .i64 0), (.int .i64 0), (.int .i64 0), (.int .i64 0), (.int .i64 0), (.int .i8 0), (.int .i64 0), (.int .u8 0), (.int .u8 0), (.int .u8 0), (.int .u8 0), (.int .u8 0), (.int .u8 0), (.int .u8 0), (.int .u8 0), (.int .i64 0), (.bool false), (.int .i64 0), (.int .i64 0), (.sl .clip [])])), [], (some 2), none⟩] none)
 (.seq (.region [⟨(.prim .id), [.tmp 0], (some 3), none⟩,
  ⟨(.prim (.build [(.int .i8 0), (.int .i64 0), (.int .i64 0), (.int .i64 0), (.int .i64 0), (.int .i64 0), (.int .i64 0), (.int .i64 0), (.int .i64 0), (.int .i8 0), (.int .i64 0), (.int .u8 0), (.int .u8 0), (.int .u8 0), (.int .u8 0), (.int .u8 0), (.int .u8 0), (.int .u8 0), (.int .u8 0), (.int .i64 0), (.bool false), (.int .i64 0), (.int .i64 0), (.sl .clip [])] [(0, 1), (2, 1), (3, 1)])), [.const (.int .i8 1), .const (.int .i64 1), .tmp 3], (some 4), none⟩,
  ⟨(.prim (.store (some 24))), [.tmp 2, .tmp 4], none, none⟩] none)
 .ret))
theorem F25 : IsFun Try.prog 25 1 5 c25 [.cell 2 (some 24)] := ⟨by decide, Try.f25, _, [], Try.func25, rfl, by decide, rfl, by kernel_rfl, by kernel_rfl⟩

/-- (*cashbox/epoch.known).hear -/
def c26 : ACode :=
 (.seq (.region [⟨(.prim .id), [.const (.int .i8 0)], (some 4), none⟩] none)
 (.seq (.region [⟨(.prim .id), [.tmp 0], (some 6), none⟩,
  ⟨(.prim .id), [.tmp 1], (some 7), none⟩,
  ⟨(.prim .nilc), [.tmp 7], (some 8), none⟩,
  ⟨(.prim (.fieldAddr 1 none)), [.tmp 8], (some 9), none⟩,
  ⟨(.prim (.load none)), [.tmp 9], (some 10), none⟩,
  ⟨(.prim .nilc), [.tmp 6], (some 11), none⟩,
  ⟨(.prim (.fieldAddr 2 (some 5))), [.tmp 11], (some 12), none⟩,
  ⟨(.prim (.idxArr 5 none)), [.tmp 12, .tmp 10], (some 13), none⟩,
  ⟨(.prim (.load none)), [.tmp 13], (some 14), none⟩,
  ⟨(.prim .id), [.tmp 14], (some 5), none⟩] (some [[], [], [1], [2], [3], [0], [5], [6, 4], [7], [8, 0, 1, 2, 3, 4, 5, 6, 7, 8]]))
 (.seq (.block 0
  (.seq (.seq (.region [⟨(.prim .id), [.tmp 1], (some 16), none⟩,
   ⟨(.prim .nilc), [.tmp 16], (some 17), none⟩,
   ⟨(.prim (.fieldAddr 3 none)), [.tmp 17], (some 18), none⟩,
   ⟨(.prim (.load none)), [.tmp 18], (some 19), none⟩,
   ⟨(.prim .id), [.tmp 5], (some 20), none⟩,
   ⟨(.prim (.bin .lss .none)), [.tmp 19, .tmp 20], (some 21), none⟩,
   ⟨(.prim .id), [.tmp 21], (some 15), none⟩] none)
  (.cond (.tmp 15)
   .skip
   (.region [⟨(.prim .id), [.tmp 1], (some 22), none⟩,
    ⟨(.prim .nilc), [.tmp 22], (some 23), none⟩,
    ⟨(.prim (.fieldAddr 4 none)), [.tmp 23], (some 24), none⟩,
    ⟨(.prim (.load none)), [.tmp 24], (some 25), none⟩,
    ⟨(.prim (.bin .neq .none)), [.tmp 25, .const (.int .i64 0)], (some 26), none⟩,
    ⟨(.prim .id), [.tmp 26], (some 27), none⟩,
    ⟨(.prim .id), [.tmp 1], (some 28), (some (27, true))⟩,
    ⟨(.prim .nilc), [.tmp 28], (some 29), (some (27, true))⟩,
    ⟨(.prim (.fieldAddr 4 none)), [.tmp 29], (some 30), (some (27, true))⟩,
    ⟨(.prim (.load none)), [.tmp 30], (some 31), (some (27, true))⟩,
    ⟨(.prim .id), [.tmp 0], (some 32), (some (27, true))⟩,
    ⟨(.prim .nilc), [.tmp 32], (some 33), (some (27, true))⟩,
    ⟨(.prim (.fieldAddr 1 none)), [.tmp 33], (some 34), (some (27, true))⟩,
    ⟨(.prim (.load none)), [.tmp 34], (some 35), (some (27, true))⟩,
    ⟨(.prim (.bin .neq .none)), [.tmp 31, .tmp 35], (some 36), (some (27, true))⟩,
    ⟨(.prim .pick), [.tmp 27, .tmp 36, .const (.bool false)], (some 37), none⟩,
    ⟨(.prim .id), [.tmp 37], (some 15), none⟩] (some [[], [0], [1], [2], [3], [4], [5], [6, 5], [7, 5], [8, 5], [5], [10, 5], [11, 5], [12, 5], [9, 13, 5], [5, 14], [15, 5]]))))
  (.cond (.tmp 15)
   (.seq (.region [⟨(.prim .id), [.const (.int .i8 0)], (some 4), none⟩] none)
   .ret)
   (.seq (.region [⟨(.prim .id), [.tmp 1], (some 39), none⟩,
    ⟨(.prim .nilc), [.tmp 39], (some 40), none⟩,
    ⟨(.prim (.fieldAddr 3 none)), [.tmp 40], (some 41), none⟩,
    ⟨(.prim (.load none)), [.tmp 41], (some 42), none⟩,
    ⟨(.prim .id), [.tmp 5], (some 43), none⟩,
    ⟨(.prim (.bin .eql .none)), [.tmp 42, .tmp 43], (some 44), none⟩,
    ⟨(.prim .id), [.tmp 44], (some 38), none⟩] none)
   (.cond (.tmp 38)
    (.seq (.region [⟨(.prim .id), [.const (.int .i8 1)], (some 4), none⟩] none)
    .ret)
    .skip)))))
 (.seq (.region [⟨(.prim .id), [.tmp 0], (some 45), none⟩,
  ⟨(.prim .id), [.tmp 1], (some 46), none⟩,
  ⟨(.prim .nilc), [.tmp 46], (some 47), none⟩,
  ⟨(.prim (.fieldAddr 1 none)), [.tmp 47], (some 48), none⟩,
  ⟨(.prim (.load none)), [.tmp 48], (some 49), none⟩,
  ⟨(.prim .id), [.tmp 1], (some 50), none⟩,
  ⟨(.prim .nilc), [.tmp 50], (some 51), none⟩,
  ⟨(.prim (.fieldAddr 3 none)), [.tmp 51], (some 52), none⟩,
  ⟨(.prim (.load none)), [.tmp 52], (some 53), none⟩,
  ⟨(.prim .nilc), [.tmp 45], (some 54), none⟩,
  ⟨(.prim (.fieldAddr 2 (some 5))), [.tmp 54], (some 55), none⟩,
  ⟨(.prim (.idxArr 5 none)), [.tmp 55, .tmp 49], (some 56), none⟩,
  ⟨(.prim (.store none)), [.tmp 56, .tmp 53], none, none⟩] (some [[], [], [1], [2], [3], [], [5], [6], [7], [0], [9], [10, 4, 0, 1, 2, 3, 4, 5, 6, 7, 8], [11, 8, 0, 1, 2, 3, 4, 5, 6, 7, 8]]))
 (.seq (.seq (.region [⟨(.prim .id), [.tmp 5], (some 57), none⟩,
  ⟨(.prim (.bin .eql .none)), [.tmp 57, .const (.int .i64 0)], (some 58), none⟩] none)
 (.cond (.tmp 58)
  (.seq (.region [⟨(.prim .id), [.const (.int .i8 2)], (some 4), none⟩] none)
  .ret)
  .skip))
 (.seq (.region [⟨(.prim .id), [.const (.int .i8 3)], (some 4), none⟩] none)
 .ret))))))
theorem F26 : IsFun Try.prog 26 2 59 c26 [.tmp 4] := ⟨by decide, Try.f26, _, [], Try.func26, rfl, by decide, rfl, by kernel_rfl, by kernel_rfl⟩

/-- cashbox/cashboxref15.fields -/
def c27 : ACode :=
 (.seq (.region [⟨(.prim (.boxR (some 24))), [.tmp 0], (some 1), none⟩,
  ⟨(.prim (.alloc [(.int .i8 0), (.int .i64 0), (.int .i64 0), (.int .i64 0), (.int .i64 0), (.int .i64 0), (.int .i64 0), (.int .i64 0), (.int .i64 0), (.int .i8 0), (.int .i64 0), (.int .u8 0), (.int .u8 0), (.int .u8 0), (.int .u8 0), (.int .u8 0), (.int .u8 0), (.int .u8 0), (.int .u8 0), (.int .i64 0), (.bool false), (.int .i64 0), (.int .i64 0), (.sl .clip [])])), [], (some 2), none⟩] none)
 (.seq (.region [⟨(.prim (.fieldAddr 0 none)), [.tmp 1], (some 4), none⟩,
  ⟨(.prim (.load none)), [.tmp 4], (some 5), none⟩,
  ⟨(.prim (.fieldAddr 1 none)), [.tmp 1], (some 6), none⟩,
  ⟨(.prim (.load none)), [.tmp 6], (some 7), none⟩,
  ⟨(.prim (.fieldAddr 2 none)), [.tmp 1], (some 8), none⟩,
  ⟨(.prim (.load none)), [.tmp 8], (some 9), none⟩,
  ⟨(.prim (.fieldAddr 3 none)), [.tmp 1], (some 10), none⟩,
  ⟨(.prim (.load none)), [.tmp 10], (some 11), none⟩,
  ⟨(.prim (.fieldAddr 4 none)), [.tmp 1], (some 12), none⟩,
  ⟨(.prim (.load none)), [.tmp 12], (some 13), none⟩,
  ⟨(.prim (.build [(.int .i8 0), (.int .i64 0), (.int .i64 0), (.int .i64 0), (.int .i64 0), (.int .i64 0), (.int .i64 0), (.int .i64 0), (.int .i64 0), (.int .i8 0), (.int .i64 0), (.int .u8 0), (.int .u8 0), (.int .u8 0), (.int .u8 0), (.int .u8 0), (.int .u8 0), (.int .u8 0), (.int .u8 0), (.int .i64 0), (.bool false), (.int .i64 0), (.int .i64 0), (.sl .clip [])] [(0, 1), (1, 1), (2, 1), (3, 1), (4, 1)])), [.tmp 5, .tmp 7, .tmp 9, .tmp 11, .tmp 13], (some 14), none⟩,
  ⟨(.prim (.alloc [(.int .i8 0), (.int .i64 0), (.int .i64 0), (.int .i64 0), (.int .i64 0), (.int .i64 0), (.int .i64 0), (.int .i64 0), (.int .i64 0), (.int .i8 0), (.int .i64 0), (.int .u8 0), (.int .u8 0), (.int .u8 0), (.int .u8 0), (.int .u8 0), (.int .u8 0), (.int .u8 0), (.int .u8 0), (.int .i64 0), (.bool false), (.int .i64 0), (.int .i64 0), (.sl .clip [])])), [], (some 3), none⟩,
  ⟨(.prim (.store (some 24))), [.tmp 3, .tmp 14], none, none⟩] none)
 (.seq (.seq (.region [⟨(.prim (.fieldAddr 0 none)), [.tmp 1], (some 15), none⟩,
  ⟨(.prim (.load none)), [.tmp 15], (some 16), none⟩,
  ⟨(.prim (.bin .neq .none)), [.tmp 16, .const (.int .i8 1)], (some 17), none⟩,
  ⟨(.prim .id), [.tmp 17], (some 18), none⟩,
  ⟨(.prim (.fieldAddr 0 none)), [.tmp 1], (some 19), (some (18, true))⟩,
  ⟨(.prim (.load none)), [.tmp 19], (some 20), (some (18, true))⟩,
  ⟨(.prim (.bin .neq .none)), [.tmp 20, .const (.int .i8 11)], (some 21), (some (18, true))⟩,
  ⟨(.prim .pick), [.tmp 18, .tmp 21, .const (.bool false)], (some 22), none⟩] none)
 (.cond (.tmp 22)
  (.region [⟨(.prim (.fieldAddr 5 (some 3))), [.tmp 1], (some 23), none⟩,
   ⟨(.prim (.load (some 3))), [.tmp 23], (some 24), none⟩,
   ⟨(.prim (.fieldAddr 5 (some 3))), [.tmp 3], (some 25), none⟩,
   ⟨(.prim (.store (some 3))), [.tmp 25, .tmp 24], none, none⟩] none)
  .skip))
 (.seq (.seq (.region [⟨(.prim (.fieldAddr 0 none)), [.tmp 1], (some 26), none⟩,
  ⟨(.prim (.load none)), [.tmp 26], (some 27), none⟩] none)
 (.block 0
  (.seq (.region [⟨(.prim (.bin .eql .none)), [.tmp 27, .const (.int .i8 2)], (some 29), none⟩,
   ⟨(.prim .id), [.tmp 29], (some 28), none⟩] none)
  (.cond (.tmp 28)
   (.seq (.region [⟨(.prim (.fieldAddr 8 none)), [.tmp 1], (some 30), none⟩,
    ⟨(.prim (.load none)), [.tmp 30], (some 31), none⟩,
    ⟨(.prim (.fieldAddr 8 none)), [.tmp 3], (some 32), none⟩,
    ⟨(.prim (.store none)), [.tmp 32, .tmp 31], none, none⟩] none)
   (.seq (.region [⟨(.prim (.fieldAddr 9 none)), [.tmp 1], (some 33), none⟩,
    ⟨(.prim (.load none)), [.tmp 33], (some 34), none⟩,
    ⟨(.prim (.fieldAddr 9 none)), [.tmp 3], (some 35), none⟩,
    ⟨(.prim (.store none)), [.tmp 35, .tmp 34], none, none⟩] none)
   (.seq (.region [⟨(.prim (.fieldAddr 10 none)), [.tmp 1], (some 36), none⟩,
    ⟨(.prim (.load none)), [.tmp 36], (some 37), none⟩,
    ⟨(.prim (.fieldAddr 10 none)), [.tmp 3], (some 38), none⟩,
    ⟨(.prim (.store none)), [.tmp 38, .tmp 37], none, none⟩] none)
   (.seq (.region [⟨(.prim (.fieldAddr 9 none)), [.tmp 1], (some 39), none⟩,
    ⟨(.prim (.load none)), [.tmp 39], (some 40), none⟩,
    ⟨(.prim (.bin .eql .none)), [.tmp 40, .const (.int .i8 1)], (some 41), none⟩] none)
   (.cond (.tmp 41)
    (.region [⟨(.prim (.fieldAddr 11 (some 8))), [.tmp 1], (some 42), none⟩,
     ⟨(.prim (.load (some 8))), [.tmp 42], (some 43), none⟩,
     ⟨(.prim (.fieldAddr 11 (some 8))), [.tmp 3], (some 44), none⟩,
     ⟨(.prim (.store (some 8))), [.tmp 44, .tmp 43], none, none⟩] none)
    .skip)))))
   (.seq (.region [⟨(.prim (.bin .eql .none)), [.tmp 27, .const (.int .i8 3)], (some 46), none⟩,
    ⟨(.prim .id), [.tmp 46], (some 45), none⟩] none)
   (.cond (.tmp 45)
    (.seq (.region [⟨(.prim (.fieldAddr 8 none)), [.tmp 1], (some 47), none⟩,
     ⟨(.prim (.load none)), [.tmp 47], (some 48), none⟩,
     ⟨(.prim (.fieldAddr 8 none)), [.tmp 3], (some 49), none⟩,
     ⟨(.prim (.store none)), [.tmp 49, .tmp 48], none, none⟩] none)
    (.seq (.region [⟨(.prim (.fieldAddr 19 none)), [.tmp 1], (some 50), none⟩,
     ⟨(.prim (.load none)), [.tmp 50], (some 51), none⟩,
     ⟨(.prim (.fieldAddr 19 none)), [.tmp 3], (some 52), none⟩,
     ⟨(.prim (.store none)), [.tmp 52, .tmp 51], none, none⟩] none)
    (.seq (.region [⟨(.prim (.fieldAddr 19 none)), [.tmp 1], (some 53), none⟩,
     ⟨(.prim (.load none)), [.tmp 53], (some 54), none⟩,
     ⟨(.prim (.bin .eql .none)), [.tmp 54, .const (.int .i64 0)], (some 55), none⟩] none)
    (.cond (.tmp 55)
     (.region [⟨(.prim (.fieldAddr 11 (some 8))), [.tmp 1], (some 56), none⟩,
      ⟨(.prim (.load (some 8))), [.tmp 56], (some 57), none⟩,
      ⟨(.prim (.fieldAddr 11 (some 8))), [.tmp 3], (some 58), none⟩,
      ⟨(.prim (.store (some 8))), [.tmp 58, .tmp 57], none, none⟩] none)
     .skip))))
    (.seq (.region [⟨(.prim (.bin .eql .none)), [.tmp 27, .const (.int .i8 4)], (some 60), none⟩,
     ⟨(.prim .id), [.tmp 60], (some 59), none⟩] none)
    (.cond (.tmp 59)
     (.seq (.region [⟨(.prim (.fieldAddr 21 none)), [.tmp 1], (some 61), none⟩,
      ⟨(.prim (.load none)), [.tmp 61], (some 62), none⟩,
      ⟨(.prim (.fieldAddr 21 none)), [.tmp 3], (some 63), none⟩,
      ⟨(.prim (.store none)), [.tmp 63, .tmp 62], none, none⟩] none)
     (.seq (.region [⟨(.prim (.fieldAddr 22 none)), [.tmp 1], (some 64), none⟩,
      ⟨(.prim (.load none)), [.tmp 64], (some 65), none⟩,
      ⟨(.prim (.fieldAddr 22 none)), [.tmp 3], (some 66), none⟩,
      ⟨(.prim (.store none)), [.tmp 66, .tmp 65], none, none⟩] none)
     (.region [⟨(.prim (.fieldAddr 23 none)), [.tmp 1], (some 67), none⟩,
      ⟨(.prim (.load none)), [.tmp 67], (some 68), none⟩,
      ⟨(.prim (.fieldAddr 23 none)), [.tmp 3], (some 69), none⟩,
      ⟨(.prim (.store none)), [.tmp 69, .tmp 68], none, none⟩] none)))
     (.seq (.seq (.region [⟨(.prim (.bin .eql .none)), [.tmp 27, .const (.int .i8 5)], (some 71), none⟩,
      ⟨(.prim .id), [.tmp 71], (some 70), none⟩] none)
     (.cond (.tmp 70)
      .skip
      (.region [⟨(.prim (.bin .eql .none)), [.tmp 27, .const (.int .i8 6)], (some 72), none⟩,
       ⟨(.prim .id), [.tmp 72], (some 70), none⟩] none)))
     (.cond (.tmp 70)
      (.region [⟨(.prim (.fieldAddr 20 none)), [.tmp 1], (some 73), none⟩,
       ⟨(.prim (.load none)), [.tmp 73], (some 74), none⟩,
       ⟨(.prim (.fieldAddr 20 none)), [.tmp 3], (some 75), none⟩,
       ⟨(.prim (.store none)), [.tmp 75, .tmp 74], none, none⟩] none)
      (.seq (.region [⟨(.prim (.bin .eql .none)), [.tmp 27, .const (.int .i8 10)], (some 77), none⟩,
       ⟨(.prim .id), [.tmp 77], (some 76), none⟩] none)
      (.cond (.tmp 76)
       (.region [⟨(.prim (.fieldAddr 19 none)), [.tmp 1], (some 78), none⟩,
        ⟨(.prim (.load none)), [.tmp 78], (some 79), none⟩,
        ⟨(.prim (.fieldAddr 19 none)), [.tmp 3], (some 80), none⟩,
        ⟨(.prim (.store none)), [.tmp 80, .tmp 79], none, none⟩] none)
       .skip))))))))))))
 (.seq (.region [⟨(.prim (.load (some 24))), [.tmp 3], (some 81), none⟩,
  ⟨(.prim (.store (some 24))), [.tmp 2, .tmp 81], none, none⟩] none)
 .ret)))))
theorem F27 : IsFun Try.prog 27 1 82 c27 [.cell 2 (some 24)] := ⟨by decide, Try.f27, _, [1], Try.func27, rfl, by decide, rfl, by kernel_rfl, by kernel_rfl⟩

/-- cashbox/cashboxref15.down -/
def c28 : ACode :=
 (.seq (.region [⟨(.prim .id), [.const (.bool false)], (some 2), none⟩] none)
 (.seq (.region [⟨(.prim .id), [.tmp 0], (some 3), none⟩,
  ⟨(.prim (.bin .eql .none)), [.tmp 3, .const (.int .i8 1)], (some 4), none⟩,
  ⟨(.prim .id), [.tmp 4], (some 5), none⟩,
  ⟨(.prim .id), [.tmp 0], (some 6), (some (5, false))⟩,
  ⟨(.prim (.bin .eql .none)), [.tmp 6, .const (.int .i8 2)], (some 7), (some (5, false))⟩,
  ⟨(.prim .pick), [.tmp 5, .const (.bool true), .tmp 7], (some 8), none⟩,
  ⟨(.prim .id), [.tmp 8], (some 9), none⟩,
  ⟨(.prim .id), [.tmp 0], (some 10), (some (9, false))⟩,
  ⟨(.prim (.bin .eql .none)), [.tmp 10, .const (.int .i8 4)], (some 11), (some (9, false))⟩,
  ⟨(.prim .pick), [.tmp 9, .const (.bool true), .tmp 11], (some 12), none⟩,
  ⟨(.prim .id), [.tmp 12], (some 13), none⟩,
  ⟨(.prim .id), [.tmp 0], (some 14), (some (13, false))⟩,
  ⟨(.prim (.bin .eql .none)), [.tmp 14, .const (.int .i8 6)], (some 15), (some (13, false))⟩,
  ⟨(.prim .pick), [.tmp 13, .const (.bool true), .tmp 15], (some 16), none⟩,
  ⟨(.prim .id), [.tmp 16], (some 17), none⟩,
  ⟨(.prim .id), [.tmp 0], (some 18), (some (17, false))⟩,
  ⟨(.prim (.bin .eql .none)), [.tmp 18, .const (.int .i8 9)], (some 19), (some (17, false))⟩,
  ⟨(.prim .pick), [.tmp 17, .const (.bool true), .tmp 19], (some 20), none⟩,
  ⟨(.prim .id), [.tmp 20], (some 2), none⟩] none)
 .ret))
theorem F28 : IsFun Try.prog 28 1 21 c28 [.tmp 2] := ⟨by decide, Try.f28, _, [], Try.func28, rfl, by decide, rfl, by kernel_rfl, by kernel_rfl⟩

/-- cashbox/cashboxref07.Named -/
def c29 : ACode :=
 (.seq (.region [⟨(.prim (.boxR (some 3))), [.tmp 0], (some 1), none⟩,
  ⟨(.prim .id), [.const (.bool false)], (some 2), none⟩] none)
 (.seq (.region [⟨(.prim (.fieldAddr 0 none)), [.tmp 1], (some 3), none⟩,
  ⟨(.prim (.load none)), [.tmp 3], (some 4), none⟩,
  ⟨(.prim (.bin .geq .none)), [.tmp 4, .const (.int .i64 1)], (some 5), none⟩,
  ⟨(.prim .id), [.tmp 5], (some 6), none⟩,
  ⟨(.prim (.fieldAddr 0 none)), [.tmp 1], (some 7), (some (6, true))⟩,
  ⟨(.prim (.load none)), [.tmp 7], (some 8), (some (6, true))⟩,
  ⟨(.prim (.bin .leq .none)), [.tmp 8, .const (.int .i64 1048576)], (some 9), (some (6, true))⟩,
  ⟨(.prim .pick), [.tmp 6, .tmp 9, .const (.bool false)], (some 10), none⟩,
  ⟨(.prim .id), [.tmp 10], (some 11), none⟩,
  ⟨(.prim (.fieldAddr 1 none)), [.tmp 1], (some 12), (some (11, true))⟩,
  ⟨(.prim (.load none)), [.tmp 12], (some 13), (some (11, true))⟩,
  ⟨(.prim (.bin .geq .none)), [.tmp 13, .const (.int .i64 1)], (some 14), (some (11, true))⟩,
  ⟨(.prim .pick), [.tmp 11, .tmp 14, .const (.bool false)], (some 15), none⟩,
  ⟨(.prim .id), [.tmp 15], (some 16), none⟩,
  ⟨(.prim (.fieldAddr 1 none)), [.tmp 1], (some 17), (some (16, true))⟩,
  ⟨(.prim (.load none)), [.tmp 17], (some 18), (some (16, true))⟩,
  ⟨(.prim (.bin .leq .none)), [.tmp 18, .const (.int .i64 1048576)], (some 19), (some (16, true))⟩,
  ⟨(.prim .pick), [.tmp 16, .tmp 19, .const (.bool false)], (some 20), none⟩,
  ⟨(.prim .id), [.tmp 20], (some 21), none⟩,
  ⟨(.prim (.fieldAddr 2 none)), [.tmp 1], (some 22), (some (21, true))⟩,
  ⟨(.prim (.load none)), [.tmp 22], (some 23), (some (21, true))⟩,
  ⟨(.prim (.bin .geq .none)), [.tmp 23, .const (.int .i64 1)], (some 24), (some (21, true))⟩,
  ⟨(.prim .pick), [.tmp 21, .tmp 24, .const (.bool false)], (some 25), none⟩,
  ⟨(.prim .id), [.tmp 25], (some 26), none⟩,
  ⟨(.prim (.fieldAddr 2 none)), [.tmp 1], (some 27), (some (26, true))⟩,
  ⟨(.prim (.load none)), [.tmp 27], (some 28), (some (26, true))⟩,
  ⟨(.prim (.bin .leq .none)), [.tmp 28, .const (.int .i64 1048576)], (some 29), (some (26, true))⟩,
  ⟨(.prim .pick), [.tmp 26, .tmp 29, .const (.bool false)], (some 30), none⟩,
  ⟨(.prim .id), [.tmp 30], (some 2), none⟩] none)
 .ret))
theorem F29 : IsFun Try.prog 29 1 31 c29 [.tmp 2] := ⟨by decide, Try.f29, _, [1], Try.func29, rfl, by decide, rfl, by kernel_rfl, by kernel_rfl⟩

/-- cashbox/cashboxref07.Given -/
def c30 : ACode :=
 (.seq (.region [⟨(.prim .id), [.const (.bool false)], (some 4), none⟩] none)
 (.seq (.region [⟨(.prim .id), [.tmp 0], (some 5), none⟩,
  ⟨(.prim (.bin .geq .none)), [.tmp 5, .const (.int .i64 0)], (some 6), none⟩,
  ⟨(.prim .id), [.tmp 6], (some 7), none⟩,
  ⟨(.prim .id), [.tmp 0], (some 8), (some (7, true))⟩,
  ⟨(.prim (.bin .leq .none)), [.tmp 8, .const (.int .i64 255)], (some 9), (some (7, true))⟩,
  ⟨(.prim .pick), [.tmp 7, .tmp 9, .const (.bool false)], (some 10), none⟩,
  ⟨(.prim .id), [.tmp 10], (some 11), none⟩,
  ⟨(.prim .id), [.tmp 1], (some 12), (some (11, true))⟩,
  ⟨(.prim (.bin .geq .none)), [.tmp 12, .const (.int .i64 0)], (some 13), (some (11, true))⟩,
  ⟨(.prim .pick), [.tmp 11, .tmp 13, .const (.bool false)], (some 14), none⟩,
  ⟨(.prim .id), [.tmp 14], (some 15), none⟩,
  ⟨(.prim .id), [.tmp 1], (some 16), (some (15, true))⟩,
  ⟨(.prim (.bin .leq .none)), [.tmp 16, .const (.int .i64 255)], (some 17), (some (15, true))⟩,
  ⟨(.prim .pick), [.tmp 15, .tmp 17, .const (.bool false)], (some 18), none⟩,
  ⟨(.prim .id), [.tmp 18], (some 19), none⟩,
  ⟨(.prim .id), [.tmp 0], (some 20), (some (19, true))⟩,
  ⟨(.prim .id), [.tmp 1], (some 21), (some (19, true))⟩,
  ⟨(.prim (.bin .and .none)), [.tmp 20, .tmp 21], (some 22), (some (19, true))⟩,
  ⟨(.prim (.bin .eql .none)), [.tmp 22, .const (.int .i64 0)], (some 23), (some (19, true))⟩,
  ⟨(.prim .pick), [.tmp 19, .tmp 23, .const (.bool false)], (some 24), none⟩,
  ⟨(.prim .id), [.tmp 24], (some 4), none⟩] none)
 .ret))
theorem F30 : IsFun Try.prog 30 2 25 c30 [.tmp 4] := ⟨by decide, Try.f30, _, [], Try.func30, rfl, by decide, rfl, by kernel_rfl, by kernel_rfl⟩

-- loop: 0:l, 3:i
/-- cashbox/cashboxref07.Written -/
def c31 : ACode :=
 (.seq (.region [⟨(.prim .id), [.const (.bool false)], (some 2), none⟩] none)
 (.seq (.seq (.region [⟨(.prim .id), [.tmp 0], (some 4), none⟩,
  ⟨(.prim .len), [.tmp 4], (some 5), none⟩,
  ⟨(.prim (.bin .gtr .none)), [.tmp 5, .const (.int .i64 8)], (some 6), none⟩] none)
 (.cond (.tmp 6)
  (.seq (.region [⟨(.prim .id), [.const (.bool false)], (some 2), none⟩] none)
  .ret)
  .skip))
 (.seq (.seq (.region [⟨(.prim .id), [.const (.int .i64 0)], (some 3), none⟩] none)
 (.block 0
  (.loop
   (.seq (.seq (.region [⟨(.prim .id), [.tmp 3], (some 7), none⟩,
    ⟨(.prim .id), [.tmp 0], (some 8), none⟩,
    ⟨(.prim .len), [.tmp 8], (some 9), none⟩,
    ⟨(.prim (.bin .lss .none)), [.tmp 7, .tmp 9], (some 10), none⟩] none)
   (.cond (.tmp 10)
    .skip
    (.exit 0)))
   (.seq (.block 1
    (.seq (.region [⟨(.prim .id), [.tmp 0], (some 13), none⟩,
     ⟨(.prim .id), [.tmp 3], (some 14), none⟩,
     ⟨(.prim (.idxSl (some 9))), [.tmp 13, .tmp 14], (some 15), none⟩,
     ⟨(.prim (.fieldAddr 0 none)), [.tmp 15], (some 16), none⟩,
     ⟨(.prim (.load none)), [.tmp 16], (some 17), none⟩,
     ⟨(.prim (.bin .lss .none)), [.tmp 17, .const (.int .i64 0)], (some 18), none⟩,
     ⟨(.prim .id), [.tmp 18], (some 19), none⟩,
     ⟨(.prim .id), [.tmp 0], (some 20), (some (19, false))⟩,
     ⟨(.prim .id), [.tmp 3], (some 21), (some (19, false))⟩,
     ⟨(.prim (.idxSl (some 9))), [.tmp 20, .tmp 21], (some 22), (some (19, false))⟩,
     ⟨(.prim (.fieldAddr 0 none)), [.tmp 22], (some 23), (some (19, false))⟩,
     ⟨(.prim (.load none)), [.tmp 23], (some 24), (some (19, false))⟩,
     ⟨(.prim (.bin .geq .none)), [.tmp 24, .const (.int .i64 32)], (some 25), (some (19, false))⟩,
     ⟨(.prim .pick), [.tmp 19, .const (.bool true), .tmp 25], (some 26), none⟩,
     ⟨(.prim .id), [.tmp 26], (some 27), none⟩,
     ⟨(.prim .id), [.tmp 3], (some 28), (some (27, false))⟩,
     ⟨(.prim (.bin .gtr .none)), [.tmp 28, .const (.int .i64 0)], (some 29), (some (27, false))⟩,
     ⟨(.prim .id), [.tmp 29], (some 30), (some (27, false))⟩,
     ⟨(.prim .id), [.tmp 0], (some 31), (some (30, true))⟩,
     ⟨(.prim .id), [.tmp 3], (some 32), (some (30, true))⟩,
     ⟨(.prim (.idxSl (some 9))), [.tmp 31, .tmp 32], (some 33), (some (30, true))⟩,
     ⟨(.prim (.fieldAddr 0 none)), [.tmp 33], (some 34), (some (30, true))⟩,
     ⟨(.prim (.load none)), [.tmp 34], (some 35), (some (30, true))⟩,
     ⟨(.prim .id), [.tmp 0], (some 36), (some (30, true))⟩,
     ⟨(.prim .id), [.tmp 3], (some 37), (some (30, true))⟩,
     ⟨(.prim (.bin .sub .none)), [.tmp 37, .const (.int .i64 1)], (some 38), (some (30, true))⟩,
     ⟨(.prim (.idxSl (some 9))), [.tmp 36, .tmp 38], (some 39), (some (30, true))⟩,
     ⟨(.prim (.fieldAddr 0 none)), [.tmp 39], (some 40), (some (30, true))⟩,
     ⟨(.prim (.load none)), [.tmp 40], (some 41), (some (30, true))⟩,
     ⟨(.prim (.bin .leq .none)), [.tmp 35, .tmp 41], (some 42), (some (30, true))⟩,
     ⟨(.prim .pick), [.tmp 30, .tmp 42, .const (.bool false)], (some 43), (some (27, false))⟩,
     ⟨(.prim .pick), [.tmp 27, .const (.bool true), .tmp 43], (some 44), none⟩] (some [[], [], [0, 1], [2], [3], [4], [5], [6], [6], [7, 8, 6], [9, 6], [10, 6], [11, 6], [6, 12], [13, 6], [14], [15, 14], [16, 14, 14], [17], [17], [18, 19, 17], [20, 17], [21, 17], [17], [17], [24, 17], [23, 25, 17], [26, 17], [27, 17], [22, 28, 17], [17, 29, 14], [14, 30]]))
    (.cond (.tmp 44)
     (.seq (.region [⟨(.prim .id), [.const (.bool false)], (some 2), none⟩] none)
     .ret)
     .skip)))
   (.region [⟨(.prim .id), [.tmp 3], (some 11), none⟩,
    ⟨(.prim (.bin .add .none)), [.tmp 11, .const (.int .i64 1)], (some 12), none⟩,
    ⟨(.prim .id), [.tmp 12], (some 3), none⟩] none))))))
 (.seq (.region [⟨(.prim .id), [.const (.bool true)], (some 2), none⟩] none)
 .ret))))
theorem F31 : IsFun Try.prog 31 1 45 c31 [.tmp 2] := ⟨by decide, Try.f31, _, [], Try.func31, rfl, by decide, rfl, by kernel_rfl, by kernel_rfl⟩

/-- (*cashbox/epoch.known).mark -/
def c32 : ACode :=
 (.region [⟨(.prim .id), [.tmp 1], (some 4), none⟩,
  ⟨(.prim .id), [.tmp 1], (some 5), none⟩,
  ⟨(.prim .id), [.tmp 1], (some 6), none⟩,
  ⟨(.prim .id), [.tmp 0], (some 7), none⟩,
  ⟨(.prim .nilc), [.tmp 7], (some 8), none⟩,
  ⟨(.prim (.fieldAddr 0 none)), [.tmp 8], (some 9), none⟩,
  ⟨(.prim (.load none)), [.tmp 9], (some 10), none⟩,
  ⟨(.prim .id), [.tmp 0], (some 11), none⟩,
  ⟨(.prim .nilc), [.tmp 11], (some 12), none⟩,
  ⟨(.prim (.fieldAddr 1 none)), [.tmp 12], (some 13), none⟩,
  ⟨(.prim (.load none)), [.tmp 13], (some 14), none⟩,
  ⟨(.prim .id), [.tmp 0], (some 15), none⟩,
  ⟨(.prim .id), [.tmp 1], (some 16), none⟩,
  ⟨(.prim .nilc), [.tmp 16], (some 17), none⟩,
  ⟨(.prim (.fieldAddr 2 none)), [.tmp 17], (some 18), none⟩,
  ⟨(.prim (.load none)), [.tmp 18], (some 19), none⟩,
  ⟨(.prim .nilc), [.tmp 15], (some 20), none⟩,
  ⟨(.prim (.fieldAddr 2 (some 5))), [.tmp 20], (some 21), none⟩,
  ⟨(.prim (.idxArr 5 none)), [.tmp 21, .tmp 19], (some 22), none⟩,
  ⟨(.prim (.load none)), [.tmp 22], (some 23), none⟩,
  ⟨(.prim .nilc), [.tmp 4], (some 24), none⟩,
  ⟨(.prim (.fieldAddr 1 none)), [.tmp 24], (some 25), none⟩,
  ⟨(.prim (.store none)), [.tmp 25, .tmp 10], none, none⟩,
  ⟨(.prim .nilc), [.tmp 5], (some 26), none⟩,
  ⟨(.prim (.fieldAddr 3 none)), [.tmp 26], (some 27), none⟩,
  ⟨(.prim (.store none)), [.tmp 27, .tmp 14], none, none⟩,
  ⟨(.prim .nilc), [.tmp 6], (some 28), none⟩,
  ⟨(.prim (.fieldAddr 4 none)), [.tmp 28], (some 29), none⟩,
  ⟨(.prim (.store none)), [.tmp 29, .tmp 23], none, none⟩] (some [[], [], [], [], [3], [4], [5], [], [7], [8], [9], [], [], [12], [13], [14], [11], [16], [17, 15], [18], [0, 0, 3, 4, 5, 6, 10, 15, 19], [20, 0, 3, 4, 5, 6, 10, 15, 19], [21, 6, 0, 3, 4, 5, 6, 10, 15, 19], [1, 0, 1, 3, 4, 5, 6, 7, 8, 9, 10, 15, 19, 20, 21, 22], [23, 0, 1, 3, 4, 5, 6, 7, 8, 9, 10, 15, 19, 20, 21, 22], [24, 10, 22, 0, 1, 3, 4, 5, 6, 7, 8, 9, 10, 15, 19, 20, 21, 22], [2, 0, 1, 2, 3, 4, 5, 6, 7, 8, 9, 10, 11, 12, 13, 14, 15, 16, 17, 18, 19, 20, 21, 22, 23, 24, 25], [26, 0, 1, 2, 3, 4, 5, 6, 7, 8, 9, 10, 11, 12, 13, 14, 15, 16, 17, 18, 19, 20, 21, 22, 23, 24, 25], [27, 19, 25, 0, 1, 2, 3, 4, 5, 6, 7, 8, 9, 10, 11, 12, 13, 14, 15, 16, 17, 18, 19, 20, 21, 22, 23, 24, 25]]))
theorem F32 : IsFun Try.prog 32 2 30 c32 [] := ⟨by decide, Try.f32, _, [], Try.func32, rfl, by decide, rfl, by kernel_rfl, by kernel_rfl⟩

/-- cashbox/wire.kindOf -/
def c33 : ACode :=
 (.seq (.region [⟨(.prim (.alloc [(.bool false), (.sl .clip []), .nilfn])), [], (some 2), none⟩,
  ⟨(.prim .id), [.const (.bool false)], (some 3), none⟩] none)
 (.seq (.region [⟨(.call 50), [], (some 7), none⟩,
  ⟨(.prim (.alloc [.nilfn, .nilfn, .nilfn, .nilfn, .nilfn, .nilfn, .nilfn, .nilfn, .nilfn, .nilfn, .nilfn, .nilfn, .nilfn, .nilfn, .nilfn, .nilfn, .nilfn, .nilfn, .nilfn, .nilfn])), [], (some 4), none⟩,
  ⟨(.prim (.store (some 20))), [.tmp 4, .tmp 7], none, none⟩] none)
 (.seq (.region [⟨(.prim .id), [.const (.fn (.func 51) [] [])], (some 5), none⟩] none)
 (.seq (.region [⟨(.prim (.alloc [.nilfn])), [], (some 6), none⟩,
  ⟨(.prim (.store none)), [.tmp 6, .const (.fn (.func 52) [] [])], none, none⟩] none)
 (.seq (.seq (.region [⟨(.prim .id), [.tmp 0], (some 8), none⟩] none)
 (.block 0
  (.seq (.region [⟨(.prim (.bin .eql .none)), [.tmp 8, .const (.int .i8 1)], (some 10), none⟩,
   ⟨(.prim .id), [.tmp 10], (some 9), none⟩] none)
  (.cond (.tmp 9)
   (.seq (.region [⟨(.prim .id), [.tmp 5], (some 11), none⟩,
    ⟨(.prim (.build [(.bool false), (.sl .clip []), .nilfn] [(0, 1), (1, 1), (2, 1)])), [.const (.bool true), .const (.sl .clip []), .tmp 11], (some 12), none⟩,
    ⟨(.prim (.store (some 3))), [.tmp 2, .tmp 12], none, none⟩,
    ⟨(.prim .id), [.const (.bool true)], (some 3), none⟩] none)
   .ret)
   (.seq (.region [⟨(.prim (.bin .eql .none)), [.tmp 8, .const (.int .i8 11)], (some 14), none⟩,
    ⟨(.prim .id), [.tmp 14], (some 13), none⟩] none)
   (.cond (.tmp 13)
    (.seq (.region [⟨(.prim .id), [.tmp 5], (some 15), none⟩,
     ⟨(.prim (.build [(.bool false), (.sl .clip []), .nilfn] [(0, 1), (1, 1), (2, 1)])), [.const (.bool false), .const (.sl .clip []), .tmp 15], (some 16), none⟩,
     ⟨(.prim (.store (some 3))), [.tmp 2, .tmp 16], none, none⟩,
     ⟨(.prim .id), [.const (.bool true)], (some 3), none⟩] none)
    .ret)
    (.seq (.region [⟨(.prim (.bin .eql .none)), [.tmp 8, .const (.int .i8 2)], (some 18), none⟩,
     ⟨(.prim .id), [.tmp 18], (some 17), none⟩] none)
    (.cond (.tmp 17)
     (.seq (.region [⟨(.prim (.fieldAddr 0 (some 2))), [.tmp 4], (some 19), none⟩,
      ⟨(.prim (.load (some 2))), [.tmp 19], (some 20), none⟩,
      ⟨(.prim (.fieldAddr 2 (some 2))), [.tmp 4], (some 21), none⟩,
      ⟨(.prim (.load (some 2))), [.tmp 21], (some 22), none⟩,
      ⟨(.prim (.fieldAddr 6 (some 2))), [.tmp 4], (some 23), none⟩,
      ⟨(.prim (.load (some 2))), [.tmp 23], (some 24), none⟩,
      ⟨(.prim (.fieldAddr 4 (some 2))), [.tmp 4], (some 25), none⟩,
      ⟨(.prim (.load (some 2))), [.tmp 25], (some 26), none⟩,
      ⟨(.prim (.fieldAddr 8 (some 2))), [.tmp 4], (some 27), none⟩,
      ⟨(.prim (.load (some 2))), [.tmp 27], (some 28), none⟩,
      ⟨(.prim (.buildSl (some 2))), [.tmp 20, .tmp 22, .tmp 24, .tmp 26, .tmp 28], (some 29), none⟩,
      ⟨(.prim (.build [(.bool false), (.sl .clip []), .nilfn] [(0, 1), (1, 1), (2, 1)])), [.const (.bool true), .tmp 29, .const (.fn (.func 55) [] [])], (some 30), none⟩,
      ⟨(.prim (.store (some 3))), [.tmp 2, .tmp 30], none, none⟩,
      ⟨(.prim .id), [.const (.bool true)], (some 3), none⟩] none)
     .ret)
     (.seq (.region [⟨(.prim (.bin .eql .none)), [.tmp 8, .const (.int .i8 3)], (some 32), none⟩,
      ⟨(.prim .id), [.tmp 32], (some 31), none⟩] none)
     (.cond (.tmp 31)
      (.seq (.region [⟨(.prim (.fieldAddr 0 (some 2))), [.tmp 4], (some 33), none⟩,
       ⟨(.prim (.load (some 2))), [.tmp 33], (some 34), none⟩,
       ⟨(.prim (.fieldAddr 2 (some 2))), [.tmp 4], (some 35), none⟩,
       ⟨(.prim (.load (some 2))), [.tmp 35], (some 36), none⟩,
       ⟨(.prim (.fieldAddr 8 (some 2))), [.tmp 4], (some 37), none⟩,
       ⟨(.prim (.load (some 2))), [.tmp 37], (some 38), none⟩,
       ⟨(.prim (.fieldAddr 10 (some 2))), [.tmp 4], (some 39), none⟩,
       ⟨(.prim (.load (some 2))), [.tmp 39], (some 40), none⟩,
       ⟨(.prim (.buildSl (some 2))), [.tmp 34, .tmp 36, .tmp 38, .tmp 40], (some 41), none⟩,
       ⟨(.prim (.mkfn (.func 56) 0)), [.tmp 6], (some 42), none⟩,
       ⟨(.prim (.build [(.bool false), (.sl .clip []), .nilfn] [(0, 1), (1, 1), (2, 1)])), [.const (.bool false), .tmp 41, .tmp 42], (some 43), none⟩,
       ⟨(.prim (.store (some 3))), [.tmp 2, .tmp 43], none, none⟩,
       ⟨(.prim .id), [.const (.bool true)], (some 3), none⟩] none)
      .ret)
      (.seq (.region [⟨(.prim (.bin .eql .none)), [.tmp 8, .const (.int .i8 4)], (some 45), none⟩,
       ⟨(.prim .id), [.tmp 45], (some 44), none⟩] none)
      (.cond (.tmp 44)
       (.seq (.region [⟨(.prim (.fieldAddr 0 (some 2))), [.tmp 4], (some 46), none⟩,
        ⟨(.prim (.load (some 2))), [.tmp 46], (some 47), none⟩,
        ⟨(.prim (.fieldAddr 14 (some 2))), [.tmp 4], (some 48), none⟩,
        ⟨(.prim (.load (some 2))), [.tmp 48], (some 49), none⟩,
        ⟨(.prim (.fieldAddr 16 (some 2))), [.tmp 4], (some 50), none⟩,
        ⟨(.prim (.load (some 2))), [.tmp 50], (some 51), none⟩,
        ⟨(.prim (.fieldAddr 18 (some 2))), [.tmp 4], (some 52), none⟩,
        ⟨(.prim (.load (some 2))), [.tmp 52], (some 53), none⟩,
        ⟨(.prim (.buildSl (some 2))), [.tmp 47, .tmp 49, .tmp 51, .tmp 53], (some 54), none⟩,
        ⟨(.prim (.build [(.bool false), (.sl .clip []), .nilfn] [(0, 1), (1, 1), (2, 1)])), [.const (.bool true), .tmp 54, .const (.fn (.func 57) [] [])], (some 55), none⟩,
        ⟨(.prim (.store (some 3))), [.tmp 2, .tmp 55], none, none⟩,
        ⟨(.prim .id), [.const (.bool true)], (some 3), none⟩] none)
       .ret)
       (.seq (.region [⟨(.prim (.bin .eql .none)), [.tmp 8, .const (.int .i8 5)], (some 57), none⟩,
        ⟨(.prim .id), [.tmp 57], (some 56), none⟩] none)
       (.cond (.tmp 56)
        (.seq (.region [⟨(.prim (.fieldAddr 0 (some 2))), [.tmp 4], (some 58), none⟩,
         ⟨(.prim (.load (some 2))), [.tmp 58], (some 59), none⟩,
         ⟨(.prim (.fieldAddr 12 (some 2))), [.tmp 4], (some 60), none⟩,
         ⟨(.prim (.load (some 2))), [.tmp 60], (some 61), none⟩,
         ⟨(.prim (.buildSl (some 2))), [.tmp 59, .tmp 61], (some 62), none⟩,
         ⟨(.prim .id), [.tmp 5], (some 63), none⟩,
         ⟨(.prim (.build [(.bool false), (.sl .clip []), .nilfn] [(0, 1), (1, 1), (2, 1)])), [.const (.bool false), .tmp 62, .tmp 63], (some 64), none⟩,
         ⟨(.prim (.store (some 3))), [.tmp 2, .tmp 64], none, none⟩,
         ⟨(.prim .id), [.const (.bool true)], (some 3), none⟩] none)
        .ret)
        (.seq (.region [⟨(.prim (.bin .eql .none)), [.tmp 8, .const (.int .i8 6)], (some 66), none⟩,
         ⟨(.prim .id), [.tmp 66], (some 65), none⟩] none)
        (.cond (.tmp 65)
         (.seq (.region [⟨(.prim (.fieldAddr 0 (some 2))), [.tmp 4], (some 67), none⟩,
          ⟨(.prim (.load (some 2))), [.tmp 67], (some 68), none⟩,
          ⟨(.prim (.fieldAddr 12 (some 2))), [.tmp 4], (some 69), none⟩,
          ⟨(.prim (.load (some 2))), [.tmp 69], (some 70), none⟩,
          ⟨(.prim (.buildSl (some 2))), [.tmp 68, .tmp 70], (some 71), none⟩,
          ⟨(.prim .id), [.tmp 5], (some 72), none⟩,
          ⟨(.prim (.build [(.bool false), (.sl .clip []), .nilfn] [(0, 1), (1, 1), (2, 1)])), [.const (.bool true), .tmp 71, .tmp 72], (some 73), none⟩,
          ⟨(.prim (.store (some 3))), [.tmp 2, .tmp 73], none, none⟩,
          ⟨(.prim .id), [.const (.bool true)], (some 3), none⟩] none)
         .ret)
         (.seq (.region [⟨(.prim (.bin .eql .none)), [.tmp 8, .const (.int .i8 7)], (some 75), none⟩,
          ⟨(.prim .id), [.tmp 75], (some 74), none⟩] none)
         (.cond (.tmp 74)
          (.seq (.region [⟨(.prim (.fieldAddr 0 (some 2))), [.tmp 4], (some 76), none⟩,
           ⟨(.prim (.load (some 2))), [.tmp 76], (some 77), none⟩,
           ⟨(.prim (.buildSl (some 2))), [.tmp 77], (some 78), none⟩,
           ⟨(.prim .id), [.tmp 5], (some 79), none⟩,
           ⟨(.prim (.build [(.bool false), (.sl .clip []), .nilfn] [(0, 1), (1, 1), (2, 1)])), [.const (.bool false), .tmp 78, .tmp 79], (some 80), none⟩,
           ⟨(.prim (.store (some 3))), [.tmp 2, .tmp 80], none, none⟩,
           ⟨(.prim .id), [.const (.bool true)], (some 3), none⟩] none)
          .ret)
          (.seq (.region [⟨(.prim (.bin .eql .none)), [.tmp 8, .const (.int .i8 8)], (some 82), none⟩,
           ⟨(.prim .id), [.tmp 82], (some 81), none⟩] none)
          (.cond (.tmp 81)
           (.seq (.region [⟨(.prim (.fieldAddr 0 (some 2))), [.tmp 4], (some 83), none⟩,
            ⟨(.prim (.load (some 2))), [.tmp 83], (some 84), none⟩,
            ⟨(.prim (.buildSl (some 2))), [.tmp 84], (some 85), none⟩,
            ⟨(.prim .id), [.tmp 5], (some 86), none⟩,
            ⟨(.prim (.build [(.bool false), (.sl .clip []), .nilfn] [(0, 1), (1, 1), (2, 1)])), [.const (.bool false), .tmp 85, .tmp 86], (some 87), none⟩,
            ⟨(.prim (.store (some 3))), [.tmp 2, .tmp 87], none, none⟩,
            ⟨(.prim .id), [.const (.bool true)], (some 3), none⟩] none)
           .ret)
           (.seq (.region [⟨(.prim (.bin .eql .none)), [.tmp 8, .const (.int .i8 9)], (some 89), none⟩,
            ⟨(.prim .id), [.tmp 89], (some 88), none⟩] none)
           (.cond (.tmp 88)
            (.seq (.region [⟨(.prim (.fieldAddr 0 (some 2))), [.tmp 4], (some 90), none⟩,
             ⟨(.prim (.load (some 2))), [.tmp 90], (some 91), none⟩,
             ⟨(.prim (.buildSl (some 2))), [.tmp 91], (some 92), none⟩,
             ⟨(.prim .id), [.tmp 5], (some 93), none⟩,
             ⟨(.prim (.build [(.bool false), (.sl .clip []), .nilfn] [(0, 1), (1, 1), (2, 1)])), [.const (.bool true), .tmp 92, .tmp 93], (some 94), none⟩,
             ⟨(.prim (.store (some 3))), [.tmp 2, .tmp 94], none, none⟩,
             ⟨(.prim .id), [.const (.bool true)], (some 3), none⟩] none)
            .ret)
            (.seq (.region [⟨(.prim (.bin .eql .none)), [.tmp 8, .const (.int .i8 10)], (some 96), none⟩,
             ⟨(.prim .id), [.tmp 96], (some 95), none⟩] none)
            (.cond (.tmp 95)
             (.seq (.region [⟨(.prim (.fieldAddr 0 (some 2))), [.tmp 4], (some 97), none⟩,
              ⟨(.prim (.load (some 2))), [.tmp 97], (some 98), none⟩,
              ⟨(.prim (.fieldAddr 10 (some 2))), [.tmp 4], (some 99), none⟩,
              ⟨(.prim (.load (some 2))), [.tmp 99], (some 100), none⟩,
              ⟨(.prim (.buildSl (some 2))), [.tmp 98, .tmp 100], (some 101), none⟩,
              ⟨(.prim (.load none)), [.tmp 6], (some 102), none⟩,
              ⟨(.prim (.buildSl none)), [.const (.int .i64 0), .const (.int .i64 50), .const (.int .i64 121)], (some 103), none⟩,
              ⟨.callV, [.tmp 102, .tmp 103], (some 104), none⟩,
              ⟨(.prim (.build [(.bool false), (.sl .clip []), .nilfn] [(0, 1), (1, 1), (2, 1)])), [.const (.bool false), .tmp 101, .tmp 104], (some 105), none⟩,
              ⟨(.prim (.store (some 3))), [.tmp 2, .tmp 105], none, none⟩,
              ⟨(.prim .id), [.const (.bool true)], (some 3), none⟩] (some [[], [0], [], [2], [1, 3], [], [], [5, 6], [4, 7], [8, 7, 0, 1, 2, 3, 4, 5, 6, 7, 8], [9, 0, 1, 2, 3, 4, 5, 6, 7, 8, 9]]))
             .ret)
             .skip))))))))))))))))))))))))
 (.seq (.region [⟨(.prim (.build [(.bool false), (.sl .clip []), .nilfn] [])), [], (some 106), none⟩,
  ⟨(.prim (.store (some 3))), [.tmp 2, .tmp 106], none, none⟩,
  ⟨(.prim .id), [.const (.bool false)], (some 3), none⟩] none)
 .ret))))))
theorem F33 : IsFun Try.prog 33 1 107 c33 [.cell 2 (some 3), .tmp 3] := ⟨by decide, Try.f33, _, [], Try.func33, rfl, by decide, rfl, by kernel_rfl, by kernel_rfl⟩

/-- cashbox/wire.within -/
def c34 : ACode :=
 (.seq (.region [⟨(.prim .id), [.const (.bool false)], (some 6), none⟩] none)
 (.seq (.region [⟨(.prim .id), [.tmp 0], (some 7), none⟩,
  ⟨(.prim .id), [.tmp 1], (some 8), none⟩,
  ⟨(.prim (.bin .geq .none)), [.tmp 7, .tmp 8], (some 9), none⟩,
  ⟨(.prim .id), [.tmp 9], (some 10), none⟩,
  ⟨(.prim .id), [.tmp 0], (some 11), (some (10, true))⟩,
  ⟨(.prim .id), [.tmp 2], (some 12), (some (10, true))⟩,
  ⟨(.prim (.bin .leq .none)), [.tmp 11, .tmp 12], (some 13), (some (10, true))⟩,
  ⟨(.prim .pick), [.tmp 10, .tmp 13, .const (.bool false)], (some 14), none⟩,
  ⟨(.prim .id), [.tmp 14], (some 6), none⟩] none)
 .ret))
theorem F34 : IsFun Try.prog 34 3 15 c34 [.tmp 6] := ⟨by decide, Try.f34, _, [], Try.func34, rfl, by decide, rfl, by kernel_rfl, by kernel_rfl⟩

/-- cashbox/record.Named -/
def c35 : ACode :=
 (.seq (.region [⟨(.prim (.boxR (some 3))), [.tmp 0], (some 1), none⟩,
  ⟨(.prim .id), [.const (.bool false)], (some 2), none⟩] none)
 (.seq (.region [⟨(.prim (.fieldAddr 0 none)), [.tmp 1], (some 3), none⟩,
  ⟨(.prim (.load none)), [.tmp 3], (some 4), none⟩,
  ⟨(.call 59), [.tmp 4, .const (.int .i64 1), .const (.int .i64 1048576)], (some 5), none⟩,
  ⟨(.prim .id), [.tmp 5], (some 6), none⟩,
  ⟨(.prim (.fieldAddr 1 none)), [.tmp 1], (some 7), (some (6, true))⟩,
  ⟨(.prim (.load none)), [.tmp 7], (some 8), (some (6, true))⟩,
  ⟨(.call 59), [.tmp 8, .const (.int .i64 1), .const (.int .i64 1048576)], (some 9), (some (6, true))⟩,
  ⟨(.prim .pick), [.tmp 6, .tmp 9, .const (.bool false)], (some 10), none⟩,
  ⟨(.prim .id), [.tmp 10], (some 11), none⟩,
  ⟨(.prim (.fieldAddr 2 none)), [.tmp 1], (some 12), (some (11, true))⟩,
  ⟨(.prim (.load none)), [.tmp 12], (some 13), (some (11, true))⟩,
  ⟨(.call 59), [.tmp 13, .const (.int .i64 1), .const (.int .i64 1048576)], (some 14), (some (11, true))⟩,
  ⟨(.prim .pick), [.tmp 11, .tmp 14, .const (.bool false)], (some 15), none⟩,
  ⟨(.prim .id), [.tmp 15], (some 2), none⟩] none)
 .ret))
theorem F35 : IsFun Try.prog 35 1 16 c35 [.tmp 2] := ⟨by decide, Try.f35, _, [1], Try.func35, rfl, by decide, rfl, by kernel_rfl, by kernel_rfl⟩

-- loop: 1:m, 5:w, 11:, 12:, 13:
/-- cashbox/wire.body -/
def c36 : ACode :=
 (.seq (.region [⟨(.prim .id), [.const (.sl .clip [])], (some 4), none⟩] none)
 (.seq (.region [⟨(.prim (.alloc [(.sl .clip [])])), [], (some 5), none⟩] none)
 (.seq (.seq (.region [⟨(.prim .id), [.tmp 0], (some 8), none⟩,
  ⟨(.prim .nilc), [.tmp 8], (some 9), none⟩,
  ⟨(.prim (.fieldAddr 1 none)), [.tmp 9], (some 10), none⟩,
  ⟨(.prim (.load none)), [.tmp 10], (some 11), none⟩,
  ⟨(.prim .len), [.tmp 11], (some 12), none⟩,
  ⟨(.prim .id), [.const (.int .i64 0)], (some 13), none⟩] none)
 (.block 0
  (.loop
   (.seq (.region [⟨(.prim (.bin .lss .none)), [.tmp 13, .tmp 12], (some 14), none⟩] none)
   (.seq (.cond (.tmp 14)
    .skip
    (.exit 0))
   (.seq (.block 1
    (.seq (.region [⟨(.prim (.idxSl (some 2))), [.tmp 11, .tmp 13], (some 15), none⟩,
     ⟨(.prim (.load (some 2))), [.tmp 15], (some 16), none⟩,
     ⟨(.prim (.alloc [.nilfn, .nilfn])), [], (some 7), none⟩,
     ⟨(.prim (.store (some 2))), [.tmp 7, .tmp 16], none, none⟩] none)
    (.region [⟨(.prim (.fieldAddr 0 none)), [.tmp 7], (some 17), none⟩,
     ⟨(.prim (.load none)), [.tmp 17], (some 18), none⟩,
     ⟨(.prim .id), [.tmp 1], (some 19), none⟩,
     ⟨.callV, [.tmp 18, .tmp 5, .tmp 19], (some 20), none⟩] none)))
   (.region [⟨(.prim (.bin .add .none)), [.tmp 13, .const (.int .i64 1)], (some 21), none⟩,
    ⟨(.prim .id), [.tmp 21], (some 13), none⟩] none)))))))
 (.seq (.region [⟨(.prim (.load none)), [.tmp 5], (some 22), none⟩,
  ⟨(.prim .id), [.tmp 22], (some 4), none⟩] none)
 .ret))))
theorem F36 : IsFun Try.prog 36 2 23 c36 [.tmp 4] := ⟨by decide, Try.f36, _, [], Try.func36, rfl, by decide, rfl, by kernel_rfl, by kernel_rfl⟩

/-- cashbox/sums.Open -/
def c37 : ACode :=
 (.seq (.region [⟨(.prim .id), [.const (.sl .clip [])], (some 2), none⟩,
  ⟨(.prim .id), [.const (.bool false)], (some 3), none⟩] none)
 (.seq (.region [⟨(.prim .id), [.tmp 0], (some 5), none⟩,
  ⟨(.prim .len), [.tmp 5], (some 6), none⟩,
  ⟨(.prim (.bin .sub .none)), [.tmp 6, .const (.int .i64 4)], (some 7), none⟩,
  ⟨(.prim .id), [.tmp 7], (some 4), none⟩] none)
 (.seq (.seq (.region [⟨(.prim .id), [.tmp 4], (some 8), none⟩,
  ⟨(.prim (.bin .lss .none)), [.tmp 8, .const (.int .i64 0)], (some 9), none⟩,
  ⟨(.prim .id), [.tmp 9], (some 10), none⟩,
  ⟨(.prim .id), [.tmp 0], (some 11), (some (10, false))⟩,
  ⟨(.prim .id), [.tmp 4], (some 12), (some (10, false))⟩,
  ⟨(.prim .id), [.tmp 4], (some 13), (some (10, false))⟩,
  ⟨(.prim (.slcSl none false true true)), [.tmp 11, .tmp 12, .tmp 13], (some 14), (some (10, false))⟩,
  ⟨(.call 48), [.tmp 14], (some 15), (some (10, false))⟩,
  ⟨(.prim .id), [.tmp 4], (some 16), (some (10, false))⟩,
  ⟨(.prim (.slcSl none true false false)), [.tmp 15, .tmp 16], (some 17), (some (10, false))⟩,
  ⟨(.prim .strOf), [.tmp 17], (some 18), (some (10, false))⟩,
  ⟨(.prim .id), [.tmp 0], (some 19), (some (10, false))⟩,
  ⟨(.prim .id), [.tmp 4], (some 20), (some (10, false))⟩,
  ⟨(.prim (.slcSl none true false false)), [.tmp 19, .tmp 20], (some 21), (some (10, false))⟩,
  ⟨(.prim .strOf), [.tmp 21], (some 22), (some (10, false))⟩,
  ⟨(.prim (.bin .neq .none)), [.tmp 18, .tmp 22], (some 23), (some (10, false))⟩,
  ⟨(.prim .pick), [.tmp 10, .const (.bool true), .tmp 23], (some 24), none⟩] (some [[], [0], [1], [2], [2], [2], [3, 4, 5, 2], [6, 2, 2], [2], [7, 8, 2], [9, 2], [2], [2], [11, 12, 2], [13, 2], [10, 14, 2], [2, 15]]))
 (.cond (.tmp 24)
  (.seq (.region [⟨(.prim .id), [.const (.sl .clip [])], (some 2), none⟩,
   ⟨(.prim .id), [.const (.bool false)], (some 3), none⟩] none)
  .ret)
  .skip))
 (.seq (.region [⟨(.prim .id), [.tmp 0], (some 25), none⟩,
  ⟨(.prim .id), [.tmp 4], (some 26), none⟩,
  ⟨(.prim (.slcSl none false true false)), [.tmp 25, .tmp 26], (some 27), none⟩,
  ⟨(.prim (.append none)), [.const (.sl .clip []), .tmp 27], (some 28), none⟩,
  ⟨(.prim .id), [.tmp 28], (some 2), none⟩,
  ⟨(.prim .id), [.const (.bool true)], (some 3), none⟩] none)
 .ret))))
theorem F37 : IsFun Try.prog 37 1 29 c37 [.tmp 2, .tmp 3] := ⟨by decide, Try.f37, _, [], Try.func37, rfl, by decide, rfl, by kernel_rfl, by kernel_rfl⟩

-- loop: 5:n, 10:, 11:, 12:
/-- (*cashbox/wire.reader).number -/
def c38 : ACode :=
 (.seq (.region [⟨(.prim .id), [.const (.int .i64 0)], (some 4), none⟩] none)
 (.seq (.region [⟨(.prim .id), [.const (.int .i64 0)], (some 5), none⟩] none)
 (.seq (.seq (.region [⟨(.prim .id), [.tmp 0], (some 8), none⟩,
  ⟨(.prim .id), [.tmp 1], (some 9), none⟩,
  ⟨(.call 60), [.tmp 8, .tmp 9], (some 10), none⟩,
  ⟨(.prim .len), [.tmp 10], (some 11), none⟩,
  ⟨(.prim .id), [.const (.int .i64 0)], (some 12), none⟩] none)
 (.block 0
  (.loop
   (.seq (.region [⟨(.prim (.bin .lss .none)), [.tmp 12, .tmp 11], (some 13), none⟩] none)
   (.seq (.cond (.tmp 13)
    .skip
    (.exit 0))
   (.seq (.block 1
    (.seq (.region [⟨(.prim .id), [.tmp 12], (some 14), none⟩,
     ⟨(.prim (.idxSl none)), [.tmp 10, .tmp 12], (some 15), none⟩,
     ⟨(.prim (.load none)), [.tmp 15], (some 16), none⟩,
     ⟨(.prim .id), [.tmp 14], (some 6), none⟩,
     ⟨(.prim .id), [.tmp 16], (some 7), none⟩] none)
    (.region [⟨(.prim .id), [.tmp 5], (some 17), none⟩,
     ⟨(.prim .id), [.tmp 7], (some 18), none⟩,
     ⟨(.prim (.conv .i64)), [.tmp 18], (some 19), none⟩,
     ⟨(.prim .id), [.tmp 6], (some 20), none⟩,
     ⟨(.prim (.bin .mul .none)), [.const (.int .i64 8), .tmp 20], (some 21), none⟩,
     ⟨(.prim (.bin .shl .none)), [.tmp 19, .tmp 21], (some 22), none⟩,
     ⟨(.prim (.bin .or .none)), [.tmp 17, .tmp 22], (some 23), none⟩,
     ⟨(.prim .id), [.tmp 23], (some 5), none⟩] none)))
   (.region [⟨(.prim (.bin .add .none)), [.tmp 12, .const (.int .i64 1)], (some 24), none⟩,
    ⟨(.prim .id), [.tmp 24], (some 12), none⟩] none)))))))
 (.seq (.region [⟨(.prim .id), [.tmp 5], (some 25), none⟩,
  ⟨(.prim .id), [.tmp 25], (some 4), none⟩] none)
 .ret))))
theorem F38 : IsFun Try.prog 38 2 26 c38 [.tmp 4] := ⟨by decide, Try.f38, _, [], Try.func38, rfl, by decide, rfl, by kernel_rfl, by kernel_rfl⟩

/-- cashbox/cashboxref01.Open -/
def c39 : ACode :=
 (.seq (.region [⟨(.prim .id), [.const (.sl .clip [])], (some 2), none⟩,
  ⟨(.prim .id), [.const (.bool false)], (some 3), none⟩] none)
 (.seq (.seq (.region [⟨(.prim .id), [.tmp 0], (some 7), none⟩,
  ⟨(.prim .len), [.tmp 7], (some 8), none⟩,
  ⟨(.prim (.bin .lss .none)), [.tmp 8, .const (.int .i64 4)], (some 9), none⟩] none)
 (.cond (.tmp 9)
  (.seq (.region [⟨(.prim .id), [.const (.sl .clip [])], (some 2), none⟩,
   ⟨(.prim .id), [.const (.bool false)], (some 3), none⟩] none)
  .ret)
  .skip))
 (.seq (.region [⟨(.prim .id), [.tmp 0], (some 10), none⟩,
  ⟨(.prim .len), [.tmp 10], (some 11), none⟩,
  ⟨(.prim (.bin .sub .none)), [.tmp 11, .const (.int .i64 4)], (some 12), none⟩,
  ⟨(.prim .id), [.tmp 12], (some 4), none⟩] none)
 (.seq (.region [⟨(.prim .id), [.tmp 0], (some 13), none⟩,
  ⟨(.prim .id), [.tmp 4], (some 14), none⟩,
  ⟨(.prim (.slcSl none false true false)), [.tmp 13, .tmp 14], (some 15), none⟩,
  ⟨(.call 61), [.tmp 15], (some 16), none⟩,
  ⟨(.prim .id), [.tmp 16], (some 5), none⟩] none)
 (.seq (.seq (.region [⟨(.prim .id), [.tmp 0], (some 17), none⟩,
  ⟨(.prim .id), [.tmp 4], (some 18), none⟩,
  ⟨(.prim (.idxSl none)), [.tmp 17, .tmp 18], (some 19), none⟩,
  ⟨(.prim (.load none)), [.tmp 19], (some 20), none⟩,
  ⟨(.prim .id), [.tmp 5], (some 21), none⟩,
  ⟨(.prim (.conv .u8)), [.tmp 21], (some 22), none⟩,
  ⟨(.prim (.bin .neq .none)), [.tmp 20, .tmp 22], (some 23), none⟩,
  ⟨(.prim .id), [.tmp 23], (some 24), none⟩,
  ⟨(.prim .id), [.tmp 0], (some 25), (some (24, false))⟩,
  ⟨(.prim .id), [.tmp 4], (some 26), (some (24, false))⟩,
  ⟨(.prim (.bin .add .none)), [.tmp 26, .const (.int .i64 1)], (some 27), (some (24, false))⟩,
  ⟨(.prim (.idxSl none)), [.tmp 25, .tmp 27], (some 28), (some (24, false))⟩,
  ⟨(.prim (.load none)), [.tmp 28], (some 29), (some (24, false))⟩,
  ⟨(.prim .id), [.tmp 5], (some 30), (some (24, false))⟩,
  ⟨(.prim (.bin .shr .none)), [.tmp 30, .const (.int .u64 8)], (some 31), (some (24, false))⟩,
  ⟨(.prim (.conv .u8)), [.tmp 31], (some 32), (some (24, false))⟩,
  ⟨(.prim (.bin .neq .none)), [.tmp 29, .tmp 32], (some 33), (some (24, false))⟩,
  ⟨(.prim .pick), [.tmp 24, .const (.bool true), .tmp 33], (some 34), none⟩,
  ⟨(.prim .id), [.tmp 34], (some 35), none⟩,
  ⟨(.prim .id), [.tmp 0], (some 36), (some (35, false))⟩,
  ⟨(.prim .id), [.tmp 4], (some 37), (some (35, false))⟩,
  ⟨(.prim (.bin .add .none)), [.tmp 37, .const (.int .i64 2)], (some 38), (some (35, false))⟩,
  ⟨(.prim (.idxSl none)), [.tmp 36, .tmp 38], (some 39), (some (35, false))⟩,
  ⟨(.prim (.load none)), [.tmp 39], (some 40), (some (35, false))⟩,
  ⟨(.prim .id), [.tmp 5], (some 41), (some (35, false))⟩,
  ⟨(.prim (.bin .shr .none)), [.tmp 41, .const (.int .u64 16)], (some 42), (some (35, false))⟩,
  ⟨(.prim (.conv .u8)), [.tmp 42], (some 43), (some (35, false))⟩,
  ⟨(.prim (.bin .neq .none)), [.tmp 40, .tmp 43], (some 44), (some (35, false))⟩,
  ⟨(.prim .pick), [.tmp 35, .const (.bool true), .tmp 44], (some 45), none⟩,
  ⟨(.prim .id), [.tmp 45], (some 46), none⟩,
  ⟨(.prim .id), [.tmp 0], (some 47), (some (46, false))⟩,
  ⟨(.prim .id), [.tmp 4], (some 48), (some (46, false))⟩,
  ⟨(.prim (.bin .add .none)), [.tmp 48, .const (.int .i64 3)], (some 49), (some (46, false))⟩,
  ⟨(.prim (.idxSl none)), [.tmp 47, .tmp 49], (some 50), (some (46, false))⟩,
  ⟨(.prim (.load none)), [.tmp 50], (some 51), (some (46, false))⟩,
  ⟨(.prim .id), [.tmp 5], (some 52), (some (46, false))⟩,
  ⟨(.prim (.bin .shr .none)), [.tmp 52, .const (.int .u64 24)], (some 53), (some (46, false))⟩,
  ⟨(.prim (.conv .u8)), [.tmp 53], (some 54), (some (46, false))⟩,
  ⟨(.prim (.bin .neq .none)), [.tmp 51, .tmp 54], (some 55), (some (46, false))⟩,
  ⟨(.prim .pick), [.tmp 46, .const (.bool true), .tmp 55], (some 56), none⟩] none)
 (.cond (.tmp 56)
  (.seq (.region [⟨(.prim .id), [.const (.sl .clip [])], (some 2), none⟩,
   ⟨(.prim .id), [.const (.bool false)], (some 3), none⟩] none)
  .ret)
  .skip))
 (.seq (.region [⟨(.prim .id), [.const (.sl .clip [])], (some 6), none⟩] none)
 (.seq (.region [⟨(.prim .id), [.tmp 6], (some 57), none⟩,
  ⟨(.prim .id), [.tmp 0], (some 58), none⟩,
  ⟨(.prim .id), [.tmp 4], (some 59), none⟩,
  ⟨(.prim (.slcSl none false true false)), [.tmp 58, .tmp 59], (some 60), none⟩,
  ⟨(.prim (.append none)), [.tmp 57, .tmp 60], (some 61), none⟩,
  ⟨(.prim .id), [.tmp 61], (some 2), none⟩,
  ⟨(.prim .id), [.const (.bool true)], (some 3), none⟩] none)
 .ret)))))))
theorem F39 : IsFun Try.prog 39 1 62 c39 [.tmp 2, .tmp 3] := ⟨by decide, Try.f39, _, [], Try.func39, rfl, by decide, rfl, by kernel_rfl, by kernel_rfl⟩

/-- (*cashbox/cashboxref07.Reader).Byte -/
def c40 : ACode :=
 (.seq (.region [⟨(.prim .id), [.const (.int .i64 0)], (some 2), none⟩] none)
 (.seq (.seq (.region [⟨(.prim .id), [.tmp 0], (some 4), none⟩,
  ⟨(.prim .nilc), [.tmp 4], (some 5), none⟩,
  ⟨(.prim (.fieldAddr 1 none)), [.tmp 5], (some 6), none⟩,
  ⟨(.prim (.load none)), [.tmp 6], (some 7), none⟩,
  ⟨(.prim .id), [.tmp 0], (some 8), none⟩,
  ⟨(.prim .nilc), [.tmp 8], (some 9), none⟩,
  ⟨(.prim (.fieldAddr 0 none)), [.tmp 9], (some 10), none⟩,
  ⟨(.prim (.load none)), [.tmp 10], (some 11), none⟩,
  ⟨(.prim .len), [.tmp 11], (some 12), none⟩,
  ⟨(.prim (.bin .geq .none)), [.tmp 7, .tmp 12], (some 13), none⟩] (some [[], [0], [1], [2], [], [4], [5], [6], [7], [3, 8]]))
 (.cond (.tmp 13)
  (.seq (.region [⟨(.prim .id), [.tmp 0], (some 14), none⟩,
   ⟨(.prim .nilc), [.tmp 14], (some 15), none⟩,
   ⟨(.prim (.fieldAddr 2 none)), [.tmp 15], (some 16), none⟩,
   ⟨(.prim (.store none)), [.tmp 16, .const (.bool true)], none, none⟩] none)
  (.seq (.region [⟨(.prim .id), [.const (.int .i64 0)], (some 2), none⟩] none)
  .ret))
  .skip))
 (.seq (.region [⟨(.prim .id), [.tmp 0], (some 17), none⟩,
  ⟨(.prim .nilc), [.tmp 17], (some 18), none⟩,
  ⟨(.prim (.fieldAddr 0 none)), [.tmp 18], (some 19), none⟩,
  ⟨(.prim (.load none)), [.tmp 19], (some 20), none⟩,
  ⟨(.prim .id), [.tmp 0], (some 21), none⟩,
  ⟨(.prim .nilc), [.tmp 21], (some 22), none⟩,
  ⟨(.prim (.fieldAddr 1 none)), [.tmp 22], (some 23), none⟩,
  ⟨(.prim (.load none)), [.tmp 23], (some 24), none⟩,
  ⟨(.prim (.idxSl none)), [.tmp 20, .tmp 24], (some 25), none⟩,
  ⟨(.prim (.load none)), [.tmp 25], (some 26), none⟩,
  ⟨(.prim (.conv .i64)), [.tmp 26], (some 27), none⟩,
  ⟨(.prim .id), [.tmp 27], (some 3), none⟩] (some [[], [0], [1], [2], [], [4], [5], [6], [3, 7], [8], [9], [10, 0, 1, 2, 3, 4, 5, 6, 7, 8, 9, 10]]))
 (.seq (.region [⟨(.prim .id), [.tmp 0], (some 28), none⟩,
  ⟨(.prim .nilc), [.tmp 28], (some 29), none⟩,
  ⟨(.prim (.fieldAddr 1 none)), [.tmp 29], (some 30), none⟩,
  ⟨(.prim (.load none)), [.tmp 30], (some 31), none⟩,
  ⟨(.prim (.bin .add .none)), [.tmp 31, .const (.int .i64 1)], (some 32), none⟩,
  ⟨(.prim .nilc), [.tmp 28], (some 33), none⟩,
  ⟨(.prim (.fieldAddr 1 none)), [.tmp 33], (some 34), none⟩,
  ⟨(.prim (.store none)), [.tmp 34, .tmp 32], none, none⟩] none)
 (.seq (.region [⟨(.prim .id), [.tmp 3], (some 35), none⟩,
  ⟨(.prim .id), [.tmp 35], (some 2), none⟩] none)
 .ret)))))
theorem F40 : IsFun Try.prog 40 1 36 c40 [.tmp 2] := ⟨by decide, Try.f40, _, [], Try.func40, rfl, by decide, rfl, by kernel_rfl, by kernel_rfl⟩

/-- (*cashbox/cashboxref07.Reader).Three -/
def c41 : ACode :=
 (.seq (.region [⟨(.prim .id), [.const (.int .i64 0)], (some 2), none⟩] none)
 (.seq (.region [⟨(.prim .id), [.tmp 0], (some 6), none⟩,
  ⟨(.call 40), [.tmp 6], (some 7), none⟩,
  ⟨(.prim .id), [.tmp 7], (some 3), none⟩] none)
 (.seq (.region [⟨(.prim .id), [.tmp 0], (some 8), none⟩,
  ⟨(.call 40), [.tmp 8], (some 9), none⟩,
  ⟨(.prim .id), [.tmp 9], (some 4), none⟩] none)
 (.seq (.region [⟨(.prim .id), [.tmp 0], (some 10), none⟩,
  ⟨(.call 40), [.tmp 10], (some 11), none⟩,
  ⟨(.prim .id), [.tmp 11], (some 5), none⟩] none)
 (.seq (.region [⟨(.prim .id), [.tmp 3], (some 12), none⟩,
  ⟨(.prim .id), [.tmp 4], (some 13), none⟩,
  ⟨(.prim (.bin .shl .none)), [.tmp 13, .const (.int .u64 8)], (some 14), none⟩,
  ⟨(.prim (.bin .add .none)), [.tmp 12, .tmp 14], (some 15), none⟩,
  ⟨(.prim .id), [.tmp 5], (some 16), none⟩,
  ⟨(.prim (.bin .shl .none)), [.tmp 16, .const (.int .u64 16)], (some 17), none⟩,
  ⟨(.prim (.bin .add .none)), [.tmp 15, .tmp 17], (some 18), none⟩,
  ⟨(.prim .id), [.tmp 18], (some 2), none⟩] none)
 .ret)))))
theorem F41 : IsFun Try.prog 41 1 19 c41 [.tmp 2] := ⟨by decide, Try.f41, _, [], Try.func41, rfl, by decide, rfl, by kernel_rfl, by kernel_rfl⟩

/-- (*cashbox/cashboxref07.Reader).Name -/
def c42 : ACode :=
 (.seq (.region [⟨(.prim (.alloc [(.int .i64 0), (.int .i64 0), (.int .i64 0)])), [], (some 2), none⟩] none)
 (.seq (.region [⟨(.prim .id), [.tmp 0], (some 6), none⟩,
  ⟨(.call 41), [.tmp 6], (some 7), none⟩,
  ⟨(.prim .id), [.tmp 7], (some 3), none⟩] none)
 (.seq (.region [⟨(.prim .id), [.tmp 0], (some 8), none⟩,
  ⟨(.call 41), [.tmp 8], (some 9), none⟩,
  ⟨(.prim .id), [.tmp 9], (some 4), none⟩] none)
 (.seq (.region [⟨(.prim .id), [.tmp 0], (some 10), none⟩,
  ⟨(.call 41), [.tmp 10], (some 11), none⟩,
  ⟨(.prim .id), [.tmp 11], (some 5), none⟩] none)
 (.seq (.region [⟨(.prim .id), [.tmp 3], (some 12), none⟩,
  ⟨(.prim .id), [.tmp 4], (some 13), none⟩,
  ⟨(.prim .id), [.tmp 5], (some 14), none⟩,
  ⟨(.prim (.build [(.int .i64 0), (.int .i64 0), (.int .i64 0)] [(0, 1), (1, 1), (2, 1)])), [.tmp 12, .tmp 13, .tmp 14], (some 15), none⟩,
  ⟨(.prim (.store (some 3))), [.tmp 2, .tmp 15], none, none⟩] none)
 .ret)))))
theorem F42 : IsFun Try.prog 42 1 16 c42 [.cell 2 (some 3)] := ⟨by decide, Try.f42, _, [], Try.func42, rfl, by decide, rfl, by kernel_rfl, by kernel_rfl⟩

-- loop: 0:r, 2:, 3:v, 4:i
/-- (*cashbox/cashboxref07.Reader).Value -/
def c43 : ACode :=
 (.seq (.region [⟨(.prim (.alloc [(.int .u8 0), (.int .u8 0), (.int .u8 0), (.int .u8 0), (.int .u8 0), (.int .u8 0), (.int .u8 0), (.int .u8 0)])), [], (some 2), none⟩] none)
 (.seq (.region [⟨(.prim (.alloc [(.int .u8 0), (.int .u8 0), (.int .u8 0), (.int .u8 0), (.int .u8 0), (.int .u8 0), (.int .u8 0), (.int .u8 0)])), [], (some 3), none⟩] none)
 (.seq (.seq (.region [⟨(.prim .id), [.const (.int .i64 0)], (some 4), none⟩] none)
 (.block 0
  (.loop
   (.seq (.seq (.region [⟨(.prim .id), [.tmp 4], (some 5), none⟩,
    ⟨(.prim (.bin .lss .none)), [.tmp 5, .const (.int .i64 8)], (some 6), none⟩] none)
   (.cond (.tmp 6)
    .skip
    (.exit 0)))
   (.seq (.block 1
    (.region [⟨(.prim .id), [.tmp 4], (some 9), none⟩,
     ⟨(.prim .id), [.tmp 0], (some 10), none⟩,
     ⟨(.call 40), [.tmp 10], (some 11), none⟩,
     ⟨(.prim (.conv .u8)), [.tmp 11], (some 12), none⟩,
     ⟨(.prim (.idxArr 8 none)), [.tmp 3, .tmp 9], (some 13), none⟩,
     ⟨(.prim (.store none)), [.tmp 13, .tmp 12], none, none⟩] none))
   (.region [⟨(.prim .id), [.tmp 4], (some 7), none⟩,
    ⟨(.prim (.bin .add .none)), [.tmp 7, .const (.int .i64 1)], (some 8), none⟩,
    ⟨(.prim .id), [.tmp 8], (some 4), none⟩] none))))))
 (.seq (.region [⟨(.prim (.load (some 8))), [.tmp 3], (some 14), none⟩,
  ⟨(.prim (.store (some 8))), [.tmp 2, .tmp 14], none, none⟩] none)
 .ret))))
theorem F43 : IsFun Try.prog 43 1 15 c43 [.cell 2 (some 8)] := ⟨by decide, Try.f43, _, [], Try.func43, rfl, by decide, rfl, by kernel_rfl, by kernel_rfl⟩

-- loop: 0:r, 3:n, 4:out, 5:i
/-- (*cashbox/cashboxref07.Reader).Writes -/
def c44 : ACode :=
 (.seq (.region [⟨(.prim .id), [.const (.sl .clip [])], (some 2), none⟩] none)
 (.seq (.region [⟨(.prim .id), [.tmp 0], (some 8), none⟩,
  ⟨(.call 40), [.tmp 8], (some 9), none⟩,
  ⟨(.prim .id), [.tmp 9], (some 3), none⟩] none)
 (.seq (.region [⟨(.prim .id), [.const (.sl .clip [])], (some 4), none⟩] none)
 (.seq (.seq (.region [⟨(.prim .id), [.const (.int .i64 0)], (some 5), none⟩] none)
 (.block 0
  (.loop
   (.seq (.seq (.region [⟨(.prim .id), [.tmp 5], (some 10), none⟩,
    ⟨(.prim .id), [.tmp 3], (some 11), none⟩,
    ⟨(.prim (.bin .lss .none)), [.tmp 10, .tmp 11], (some 12), none⟩,
    ⟨(.prim .id), [.tmp 12], (some 13), none⟩,
    ⟨(.prim .id), [.tmp 0], (some 14), (some (13, true))⟩,
    ⟨(.prim .nilc), [.tmp 14], (some 15), (some (13, true))⟩,
    ⟨(.prim (.fieldAddr 2 none)), [.tmp 15], (some 16), (some (13, true))⟩,
    ⟨(.prim (.load none)), [.tmp 16], (some 17), (some (13, true))⟩,
    ⟨(.prim (.un .not)), [.tmp 17], (some 18), (some (13, true))⟩,
    ⟨(.prim .pick), [.tmp 13, .tmp 18, .const (.bool false)], (some 19), none⟩] none)
   (.cond (.tmp 19)
    .skip
    (.exit 0)))
   (.seq (.block 1
    (.seq (.region [⟨(.prim .id), [.tmp 0], (some 22), none⟩,
     ⟨(.call 40), [.tmp 22], (some 23), none⟩,
     ⟨(.prim .id), [.tmp 23], (some 6), none⟩] none)
    (.seq (.region [⟨(.prim .id), [.tmp 0], (some 24), none⟩,
     ⟨(.call 43), [.tmp 24], (some 25), none⟩,
     ⟨(.prim (.alloc [(.int .u8 0), (.int .u8 0), (.int .u8 0), (.int .u8 0), (.int .u8 0), (.int .u8 0), (.int .u8 0), (.int .u8 0)])), [], (some 7), none⟩,
     ⟨(.prim (.store (some 8))), [.tmp 7, .tmp 25], none, none⟩] none)
    (.region [⟨(.prim .id), [.tmp 4], (some 26), none⟩,
     ⟨(.prim .id), [.tmp 6], (some 27), none⟩,
     ⟨(.prim (.load (some 8))), [.tmp 7], (some 28), none⟩,
     ⟨(.prim (.build [(.int .i64 0), (.int .u8 0), (.int .u8 0), (.int .u8 0), (.int .u8 0), (.int .u8 0), (.int .u8 0), (.int .u8 0), (.int .u8 0)] [(0, 1), (1, 8)])), [.tmp 27, .tmp 28], (some 29), none⟩,
     ⟨(.prim (.buildSl (some 9))), [.tmp 29], (some 30), none⟩,
     ⟨(.prim (.append (some 9))), [.tmp 26, .tmp 30], (some 31), none⟩,
     ⟨(.prim .id), [.tmp 31], (some 4), none⟩] none))))
   (.region [⟨(.prim .id), [.tmp 5], (some 20), none⟩,
    ⟨(.prim (.bin .add .none)), [.tmp 20, .const (.int .i64 1)], (some 21), none⟩,
    ⟨(.prim .id), [.tmp 21], (some 5), none⟩] none))))))
 (.seq (.region [⟨(.prim .id), [.tmp 4], (some 32), none⟩,
  ⟨(.prim .id), [.tmp 32], (some 2), none⟩] none)
 .ret)))))
theorem F44 : IsFun Try.prog 44 1 33 c44 [.tmp 2] := ⟨by decide, Try.f44, _, [], Try.func44, rfl, by decide, rfl, by kernel_rfl, by kernel_rfl⟩

/-- (*cashbox/cashboxref07.Reader).Flag -/
def c45 : ACode :=
 (.seq (.region [⟨(.prim .id), [.const (.bool false)], (some 2), none⟩] none)
 (.seq (.region [⟨(.prim .id), [.tmp 0], (some 4), none⟩,
  ⟨(.call 40), [.tmp 4], (some 5), none⟩,
  ⟨(.prim .id), [.tmp 5], (some 3), none⟩] none)
 (.seq (.region [⟨(.prim .id), [.tmp 0], (some 6), none⟩,
  ⟨(.prim .id), [.tmp 0], (some 7), none⟩,
  ⟨(.prim .nilc), [.tmp 7], (some 8), none⟩,
  ⟨(.prim (.fieldAddr 2 none)), [.tmp 8], (some 9), none⟩,
  ⟨(.prim (.load none)), [.tmp 9], (some 10), none⟩,
  ⟨(.prim .id), [.tmp 10], (some 11), none⟩,
  ⟨(.prim .id), [.tmp 3], (some 12), (some (11, false))⟩,
  ⟨(.prim (.bin .gtr .none)), [.tmp 12, .const (.int .i64 1)], (some 13), (some (11, false))⟩,
  ⟨(.prim .pick), [.tmp 11, .const (.bool true), .tmp 13], (some 14), none⟩,
  ⟨(.prim .nilc), [.tmp 6], (some 15), none⟩,
  ⟨(.prim (.fieldAddr 2 none)), [.tmp 15], (some 16), none⟩,
  ⟨(.prim (.store none)), [.tmp 16, .tmp 14], none, none⟩] none)
 (.seq (.region [⟨(.prim .id), [.tmp 3], (some 17), none⟩,
  ⟨(.prim (.bin .eql .none)), [.tmp 17, .const (.int .i64 1)], (some 18), none⟩,
  ⟨(.prim .id), [.tmp 18], (some 2), none⟩] none)
 .ret))))
theorem F45 : IsFun Try.prog 45 1 19 c45 [.tmp 2] := ⟨by decide, Try.f45, _, [], Try.func45, rfl, by decide, rfl, by kernel_rfl, by kernel_rfl⟩

-- loop: 0:a, 1:b, 5:i
/-- cashbox/cashboxref07.SameWrites -/
def c46 : ACode :=
 (.seq (.region [⟨(.prim .id), [.const (.bool false)], (some 4), none⟩] none)
 (.seq (.seq (.region [⟨(.prim .id), [.tmp 0], (some 6), none⟩,
  ⟨(.prim .len), [.tmp 6], (some 7), none⟩,
  ⟨(.prim .id), [.tmp 1], (some 8), none⟩,
  ⟨(.prim .len), [.tmp 8], (some 9), none⟩,
  ⟨(.prim (.bin .neq .none)), [.tmp 7, .tmp 9], (some 10), none⟩] none)
 (.cond (.tmp 10)
  (.seq (.region [⟨(.prim .id), [.const (.bool false)], (some 4), none⟩] none)
  .ret)
  .skip))
 (.seq (.seq (.region [⟨(.prim .id), [.const (.int .i64 0)], (some 5), none⟩] none)
 (.block 0
  (.loop
   (.seq (.seq (.region [⟨(.prim .id), [.tmp 5], (some 11), none⟩,
    ⟨(.prim .id), [.tmp 0], (some 12), none⟩,
    ⟨(.prim .len), [.tmp 12], (some 13), none⟩,
    ⟨(.prim (.bin .lss .none)), [.tmp 11, .tmp 13], (some 14), none⟩] none)
   (.cond (.tmp 14)
    .skip
    (.exit 0)))
   (.seq (.block 1
    (.seq (.region [⟨(.prim .id), [.tmp 0], (some 17), none⟩,
     ⟨(.prim .id), [.tmp 5], (some 18), none⟩,
     ⟨(.prim (.idxSl (some 9))), [.tmp 17, .tmp 18], (some 19), none⟩,
     ⟨(.prim (.load (some 9))), [.tmp 19], (some 20), none⟩,
     ⟨(.prim .id), [.tmp 1], (some 21), none⟩,
     ⟨(.prim .id), [.tmp 5], (some 22), none⟩,
     ⟨(.prim (.idxSl (some 9))), [.tmp 21, .tmp 22], (some 23), none⟩,
     ⟨(.prim (.load (some 9))), [.tmp 23], (some 24), none⟩,
     ⟨(.prim (.bin .neq (.flat [0, 0, 0, 0, 0, 0, 0, 0, 0]))), [.tmp 20, .tmp 24], (some 25), none⟩] (some [[], [], [0, 1], [2], [], [], [4, 5], [6], [3, 7]]))
    (.cond (.tmp 25)
     (.seq (.region [⟨(.prim .id), [.const (.bool false)], (some 4), none⟩] none)
     .ret)
     .skip)))
   (.region [⟨(.prim .id), [.tmp 5], (some 15), none⟩,
    ⟨(.prim (.bin .add .none)), [.tmp 15, .const (.int .i64 1)], (some 16), none⟩,
    ⟨(.prim .id), [.tmp 16], (some 5), none⟩] none))))))
 (.seq (.region [⟨(.prim .id), [.const (.bool true)], (some 4), none⟩] none)
 .ret))))
theorem F46 : IsFun Try.prog 46 2 26 c46 [.tmp 4] := ⟨by decide, Try.f46, _, [], Try.func46, rfl, by decide, rfl, by kernel_rfl, by kernel_rfl⟩

-- loop: 0:w, 1:n, 6:, 7:
/-- (*cashbox/wire.writer).number -/
def c47 : ACode :=
 (.seq (.region [⟨(.prim .id), [.tmp 2], (some 6), none⟩,
  ⟨(.prim .id), [.const (.int .i64 0)], (some 7), none⟩] none)
 (.block 0
  (.loop
   (.seq (.region [⟨(.prim (.bin .lss .none)), [.tmp 7, .tmp 6], (some 8), none⟩] none)
   (.seq (.cond (.tmp 8)
    .skip
    (.exit 0))
   (.seq (.block 1
    (.seq (.region [⟨(.prim .id), [.tmp 0], (some 9), none⟩,
     ⟨(.prim .id), [.tmp 0], (some 10), none⟩,
     ⟨(.prim .nilc), [.tmp 10], (some 11), none⟩,
     ⟨(.prim (.load none)), [.tmp 11], (some 12), none⟩,
     ⟨(.prim .id), [.tmp 1], (some 13), none⟩,
     ⟨(.prim (.conv .u8)), [.tmp 13], (some 14), none⟩,
     ⟨(.prim (.buildSl none)), [.tmp 14], (some 15), none⟩,
     ⟨(.prim (.append none)), [.tmp 12, .tmp 15], (some 16), none⟩,
     ⟨(.prim .nilc), [.tmp 9], (some 17), none⟩,
     ⟨(.prim (.store none)), [.tmp 17, .tmp 16], none, none⟩] none)
    (.region [⟨(.prim .id), [.tmp 1], (some 18), none⟩,
     ⟨(.prim (.bin .shr .none)), [.tmp 18, .const (.int .u64 8)], (some 19), none⟩,
     ⟨(.prim .id), [.tmp 19], (some 1), none⟩] none)))
   (.region [⟨(.prim (.bin .add .none)), [.tmp 7, .const (.int .i64 1)], (some 20), none⟩,
    ⟨(.prim .id), [.tmp 20], (some 7), none⟩] none)))))))
theorem F47 : IsFun Try.prog 47 3 21 c47 [] := ⟨by decide, Try.f47, _, [], Try.func47, rfl, by decide, rfl, by kernel_rfl, by kernel_rfl⟩

/-- cashbox/sums.Seal -/
def c48 : ACode :=
 (.seq (.region [⟨(.prim .id), [.const (.sl .clip [])], (some 2), none⟩] none)
 (.seq (.region [⟨(.prim .id), [.tmp 0], (some 4), none⟩,
  ⟨(.call 62), [.tmp 4], (some 5), none⟩,
  ⟨(.prim .id), [.tmp 5], (some 3), none⟩] none)
 (.seq (.region [⟨(.prim .id), [.tmp 0], (some 6), none⟩,
  ⟨(.prim .id), [.tmp 0], (some 7), none⟩,
  ⟨(.prim .len), [.tmp 7], (some 8), none⟩,
  ⟨(.prim .id), [.tmp 0], (some 9), none⟩,
  ⟨(.prim .len), [.tmp 9], (some 10), none⟩,
  ⟨(.prim (.slcSl none false true true)), [.tmp 6, .tmp 8, .tmp 10], (some 11), none⟩,
  ⟨(.prim .id), [.tmp 3], (some 12), none⟩,
  ⟨(.prim (.conv .u8)), [.tmp 12], (some 13), none⟩,
  ⟨(.prim .id), [.tmp 3], (some 14), none⟩,
  ⟨(.prim (.bin .shr .none)), [.tmp 14, .const (.int .u64 8)], (some 15), none⟩,
  ⟨(.prim (.conv .u8)), [.tmp 15], (some 16), none⟩,
  ⟨(.prim .id), [.tmp 3], (some 17), none⟩,
  ⟨(.prim (.bin .shr .none)), [.tmp 17, .const (.int .u64 16)], (some 18), none⟩,
  ⟨(.prim (.conv .u8)), [.tmp 18], (some 19), none⟩,
  ⟨(.prim .id), [.tmp 3], (some 20), none⟩,
  ⟨(.prim (.bin .shr .none)), [.tmp 20, .const (.int .u64 24)], (some 21), none⟩,
  ⟨(.prim (.conv .u8)), [.tmp 21], (some 22), none⟩,
  ⟨(.prim (.buildSl none)), [.tmp 13, .tmp 16, .tmp 19, .tmp 22], (some 23), none⟩,
  ⟨(.prim (.append none)), [.tmp 11, .tmp 23], (some 24), none⟩,
  ⟨(.prim .id), [.tmp 24], (some 2), none⟩] none)
 .ret)))
theorem F48 : IsFun Try.prog 48 1 25 c48 [.tmp 2] := ⟨by decide, Try.f48, _, [], Try.func48, rfl, by decide, rfl, by kernel_rfl, by kernel_rfl⟩

-- loop: 0:s1, 1:s2, 12:, 13:
/-- slices.Equal[[]cashbox/api.Write,cashbox/api.Write] -/
def c49 : ACode :=
 (.seq (.region [⟨(.prim .id), [.const (.bool false)], (some 4), none⟩] none)
 (.seq (.seq (.region [⟨(.prim .id), [.tmp 0], (some 6), none⟩,
  ⟨(.prim .len), [.tmp 6], (some 7), none⟩,
  ⟨(.prim .id), [.tmp 1], (some 8), none⟩,
  ⟨(.prim .len), [.tmp 8], (some 9), none⟩,
  ⟨(.prim (.bin .neq .none)), [.tmp 7, .tmp 9], (some 10), none⟩] none)
 (.cond (.tmp 10)
  (.seq (.region [⟨(.prim .id), [.const (.bool false)], (some 4), none⟩] none)
  .ret)
  .skip))
 (.seq (.seq (.region [⟨(.prim .id), [.tmp 0], (some 11), none⟩,
  ⟨(.prim .len), [.tmp 11], (some 12), none⟩,
  ⟨(.prim .id), [.const (.int .i64 0)], (some 13), none⟩] none)
 (.block 0
  (.loop
   (.seq (.region [⟨(.prim (.bin .lss .none)), [.tmp 13, .tmp 12], (some 14), none⟩] none)
   (.seq (.cond (.tmp 14)
    .skip
    (.exit 0))
   (.seq (.block 1
    (.seq (.region [⟨(.prim .id), [.tmp 13], (some 15), none⟩,
     ⟨(.prim .id), [.tmp 15], (some 5), none⟩] none)
    (.seq (.region [⟨(.prim .id), [.tmp 0], (some 16), none⟩,
     ⟨(.prim .id), [.tmp 5], (some 17), none⟩,
     ⟨(.prim (.idxSl (some 9))), [.tmp 16, .tmp 17], (some 18), none⟩,
     ⟨(.prim (.load (some 9))), [.tmp 18], (some 19), none⟩,
     ⟨(.prim .id), [.tmp 1], (some 20), none⟩,
     ⟨(.prim .id), [.tmp 5], (some 21), none⟩,
     ⟨(.prim (.idxSl (some 9))), [.tmp 20, .tmp 21], (some 22), none⟩,
     ⟨(.prim (.load (some 9))), [.tmp 22], (some 23), none⟩,
     ⟨(.prim (.bin .neq (.flat [0, 0, 0, 0, 0, 0, 0, 0, 0]))), [.tmp 19, .tmp 23], (some 24), none⟩] (some [[], [], [0, 1], [2], [], [], [4, 5], [6], [3, 7]]))
    (.cond (.tmp 24)
     (.seq (.region [⟨(.prim .id), [.const (.bool false)], (some 4), none⟩] none)
     .ret)
     .skip))))
   (.region [⟨(.prim (.bin .add .none)), [.tmp 13, .const (.int .i64 1)], (some 25), none⟩,
    ⟨(.prim .id), [.tmp 25], (some 13), none⟩] none)))))))
 (.seq (.region [⟨(.prim .id), [.const (.bool true)], (some 4), none⟩] none)
 .ret))))
theorem F49 : IsFun Try.prog 49 2 26 c49 [.tmp 4] := ⟨by decide, Try.f49, _, [], Try.func49, rfl, by decide, rfl, by kernel_rfl, by kernel_rfl⟩

/-- cashbox/wire.all -/
def c50 : ACode :=
 (.seq (.region [⟨(.prim (.alloc [.nilfn, .nilfn, .nilfn, .nilfn, .nilfn, .nilfn, .nilfn, .nilfn, .nilfn, .nilfn, .nilfn, .nilfn, .nilfn, .nilfn, .nilfn, .nilfn, .nilfn, .nilfn, .nilfn, .nilfn])), [], (some 0), none⟩] none)
 (.seq (.region [⟨(.prim .id), [.const (.fn (.func 63) [] [])], (some 1), none⟩] none)
 (.seq (.region [⟨(.prim (.build [.nilfn, .nilfn] [(0, 1), (1, 1)])), [.const (.fn (.func 66) [] []), .const (.fn (.func 67) [] [])], (some 12), none⟩,
  ⟨(.prim (.alloc [.nilfn, .nilfn])), [], (some 2), none⟩,
  ⟨(.prim (.store (some 2))), [.tmp 2, .tmp 12], none, none⟩] none)
 (.seq (.region [⟨(.prim .id), [.tmp 1], (some 13), none⟩,
  ⟨.callV, [.tmp 13, .const (.fn (.func 68) [] []), .const (.int .i64 3)], (some 14), none⟩,
  ⟨(.prim (.alloc [.nilfn, .nilfn])), [], (some 3), none⟩,
  ⟨(.prim (.store (some 2))), [.tmp 3, .tmp 14], none, none⟩] none)
 (.seq (.region [⟨(.prim .id), [.tmp 1], (some 15), none⟩,
  ⟨.callV, [.tmp 15, .const (.fn (.func 69) [] []), .const (.int .i64 1)], (some 16), none⟩,
  ⟨(.prim (.alloc [.nilfn, .nilfn])), [], (some 4), none⟩,
  ⟨(.prim (.store (some 2))), [.tmp 4, .tmp 16], none, none⟩] none)
 (.seq (.region [⟨(.prim (.build [.nilfn, .nilfn] [(0, 1), (1, 1)])), [.const (.fn (.func 70) [] []), .const (.fn (.func 71) [] [])], (some 17), none⟩,
  ⟨(.prim (.alloc [.nilfn, .nilfn])), [], (some 5), none⟩,
  ⟨(.prim (.store (some 2))), [.tmp 5, .tmp 17], none, none⟩] none)
 (.seq (.region [⟨(.prim (.build [.nilfn, .nilfn] [(0, 1), (1, 1)])), [.const (.fn (.func 72) [] []), .const (.fn (.func 73) [] [])], (some 18), none⟩,
  ⟨(.prim (.alloc [.nilfn, .nilfn])), [], (some 6), none⟩,
  ⟨(.prim (.store (some 2))), [.tmp 6, .tmp 18], none, none⟩] none)
 (.seq (.region [⟨(.prim (.build [.nilfn, .nilfn] [(0, 1), (1, 1)])), [.const (.fn (.func 74) [] []), .const (.fn (.func 75) [] [])], (some 19), none⟩,
  ⟨(.prim (.alloc [.nilfn, .nilfn])), [], (some 7), none⟩,
  ⟨(.prim (.store (some 2))), [.tmp 7, .tmp 19], none, none⟩] none)
 (.seq (.region [⟨(.prim (.build [.nilfn, .nilfn] [(0, 1), (1, 1)])), [.const (.fn (.func 76) [] []), .const (.fn (.func 77) [] [])], (some 20), none⟩,
  ⟨(.prim (.alloc [.nilfn, .nilfn])), [], (some 8), none⟩,
  ⟨(.prim (.store (some 2))), [.tmp 8, .tmp 20], none, none⟩] none)
 (.seq (.region [⟨(.prim .id), [.tmp 1], (some 21), none⟩,
  ⟨.callV, [.tmp 21, .const (.fn (.func 78) [] []), .const (.int .i64 1)], (some 22), none⟩,
  ⟨(.prim (.alloc [.nilfn, .nilfn])), [], (some 9), none⟩,
  ⟨(.prim (.store (some 2))), [.tmp 9, .tmp 22], none, none⟩] none)
 (.seq (.region [⟨(.prim .id), [.tmp 1], (some 23), none⟩,
  ⟨.callV, [.tmp 23, .const (.fn (.func 79) [] []), .const (.int .i64 1)], (some 24), none⟩,
  ⟨(.prim (.alloc [.nilfn, .nilfn])), [], (some 10), none⟩,
  ⟨(.prim (.store (some 2))), [.tmp 10, .tmp 24], none, none⟩] none)
 (.seq (.region [⟨(.prim (.build [.nilfn, .nilfn] [(0, 1), (1, 1)])), [.const (.fn (.func 80) [] []), .const (.fn (.func 81) [] [])], (some 25), none⟩,
  ⟨(.prim (.alloc [.nilfn, .nilfn])), [], (some 11), none⟩,
  ⟨(.prim (.store (some 2))), [.tmp 11, .tmp 25], none, none⟩] none)
 (.seq (.region [⟨(.prim (.load (some 2))), [.tmp 2], (some 26), none⟩,
  ⟨(.prim (.load (some 2))), [.tmp 3], (some 27), none⟩,
  ⟨(.prim (.load (some 2))), [.tmp 4], (some 28), none⟩,
  ⟨(.prim (.load (some 2))), [.tmp 5], (some 29), none⟩,
  ⟨(.prim (.load (some 2))), [.tmp 6], (some 30), none⟩,
  ⟨(.prim (.load (some 2))), [.tmp 7], (some 31), none⟩,
  ⟨(.prim (.load (some 2))), [.tmp 8], (some 32), none⟩,
  ⟨(.prim (.load (some 2))), [.tmp 9], (some 33), none⟩,
  ⟨(.prim (.load (some 2))), [.tmp 10], (some 34), none⟩,
  ⟨(.prim (.load (some 2))), [.tmp 11], (some 35), none⟩,
  ⟨(.prim (.build [.nilfn, .nilfn, .nilfn, .nilfn, .nilfn, .nilfn, .nilfn, .nilfn, .nilfn, .nilfn, .nilfn, .nilfn, .nilfn, .nilfn, .nilfn, .nilfn, .nilfn, .nilfn, .nilfn, .nilfn] [(0, 2), (2, 2), (4, 2), (6, 2), (8, 2), (10, 2), (12, 2), (14, 2), (16, 2), (18, 2)])), [.tmp 26, .tmp 27, .tmp 28, .tmp 29, .tmp 30, .tmp 31, .tmp 32, .tmp 33, .tmp 34, .tmp 35], (some 36), none⟩,
  ⟨(.prim (.store (some 20))), [.tmp 0, .tmp 36], none, none⟩] none)
 .ret)))))))))))))
theorem F50 : IsFun Try.prog 50 0 37 c50 [.cell 0 (some 20)] := ⟨by decide, Try.f50, _, [], Try.func50, rfl, by decide, rfl, by kernel_rfl, by kernel_rfl⟩

/-- cashbox/wire.kindOf$1 -/
def c51 : ACode :=
 (.seq (.region [⟨(.prim .id), [.const (.bool false)], (some 2), none⟩] none)
 (.seq (.region [⟨(.prim .id), [.const (.bool true)], (some 2), none⟩] none)
 .ret))
theorem F51 : IsFun Try.prog 51 1 3 c51 [.tmp 2] := ⟨by decide, Try.f51, _, [], Try.func51, rfl, by decide, rfl, by kernel_rfl, by kernel_rfl⟩

/-- cashbox/wire.kindOf$2 -/
def c52 : ACode :=
 (.seq (.region [⟨(.prim (.boxR none)), [.tmp 0], (some 1), none⟩,
  ⟨(.prim .id), [.const .nilfn], (some 2), none⟩] none)
 (.seq (.region [⟨(.prim (.mkfn (.func 53) 0)), [.tmp 1], (some 3), none⟩,
  ⟨(.prim .id), [.tmp 3], (some 2), none⟩] none)
 .ret))
theorem F52 : IsFun Try.prog 52 1 4 c52 [.tmp 2] := ⟨by decide, Try.f52, _, [1], Try.func52, rfl, by decide, rfl, by kernel_rfl, by kernel_rfl⟩

/-- cashbox/wire.kindOf$2$1 -/
def c53 : ACode :=
 (.seq (.region [⟨(.prim .id), [.const (.bool false)], (some 3), none⟩] none)
 (.seq (.region [⟨(.prim (.load none)), [.tmp 1], (some 4), none⟩,
  ⟨(.prim .id), [.tmp 0], (some 5), none⟩,
  ⟨(.prim .nilc), [.tmp 5], (some 6), none⟩,
  ⟨(.prim (.fieldAddr 19 none)), [.tmp 6], (some 7), none⟩,
  ⟨(.prim (.load none)), [.tmp 7], (some 8), none⟩,
  ⟨(.call 54), [.tmp 4, .tmp 8], (some 9), none⟩,
  ⟨(.prim .id), [.tmp 9], (some 3), none⟩] (some [[], [], [1], [2], [3], [0, 4], [5, 5, 0, 1, 2, 3, 4, 5]]))
 .ret))
theorem F53 : IsFun Try.prog 53 2 10 c53 [.tmp 3] := ⟨by decide, Try.f53, _, [], Try.func53, rfl, by decide, rfl, by kernel_rfl, by kernel_rfl⟩

/-- slices.Contains[[]cashbox/api.Errno,cashbox/api.Errno] -/
def c54 : ACode :=
 (.seq (.region [⟨(.prim .id), [.const (.bool false)], (some 4), none⟩] none)
 (.seq (.region [⟨(.prim .id), [.tmp 0], (some 5), none⟩,
  ⟨(.prim .id), [.tmp 1], (some 6), none⟩,
  ⟨(.call 82), [.tmp 5, .tmp 6], (some 7), none⟩,
  ⟨(.prim (.bin .geq .none)), [.tmp 7, .const (.int .i64 0)], (some 8), none⟩,
  ⟨(.prim .id), [.tmp 8], (some 4), none⟩] none)
 .ret))
theorem F54 : IsFun Try.prog 54 2 9 c54 [.tmp 4] := ⟨by decide, Try.f54, _, [], Try.func54, rfl, by decide, rfl, by kernel_rfl, by kernel_rfl⟩

/-- cashbox/wire.kindOf$3 -/
def c55 : ACode :=
 (.seq (.region [⟨(.prim .id), [.const (.bool false)], (some 2), none⟩] none)
 (.seq (.region [⟨(.prim .id), [.tmp 0], (some 3), none⟩,
  ⟨(.prim .nilc), [.tmp 3], (some 4), none⟩,
  ⟨(.prim (.fieldAddr 8 none)), [.tmp 4], (some 5), none⟩,
  ⟨(.prim (.load none)), [.tmp 5], (some 6), none⟩,
  ⟨(.call 34), [.tmp 6, .const (.int .i64 1), .const (.int .i64 1048576)], (some 7), none⟩,
  ⟨(.prim .id), [.tmp 7], (some 8), none⟩,
  ⟨(.prim .id), [.tmp 0], (some 9), (some (8, true))⟩,
  ⟨(.prim .nilc), [.tmp 9], (some 10), (some (8, true))⟩,
  ⟨(.prim (.fieldAddr 9 none)), [.tmp 10], (some 11), (some (8, true))⟩,
  ⟨(.prim (.load none)), [.tmp 11], (some 12), (some (8, true))⟩,
  ⟨(.prim (.bin .geq .none)), [.tmp 12, .const (.int .i8 0)], (some 13), (some (8, true))⟩,
  ⟨(.prim .pick), [.tmp 8, .tmp 13, .const (.bool false)], (some 14), none⟩,
  ⟨(.prim .id), [.tmp 14], (some 15), none⟩,
  ⟨(.prim .id), [.tmp 0], (some 16), (some (15, true))⟩,
  ⟨(.prim .nilc), [.tmp 16], (some 17), (some (15, true))⟩,
  ⟨(.prim (.fieldAddr 9 none)), [.tmp 17], (some 18), (some (15, true))⟩,
  ⟨(.prim (.load none)), [.tmp 18], (some 19), (some (15, true))⟩,
  ⟨(.prim (.bin .leq .none)), [.tmp 19, .const (.int .i8 2)], (some 20), (some (15, true))⟩,
  ⟨(.prim .pick), [.tmp 15, .tmp 20, .const (.bool false)], (some 21), none⟩,
  ⟨(.prim .id), [.tmp 21], (some 22), none⟩,
  ⟨(.prim .id), [.tmp 0], (some 23), (some (22, true))⟩,
  ⟨(.prim .nilc), [.tmp 23], (some 24), (some (22, true))⟩,
  ⟨(.prim (.fieldAddr 10 none)), [.tmp 24], (some 25), (some (22, true))⟩,
  ⟨(.prim (.load none)), [.tmp 25], (some 26), (some (22, true))⟩,
  ⟨(.call 34), [.tmp 26, .const (.int .i64 0), .const (.int .i64 31)], (some 27), (some (22, true))⟩,
  ⟨(.prim .pick), [.tmp 22, .tmp 27, .const (.bool false)], (some 28), none⟩,
  ⟨(.prim .id), [.tmp 28], (some 29), none⟩,
  ⟨(.prim .id), [.tmp 0], (some 30), (some (29, true))⟩,
  ⟨(.prim .nilc), [.tmp 30], (some 31), (some (29, true))⟩,
  ⟨(.prim (.fieldAddr 9 none)), [.tmp 31], (some 32), (some (29, true))⟩,
  ⟨(.prim (.load none)), [.tmp 32], (some 33), (some (29, true))⟩,
  ⟨(.prim (.bin .eql .none)), [.tmp 33, .const (.int .i8 1)], (some 34), (some (29, true))⟩,
  ⟨(.prim .id), [.tmp 34], (some 35), (some (29, true))⟩,
  ⟨(.prim .id), [.tmp 0], (some 36), (some (35, false))⟩,
  ⟨(.prim .nilc), [.tmp 36], (some 37), (some (35, false))⟩,
  ⟨(.prim (.fieldAddr 11 (some 8))), [.tmp 37], (some 38), (some (35, false))⟩,
  ⟨(.prim (.load (some 8))), [.tmp 38], (some 39), (some (35, false))⟩,
  ⟨(.prim (.build [(.int .u8 0), (.int .u8 0), (.int .u8 0), (.int .u8 0), (.int .u8 0), (.int .u8 0), (.int .u8 0), (.int .u8 0)] [])), [], (some 40), (some (35, false))⟩,
  ⟨(.prim (.bin .eql (.flat [0, 0, 0, 0, 0, 0, 0, 0]))), [.tmp 39, .tmp 40], (some 41), (some (35, false))⟩,
  ⟨(.prim .pick), [.tmp 35, .const (.bool true), .tmp 41], (some 42), (some (29, true))⟩,
  ⟨(.prim .pick), [.tmp 29, .tmp 42, .const (.bool false)], (some 43), none⟩,
  ⟨(.prim .id), [.tmp 43], (some 2), none⟩] none)
 .ret))
theorem F55 : IsFun Try.prog 55 1 44 c55 [.tmp 2] := ⟨by decide, Try.f55, _, [], Try.func55, rfl, by decide, rfl, by kernel_rfl, by kernel_rfl⟩

/-- cashbox/wire.kindOf$4 -/
def c56 : ACode :=
 (.seq (.region [⟨(.prim .id), [.const (.bool false)], (some 3), none⟩] none)
 (.seq (.region [⟨(.prim .id), [.tmp 0], (some 4), none⟩,
  ⟨(.prim .nilc), [.tmp 4], (some 5), none⟩,
  ⟨(.prim (.fieldAddr 8 none)), [.tmp 5], (some 6), none⟩,
  ⟨(.prim (.load none)), [.tmp 6], (some 7), none⟩,
  ⟨(.call 34), [.tmp 7, .const (.int .i64 1), .const (.int .i64 1048576)], (some 8), none⟩,
  ⟨(.prim .id), [.tmp 8], (some 9), none⟩,
  ⟨(.prim (.load none)), [.tmp 1], (some 10), (some (9, true))⟩,
  ⟨(.prim (.buildSl none)), [.const (.int .i64 0), .const (.int .i64 120), .const (.int .i64 112), .const (.int .i64 121), .const (.int .i64 50)], (some 11), (some (9, true))⟩,
  ⟨.callV, [.tmp 10, .tmp 11], (some 12), (some (9, true))⟩,
  ⟨(.prim .id), [.tmp 0], (some 13), (some (9, true))⟩,
  ⟨.callV, [.tmp 12, .tmp 13], (some 14), (some (9, true))⟩,
  ⟨(.prim .pick), [.tmp 9, .tmp 14, .const (.bool false)], (some 15), none⟩,
  ⟨(.prim .id), [.tmp 15], (some 16), none⟩,
  ⟨(.prim .id), [.tmp 0], (some 17), (some (16, true))⟩,
  ⟨(.prim .nilc), [.tmp 17], (some 18), (some (16, true))⟩,
  ⟨(.prim (.fieldAddr 19 none)), [.tmp 18], (some 19), (some (16, true))⟩,
  ⟨(.prim (.load none)), [.tmp 19], (some 20), (some (16, true))⟩,
  ⟨(.prim (.bin .eql .none)), [.tmp 20, .const (.int .i64 0)], (some 21), (some (16, true))⟩,
  ⟨(.prim .id), [.tmp 21], (some 22), (some (16, true))⟩,
  ⟨(.prim .id), [.tmp 0], (some 23), (some (22, false))⟩,
  ⟨(.prim .nilc), [.tmp 23], (some 24), (some (22, false))⟩,
  ⟨(.prim (.fieldAddr 11 (some 8))), [.tmp 24], (some 25), (some (22, false))⟩,
  ⟨(.prim (.load (some 8))), [.tmp 25], (some 26), (some (22, false))⟩,
  ⟨(.prim (.build [(.int .u8 0), (.int .u8 0), (.int .u8 0), (.int .u8 0), (.int .u8 0), (.int .u8 0), (.int .u8 0), (.int .u8 0)] [])), [], (some 27), (some (22, false))⟩,
  ⟨(.prim (.bin .eql (.flat [0, 0, 0, 0, 0, 0, 0, 0]))), [.tmp 26, .tmp 27], (some 28), (some (22, false))⟩,
  ⟨(.prim .pick), [.tmp 22, .const (.bool true), .tmp 28], (some 29), (some (16, true))⟩,
  ⟨(.prim .pick), [.tmp 16, .tmp 29, .const (.bool false)], (some 30), none⟩,
  ⟨(.prim .id), [.tmp 30], (some 3), none⟩] none)
 .ret))
theorem F56 : IsFun Try.prog 56 2 31 c56 [.tmp 3] := ⟨by decide, Try.f56, _, [], Try.func56, rfl, by decide, rfl, by kernel_rfl, by kernel_rfl⟩

/-- cashbox/wire.kindOf$5 -/
def c57 : ACode :=
 (.seq (.region [⟨(.prim .id), [.const (.bool false)], (some 2), none⟩] none)
 (.seq (.region [⟨(.prim .id), [.tmp 0], (some 3), none⟩,
  ⟨(.prim .nilc), [.tmp 3], (some 4), none⟩,
  ⟨(.prim (.fieldAddr 21 none)), [.tmp 4], (some 5), none⟩,
  ⟨(.prim (.load none)), [.tmp 5], (some 6), none⟩,
  ⟨(.call 34), [.tmp 6, .const (.int .i64 0), .const (.int .i64 255)], (some 7), none⟩,
  ⟨(.prim .id), [.tmp 7], (some 8), none⟩,
  ⟨(.prim .id), [.tmp 0], (some 9), (some (8, true))⟩,
  ⟨(.prim .nilc), [.tmp 9], (some 10), (some (8, true))⟩,
  ⟨(.prim (.fieldAddr 22 none)), [.tmp 10], (some 11), (some (8, true))⟩,
  ⟨(.prim (.load none)), [.tmp 11], (some 12), (some (8, true))⟩,
  ⟨(.call 34), [.tmp 12, .const (.int .i64 0), .const (.int .i64 255)], (some 13), (some (8, true))⟩,
  ⟨(.prim .pick), [.tmp 8, .tmp 13, .const (.bool false)], (some 14), none⟩,
  ⟨(.prim .id), [.tmp 14], (some 15), none⟩,
  ⟨(.prim .id), [.tmp 0], (some 16), (some (15, true))⟩,
  ⟨(.prim .nilc), [.tmp 16], (some 17), (some (15, true))⟩,
  ⟨(.prim (.fieldAddr 21 none)), [.tmp 17], (some 18), (some (15, true))⟩,
  ⟨(.prim (.load none)), [.tmp 18], (some 19), (some (15, true))⟩,
  ⟨(.prim .id), [.tmp 0], (some 20), (some (15, true))⟩,
  ⟨(.prim .nilc), [.tmp 20], (some 21), (some (15, true))⟩,
  ⟨(.prim (.fieldAddr 22 none)), [.tmp 21], (some 22), (some (15, true))⟩,
  ⟨(.prim (.load none)), [.tmp 22], (some 23), (some (15, true))⟩,
  ⟨(.prim (.bin .and .none)), [.tmp 19, .tmp 23], (some 24), (some (15, true))⟩,
  ⟨(.prim (.bin .eql .none)), [.tmp 24, .const (.int .i64 0)], (some 25), (some (15, true))⟩,
  ⟨(.prim .pick), [.tmp 15, .tmp 25, .const (.bool false)], (some 26), none⟩,
  ⟨(.prim .id), [.tmp 26], (some 27), none⟩,
  ⟨(.prim .id), [.tmp 0], (some 28), (some (27, true))⟩,
  ⟨(.prim .nilc), [.tmp 28], (some 29), (some (27, true))⟩,
  ⟨(.prim (.fieldAddr 23 none)), [.tmp 29], (some 30), (some (27, true))⟩,
  ⟨(.prim (.load none)), [.tmp 30], (some 31), (some (27, true))⟩,
  ⟨(.call 58), [.tmp 31], (some 32), (some (27, true))⟩,
  ⟨(.prim .pick), [.tmp 27, .tmp 32, .const (.bool false)], (some 33), none⟩,
  ⟨(.prim .id), [.tmp 33], (some 2), none⟩] (some [[], [0], [1], [2], [3], [4, 4], [5], [6, 5], [7, 5], [8, 5], [9, 5, 5], [5, 10], [11, 10], [12], [13, 12], [14, 12], [15, 12], [12], [17, 12], [18, 12], [19, 12], [16, 20, 12], [21, 12], [12, 22], [23, 12], [24], [25, 24], [26, 24], [27, 24], [28, 24, 24], [24, 29], [30, 29, 0, 1, 2, 3, 4, 5, 6, 7, 8, 9, 10, 11, 12, 13, 14, 15, 16, 17, 18, 19, 20, 21, 22, 23, 24, 25, 26, 27, 28, 29, 30]]))
 .ret))
theorem F57 : IsFun Try.prog 57 1 34 c57 [.tmp 2] := ⟨by decide, Try.f57, _, [], Try.func57, rfl, by decide, rfl, by kernel_rfl, by kernel_rfl⟩

-- loop: 0:l, 3:last, 6:, 7:, 8:
/-- cashbox/record.Written -/
def c58 : ACode :=
 (.seq (.region [⟨(.prim .id), [.const (.bool false)], (some 2), none⟩] none)
 (.seq (.region [⟨(.prim .id), [.const (.int .i64 (-1))], (some 3), none⟩] none)
 (.seq (.seq (.region [⟨(.prim .id), [.tmp 0], (some 6), none⟩,
  ⟨(.prim .len), [.tmp 6], (some 7), none⟩,
  ⟨(.prim .id), [.const (.int .i64 0)], (some 8), none⟩] none)
 (.block 0
  (.loop
   (.seq (.region [⟨(.prim (.bin .lss .none)), [.tmp 8, .tmp 7], (some 9), none⟩] none)
   (.seq (.cond (.tmp 9)
    .skip
    (.exit 0))
   (.seq (.block 1
    (.seq (.region [⟨(.prim (.idxSl (some 9))), [.tmp 6, .tmp 8], (some 10), none⟩,
     ⟨(.prim (.load (some 9))), [.tmp 10], (some 11), none⟩,
     ⟨(.prim (.alloc [(.int .i64 0), (.int .u8 0), (.int .u8 0), (.int .u8 0), (.int .u8 0), (.int .u8 0), (.int .u8 0), (.int .u8 0), (.int .u8 0)])), [], (some 5), none⟩,
     ⟨(.prim (.store (some 9))), [.tmp 5, .tmp 11], none, none⟩] none)
    (.seq (.seq (.region [⟨(.prim (.fieldAddr 0 none)), [.tmp 5], (some 12), none⟩,
     ⟨(.prim (.load none)), [.tmp 12], (some 13), none⟩,
     ⟨(.prim .id), [.tmp 3], (some 14), none⟩,
     ⟨(.prim (.bin .leq .none)), [.tmp 13, .tmp 14], (some 15), none⟩,
     ⟨(.prim .id), [.tmp 15], (some 16), none⟩,
     ⟨(.prim (.fieldAddr 0 none)), [.tmp 5], (some 17), (some (16, false))⟩,
     ⟨(.prim (.load none)), [.tmp 17], (some 18), (some (16, false))⟩,
     ⟨(.prim (.bin .geq .none)), [.tmp 18, .const (.int .i64 32)], (some 19), (some (16, false))⟩,
     ⟨(.prim .pick), [.tmp 16, .const (.bool true), .tmp 19], (some 20), none⟩] none)
    (.cond (.tmp 20)
     (.seq (.region [⟨(.prim .id), [.const (.bool false)], (some 2), none⟩] none)
     .ret)
     .skip))
    (.region [⟨(.prim (.fieldAddr 0 none)), [.tmp 5], (some 21), none⟩,
     ⟨(.prim (.load none)), [.tmp 21], (some 22), none⟩,
     ⟨(.prim .id), [.tmp 22], (some 3), none⟩] none))))
   (.region [⟨(.prim (.bin .add .none)), [.tmp 8, .const (.int .i64 1)], (some 23), none⟩,
    ⟨(.prim .id), [.tmp 23], (some 8), none⟩] none)))))))
 (.seq (.region [⟨(.prim .id), [.tmp 0], (some 24), none⟩,
  ⟨(.prim .len), [.tmp 24], (some 25), none⟩,
  ⟨(.prim (.bin .leq .none)), [.tmp 25, .const (.int .i64 8)], (some 26), none⟩,
  ⟨(.prim .id), [.tmp 26], (some 2), none⟩] none)
 .ret))))
theorem F58 : IsFun Try.prog 58 1 27 c58 [.tmp 2] := ⟨by decide, Try.f58, _, [], Try.func58, rfl, by decide, rfl, by kernel_rfl, by kernel_rfl⟩

/-- cashbox/record.within -/
def c59 : ACode :=
 (.seq (.region [⟨(.prim .id), [.const (.bool false)], (some 6), none⟩] none)
 (.seq (.region [⟨(.prim .id), [.tmp 0], (some 7), none⟩,
  ⟨(.prim .id), [.tmp 1], (some 8), none⟩,
  ⟨(.prim (.bin .geq .none)), [.tmp 7, .tmp 8], (some 9), none⟩,
  ⟨(.prim .id), [.tmp 9], (some 10), none⟩,
  ⟨(.prim .id), [.tmp 0], (some 11), (some (10, true))⟩,
  ⟨(.prim .id), [.tmp 2], (some 12), (some (10, true))⟩,
  ⟨(.prim (.bin .leq .none)), [.tmp 11, .tmp 12], (some 13), (some (10, true))⟩,
  ⟨(.prim .pick), [.tmp 10, .tmp 13, .const (.bool false)], (some 14), none⟩,
  ⟨(.prim .id), [.tmp 14], (some 6), none⟩] none)
 .ret))
theorem F59 : IsFun Try.prog 59 3 15 c59 [.tmp 6] := ⟨by decide, Try.f59, _, [], Try.func59, rfl, by decide, rfl, by kernel_rfl, by kernel_rfl⟩

/-- (*cashbox/wire.reader).take -/
def c60 : ACode :=
 (.seq (.region [⟨(.prim .id), [.const (.sl .clip [])], (some 4), none⟩] none)
 (.seq (.region [⟨(.prim .id), [.tmp 0], (some 9), none⟩,
  ⟨(.prim .nilc), [.tmp 9], (some 10), none⟩,
  ⟨(.prim (.fieldAddr 0 none)), [.tmp 10], (some 11), none⟩,
  ⟨(.prim (.load none)), [.tmp 11], (some 12), none⟩,
  ⟨(.prim .id), [.tmp 1], (some 13), none⟩,
  ⟨(.call 83), [.tmp 12, .tmp 13], (some 14), none⟩,
  ⟨(.prim .id), [.tmp 14], (some 8), none⟩,
  ⟨(.prim (.extract 0)), [.tmp 8], (some 15), none⟩,
  ⟨(.prim (.extract 1)), [.tmp 8], (some 16), none⟩,
  ⟨(.prim (.extract 2)), [.tmp 8], (some 17), none⟩,
  ⟨(.prim .id), [.tmp 15], (some 5), none⟩,
  ⟨(.prim .id), [.tmp 16], (some 6), none⟩,
  ⟨(.prim .id), [.tmp 17], (some 7), none⟩] none)
 (.seq (.region [⟨(.prim .id), [.tmp 0], (some 18), none⟩,
  ⟨(.prim .id), [.tmp 0], (some 19), none⟩,
  ⟨(.prim .id), [.tmp 6], (some 20), none⟩,
  ⟨(.prim .id), [.tmp 0], (some 21), none⟩,
  ⟨(.prim .nilc), [.tmp 21], (some 22), none⟩,
  ⟨(.prim (.fieldAddr 1 none)), [.tmp 22], (some 23), none⟩,
  ⟨(.prim (.load none)), [.tmp 23], (some 24), none⟩,
  ⟨(.prim .id), [.tmp 24], (some 25), none⟩,
  ⟨(.prim .id), [.tmp 7], (some 26), (some (25, false))⟩,
  ⟨(.prim (.un .not)), [.tmp 26], (some 27), (some (25, false))⟩,
  ⟨(.prim .pick), [.tmp 25, .const (.bool true), .tmp 27], (some 28), none⟩,
  ⟨(.prim .nilc), [.tmp 18], (some 29), none⟩,
  ⟨(.prim (.fieldAddr 0 none)), [.tmp 29], (some 30), none⟩,
  ⟨(.prim (.store none)), [.tmp 30, .tmp 20], none, none⟩,
  ⟨(.prim .nilc), [.tmp 19], (some 31), none⟩,
  ⟨(.prim (.fieldAddr 1 none)), [.tmp 31], (some 32), none⟩,
  ⟨(.prim (.store none)), [.tmp 32, .tmp 28], none, none⟩] none)
 (.seq (.region [⟨(.prim .id), [.tmp 5], (some 33), none⟩,
  ⟨(.prim .id), [.tmp 33], (some 4), none⟩] none)
 .ret))))
theorem F60 : IsFun Try.prog 60 2 34 c60 [.tmp 4] := ⟨by decide, Try.f60, _, [], Try.func60, rfl, by decide, rfl, by kernel_rfl, by kernel_rfl⟩

/-- cashbox/cashboxref01.Sum -/
def c61 : ACode :=
 (.seq (.region [⟨(.prim .id), [.const (.int .u32 0)], (some 2), none⟩] none)
 (.seq (.region [⟨(.prim .id), [.tmp 0], (some 3), none⟩,
  ⟨(.call 84), [.const (.int .u32 0), .tmp 3], (some 4), none⟩,
  ⟨(.prim .id), [.tmp 4], (some 2), none⟩] none)
 .ret))
theorem F61 : IsFun Try.prog 61 1 5 c61 [.tmp 2] := ⟨by decide, Try.f61, _, [], Try.func61, rfl, by decide, rfl, by kernel_rfl, by kernel_rfl⟩

/-- cashbox/sums.Sum -/
def c62 : ACode :=
 (.seq (.region [⟨(.prim .id), [.const (.int .u32 0)], (some 2), none⟩] none)
 (.seq (.region [⟨(.prim .id), [.tmp 0], (some 3), none⟩,
  ⟨(.call 85), [.const (.int .u32 0), .tmp 3], (some 4), none⟩,
  ⟨(.prim .id), [.tmp 4], (some 2), none⟩] none)
 .ret))
theorem F62 : IsFun Try.prog 62 1 5 c62 [.tmp 2] := ⟨by decide, Try.f62, _, [], Try.func62, rfl, by decide, rfl, by kernel_rfl, by kernel_rfl⟩

/-- cashbox/wire.all$1 -/
def c63 : ACode :=
 (.seq (.region [⟨(.prim (.boxR none)), [.tmp 0], (some 2), none⟩,
  ⟨(.prim (.boxR none)), [.tmp 1], (some 3), none⟩,
  ⟨(.prim (.alloc [.nilfn, .nilfn])), [], (some 4), none⟩] none)
 (.seq (.region [⟨(.prim (.mkfn (.func 64) 0)), [.tmp 2, .tmp 3], (some 5), none⟩,
  ⟨(.prim (.mkfn (.func 65) 0)), [.tmp 3, .tmp 2], (some 6), none⟩,
  ⟨(.prim (.build [.nilfn, .nilfn] [(0, 1), (1, 1)])), [.tmp 5, .tmp 6], (some 7), none⟩,
  ⟨(.prim (.store (some 2))), [.tmp 4, .tmp 7], none, none⟩] none)
 .ret))
theorem F63 : IsFun Try.prog 63 2 8 c63 [.cell 4 (some 2)] := ⟨by decide, Try.f63, _, [2, 3], Try.func63, rfl, by decide, rfl, by kernel_rfl, by kernel_rfl⟩

/-- cashbox/wire.all$1$1 -/
def c64 : ACode :=
 (.region [⟨(.prim .id), [.tmp 0], (some 6), none⟩,
  ⟨(.prim (.load none)), [.tmp 2], (some 7), none⟩,
  ⟨(.prim .id), [.tmp 1], (some 8), none⟩,
  ⟨.callV, [.tmp 7, .tmp 8], (some 9), none⟩,
  ⟨(.prim .nilc), [.tmp 9], (some 10), none⟩,
  ⟨(.prim (.load none)), [.tmp 10], (some 11), none⟩,
  ⟨(.prim (.load none)), [.tmp 3], (some 12), none⟩,
  ⟨(.call 47), [.tmp 6, .tmp 11, .tmp 12], (some 13), none⟩] (some [[], [], [], [1, 2], [3], [4], [], [0, 5, 6, 3]]))
theorem F64 : IsFun Try.prog 64 4 14 c64 [] := ⟨by decide, Try.f64, _, [], Try.func64, rfl, by decide, rfl, by kernel_rfl, by kernel_rfl⟩

/-- cashbox/wire.all$1$2 -/
def c65 : ACode :=
 (.region [⟨(.prim (.load none)), [.tmp 3], (some 6), none⟩,
  ⟨(.prim .id), [.tmp 1], (some 7), none⟩,
  ⟨.callV, [.tmp 6, .tmp 7], (some 8), none⟩,
  ⟨(.prim .id), [.tmp 0], (some 9), none⟩,
  ⟨(.prim (.load none)), [.tmp 2], (some 10), none⟩,
  ⟨(.call 38), [.tmp 9, .tmp 10], (some 11), none⟩,
  ⟨(.prim .nilc), [.tmp 8], (some 12), none⟩,
  ⟨(.prim (.store none)), [.tmp 12, .tmp 11], none, none⟩] (some [[], [], [0, 1], [], [], [3, 4, 2], [2, 0, 1, 2, 3, 4, 5], [6, 5, 5, 0, 1, 2, 3, 4, 5]]))
theorem F65 : IsFun Try.prog 65 4 13 c65 [] := ⟨by decide, Try.f65, _, [], Try.func65, rfl, by decide, rfl, by kernel_rfl, by kernel_rfl⟩

-- loop: 0:w, 21:, 22:
/-- cashbox/wire.all$2 -/
def c66 : ACode :=
 (.seq (.region [⟨(.prim .id), [.tmp 1], (some 6), none⟩,
  ⟨(.prim .nilc), [.tmp 6], (some 7), none⟩,
  ⟨(.prim (.fieldAddr 5 (some 3))), [.tmp 7], (some 8), none⟩,
  ⟨(.prim (.fieldAddr 0 none)), [.tmp 8], (some 9), none⟩,
  ⟨(.prim (.load none)), [.tmp 9], (some 10), none⟩,
  ⟨(.prim .id), [.tmp 1], (some 11), none⟩,
  ⟨(.prim .nilc), [.tmp 11], (some 12), none⟩,
  ⟨(.prim (.fieldAddr 5 (some 3))), [.tmp 12], (some 13), none⟩,
  ⟨(.prim (.fieldAddr 1 none)), [.tmp 13], (some 14), none⟩,
  ⟨(.prim (.load none)), [.tmp 14], (some 15), none⟩,
  ⟨(.prim .id), [.tmp 1], (some 16), none⟩,
  ⟨(.prim .nilc), [.tmp 16], (some 17), none⟩,
  ⟨(.prim (.fieldAddr 5 (some 3))), [.tmp 17], (some 18), none⟩,
  ⟨(.prim (.fieldAddr 2 none)), [.tmp 18], (some 19), none⟩,
  ⟨(.prim (.load none)), [.tmp 19], (some 20), none⟩,
  ⟨(.prim (.build [(.int .i64 0), (.int .i64 0), (.int .i64 0)] [(0, 1), (1, 1), (2, 1)])), [.tmp 10, .tmp 15, .tmp 20], (some 21), none⟩,
  ⟨(.prim .id), [.const (.int .i64 0)], (some 22), none⟩] (some [[], [0], [1], [2], [3], [], [5], [6], [7], [8], [], [10], [11], [12], [13], [4, 9, 14], []]))
 (.block 0
  (.loop
   (.seq (.region [⟨(.prim (.bin .lss .none)), [.tmp 22, .const (.int .i64 3)], (some 23), none⟩] none)
   (.seq (.cond (.tmp 23)
    .skip
    (.exit 0))
   (.seq (.block 1
    (.seq (.region [⟨(.prim (.idxArrV 3 none)), [.tmp 21, .tmp 22], (some 24), none⟩,
     ⟨(.prim .id), [.tmp 24], (some 5), none⟩] none)
    (.region [⟨(.prim .id), [.tmp 0], (some 25), none⟩,
     ⟨(.prim .id), [.tmp 5], (some 26), none⟩,
     ⟨(.call 47), [.tmp 25, .tmp 26, .const (.int .i64 3)], (some 27), none⟩] none)))
   (.region [⟨(.prim (.bin .add .none)), [.tmp 22, .const (.int .i64 1)], (some 28), none⟩,
    ⟨(.prim .id), [.tmp 28], (some 22), none⟩] none)))))))
theorem F66 : IsFun Try.prog 66 2 29 c66 [] := ⟨by decide, Try.f66, _, [], Try.func66, rfl, by decide, rfl, by kernel_rfl, by kernel_rfl⟩

-- loop: 0:g, 18:, 19:
/-- cashbox/wire.all$3 -/
def c67 : ACode :=
 (.seq (.region [⟨(.prim .id), [.tmp 1], (some 6), none⟩,
  ⟨(.prim .nilc), [.tmp 6], (some 7), none⟩,
  ⟨(.prim (.fieldAddr 5 (some 3))), [.tmp 7], (some 8), none⟩,
  ⟨(.prim (.fieldAddr 0 none)), [.tmp 8], (some 9), none⟩,
  ⟨(.prim .id), [.tmp 1], (some 10), none⟩,
  ⟨(.prim .nilc), [.tmp 10], (some 11), none⟩,
  ⟨(.prim (.fieldAddr 5 (some 3))), [.tmp 11], (some 12), none⟩,
  ⟨(.prim (.fieldAddr 1 none)), [.tmp 12], (some 13), none⟩,
  ⟨(.prim .id), [.tmp 1], (some 14), none⟩,
  ⟨(.prim .nilc), [.tmp 14], (some 15), none⟩,
  ⟨(.prim (.fieldAddr 5 (some 3))), [.tmp 15], (some 16), none⟩,
  ⟨(.prim (.fieldAddr 2 none)), [.tmp 16], (some 17), none⟩,
  ⟨(.prim (.build [.nilp, .nilp, .nilp] [(0, 1), (1, 1), (2, 1)])), [.tmp 9, .tmp 13, .tmp 17], (some 18), none⟩,
  ⟨(.prim .id), [.const (.int .i64 0)], (some 19), none⟩] (some [[], [0], [1], [2], [], [4], [5], [6], [], [8], [9], [10], [3, 7, 11], []]))
 (.block 0
  (.loop
   (.seq (.region [⟨(.prim (.bin .lss .none)), [.tmp 19, .const (.int .i64 3)], (some 20), none⟩] none)
   (.seq (.cond (.tmp 20)
    .skip
    (.exit 0))
   (.seq (.block 1
    (.seq (.region [⟨(.prim (.idxArrV 3 none)), [.tmp 18, .tmp 19], (some 21), none⟩,
     ⟨(.prim .id), [.tmp 21], (some 5), none⟩] none)
    (.region [⟨(.prim .id), [.tmp 5], (some 22), none⟩,
     ⟨(.prim .id), [.tmp 0], (some 23), none⟩,
     ⟨(.call 38), [.tmp 23, .const (.int .i64 3)], (some 24), none⟩,
     ⟨(.prim .nilc), [.tmp 22], (some 25), none⟩,
     ⟨(.prim (.store none)), [.tmp 25, .tmp 24], none, none⟩] none)))
   (.region [⟨(.prim (.bin .add .none)), [.tmp 19, .const (.int .i64 1)], (some 26), none⟩,
    ⟨(.prim .id), [.tmp 26], (some 19), none⟩] none)))))))
theorem F67 : IsFun Try.prog 67 2 27 c67 [] := ⟨by decide, Try.f67, _, [], Try.func67, rfl, by decide, rfl, by kernel_rfl, by kernel_rfl⟩

/-- cashbox/wire.all$4 -/
def c68 : ACode :=
 (.seq (.region [⟨(.prim .id), [.const .nilp], (some 2), none⟩] none)
 (.seq (.region [⟨(.prim .id), [.tmp 0], (some 3), none⟩,
  ⟨(.prim .nilc), [.tmp 3], (some 4), none⟩,
  ⟨(.prim (.fieldAddr 8 none)), [.tmp 4], (some 5), none⟩,
  ⟨(.prim .id), [.tmp 5], (some 2), none⟩] none)
 .ret))
theorem F68 : IsFun Try.prog 68 1 6 c68 [.tmp 2] := ⟨by decide, Try.f68, _, [], Try.func68, rfl, by decide, rfl, by kernel_rfl, by kernel_rfl⟩

/-- cashbox/wire.all$5 -/
def c69 : ACode :=
 (.seq (.region [⟨(.prim .id), [.const .nilp], (some 2), none⟩] none)
 (.seq (.region [⟨(.prim .id), [.tmp 0], (some 3), none⟩,
  ⟨(.prim .nilc), [.tmp 3], (some 4), none⟩,
  ⟨(.prim (.fieldAddr 10 none)), [.tmp 4], (some 5), none⟩,
  ⟨(.prim .id), [.tmp 5], (some 2), none⟩] none)
 .ret))
theorem F69 : IsFun Try.prog 69 1 6 c69 [.tmp 2] := ⟨by decide, Try.f69, _, [], Try.func69, rfl, by decide, rfl, by kernel_rfl, by kernel_rfl⟩

/-- cashbox/wire.all$6 -/
def c70 : ACode :=
 (.region [⟨(.prim .id), [.tmp 0], (some 4), none⟩,
  ⟨(.prim .id), [.tmp 1], (some 5), none⟩,
  ⟨(.prim .nilc), [.tmp 5], (some 6), none⟩,
  ⟨(.prim (.fieldAddr 9 none)), [.tmp 6], (some 7), none⟩,
  ⟨(.prim (.load none)), [.tmp 7], (some 8), none⟩,
  ⟨(.prim (.conv .i64)), [.tmp 8], (some 9), none⟩,
  ⟨(.call 47), [.tmp 4, .tmp 9, .const (.int .i64 1)], (some 10), none⟩] none)
theorem F70 : IsFun Try.prog 70 2 11 c70 [] := ⟨by decide, Try.f70, _, [], Try.func70, rfl, by decide, rfl, by kernel_rfl, by kernel_rfl⟩

/-- cashbox/wire.all$7 -/
def c71 : ACode :=
 (.seq (.region [⟨(.prim .id), [.tmp 0], (some 5), none⟩,
  ⟨(.call 38), [.tmp 5, .const (.int .i64 1)], (some 6), none⟩,
  ⟨(.prim .id), [.tmp 6], (some 4), none⟩] none)
 (.seq (.region [⟨(.prim .id), [.tmp 0], (some 7), none⟩,
  ⟨(.prim .id), [.tmp 0], (some 8), none⟩,
  ⟨(.prim .nilc), [.tmp 8], (some 9), none⟩,
  ⟨(.prim (.fieldAddr 1 none)), [.tmp 9], (some 10), none⟩,
  ⟨(.prim (.load none)), [.tmp 10], (some 11), none⟩,
  ⟨(.prim .id), [.tmp 11], (some 12), none⟩,
  ⟨(.prim .id), [.tmp 4], (some 13), (some (12, false))⟩,
  ⟨(.prim (.bin .gtr .none)), [.tmp 13, .const (.int .i64 127)], (some 14), (some (12, false))⟩,
  ⟨(.prim .pick), [.tmp 12, .const (.bool true), .tmp 14], (some 15), none⟩,
  ⟨(.prim .nilc), [.tmp 7], (some 16), none⟩,
  ⟨(.prim (.fieldAddr 1 none)), [.tmp 16], (some 17), none⟩,
  ⟨(.prim (.store none)), [.tmp 17, .tmp 15], none, none⟩] none)
 (.region [⟨(.prim .id), [.tmp 1], (some 18), none⟩,
  ⟨(.prim .id), [.tmp 4], (some 19), none⟩,
  ⟨(.prim (.bin .and .none)), [.tmp 19, .const (.int .i64 127)], (some 20), none⟩,
  ⟨(.prim (.conv .i8)), [.tmp 20], (some 21), none⟩,
  ⟨(.prim .nilc), [.tmp 18], (some 22), none⟩,
  ⟨(.prim (.fieldAddr 9 none)), [.tmp 22], (some 23), none⟩,
  ⟨(.prim (.store none)), [.tmp 23, .tmp 21], none, none⟩] none)))
theorem F71 : IsFun Try.prog 71 2 24 c71 [] := ⟨by decide, Try.f71, _, [], Try.func71, rfl, by decide, rfl, by kernel_rfl, by kernel_rfl⟩

/-- cashbox/wire.all$8 -/
def c72 : ACode :=
 (.region [⟨(.prim .id), [.tmp 0], (some 4), none⟩,
  ⟨(.prim .id), [.tmp 0], (some 5), none⟩,
  ⟨(.prim .nilc), [.tmp 5], (some 6), none⟩,
  ⟨(.prim (.load none)), [.tmp 6], (some 7), none⟩,
  ⟨(.prim .id), [.tmp 1], (some 8), none⟩,
  ⟨(.prim .nilc), [.tmp 8], (some 9), none⟩,
  ⟨(.prim (.fieldAddr 11 (some 8))), [.tmp 9], (some 10), none⟩,
  ⟨(.prim (.slcArr 8 none false false)), [.tmp 10], (some 11), none⟩,
  ⟨(.prim (.append none)), [.tmp 7, .tmp 11], (some 12), none⟩,
  ⟨(.prim .nilc), [.tmp 4], (some 13), none⟩,
  ⟨(.prim (.store none)), [.tmp 13, .tmp 12], none, none⟩] (some [[], [], [1], [2], [], [4], [5], [6], [3, 7], [0, 0, 1, 2, 3, 4, 5, 6, 7, 8], [9, 8, 8, 0, 1, 2, 3, 4, 5, 6, 7, 8]]))
theorem F72 : IsFun Try.prog 72 2 14 c72 [] := ⟨by decide, Try.f72, _, [], Try.func72, rfl, by decide, rfl, by kernel_rfl, by kernel_rfl⟩

/-- cashbox/wire.all$9 -/
def c73 : ACode :=
 (.region [⟨(.prim .id), [.tmp 1], (some 4), none⟩,
  ⟨(.prim .nilc), [.tmp 4], (some 5), none⟩,
  ⟨(.prim (.fieldAddr 11 (some 8))), [.tmp 5], (some 6), none⟩,
  ⟨(.prim (.slcArr 8 none false false)), [.tmp 6], (some 7), none⟩,
  ⟨(.prim .id), [.tmp 0], (some 8), none⟩,
  ⟨(.call 60), [.tmp 8, .const (.int .i64 8)], (some 9), none⟩,
  ⟨(.prim (.copy none)), [.tmp 7, .tmp 9], (some 10), none⟩] (some [[], [0], [1], [2], [], [4], [3, 5, 5]]))
theorem F73 : IsFun Try.prog 73 2 11 c73 [] := ⟨by decide, Try.f73, _, [], Try.func73, rfl, by decide, rfl, by kernel_rfl, by kernel_rfl⟩

/-- cashbox/wire.all$10 -/
def c74 : ACode :=
 (.region [⟨(.prim .id), [.tmp 0], (some 4), none⟩,
  ⟨(.prim .id), [.tmp 1], (some 5), none⟩,
  ⟨(.prim .nilc), [.tmp 5], (some 6), none⟩,
  ⟨(.prim (.fieldAddr 19 none)), [.tmp 6], (some 7), none⟩,
  ⟨(.prim (.load none)), [.tmp 7], (some 8), none⟩,
  ⟨(.call 47), [.tmp 4, .tmp 8, .const (.int .i64 2)], (some 9), none⟩] none)
theorem F74 : IsFun Try.prog 74 2 10 c74 [] := ⟨by decide, Try.f74, _, [], Try.func74, rfl, by decide, rfl, by kernel_rfl, by kernel_rfl⟩

/-- cashbox/wire.all$11 -/
def c75 : ACode :=
 (.region [⟨(.prim .id), [.tmp 1], (some 4), none⟩,
  ⟨(.prim .id), [.tmp 0], (some 5), none⟩,
  ⟨(.call 38), [.tmp 5, .const (.int .i64 2)], (some 6), none⟩,
  ⟨(.prim .nilc), [.tmp 4], (some 7), none⟩,
  ⟨(.prim (.fieldAddr 19 none)), [.tmp 7], (some 8), none⟩,
  ⟨(.prim (.store none)), [.tmp 8, .tmp 6], none, none⟩] none)
theorem F75 : IsFun Try.prog 75 2 9 c75 [] := ⟨by decide, Try.f75, _, [], Try.func75, rfl, by decide, rfl, by kernel_rfl, by kernel_rfl⟩

/-- cashbox/wire.all$12 -/
def c76 : ACode :=
 (.seq (.region [⟨(.prim .id), [.tmp 1], (some 4), none⟩,
  ⟨(.prim .nilc), [.tmp 4], (some 5), none⟩,
  ⟨(.prim (.fieldAddr 20 none)), [.tmp 5], (some 6), none⟩,
  ⟨(.prim (.load none)), [.tmp 6], (some 7), none⟩] none)
 (.cond (.tmp 7)
  (.region [⟨(.prim .id), [.tmp 0], (some 8), none⟩,
   ⟨(.call 47), [.tmp 8, .const (.int .i64 1), .const (.int .i64 1)], (some 9), none⟩] none)
  (.region [⟨(.prim .id), [.tmp 0], (some 10), none⟩,
   ⟨(.call 47), [.tmp 10, .const (.int .i64 0), .const (.int .i64 1)], (some 11), none⟩] none)))
theorem F76 : IsFun Try.prog 76 2 12 c76 [] := ⟨by decide, Try.f76, _, [], Try.func76, rfl, by decide, rfl, by kernel_rfl, by kernel_rfl⟩

/-- cashbox/wire.all$13 -/
def c77 : ACode :=
 (.seq (.region [⟨(.prim .id), [.tmp 0], (some 5), none⟩,
  ⟨(.call 38), [.tmp 5, .const (.int .i64 1)], (some 6), none⟩,
  ⟨(.prim .id), [.tmp 6], (some 4), none⟩] none)
 (.seq (.region [⟨(.prim .id), [.tmp 0], (some 7), none⟩,
  ⟨(.prim .id), [.tmp 0], (some 8), none⟩,
  ⟨(.prim .nilc), [.tmp 8], (some 9), none⟩,
  ⟨(.prim (.fieldAddr 1 none)), [.tmp 9], (some 10), none⟩,
  ⟨(.prim (.load none)), [.tmp 10], (some 11), none⟩,
  ⟨(.prim .id), [.tmp 11], (some 12), none⟩,
  ⟨(.prim .id), [.tmp 4], (some 13), (some (12, false))⟩,
  ⟨(.prim (.bin .gtr .none)), [.tmp 13, .const (.int .i64 1)], (some 14), (some (12, false))⟩,
  ⟨(.prim .pick), [.tmp 12, .const (.bool true), .tmp 14], (some 15), none⟩,
  ⟨(.prim .nilc), [.tmp 7], (some 16), none⟩,
  ⟨(.prim (.fieldAddr 1 none)), [.tmp 16], (some 17), none⟩,
  ⟨(.prim (.store none)), [.tmp 17, .tmp 15], none, none⟩] none)
 (.region [⟨(.prim .id), [.tmp 1], (some 18), none⟩,
  ⟨(.prim .id), [.tmp 4], (some 19), none⟩,
  ⟨(.prim (.bin .eql .none)), [.tmp 19, .const (.int .i64 1)], (some 20), none⟩,
  ⟨(.prim .nilc), [.tmp 18], (some 21), none⟩,
  ⟨(.prim (.fieldAddr 20 none)), [.tmp 21], (some 22), none⟩,
  ⟨(.prim (.store none)), [.tmp 22, .tmp 20], none, none⟩] none)))
theorem F77 : IsFun Try.prog 77 2 23 c77 [] := ⟨by decide, Try.f77, _, [], Try.func77, rfl, by decide, rfl, by kernel_rfl, by kernel_rfl⟩

/-- cashbox/wire.all$14 -/
def c78 : ACode :=
 (.seq (.region [⟨(.prim .id), [.const .nilp], (some 2), none⟩] none)
 (.seq (.region [⟨(.prim .id), [.tmp 0], (some 3), none⟩,
  ⟨(.prim .nilc), [.tmp 3], (some 4), none⟩,
  ⟨(.prim (.fieldAddr 21 none)), [.tmp 4], (some 5), none⟩,
  ⟨(.prim .id), [.tmp 5], (some 2), none⟩] none)
 .ret))
theorem F78 : IsFun Try.prog 78 1 6 c78 [.tmp 2] := ⟨by decide, Try.f78, _, [], Try.func78, rfl, by decide, rfl, by kernel_rfl, by kernel_rfl⟩

/-- cashbox/wire.all$15 -/
def c79 : ACode :=
 (.seq (.region [⟨(.prim .id), [.const .nilp], (some 2), none⟩] none)
 (.seq (.region [⟨(.prim .id), [.tmp 0], (some 3), none⟩,
  ⟨(.prim .nilc), [.tmp 3], (some 4), none⟩,
  ⟨(.prim (.fieldAddr 22 none)), [.tmp 4], (some 5), none⟩,
  ⟨(.prim .id), [.tmp 5], (some 2), none⟩] none)
 .ret))
theorem F79 : IsFun Try.prog 79 1 6 c79 [.tmp 2] := ⟨by decide, Try.f79, _, [], Try.func79, rfl, by decide, rfl, by kernel_rfl, by kernel_rfl⟩

-- loop: 0:w, 16:, 17:, 18:
/-- cashbox/wire.all$16 -/
def c80 : ACode :=
 (.seq (.region [⟨(.prim .id), [.tmp 0], (some 6), none⟩,
  ⟨(.prim .id), [.tmp 1], (some 7), none⟩,
  ⟨(.prim .nilc), [.tmp 7], (some 8), none⟩,
  ⟨(.prim (.fieldAddr 23 none)), [.tmp 8], (some 9), none⟩,
  ⟨(.prim (.load none)), [.tmp 9], (some 10), none⟩,
  ⟨(.prim .len), [.tmp 10], (some 11), none⟩,
  ⟨(.call 47), [.tmp 6, .tmp 11, .const (.int .i64 1)], (some 12), none⟩] none)
 (.seq (.region [⟨(.prim .id), [.tmp 1], (some 13), none⟩,
  ⟨(.prim .nilc), [.tmp 13], (some 14), none⟩,
  ⟨(.prim (.fieldAddr 23 none)), [.tmp 14], (some 15), none⟩,
  ⟨(.prim (.load none)), [.tmp 15], (some 16), none⟩,
  ⟨(.prim .len), [.tmp 16], (some 17), none⟩,
  ⟨(.prim .id), [.const (.int .i64 0)], (some 18), none⟩] none)
 (.block 0
  (.loop
   (.seq (.region [⟨(.prim (.bin .lss .none)), [.tmp 18, .tmp 17], (some 19), none⟩] none)
   (.seq (.cond (.tmp 19)
    .skip
    (.exit 0))
   (.seq (.block 1
    (.seq (.region [⟨(.prim (.idxSl (some 9))), [.tmp 16, .tmp 18], (some 20), none⟩,
     ⟨(.prim (.load (some 9))), [.tmp 20], (some 21), none⟩,
     ⟨(.prim (.alloc [(.int .i64 0), (.int .u8 0), (.int .u8 0), (.int .u8 0), (.int .u8 0), (.int .u8 0), (.int .u8 0), (.int .u8 0), (.int .u8 0)])), [], (some 5), none⟩,
     ⟨(.prim (.store (some 9))), [.tmp 5, .tmp 21], none, none⟩] none)
    (.seq (.region [⟨(.prim .id), [.tmp 0], (some 22), none⟩,
     ⟨(.prim (.fieldAddr 0 none)), [.tmp 5], (some 23), none⟩,
     ⟨(.prim (.load none)), [.tmp 23], (some 24), none⟩,
     ⟨(.call 47), [.tmp 22, .tmp 24, .const (.int .i64 1)], (some 25), none⟩] none)
    (.region [⟨(.prim .id), [.tmp 0], (some 26), none⟩,
     ⟨(.prim .id), [.tmp 0], (some 27), none⟩,
     ⟨(.prim .nilc), [.tmp 27], (some 28), none⟩,
     ⟨(.prim (.load none)), [.tmp 28], (some 29), none⟩,
     ⟨(.prim (.fieldAddr 1 (some 8))), [.tmp 5], (some 30), none⟩,
     ⟨(.prim (.slcArr 8 none false false)), [.tmp 30], (some 31), none⟩,
     ⟨(.prim (.append none)), [.tmp 29, .tmp 31], (some 32), none⟩,
     ⟨(.prim .nilc), [.tmp 26], (some 33), none⟩,
     ⟨(.prim (.store none)), [.tmp 33, .tmp 32], none, none⟩] (some [[], [], [1], [2], [], [4], [3, 5], [0, 0, 1, 2, 3, 4, 5, 6], [7, 6, 6, 0, 1, 2, 3, 4, 5, 6]])))))
   (.region [⟨(.prim (.bin .add .none)), [.tmp 18, .const (.int .i64 1)], (some 34), none⟩,
    ⟨(.prim .id), [.tmp 34], (some 18), none⟩] none))))))))
theorem F80 : IsFun Try.prog 80 2 35 c80 [] := ⟨by decide, Try.f80, _, [], Try.func80, rfl, by decide, rfl, by kernel_rfl, by kernel_rfl⟩

-- loop: 0:g, 1:m, 4:i
/-- cashbox/wire.all$17 -/
def c81 : ACode :=
 (.seq (.region [⟨(.prim .id), [.tmp 0], (some 6), none⟩,
  ⟨(.call 38), [.tmp 6, .const (.int .i64 1)], (some 7), none⟩,
  ⟨(.prim .id), [.tmp 7], (some 4), none⟩] none)
 (.block 0
  (.loop
   (.seq (.seq (.region [⟨(.prim .id), [.tmp 4], (some 8), none⟩,
    ⟨(.prim (.bin .gtr .none)), [.tmp 8, .const (.int .i64 0)], (some 9), none⟩,
    ⟨(.prim .id), [.tmp 9], (some 10), none⟩,
    ⟨(.prim .id), [.tmp 0], (some 11), (some (10, true))⟩,
    ⟨(.prim .nilc), [.tmp 11], (some 12), (some (10, true))⟩,
    ⟨(.prim (.fieldAddr 1 none)), [.tmp 12], (some 13), (some (10, true))⟩,
    ⟨(.prim (.load none)), [.tmp 13], (some 14), (some (10, true))⟩,
    ⟨(.prim (.un .not)), [.tmp 14], (some 15), (some (10, true))⟩,
    ⟨(.prim .pick), [.tmp 10, .tmp 15, .const (.bool false)], (some 16), none⟩] none)
   (.cond (.tmp 16)
    .skip
    (.exit 0)))
   (.seq (.block 1
    (.seq (.region [⟨(.prim .id), [.tmp 0], (some 19), none⟩,
     ⟨(.call 38), [.tmp 19, .const (.int .i64 1)], (some 20), none⟩,
     ⟨(.prim (.build [(.int .i64 0), (.int .u8 0), (.int .u8 0), (.int .u8 0), (.int .u8 0), (.int .u8 0), (.int .u8 0), (.int .u8 0), (.int .u8 0)] [(0, 1)])), [.tmp 20], (some 21), none⟩,
     ⟨(.prim (.alloc [(.int .i64 0), (.int .u8 0), (.int .u8 0), (.int .u8 0), (.int .u8 0), (.int .u8 0), (.int .u8 0), (.int .u8 0), (.int .u8 0)])), [], (some 5), none⟩,
     ⟨(.prim (.store (some 9))), [.tmp 5, .tmp 21], none, none⟩] none)
    (.seq (.region [⟨(.prim (.fieldAddr 1 (some 8))), [.tmp 5], (some 22), none⟩,
     ⟨(.prim (.slcArr 8 none false false)), [.tmp 22], (some 23), none⟩,
     ⟨(.prim .id), [.tmp 0], (some 24), none⟩,
     ⟨(.call 60), [.tmp 24, .const (.int .i64 8)], (some 25), none⟩,
     ⟨(.prim (.copy none)), [.tmp 23, .tmp 25], (some 26), none⟩] (some [[], [0], [], [2], [1, 3, 3]]))
    (.region [⟨(.prim .id), [.tmp 1], (some 27), none⟩,
     ⟨(.prim .id), [.tmp 1], (some 28), none⟩,
     ⟨(.prim .nilc), [.tmp 28], (some 29), none⟩,
     ⟨(.prim (.fieldAddr 23 none)), [.tmp 29], (some 30), none⟩,
     ⟨(.prim (.load none)), [.tmp 30], (some 31), none⟩,
     ⟨(.prim (.load (some 9))), [.tmp 5], (some 32), none⟩,
     ⟨(.prim (.buildSl (some 9))), [.tmp 32], (some 33), none⟩,
     ⟨(.prim (.append (some 9))), [.tmp 31, .tmp 33], (some 34), none⟩,
     ⟨(.prim .nilc), [.tmp 27], (some 35), none⟩,
     ⟨(.prim (.fieldAddr 23 none)), [.tmp 35], (some 36), none⟩,
     ⟨(.prim (.store none)), [.tmp 36, .tmp 34], none, none⟩] (some [[], [], [1], [2], [3], [], [5], [4, 6], [0, 0, 1, 2, 3, 4, 5, 6, 7], [8, 0, 1, 2, 3, 4, 5, 6, 7], [9, 7, 7, 0, 1, 2, 3, 4, 5, 6, 7]])))))
   (.region [⟨(.prim .id), [.tmp 4], (some 17), none⟩,
    ⟨(.prim (.bin .sub .none)), [.tmp 17, .const (.int .i64 1)], (some 18), none⟩,
    ⟨(.prim .id), [.tmp 18], (some 4), none⟩] none))))))
theorem F81 : IsFun Try.prog 81 2 37 c81 [] := ⟨by decide, Try.f81, _, [], Try.func81, rfl, by decide, rfl, by kernel_rfl, by kernel_rfl⟩

-- loop: 0:s, 1:v, 7:, 8:
/-- slices.Index[[]cashbox/api.Errno,cashbox/api.Errno] -/
def c82 : ACode :=
 (.seq (.region [⟨(.prim .id), [.const (.int .i64 0)], (some 4), none⟩] none)
 (.seq (.seq (.region [⟨(.prim .id), [.tmp 0], (some 6), none⟩,
  ⟨(.prim .len), [.tmp 6], (some 7), none⟩,
  ⟨(.prim .id), [.const (.int .i64 0)], (some 8), none⟩] none)
 (.block 0
  (.loop
   (.seq (.region [⟨(.prim (.bin .lss .none)), [.tmp 8, .tmp 7], (some 9), none⟩] none)
   (.seq (.cond (.tmp 9)
    .skip
    (.exit 0))
   (.seq (.block 1
    (.seq (.region [⟨(.prim .id), [.tmp 8], (some 10), none⟩,
     ⟨(.prim .id), [.tmp 10], (some 5), none⟩] none)
    (.seq (.region [⟨(.prim .id), [.tmp 1], (some 11), none⟩,
     ⟨(.prim .id), [.tmp 0], (some 12), none⟩,
     ⟨(.prim .id), [.tmp 5], (some 13), none⟩,
     ⟨(.prim (.idxSl none)), [.tmp 12, .tmp 13], (some 14), none⟩,
     ⟨(.prim (.load none)), [.tmp 14], (some 15), none⟩,
     ⟨(.prim (.bin .eql .none)), [.tmp 11, .tmp 15], (some 16), none⟩] none)
    (.cond (.tmp 16)
     (.seq (.region [⟨(.prim .id), [.tmp 5], (some 17), none⟩,
      ⟨(.prim .id), [.tmp 17], (some 4), none⟩] none)
     .ret)
     .skip))))
   (.region [⟨(.prim (.bin .add .none)), [.tmp 8, .const (.int .i64 1)], (some 18), none⟩,
    ⟨(.prim .id), [.tmp 18], (some 8), none⟩] none)))))))
 (.seq (.region [⟨(.prim .id), [.const (.int .i64 (-1))], (some 4), none⟩] none)
 .ret)))
theorem F82 : IsFun Try.prog 82 2 19 c82 [.tmp 4] := ⟨by decide, Try.f82, _, [], Try.func82, rfl, by decide, rfl, by kernel_rfl, by kernel_rfl⟩

/-- cashbox/wire.first[byte] -/
def c83 : ACode :=
 (.seq (.region [⟨(.prim .id), [.const (.sl .clip [])], (some 4), none⟩,
  ⟨(.prim .id), [.const (.sl .clip [])], (some 5), none⟩,
  ⟨(.prim .id), [.const (.bool false)], (some 6), none⟩] none)
 (.seq (.seq (.region [⟨(.prim .id), [.tmp 0], (some 7), none⟩,
  ⟨(.prim .len), [.tmp 7], (some 8), none⟩,
  ⟨(.prim .id), [.tmp 1], (some 9), none⟩,
  ⟨(.prim (.bin .lss .none)), [.tmp 8, .tmp 9], (some 10), none⟩] none)
 (.cond (.tmp 10)
  (.seq (.region [⟨(.prim .id), [.tmp 1], (some 11), none⟩,
   ⟨(.prim (.mkslice none [(.int .u8 0)])), [.tmp 11, .tmp 11], (some 12), none⟩,
   ⟨(.prim .id), [.tmp 12], (some 4), none⟩,
   ⟨(.prim .id), [.const (.sl .clip [])], (some 5), none⟩,
   ⟨(.prim .id), [.const (.bool false)], (some 6), none⟩] none)
  .ret)
  .skip))
 (.seq (.region [⟨(.prim .id), [.tmp 0], (some 13), none⟩,
  ⟨(.prim .id), [.tmp 1], (some 14), none⟩,
  ⟨(.prim (.slcSl none false true false)), [.tmp 13, .tmp 14], (some 15), none⟩,
  ⟨(.prim .id), [.tmp 0], (some 16), none⟩,
  ⟨(.prim .id), [.tmp 1], (some 17), none⟩,
  ⟨(.prim (.slcSl none true false false)), [.tmp 16, .tmp 17], (some 18), none⟩,
  ⟨(.prim .id), [.tmp 15], (some 4), none⟩,
  ⟨(.prim .id), [.tmp 18], (some 5), none⟩,
  ⟨(.prim .id), [.const (.bool true)], (some 6), none⟩] (some [[], [], [0, 1], [], [], [3, 4], [2, 0, 1, 2], [5, 6, 0, 1, 2, 3, 4, 5, 6], [7, 0, 1, 2, 3, 4, 5, 6, 7]]))
 .ret)))
theorem F83 : IsFun Try.prog 83 2 19 c83 [.tmp 4, .tmp 5, .tmp 6] := ⟨by decide, Try.f83, _, [], Try.func83, rfl, by decide, rfl, by kernel_rfl, by kernel_rfl⟩

-- loop: 1:b, 5:r, 6:i
/-- cashbox/cashboxref01.Join -/
def c84 : ACode :=
 (.seq (.region [⟨(.prim .id), [.const (.int .u32 0)], (some 4), none⟩] none)
 (.seq (.region [⟨(.prim .id), [.tmp 0], (some 7), none⟩,
  ⟨(.prim (.un .xor)), [.tmp 7], (some 8), none⟩,
  ⟨(.prim .id), [.tmp 8], (some 5), none⟩] none)
 (.seq (.seq (.region [⟨(.prim .id), [.const (.int .i64 0)], (some 6), none⟩] none)
 (.block 0
  (.loop
   (.seq (.seq (.region [⟨(.prim .id), [.tmp 6], (some 9), none⟩,
    ⟨(.prim .id), [.tmp 1], (some 10), none⟩,
    ⟨(.prim .len), [.tmp 10], (some 11), none⟩,
    ⟨(.prim (.bin .lss .none)), [.tmp 9, .tmp 11], (some 12), none⟩] none)
   (.cond (.tmp 12)
    .skip
    (.exit 0)))
   (.seq (.block 1
    (.region [⟨(.prim .id), [.tmp 5], (some 15), none⟩,
     ⟨(.prim .id), [.tmp 1], (some 16), none⟩,
     ⟨(.prim .id), [.tmp 6], (some 17), none⟩,
     ⟨(.prim (.idxSl none)), [.tmp 16, .tmp 17], (some 18), none⟩,
     ⟨(.prim (.load none)), [.tmp 18], (some 19), none⟩,
     ⟨(.call 86), [.tmp 15, .tmp 19], (some 20), none⟩,
     ⟨(.prim .id), [.tmp 20], (some 5), none⟩] none))
   (.region [⟨(.prim .id), [.tmp 6], (some 13), none⟩,
    ⟨(.prim (.bin .add .none)), [.tmp 13, .const (.int .i64 1)], (some 14), none⟩,
    ⟨(.prim .id), [.tmp 14], (some 6), none⟩] none))))))
 (.seq (.region [⟨(.prim .id), [.tmp 5], (some 21), none⟩,
  ⟨(.prim (.un .xor)), [.tmp 21], (some 22), none⟩,
  ⟨(.prim .id), [.tmp 22], (some 4), none⟩] none)
 .ret))))
theorem F84 : IsFun Try.prog 84 2 23 c84 [.tmp 4] := ⟨by decide, Try.f84, _, [], Try.func84, rfl, by decide, rfl, by kernel_rfl, by kernel_rfl⟩

/-- cashbox/sums.Join -/
def c85 : ACode :=
 (.seq (.region [⟨(.prim .id), [.const (.int .u32 0)], (some 4), none⟩] none)
 (.seq (.region [⟨(.prim .id), [.tmp 0], (some 5), none⟩,
  ⟨(.prim (.un .xor)), [.tmp 5], (some 6), none⟩,
  ⟨(.prim .id), [.tmp 1], (some 7), none⟩,
  ⟨(.call 87), [.tmp 6, .tmp 7], (some 8), none⟩,
  ⟨(.prim (.un .xor)), [.tmp 8], (some 9), none⟩,
  ⟨(.prim .id), [.tmp 9], (some 4), none⟩] none)
 .ret))
theorem F85 : IsFun Try.prog 85 2 10 c85 [.tmp 4] := ⟨by decide, Try.f85, _, [], Try.func85, rfl, by decide, rfl, by kernel_rfl, by kernel_rfl⟩

-- loop: 0:r, 5:i
/-- cashbox/cashboxref01.remainder -/
def c86 : ACode :=
 (.seq (.region [⟨(.prim .id), [.const (.int .u32 0)], (some 4), none⟩] none)
 (.seq (.region [⟨(.prim .id), [.tmp 0], (some 6), none⟩,
  ⟨(.prim .id), [.tmp 1], (some 7), none⟩,
  ⟨(.prim (.conv .u32)), [.tmp 7], (some 8), none⟩,
  ⟨(.prim (.bin .xor .none)), [.tmp 6, .tmp 8], (some 9), none⟩,
  ⟨(.prim .id), [.tmp 9], (some 0), none⟩] none)
 (.seq (.seq (.region [⟨(.prim .id), [.const (.int .i64 0)], (some 5), none⟩] none)
 (.block 0
  (.loop
   (.seq (.seq (.region [⟨(.prim .id), [.tmp 5], (some 10), none⟩,
    ⟨(.prim (.bin .lss .none)), [.tmp 10, .const (.int .i64 8)], (some 11), none⟩] none)
   (.cond (.tmp 11)
    .skip
    (.exit 0)))
   (.seq (.block 1
    (.seq (.region [⟨(.prim .id), [.tmp 0], (some 14), none⟩,
     ⟨(.prim (.bin .and .none)), [.tmp 14, .const (.int .u32 1)], (some 15), none⟩,
     ⟨(.prim (.bin .eql .none)), [.tmp 15, .const (.int .u32 1)], (some 16), none⟩] none)
    (.cond (.tmp 16)
     (.region [⟨(.prim .id), [.tmp 0], (some 17), none⟩,
      ⟨(.prim (.bin .shr .none)), [.tmp 17, .const (.int .u64 1)], (some 18), none⟩,
      ⟨(.prim (.bin .xor .none)), [.tmp 18, .const (.int .u32 3988292384)], (some 19), none⟩,
      ⟨(.prim .id), [.tmp 19], (some 0), none⟩] none)
     (.region [⟨(.prim .id), [.tmp 0], (some 20), none⟩,
      ⟨(.prim (.bin .shr .none)), [.tmp 20, .const (.int .u64 1)], (some 21), none⟩,
      ⟨(.prim .id), [.tmp 21], (some 0), none⟩] none))))
   (.region [⟨(.prim .id), [.tmp 5], (some 12), none⟩,
    ⟨(.prim (.bin .add .none)), [.tmp 12, .const (.int .i64 1)], (some 13), none⟩,
    ⟨(.prim .id), [.tmp 13], (some 5), none⟩] none))))))
 (.seq (.region [⟨(.prim .id), [.tmp 0], (some 22), none⟩,
  ⟨(.prim .id), [.tmp 22], (some 4), none⟩] none)
 .ret))))
theorem F86 : IsFun Try.prog 86 2 23 c86 [.tmp 4] := ⟨by decide, Try.f86, _, [], Try.func86, rfl, by decide, rfl, by kernel_rfl, by kernel_rfl⟩

-- loop: 0:r, 1:b, 5:t, 9:, 10:
/-- cashbox/sums.through[[]byte] -/
def c87 : ACode :=
 (.seq (.region [⟨(.prim .id), [.const (.int .u32 0)], (some 4), none⟩] none)
 (.seq (.region [⟨(.call 88), [], (some 7), none⟩,
  ⟨(.prim (.alloc [(.int .u32 0), (.int .u32 0), (.int .u32 0), (.int .u32 0), (.int .u32 0), (.int .u32 0), (.int .u32 0), (.int .u32 0), (.int .u32 0), (.int .u32 0), (.int .u32 0), (.int .u32 0), (.int .u32 0), (.int .u32 0), (.int .u32 0), (.int .u32 0)])), [], (some 5), none⟩,
  ⟨(.prim (.store (some 16))), [.tmp 5, .tmp 7], none, none⟩] none)
 (.seq (.seq (.region [⟨(.prim .id), [.tmp 1], (some 8), none⟩,
  ⟨(.prim .len), [.tmp 8], (some 9), none⟩,
  ⟨(.prim .id), [.const (.int .i64 0)], (some 10), none⟩] none)
 (.block 0
  (.loop
   (.seq (.region [⟨(.prim (.bin .lss .none)), [.tmp 10, .tmp 9], (some 11), none⟩] none)
   (.seq (.cond (.tmp 11)
    .skip
    (.exit 0))
   (.seq (.block 1
    (.seq (.region [⟨(.prim .id), [.tmp 10], (some 12), none⟩,
     ⟨(.prim .id), [.tmp 12], (some 6), none⟩] none)
    (.seq (.region [⟨(.prim .id), [.tmp 0], (some 13), none⟩,
     ⟨(.prim .id), [.tmp 1], (some 14), none⟩,
     ⟨(.prim .id), [.tmp 6], (some 15), none⟩,
     ⟨(.prim (.idxSl none)), [.tmp 14, .tmp 15], (some 16), none⟩,
     ⟨(.prim (.load none)), [.tmp 16], (some 17), none⟩,
     ⟨(.prim (.conv .u32)), [.tmp 17], (some 18), none⟩,
     ⟨(.prim (.bin .xor .none)), [.tmp 13, .tmp 18], (some 19), none⟩,
     ⟨(.prim .id), [.tmp 19], (some 0), none⟩] none)
    (.seq (.region [⟨(.prim .id), [.tmp 0], (some 20), none⟩,
     ⟨(.prim (.bin .shr .none)), [.tmp 20, .const (.int .u64 4)], (some 21), none⟩,
     ⟨(.prim .id), [.tmp 0], (some 22), none⟩,
     ⟨(.prim (.bin .and .none)), [.tmp 22, .const (.int .u32 15)], (some 23), none⟩,
     ⟨(.prim (.idxArr 16 none)), [.tmp 5, .tmp 23], (some 24), none⟩,
     ⟨(.prim (.load none)), [.tmp 24], (some 25), none⟩,
     ⟨(.prim (.bin .xor .none)), [.tmp 21, .tmp 25], (some 26), none⟩,
     ⟨(.prim .id), [.tmp 26], (some 0), none⟩] none)
    (.region [⟨(.prim .id), [.tmp 0], (some 27), none⟩,
     ⟨(.prim (.bin .shr .none)), [.tmp 27, .const (.int .u64 4)], (some 28), none⟩,
     ⟨(.prim .id), [.tmp 0], (some 29), none⟩,
     ⟨(.prim (.bin .and .none)), [.tmp 29, .const (.int .u32 15)], (some 30), none⟩,
     ⟨(.prim (.idxArr 16 none)), [.tmp 5, .tmp 30], (some 31), none⟩,
     ⟨(.prim (.load none)), [.tmp 31], (some 32), none⟩,
     ⟨(.prim (.bin .xor .none)), [.tmp 28, .tmp 32], (some 33), none⟩,
     ⟨(.prim .id), [.tmp 33], (some 0), none⟩] none)))))
   (.region [⟨(.prim (.bin .add .none)), [.tmp 10, .const (.int .i64 1)], (some 34), none⟩,
    ⟨(.prim .id), [.tmp 34], (some 10), none⟩] none)))))))
 (.seq (.region [⟨(.prim .id), [.tmp 0], (some 35), none⟩,
  ⟨(.prim .id), [.tmp 35], (some 4), none⟩] none)
 .ret))))
theorem F87 : IsFun Try.prog 87 2 36 c87 [.tmp 4] := ⟨by decide, Try.f87, _, [], Try.func87, rfl, by decide, rfl, by kernel_rfl, by kernel_rfl⟩

-- loop: 0:, 1:half, 2:t, 4:
/-- cashbox/sums.table -/
def c88 : ACode :=
 (.seq (.region [⟨(.prim (.alloc [(.int .u32 0), (.int .u32 0), (.int .u32 0), (.int .u32 0), (.int .u32 0), (.int .u32 0), (.int .u32 0), (.int .u32 0), (.int .u32 0), (.int .u32 0), (.int .u32 0), (.int .u32 0), (.int .u32 0), (.int .u32 0), (.int .u32 0), (.int .u32 0)])), [], (some 0), none⟩] none)
 (.seq (.region [⟨(.prim .id), [.const (.fn (.func 89) [] [])], (some 1), none⟩] none)
 (.seq (.region [⟨(.prim (.alloc [(.int .u32 0), (.int .u32 0), (.int .u32 0), (.int .u32 0), (.int .u32 0), (.int .u32 0), (.int .u32 0), (.int .u32 0), (.int .u32 0), (.int .u32 0), (.int .u32 0), (.int .u32 0), (.int .u32 0), (.int .u32 0), (.int .u32 0), (.int .u32 0)])), [], (some 2), none⟩] none)
 (.seq (.seq (.region [⟨(.prim .id), [.const (.int .i64 0)], (some 4), none⟩] none)
 (.block 0
  (.loop
   (.seq (.region [⟨(.prim (.bin .lss .none)), [.tmp 4, .const (.int .i64 16)], (some 5), none⟩] none)
   (.seq (.cond (.tmp 5)
    .skip
    (.exit 0))
   (.seq (.block 1
    (.seq (.region [⟨(.prim .id), [.tmp 4], (some 6), none⟩,
     ⟨(.prim .id), [.tmp 6], (some 3), none⟩] none)
    (.region [⟨(.prim .id), [.tmp 3], (some 7), none⟩,
     ⟨(.prim .id), [.tmp 1], (some 8), none⟩,
     ⟨(.prim .id), [.tmp 3], (some 9), none⟩,
     ⟨(.prim (.conv .u32)), [.tmp 9], (some 10), none⟩,
     ⟨.callV, [.tmp 8, .tmp 10], (some 11), none⟩,
     ⟨(.prim (.idxArr 16 none)), [.tmp 2, .tmp 7], (some 12), none⟩,
     ⟨(.prim (.store none)), [.tmp 12, .tmp 11], none, none⟩] none)))
   (.region [⟨(.prim (.bin .add .none)), [.tmp 4, .const (.int .i64 1)], (some 13), none⟩,
    ⟨(.prim .id), [.tmp 13], (some 4), none⟩] none)))))))
 (.seq (.region [⟨(.prim (.load (some 16))), [.tmp 2], (some 14), none⟩,
  ⟨(.prim (.store (some 16))), [.tmp 0, .tmp 14], none, none⟩] none)
 .ret)))))
theorem F88 : IsFun Try.prog 88 0 15 c88 [.cell 0 (some 16)] := ⟨by decide, Try.f88, _, [], Try.func88, rfl, by decide, rfl, by kernel_rfl, by kernel_rfl⟩

-- loop: 0:r, 3:
/-- cashbox/sums.table$1 -/
def c89 : ACode :=
 (.seq (.region [⟨(.prim .id), [.const (.int .u32 0)], (some 2), none⟩] none)
 (.seq (.seq (.region [⟨(.prim .id), [.const (.int .i64 0)], (some 3), none⟩] none)
 (.block 0
  (.loop
   (.seq (.region [⟨(.prim (.bin .lss .none)), [.tmp 3, .const (.int .i64 4)], (some 4), none⟩] none)
   (.seq (.cond (.tmp 4)
    .skip
    (.exit 0))
   (.seq (.block 1
    (.region [⟨(.prim .id), [.tmp 0], (some 5), none⟩,
     ⟨(.prim (.bin .shr .none)), [.tmp 5, .const (.int .u64 1)], (some 6), none⟩,
     ⟨(.prim .id), [.tmp 0], (some 7), none⟩,
     ⟨(.prim (.bin .and .none)), [.tmp 7, .const (.int .u32 1)], (some 8), none⟩,
     ⟨(.prim (.un .neg)), [.tmp 8], (some 9), none⟩,
     ⟨(.prim (.bin .and .none)), [.const (.int .u32 3988292384), .tmp 9], (some 10), none⟩,
     ⟨(.prim (.bin .xor .none)), [.tmp 6, .tmp 10], (some 11), none⟩,
     ⟨(.prim .id), [.tmp 11], (some 0), none⟩] none))
   (.region [⟨(.prim (.bin .add .none)), [.tmp 3, .const (.int .i64 1)], (some 12), none⟩,
    ⟨(.prim .id), [.tmp 12], (some 3), none⟩] none)))))))
 (.seq (.region [⟨(.prim .id), [.tmp 0], (some 13), none⟩,
  ⟨(.prim .id), [.tmp 13], (some 2), none⟩] none)
 .ret)))
theorem F89 : IsFun Try.prog 89 1 14 c89 [.tmp 2] := ⟨by decide, Try.f89, _, [], Try.func89, rfl, by decide, rfl, by kernel_rfl, by kernel_rfl⟩

end Go.Proofs.Ytbmcgfdopaaiiaa
