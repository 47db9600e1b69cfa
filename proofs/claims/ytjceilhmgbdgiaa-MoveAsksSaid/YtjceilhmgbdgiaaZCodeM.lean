/- The functions' code for the abstract machine, printed by wip/tools/Gen.lean. -/
import Derived.Test.YtjceilhmgbdgiaaProg
import Derived.Test.YtjceilhmgbdgiaaZCodeW
import Derived.KernelRfl
set_option linter.all false
namespace Go.Proofs.Ytjceilhmgbdgiaa
open Go.Am

-- loop: 1:from, 4:c, 6:n, 9:m, 10:out, 12:want, 13:told, 48:, 49:, 50:
-- loop: 1:from, 4:c, 6:n, 9:m, 10:out, 12:want, 13:told, 15:x, 48:, 49:, 50:, 57:, 58:, 59:
-- loop: 4:c, 13:told, 26:w, 215:, 216:
/-- cashbox/cashboxlaw25.MoveAsks -/
def c3 : ACode :=
 (.seq (.region [⟨(.prim (.boxR (some 2))), [.tmp 0], (some 4), none⟩,
  ⟨(.prim (.boxR (some 3))), [.tmp 2], (some 6), none⟩,
  ⟨(.prim .id), [.const (.bool false)], (some 8), none⟩] none)
 (.seq (.seq (.region [⟨(.prim .id), [.tmp 3], (some 28), none⟩,
  ⟨(.prim .len), [.tmp 28], (some 29), none⟩,
  ⟨(.prim (.bin .gtr .none)), [.tmp 29, .const (.int .i64 60)], (some 30), none⟩] none)
 (.cond (.tmp 30)
  (.seq (.region [⟨(.call 12), [], (some 31), none⟩,
   ⟨(.prim .id), [.tmp 31], (some 8), none⟩] none)
  .ret)
  .skip))
 (.seq (.region [⟨(.prim (.build [(.int .i8 0), (.int .i64 0), (.int .i64 0), (.int .i64 0), (.int .i64 0), (.int .i64 0), (.int .i64 0), (.int .i64 0), (.sl .clip [])] [])), [], (some 33), none⟩,
  ⟨(.prim (.load (some 2))), [.tmp 4], (some 34), none⟩,
  ⟨(.prim .id), [.tmp 1], (some 35), none⟩,
  ⟨(.prim (.load (some 3))), [.tmp 6], (some 36), none⟩,
  ⟨(.call 13), [.tmp 33, .tmp 34, .tmp 35, .tmp 36], (some 37), none⟩,
  ⟨(.prim .id), [.tmp 37], (some 32), none⟩,
  ⟨(.prim (.extract 0)), [.tmp 32], (some 38), none⟩,
  ⟨(.prim (.extract 1)), [.tmp 32], (some 39), none⟩,
  ⟨(.prim (.extract 2)), [.tmp 32], (some 40), none⟩,
  ⟨(.prim (.alloc [(.int .i8 0), (.int .i64 0), (.int .i64 0), (.int .i64 0), (.int .i64 0), (.int .i64 0), (.int .i64 0), (.int .i64 0), (.sl .clip [])])), [], (some 9), none⟩,
  ⟨(.prim (.store (some 9))), [.tmp 9, .tmp 38], none, none⟩,
  ⟨(.prim .id), [.tmp 39], (some 10), none⟩,
  ⟨(.prim .id), [.tmp 40], (some 11), none⟩] none)
 (.seq (.seq (.region [⟨(.prim .id), [.tmp 11], (some 41), none⟩,
  ⟨(.prim (.bin .neq .none)), [.tmp 41, .const (.int .i64 0)], (some 42), none⟩] none)
 (.cond (.tmp 42)
  (.seq (.region [⟨(.prim .id), [.tmp 11], (some 43), none⟩,
   ⟨(.prim (.bin .eql .none)), [.tmp 43, .const (.int .i64 2)], (some 44), none⟩,
   ⟨(.prim .id), [.tmp 44], (some 45), none⟩,
   ⟨(.call 12), [], (some 46), (some (45, true))⟩,
   ⟨(.prim .pick), [.tmp 45, .tmp 46, .const (.bool false)], (some 47), none⟩,
   ⟨(.prim .id), [.tmp 47], (some 8), none⟩] none)
  .ret)
  .skip))
 (.seq (.region [⟨(.prim .id), [.const (.int .i64 1)], (some 12), none⟩] none)
 (.seq (.region [⟨(.prim .id), [.const (.sl .clip [])], (some 13), none⟩] none)
 (.seq (.seq (.region [⟨(.prim .id), [.tmp 3], (some 48), none⟩,
  ⟨(.prim .len), [.tmp 48], (some 49), none⟩,
  ⟨(.prim .id), [.const (.int .i64 0)], (some 50), none⟩] none)
 (.block 0
  (.loop
   (.seq (.region [⟨(.prim (.bin .lss .none)), [.tmp 50, .tmp 49], (some 51), none⟩] none)
   (.seq (.cond (.tmp 51)
    .skip
    (.exit 0))
   (.seq (.block 1
    (.seq (.region [⟨(.prim (.idxSl (some 24))), [.tmp 48, .tmp 50], (some 52), none⟩,
     ⟨(.prim (.load (some 24))), [.tmp 52], (some 53), none⟩,
     ⟨(.prim (.alloc [(.int .i8 0), (.int .i64 0), (.int .i64 0), (.int .i64 0), (.int .i64 0), (.int .i64 0), (.int .i64 0), (.int .i64 0), (.int .i64 0), (.int .i8 0), (.int .i64 0), (.int .u8 0), (.int .u8 0), (.int .u8 0), (.int .u8 0), (.int .u8 0), (.int .u8 0), (.int .u8 0), (.int .u8 0), (.int .i64 0), (.bool false), (.int .i64 0), (.int .i64 0), (.sl .clip [])])), [], (some 15), none⟩,
     ⟨(.prim (.store (some 24))), [.tmp 15, .tmp 53], none, none⟩] none)
    (.seq (.seq (.region [⟨(.prim (.load (some 24))), [.tmp 15], (some 54), none⟩,
     ⟨(.call 14), [.tmp 54], (some 55), none⟩] none)
    (.cond (.tmp 55)
     (.seq (.region [⟨(.call 12), [], (some 56), none⟩,
      ⟨(.prim .id), [.tmp 56], (some 8), none⟩] none)
     .ret)
     .skip))
    (.seq (.seq (.region [⟨(.prim .id), [.tmp 10], (some 57), none⟩,
     ⟨(.prim .len), [.tmp 57], (some 58), none⟩,
     ⟨(.prim .id), [.const (.int .i64 0)], (some 59), none⟩] none)
    (.block 2
     (.loop
      (.seq (.region [⟨(.prim (.bin .lss .none)), [.tmp 59, .tmp 58], (some 60), none⟩] none)
      (.seq (.cond (.tmp 60)
       .skip
       (.exit 2))
      (.seq (.block 3
       (.seq (.region [⟨(.prim (.idxSl (some 24))), [.tmp 57, .tmp 59], (some 61), none⟩,
        ⟨(.prim (.load (some 24))), [.tmp 61], (some 62), none⟩,
        ⟨(.prim (.alloc [(.int .i8 0), (.int .i64 0), (.int .i64 0), (.int .i64 0), (.int .i64 0), (.int .i64 0), (.int .i64 0), (.int .i64 0), (.int .i64 0), (.int .i8 0), (.int .i64 0), (.int .u8 0), (.int .u8 0), (.int .u8 0), (.int .u8 0), (.int .u8 0), (.int .u8 0), (.int .u8 0), (.int .u8 0), (.int .i64 0), (.bool false), (.int .i64 0), (.int .i64 0), (.sl .clip [])])), [], (some 17), none⟩,
        ⟨(.prim (.store (some 24))), [.tmp 17, .tmp 62], none, none⟩] none)
       (.seq (.region [⟨(.prim (.fieldAddr 0 none)), [.tmp 17], (some 63), none⟩,
        ⟨(.prim (.load none)), [.tmp 63], (some 64), none⟩,
        ⟨(.prim (.bin .neq .none)), [.tmp 64, .const (.int .i8 2)], (some 65), none⟩,
        ⟨(.prim .id), [.tmp 65], (some 66), none⟩,
        ⟨(.prim (.fieldAddr 2 none)), [.tmp 17], (some 67), (some (66, false))⟩,
        ⟨(.prim (.load none)), [.tmp 67], (some 68), (some (66, false))⟩,
        ⟨(.prim .id), [.tmp 1], (some 69), (some (66, false))⟩,
        ⟨(.prim (.bin .neq .none)), [.tmp 68, .tmp 69], (some 70), (some (66, false))⟩,
        ⟨(.prim .pick), [.tmp 66, .const (.bool true), .tmp 70], (some 71), none⟩,
        ⟨(.prim .id), [.tmp 71], (some 72), none⟩,
        ⟨(.prim (.fieldAddr 5 (some 3))), [.tmp 17], (some 73), (some (72, false))⟩,
        ⟨(.prim (.load (some 3))), [.tmp 73], (some 74), (some (72, false))⟩,
        ⟨(.prim (.load (some 3))), [.tmp 6], (some 75), (some (72, false))⟩,
        ⟨(.prim (.bin .neq (.flat [0, 0, 0]))), [.tmp 74, .tmp 75], (some 76), (some (72, false))⟩,
        ⟨(.prim .pick), [.tmp 72, .const (.bool true), .tmp 76], (some 77), none⟩,
        ⟨(.prim .id), [.tmp 77], (some 78), none⟩,
        ⟨(.prim (.fieldAddr 8 none)), [.tmp 17], (some 79), (some (78, false))⟩,
        ⟨(.prim (.load none)), [.tmp 79], (some 80), (some (78, false))⟩,
        ⟨(.prim .id), [.tmp 12], (some 81), (some (78, false))⟩,
        ⟨(.prim (.bin .neq .none)), [.tmp 80, .tmp 81], (some 82), (some (78, false))⟩,
        ⟨(.prim .pick), [.tmp 78, .const (.bool true), .tmp 82], (some 83), none⟩,
        ⟨(.prim .id), [.tmp 83], (some 84), none⟩,
        ⟨(.prim (.fieldAddr 9 none)), [.tmp 17], (some 85), (some (84, false))⟩,
        ⟨(.prim (.load none)), [.tmp 85], (some 86), (some (84, false))⟩,
        ⟨(.prim (.bin .neq .none)), [.tmp 86, .const (.int .i8 2)], (some 87), (some (84, false))⟩,
        ⟨(.prim .pick), [.tmp 84, .const (.bool true), .tmp 87], (some 88), none⟩,
        ⟨(.prim .id), [.tmp 88], (some 89), none⟩,
        ⟨(.prim (.fieldAddr 10 none)), [.tmp 17], (some 90), (some (89, false))⟩,
        ⟨(.prim (.load none)), [.tmp 90], (some 91), (some (89, false))⟩,
        ⟨(.prim (.fieldAddr 0 none)), [.tmp 4], (some 92), (some (89, false))⟩,
        ⟨(.prim (.load none)), [.tmp 92], (some 93), (some (89, false))⟩,
        ⟨(.prim (.bin .mul .none)), [.tmp 93, .const (.int .i64 4)], (some 94), (some (89, false))⟩,
        ⟨(.prim .id), [.tmp 12], (some 95), (some (89, false))⟩,
        ⟨(.prim (.bin .add .none)), [.tmp 94, .tmp 95], (some 96), (some (89, false))⟩,
        ⟨(.prim (.bin .sub .none)), [.tmp 96, .const (.int .i64 1)], (some 97), (some (89, false))⟩,
        ⟨(.prim (.bin .neq .none)), [.tmp 91, .tmp 97], (some 98), (some (89, false))⟩,
        ⟨(.prim .pick), [.tmp 89, .const (.bool true), .tmp 98], (some 99), none⟩] none)
       (.cond (.tmp 99)
        (.seq (.region [⟨(.prim .id), [.const (.bool false)], (some 8), none⟩] none)
        .ret)
        .skip))))
      (.region [⟨(.prim (.bin .add .none)), [.tmp 59, .const (.int .i64 1)], (some 100), none⟩,
       ⟨(.prim .id), [.tmp 100], (some 59), none⟩] none)))))))
    (.seq (.seq (.region [⟨(.prim (.fieldAddr 0 none)), [.tmp 15], (some 101), none⟩,
     ⟨(.prim (.load none)), [.tmp 101], (some 102), none⟩,
     ⟨(.prim (.bin .eql .none)), [.tmp 102, .const (.int .i8 0)], (some 103), none⟩] none)
    (.cond (.tmp 103)
     (.seq (.region [⟨(.prim (.load (some 9))), [.tmp 9], (some 105), none⟩,
      ⟨(.call 15), [.tmp 105], (some 106), none⟩,
      ⟨(.prim .id), [.tmp 106], (some 104), none⟩,
      ⟨(.prim (.extract 0)), [.tmp 104], (some 107), none⟩,
      ⟨(.prim (.extract 1)), [.tmp 104], (some 108), none⟩,
      ⟨(.prim (.extract 2)), [.tmp 104], (some 109), none⟩,
      ⟨(.prim (.alloc [(.int .i8 0), (.int .i64 0), (.int .i64 0), (.int .i64 0), (.int .i64 0), (.int .i64 0), (.int .i64 0), (.int .i64 0), (.sl .clip [])])), [], (some 18), none⟩,
      ⟨(.prim (.store (some 9))), [.tmp 18, .tmp 107], none, none⟩,
      ⟨(.prim .id), [.tmp 108], (some 19), none⟩,
      ⟨(.prim .id), [.tmp 109], (some 20), none⟩] none)
     (.seq (.seq (.region [⟨(.prim .id), [.tmp 20], (some 110), none⟩,
      ⟨(.prim (.bin .neq .none)), [.tmp 110, .const (.int .i64 0)], (some 111), none⟩,
      ⟨(.prim .id), [.tmp 111], (some 112), none⟩,
      ⟨(.prim (.load (some 9))), [.tmp 18], (some 113), (some (112, false))⟩,
      ⟨(.prim (.load (some 9))), [.tmp 9], (some 114), (some (112, false))⟩,
      ⟨(.call 16), [.tmp 113, .tmp 114], (some 115), (some (112, false))⟩,
      ⟨(.prim (.un .not)), [.tmp 115], (some 116), (some (112, false))⟩,
      ⟨(.prim .pick), [.tmp 112, .const (.bool true), .tmp 116], (some 117), none⟩,
      ⟨(.prim .id), [.tmp 117], (some 118), none⟩,
      ⟨(.prim .id), [.tmp 19], (some 119), (some (118, false))⟩,
      ⟨(.prim .len), [.tmp 119], (some 120), (some (118, false))⟩,
      ⟨(.prim (.bin .neq .none)), [.tmp 120, .const (.int .i64 1)], (some 121), (some (118, false))⟩,
      ⟨(.prim .pick), [.tmp 118, .const (.bool true), .tmp 121], (some 122), none⟩] none)
     (.cond (.tmp 122)
      (.seq (.region [⟨(.prim .id), [.const (.bool false)], (some 8), none⟩] none)
      .ret)
      .skip))
     (.seq (.region [⟨(.prim .id), [.tmp 19], (some 123), none⟩,
      ⟨(.prim .id), [.tmp 123], (some 10), none⟩] none)
     (.exit 1))))
     .skip))
    (.seq (.region [⟨(.prim (.load (some 9))), [.tmp 9], (some 125), none⟩,
     ⟨(.prim (.load (some 24))), [.tmp 15], (some 126), none⟩,
     ⟨(.call 17), [.tmp 125, .tmp 126], (some 127), none⟩,
     ⟨(.prim .id), [.tmp 127], (some 124), none⟩,
     ⟨(.prim (.extract 0)), [.tmp 124], (some 128), none⟩,
     ⟨(.prim (.extract 1)), [.tmp 124], (some 129), none⟩,
     ⟨(.prim (.extract 2)), [.tmp 124], (some 130), none⟩,
     ⟨(.prim (.extract 3)), [.tmp 124], (some 131), none⟩,
     ⟨(.prim (.alloc [(.int .i8 0), (.int .i64 0), (.int .i64 0), (.int .i64 0), (.int .i64 0), (.int .i64 0), (.int .i64 0), (.int .i64 0), (.sl .clip [])])), [], (some 21), none⟩,
     ⟨(.prim (.store (some 9))), [.tmp 21, .tmp 128], none, none⟩,
     ⟨(.prim .id), [.tmp 129], (some 22), none⟩,
     ⟨(.prim .id), [.tmp 130], (some 23), none⟩,
     ⟨(.prim .id), [.tmp 131], (some 24), none⟩] none)
    (.seq (.seq (.region [⟨(.prim .id), [.tmp 24], (some 132), none⟩,
     ⟨(.prim (.bin .neq .none)), [.tmp 132, .const (.int .i64 0)], (some 133), none⟩] none)
    (.cond (.tmp 133)
     (.exit 1)
     .skip))
    (.seq (.region [⟨(.prim (.fieldAddr 5 (some 3))), [.tmp 15], (some 134), none⟩,
     ⟨(.prim (.load (some 3))), [.tmp 134], (some 135), none⟩,
     ⟨(.prim (.load (some 3))), [.tmp 6], (some 136), none⟩,
     ⟨(.prim (.bin .eql (.flat [0, 0, 0]))), [.tmp 135, .tmp 136], (some 137), none⟩,
     ⟨(.prim .id), [.tmp 137], (some 138), none⟩,
     ⟨(.prim (.fieldAddr 8 none)), [.tmp 15], (some 139), (some (138, true))⟩,
     ⟨(.prim (.load none)), [.tmp 139], (some 140), (some (138, true))⟩,
     ⟨(.prim .id), [.tmp 12], (some 141), (some (138, true))⟩,
     ⟨(.prim (.bin .eql .none)), [.tmp 140, .tmp 141], (some 142), (some (138, true))⟩,
     ⟨(.prim .pick), [.tmp 138, .tmp 142, .const (.bool false)], (some 143), none⟩,
     ⟨(.prim .id), [.tmp 143], (some 144), none⟩,
     ⟨(.prim (.fieldAddr 1 none)), [.tmp 15], (some 145), (some (144, true))⟩,
     ⟨(.prim (.load none)), [.tmp 145], (some 146), (some (144, true))⟩,
     ⟨(.prim .id), [.tmp 1], (some 147), (some (144, true))⟩,
     ⟨(.prim (.bin .eql .none)), [.tmp 146, .tmp 147], (some 148), (some (144, true))⟩,
     ⟨(.prim .pick), [.tmp 144, .tmp 148, .const (.bool false)], (some 149), none⟩,
     ⟨(.prim .id), [.tmp 149], (some 25), none⟩] none)
    (.seq (.seq (.region [⟨(.prim .id), [.tmp 25], (some 150), none⟩,
     ⟨(.prim (.un .not)), [.tmp 150], (some 151), none⟩,
     ⟨(.prim .id), [.tmp 151], (some 152), none⟩,
     ⟨(.prim .id), [.tmp 23], (some 153), (some (152, true))⟩,
     ⟨(.prim (.bin .neq .none)), [.tmp 153, .const (.int .i8 0)], (some 154), (some (152, true))⟩,
     ⟨(.prim .id), [.tmp 154], (some 155), (some (152, true))⟩,
     ⟨(.prim .id), [.tmp 22], (some 156), (some (155, false))⟩,
     ⟨(.prim .len), [.tmp 156], (some 157), (some (155, false))⟩,
     ⟨(.prim (.bin .gtr .none)), [.tmp 157, .const (.int .i64 0)], (some 158), (some (155, false))⟩,
     ⟨(.prim .pick), [.tmp 155, .const (.bool true), .tmp 158], (some 159), (some (152, true))⟩,
     ⟨(.prim .id), [.tmp 159], (some 160), (some (152, true))⟩,
     ⟨(.prim (.load (some 9))), [.tmp 21], (some 161), (some (160, false))⟩,
     ⟨(.prim (.load (some 9))), [.tmp 9], (some 162), (some (160, false))⟩,
     ⟨(.call 16), [.tmp 161, .tmp 162], (some 163), (some (160, false))⟩,
     ⟨(.prim (.un .not)), [.tmp 163], (some 164), (some (160, false))⟩,
     ⟨(.prim .pick), [.tmp 160, .const (.bool true), .tmp 164], (some 165), (some (152, true))⟩,
     ⟨(.prim .pick), [.tmp 152, .tmp 165, .const (.bool false)], (some 166), none⟩,
     ⟨(.prim .id), [.tmp 166], (some 167), none⟩,
     ⟨(.prim .id), [.tmp 25], (some 168), (some (167, false))⟩,
     ⟨(.prim .id), [.tmp 168], (some 169), (some (167, false))⟩,
     ⟨(.prim .id), [.tmp 23], (some 170), (some (169, true))⟩,
     ⟨(.prim (.bin .eql .none)), [.tmp 170, .const (.int .i8 2)], (some 171), (some (169, true))⟩,
     ⟨(.prim (.fieldAddr 19 none)), [.tmp 15], (some 172), (some (169, true))⟩,
     ⟨(.prim (.load none)), [.tmp 172], (some 173), (some (169, true))⟩,
     ⟨(.prim (.bin .neq .none)), [.tmp 173, .const (.int .i64 0)], (some 174), (some (169, true))⟩,
     ⟨(.prim (.bin .neq .bool)), [.tmp 171, .tmp 174], (some 175), (some (169, true))⟩,
     ⟨(.prim .pick), [.tmp 169, .tmp 175, .const (.bool false)], (some 176), (some (167, false))⟩,
     ⟨(.prim .pick), [.tmp 167, .const (.bool true), .tmp 176], (some 177), none⟩] none)
    (.cond (.tmp 177)
     (.seq (.region [⟨(.prim .id), [.const (.bool false)], (some 8), none⟩] none)
     .ret)
     .skip))
    (.seq (.seq (.region [⟨(.prim .id), [.tmp 23], (some 178), none⟩,
     ⟨(.prim (.bin .eql .none)), [.tmp 178, .const (.int .i8 2)], (some 179), none⟩] none)
    (.cond (.tmp 179)
     (.seq (.region [⟨(.prim (.load (some 9))), [.tmp 21], (some 180), none⟩,
      ⟨(.prim (.build [(.int .i8 0), (.int .i64 0), (.int .i64 0), (.int .i64 0), (.int .i64 0), (.int .i64 0), (.int .i64 0), (.int .i64 0), (.sl .clip [])] [])), [], (some 181), none⟩,
      ⟨(.call 16), [.tmp 180, .tmp 181], (some 182), none⟩,
      ⟨(.prim .id), [.tmp 182], (some 183), none⟩,
      ⟨(.call 12), [], (some 184), (some (183, true))⟩,
      ⟨(.prim .pick), [.tmp 183, .tmp 184, .const (.bool false)], (some 185), none⟩,
      ⟨(.prim .id), [.tmp 185], (some 8), none⟩] none)
     .ret)
     .skip))
    (.seq (.seq (.region [⟨(.prim .id), [.tmp 25], (some 186), none⟩] none)
    (.cond (.tmp 186)
     (.seq (.region [⟨(.prim .id), [.tmp 13], (some 187), none⟩,
      ⟨(.prim (.fieldAddr 11 (some 8))), [.tmp 15], (some 188), none⟩,
      ⟨(.prim (.load (some 8))), [.tmp 188], (some 189), none⟩,
      ⟨(.prim (.buildSl (some 8))), [.tmp 189], (some 190), none⟩,
      ⟨(.prim (.append (some 8))), [.tmp 187, .tmp 190], (some 191), none⟩,
      ⟨(.prim .id), [.tmp 191], (some 13), none⟩] none)
     (.region [⟨(.prim .id), [.tmp 12], (some 192), none⟩,
      ⟨(.prim (.bin .add .none)), [.tmp 192, .const (.int .i64 1)], (some 193), none⟩,
      ⟨(.prim .id), [.tmp 193], (some 12), none⟩] none))
     .skip))
    (.seq (.seq (.region [⟨(.prim .id), [.tmp 23], (some 194), none⟩,
     ⟨(.prim (.bin .eql .none)), [.tmp 194, .const (.int .i8 1)], (some 195), none⟩,
     ⟨(.prim .id), [.tmp 25], (some 196), none⟩,
     ⟨(.prim .id), [.tmp 196], (some 197), none⟩,
     ⟨(.prim .id), [.tmp 12], (some 198), (some (197, true))⟩,
     ⟨(.prim (.bin .gtr .none)), [.tmp 198, .const (.int .i64 4)], (some 199), (some (197, true))⟩,
     ⟨(.prim .pick), [.tmp 197, .tmp 199, .const (.bool false)], (some 200), none⟩,
     ⟨(.prim (.bin .neq .bool)), [.tmp 195, .tmp 200], (some 201), none⟩,
     ⟨(.prim .id), [.tmp 201], (some 202), none⟩,
     ⟨(.prim (.load (some 9))), [.tmp 21], (some 203), (some (202, false))⟩,
     ⟨(.call 18), [.tmp 203], (some 204), (some (202, false))⟩,
     ⟨(.prim (.bin .neq .none)), [.tmp 204, .const (.int .i64 0)], (some 205), (some (202, false))⟩,
     ⟨(.prim .pick), [.tmp 202, .const (.bool true), .tmp 205], (some 206), none⟩] none)
    (.cond (.tmp 206)
     (.seq (.region [⟨(.prim .id), [.const (.bool false)], (some 8), none⟩] none)
     .ret)
     .skip))
    (.seq (.seq (.region [⟨(.prim .id), [.tmp 23], (some 207), none⟩,
     ⟨(.prim (.bin .eql .none)), [.tmp 207, .const (.int .i8 1)], (some 208), none⟩] none)
    (.cond (.tmp 208)
     (.seq (.region [⟨(.prim (.load (some 9))), [.tmp 21], (some 209), none⟩,
      ⟨(.call 19), [.tmp 209], (some 210), none⟩,
      ⟨(.prim .id), [.tmp 210], (some 26), none⟩] none)
     (.seq (.seq (.region [⟨(.prim .id), [.tmp 26], (some 211), none⟩,
      ⟨(.prim .len), [.tmp 211], (some 212), none⟩,
      ⟨(.prim (.bin .neq .none)), [.tmp 212, .const (.int .i64 4)], (some 213), none⟩] none)
     (.cond (.tmp 213)
      (.seq (.region [⟨(.prim .id), [.const (.bool false)], (some 8), none⟩] none)
      .ret)
      .skip))
     (.seq (.seq (.region [⟨(.prim .id), [.tmp 26], (some 214), none⟩,
      ⟨(.prim .len), [.tmp 214], (some 215), none⟩,
      ⟨(.prim .id), [.const (.int .i64 0)], (some 216), none⟩] none)
     (.block 4
      (.loop
       (.seq (.region [⟨(.prim (.bin .lss .none)), [.tmp 216, .tmp 215], (some 217), none⟩] none)
       (.seq (.cond (.tmp 217)
        .skip
        (.exit 4))
       (.seq (.block 5
        (.seq (.region [⟨(.prim .id), [.tmp 216], (some 218), none⟩,
         ⟨(.prim .id), [.tmp 218], (some 27), none⟩] none)
        (.seq (.region [⟨(.prim .id), [.tmp 26], (some 219), none⟩,
         ⟨(.prim .id), [.tmp 27], (some 220), none⟩,
         ⟨(.prim (.idxSl (some 9))), [.tmp 219, .tmp 220], (some 221), none⟩,
         ⟨(.prim (.fieldAddr 0 none)), [.tmp 221], (some 222), none⟩,
         ⟨(.prim (.load none)), [.tmp 222], (some 223), none⟩,
         ⟨(.prim (.fieldAddr 0 none)), [.tmp 4], (some 224), none⟩,
         ⟨(.prim (.load none)), [.tmp 224], (some 225), none⟩,
         ⟨(.prim (.bin .mul .none)), [.tmp 225, .const (.int .i64 4)], (some 226), none⟩,
         ⟨(.prim .id), [.tmp 27], (some 227), none⟩,
         ⟨(.prim (.bin .add .none)), [.tmp 226, .tmp 227], (some 228), none⟩,
         ⟨(.prim (.bin .neq .none)), [.tmp 223, .tmp 228], (some 229), none⟩,
         ⟨(.prim .id), [.tmp 229], (some 230), none⟩,
         ⟨(.prim .id), [.tmp 26], (some 231), (some (230, false))⟩,
         ⟨(.prim .id), [.tmp 27], (some 232), (some (230, false))⟩,
         ⟨(.prim (.idxSl (some 9))), [.tmp 231, .tmp 232], (some 233), (some (230, false))⟩,
         ⟨(.prim (.fieldAddr 1 (some 8))), [.tmp 233], (some 234), (some (230, false))⟩,
         ⟨(.prim (.load (some 8))), [.tmp 234], (some 235), (some (230, false))⟩,
         ⟨(.prim .id), [.tmp 13], (some 236), (some (230, false))⟩,
         ⟨(.prim .id), [.tmp 27], (some 237), (some (230, false))⟩,
         ⟨(.prim (.idxSl (some 8))), [.tmp 236, .tmp 237], (some 238), (some (230, false))⟩,
         ⟨(.prim (.load (some 8))), [.tmp 238], (some 239), (some (230, false))⟩,
         ⟨(.prim (.bin .neq (.flat [0, 0, 0, 0, 0, 0, 0, 0]))), [.tmp 235, .tmp 239], (some 240), (some (230, false))⟩,
         ⟨(.prim .pick), [.tmp 230, .const (.bool true), .tmp 240], (some 241), none⟩] (some [[], [], [0, 1], [2], [3], [], [5], [6], [], [7, 8], [4, 9], [10], [11], [11], [12, 13, 11], [14, 11], [15, 11], [11], [11], [17, 18, 11], [19, 11], [16, 20, 11], [11, 21]]))
        (.cond (.tmp 241)
         (.seq (.region [⟨(.prim .id), [.const (.bool false)], (some 8), none⟩] none)
         .ret)
         .skip))))
       (.region [⟨(.prim (.bin .add .none)), [.tmp 216, .const (.int .i64 1)], (some 242), none⟩,
        ⟨(.prim .id), [.tmp 242], (some 216), none⟩] none)))))))
     (.seq (.region [⟨(.call 12), [], (some 243), none⟩,
      ⟨(.prim .id), [.tmp 243], (some 8), none⟩] none)
     .ret))))
     .skip))
    (.seq (.region [⟨(.prim (.load (some 9))), [.tmp 21], (some 244), none⟩,
     ⟨(.prim (.store (some 9))), [.tmp 9, .tmp 244], none, none⟩] none)
    (.region [⟨(.prim .id), [.tmp 22], (some 245), none⟩,
     ⟨(.prim .id), [.tmp 245], (some 10), none⟩] none)))))))))))))))
   (.region [⟨(.prim (.bin .add .none)), [.tmp 50, .const (.int .i64 1)], (some 246), none⟩,
    ⟨(.prim .id), [.tmp 246], (some 50), none⟩] none)))))))
 (.seq (.region [⟨(.prim (.load (some 9))), [.tmp 9], (some 247), none⟩,
  ⟨(.call 19), [.tmp 247], (some 248), none⟩,
  ⟨(.prim .len), [.tmp 248], (some 249), none⟩,
  ⟨(.prim (.bin .eql .none)), [.tmp 249, .const (.int .i64 0)], (some 250), none⟩,
  ⟨(.prim .id), [.tmp 250], (some 251), none⟩,
  ⟨(.call 12), [], (some 252), (some (251, true))⟩,
  ⟨(.prim .pick), [.tmp 251, .tmp 252, .const (.bool false)], (some 253), none⟩,
  ⟨(.prim .id), [.tmp 253], (some 8), none⟩] none)
 .ret))))))))
theorem F3 : IsFun Try.prog 3 4 254 c3 [.tmp 8] := ⟨by decide, Try.f3, _, [4, 6], Try.func3, rfl, by decide, rfl, by kernel_rfl, by kernel_rfl⟩

-- loop: 1:m, 43:, 44:, 45:
/-- cashbox/cashboxlaw25.MoveTicks -/
def c4 : ACode :=
 (.seq (.region [⟨(.prim (.boxR (some 9))), [.tmp 0], (some 1), none⟩,
  ⟨(.prim .id), [.const (.bool false)], (some 2), none⟩] none)
 (.seq (.seq (.region [⟨(.prim (.load (some 9))), [.tmp 1], (some 8), none⟩,
  ⟨(.call 20), [.tmp 8], (some 9), none⟩] none)
 (.cond (.tmp 9)
  (.seq (.region [⟨(.call 12), [], (some 10), none⟩,
   ⟨(.prim .id), [.tmp 10], (some 2), none⟩] none)
  .ret)
  .skip))
 (.seq (.region [⟨(.prim (.load (some 9))), [.tmp 1], (some 12), none⟩,
  ⟨(.call 15), [.tmp 12], (some 13), none⟩,
  ⟨(.prim .id), [.tmp 13], (some 11), none⟩,
  ⟨(.prim (.extract 0)), [.tmp 11], (some 14), none⟩,
  ⟨(.prim (.extract 1)), [.tmp 11], (some 15), none⟩,
  ⟨(.prim (.extract 2)), [.tmp 11], (some 16), none⟩,
  ⟨(.prim (.alloc [(.int .i8 0), (.int .i64 0), (.int .i64 0), (.int .i64 0), (.int .i64 0), (.int .i64 0), (.int .i64 0), (.int .i64 0), (.sl .clip [])])), [], (some 3), none⟩,
  ⟨(.prim (.store (some 9))), [.tmp 3, .tmp 14], none, none⟩,
  ⟨(.prim .id), [.tmp 15], (some 4), none⟩,
  ⟨(.prim .id), [.tmp 16], (some 5), none⟩] none)
 (.seq (.seq (.region [⟨(.prim .id), [.tmp 5], (some 17), none⟩,
  ⟨(.prim (.bin .neq .none)), [.tmp 17, .const (.int .i64 0)], (some 18), none⟩] none)
 (.cond (.tmp 18)
  (.seq (.region [⟨(.prim (.load (some 9))), [.tmp 1], (some 19), none⟩,
   ⟨(.call 18), [.tmp 19], (some 20), none⟩,
   ⟨(.prim (.bin .neq .none)), [.tmp 20, .const (.int .i64 0)], (some 21), none⟩,
   ⟨(.prim .id), [.tmp 21], (some 22), none⟩,
   ⟨(.prim .id), [.tmp 4], (some 23), (some (22, true))⟩,
   ⟨(.prim .len), [.tmp 23], (some 24), (some (22, true))⟩,
   ⟨(.prim (.bin .eql .none)), [.tmp 24, .const (.int .i64 0)], (some 25), (some (22, true))⟩,
   ⟨(.prim .pick), [.tmp 22, .tmp 25, .const (.bool false)], (some 26), none⟩,
   ⟨(.prim .id), [.tmp 26], (some 27), none⟩,
   ⟨(.call 12), [], (some 28), (some (27, true))⟩,
   ⟨(.prim .pick), [.tmp 27, .tmp 28, .const (.bool false)], (some 29), none⟩,
   ⟨(.prim .id), [.tmp 29], (some 2), none⟩] none)
  .ret)
  .skip))
 (.seq (.seq (.region [⟨(.prim (.load (some 9))), [.tmp 3], (some 30), none⟩,
  ⟨(.prim (.load (some 9))), [.tmp 1], (some 31), none⟩,
  ⟨(.call 16), [.tmp 30, .tmp 31], (some 32), none⟩,
  ⟨(.prim (.un .not)), [.tmp 32], (some 33), none⟩,
  ⟨(.prim .id), [.tmp 33], (some 34), none⟩,
  ⟨(.prim .id), [.tmp 4], (some 35), (some (34, false))⟩,
  ⟨(.prim .len), [.tmp 35], (some 36), (some (34, false))⟩,
  ⟨(.prim (.bin .eql .none)), [.tmp 36, .const (.int .i64 1)], (some 37), (some (34, false))⟩,
  ⟨(.prim (.fieldAddr 0 none)), [.tmp 1], (some 38), (some (34, false))⟩,
  ⟨(.prim (.load none)), [.tmp 38], (some 39), (some (34, false))⟩,
  ⟨(.prim (.bin .eql .none)), [.tmp 39, .const (.int .i8 1)], (some 40), (some (34, false))⟩,
  ⟨(.prim (.bin .neq .bool)), [.tmp 37, .tmp 40], (some 41), (some (34, false))⟩,
  ⟨(.prim .pick), [.tmp 34, .const (.bool true), .tmp 41], (some 42), none⟩] none)
 (.cond (.tmp 42)
  (.seq (.region [⟨(.prim .id), [.const (.bool false)], (some 2), none⟩] none)
  .ret)
  .skip))
 (.seq (.seq (.region [⟨(.prim .id), [.tmp 4], (some 43), none⟩,
  ⟨(.prim .len), [.tmp 43], (some 44), none⟩,
  ⟨(.prim .id), [.const (.int .i64 0)], (some 45), none⟩] none)
 (.block 0
  (.loop
   (.seq (.region [⟨(.prim (.bin .lss .none)), [.tmp 45, .tmp 44], (some 46), none⟩] none)
   (.seq (.cond (.tmp 46)
    .skip
    (.exit 0))
   (.seq (.block 1
    (.seq (.region [⟨(.prim (.idxSl (some 24))), [.tmp 43, .tmp 45], (some 47), none⟩,
     ⟨(.prim (.load (some 24))), [.tmp 47], (some 48), none⟩,
     ⟨(.prim (.alloc [(.int .i8 0), (.int .i64 0), (.int .i64 0), (.int .i64 0), (.int .i64 0), (.int .i64 0), (.int .i64 0), (.int .i64 0), (.int .i64 0), (.int .i8 0), (.int .i64 0), (.int .u8 0), (.int .u8 0), (.int .u8 0), (.int .u8 0), (.int .u8 0), (.int .u8 0), (.int .u8 0), (.int .u8 0), (.int .i64 0), (.bool false), (.int .i64 0), (.int .i64 0), (.sl .clip [])])), [], (some 7), none⟩,
     ⟨(.prim (.store (some 24))), [.tmp 7, .tmp 48], none, none⟩] none)
    (.seq (.region [⟨(.prim (.fieldAddr 0 none)), [.tmp 7], (some 49), none⟩,
     ⟨(.prim (.load none)), [.tmp 49], (some 50), none⟩,
     ⟨(.prim (.bin .neq .none)), [.tmp 50, .const (.int .i8 2)], (some 51), none⟩,
     ⟨(.prim .id), [.tmp 51], (some 52), none⟩,
     ⟨(.prim (.fieldAddr 2 none)), [.tmp 7], (some 53), (some (52, false))⟩,
     ⟨(.prim (.load none)), [.tmp 53], (some 54), (some (52, false))⟩,
     ⟨(.prim (.fieldAddr 6 none)), [.tmp 1], (some 55), (some (52, false))⟩,
     ⟨(.prim (.load none)), [.tmp 55], (some 56), (some (52, false))⟩,
     ⟨(.prim (.bin .neq .none)), [.tmp 54, .tmp 56], (some 57), (some (52, false))⟩,
     ⟨(.prim .pick), [.tmp 52, .const (.bool true), .tmp 57], (some 58), none⟩,
     ⟨(.prim .id), [.tmp 58], (some 59), none⟩,
     ⟨(.prim (.fieldAddr 5 (some 3))), [.tmp 7], (some 60), (some (59, false))⟩,
     ⟨(.prim (.load (some 3))), [.tmp 60], (some 61), (some (59, false))⟩,
     ⟨(.prim (.fieldAddr 1 (some 3))), [.tmp 1], (some 62), (some (59, false))⟩,
     ⟨(.prim (.load (some 3))), [.tmp 62], (some 63), (some (59, false))⟩,
     ⟨(.prim (.bin .neq (.flat [0, 0, 0]))), [.tmp 61, .tmp 63], (some 64), (some (59, false))⟩,
     ⟨(.prim .pick), [.tmp 59, .const (.bool true), .tmp 64], (some 65), none⟩,
     ⟨(.prim .id), [.tmp 65], (some 66), none⟩,
     ⟨(.prim (.fieldAddr 8 none)), [.tmp 7], (some 67), (some (66, false))⟩,
     ⟨(.prim (.load none)), [.tmp 67], (some 68), (some (66, false))⟩,
     ⟨(.prim (.fieldAddr 7 none)), [.tmp 1], (some 69), (some (66, false))⟩,
     ⟨(.prim (.load none)), [.tmp 69], (some 70), (some (66, false))⟩,
     ⟨(.prim (.bin .neq .none)), [.tmp 68, .tmp 70], (some 71), (some (66, false))⟩,
     ⟨(.prim .pick), [.tmp 66, .const (.bool true), .tmp 71], (some 72), none⟩,
     ⟨(.prim .id), [.tmp 72], (some 73), none⟩,
     ⟨(.prim (.fieldAddr 8 none)), [.tmp 7], (some 74), (some (73, false))⟩,
     ⟨(.prim (.load none)), [.tmp 74], (some 75), (some (73, false))⟩,
     ⟨(.prim (.fieldAddr 8 none)), [.tmp 1], (some 76), (some (73, false))⟩,
     ⟨(.prim (.load none)), [.tmp 76], (some 77), (some (73, false))⟩,
     ⟨(.prim .len), [.tmp 77], (some 78), (some (73, false))⟩,
     ⟨(.prim (.bin .add .none)), [.tmp 78, .const (.int .i64 1)], (some 79), (some (73, false))⟩,
     ⟨(.prim (.bin .neq .none)), [.tmp 75, .tmp 79], (some 80), (some (73, false))⟩,
     ⟨(.prim .pick), [.tmp 73, .const (.bool true), .tmp 80], (some 81), none⟩] none)
    (.cond (.tmp 81)
     (.seq (.region [⟨(.prim .id), [.const (.bool false)], (some 2), none⟩] none)
     .ret)
     .skip))))
   (.region [⟨(.prim (.bin .add .none)), [.tmp 45, .const (.int .i64 1)], (some 82), none⟩,
    ⟨(.prim .id), [.tmp 82], (some 45), none⟩] none)))))))
 (.seq (.region [⟨(.prim (.load (some 9))), [.tmp 1], (some 83), none⟩,
  ⟨(.call 19), [.tmp 83], (some 84), none⟩,
  ⟨(.prim .len), [.tmp 84], (some 85), none⟩,
  ⟨(.prim (.bin .eql .none)), [.tmp 85, .const (.int .i64 0)], (some 86), none⟩,
  ⟨(.prim (.fieldAddr 0 none)), [.tmp 1], (some 87), none⟩,
  ⟨(.prim (.load none)), [.tmp 87], (some 88), none⟩,
  ⟨(.prim (.bin .neq .none)), [.tmp 88, .const (.int .i8 2)], (some 89), none⟩,
  ⟨(.prim (.bin .eql .bool)), [.tmp 86, .tmp 89], (some 90), none⟩,
  ⟨(.prim .id), [.tmp 90], (some 91), none⟩,
  ⟨(.call 12), [], (some 92), (some (91, true))⟩,
  ⟨(.prim .pick), [.tmp 91, .tmp 92, .const (.bool false)], (some 93), none⟩,
  ⟨(.prim .id), [.tmp 93], (some 2), none⟩] (some [[], [0], [1], [2], [], [4], [5], [3, 6], [7, 1], [8, 8], [8, 9], [10, 9, 0, 1, 2, 3, 4, 5, 6, 7, 8, 9, 10]]))
 .ret)))))))
theorem F4 : IsFun Try.prog 4 1 94 c4 [.tmp 2] := ⟨by decide, Try.f4, _, [1], Try.func4, rfl, by decide, rfl, by kernel_rfl, by kernel_rfl⟩

-- loop: 1:m, 2:l, 3:e, 4:how, 5:i
/-- cashbox/cashboxlaw25.wakes -/
def c12 : ACode :=
 (.seq (.region [⟨(.prim .id), [.const (.bool false)], (some 0), none⟩] none)
 (.seq (.region [⟨(.prim (.build [(.int .i8 0), (.int .i64 0), (.int .i64 0), (.int .i64 0), (.int .i64 0), (.int .i64 0), (.int .i64 0), (.int .i64 0), (.sl .clip [])] [])), [], (some 15), none⟩,
  ⟨(.prim (.build [(.int .i64 0), (.int .i64 0)] [(0, 1), (1, 1)])), [.const (.int .i64 2), .const (.int .i64 3)], (some 16), none⟩,
  ⟨(.call 58), [], (some 17), none⟩,
  ⟨(.call 13), [.tmp 15, .tmp 16, .const (.int .i64 1), .tmp 17], (some 18), none⟩,
  ⟨(.prim .id), [.tmp 18], (some 14), none⟩,
  ⟨(.prim (.extract 0)), [.tmp 14], (some 19), none⟩,
  ⟨(.prim (.extract 1)), [.tmp 14], (some 20), none⟩,
  ⟨(.prim (.extract 2)), [.tmp 14], (some 21), none⟩,
  ⟨(.prim (.alloc [(.int .i8 0), (.int .i64 0), (.int .i64 0), (.int .i64 0), (.int .i64 0), (.int .i64 0), (.int .i64 0), (.int .i64 0), (.sl .clip [])])), [], (some 1), none⟩,
  ⟨(.prim (.store (some 9))), [.tmp 1, .tmp 19], none, none⟩,
  ⟨(.prim .id), [.tmp 20], (some 2), none⟩,
  ⟨(.prim .id), [.tmp 21], (some 3), none⟩] none)
 (.seq (.region [⟨(.prim .id), [.const (.int .i8 0)], (some 4), none⟩] none)
 (.seq (.seq (.region [⟨(.prim .id), [.const (.int .i64 1)], (some 5), none⟩] none)
 (.block 0
  (.loop
   (.seq (.seq (.region [⟨(.prim .id), [.tmp 5], (some 22), none⟩,
    ⟨(.prim (.bin .leq .none)), [.tmp 22, .const (.int .i64 4)], (some 23), none⟩] none)
   (.cond (.tmp 23)
    .skip
    (.exit 0)))
   (.seq (.block 1
    (.region [⟨(.prim (.load (some 9))), [.tmp 1], (some 27), none⟩,
     ⟨(.prim .id), [.tmp 5], (some 28), none⟩,
     ⟨(.prim .id), [.tmp 5], (some 29), none⟩,
     ⟨(.prim (.conv .u8)), [.tmp 29], (some 30), none⟩,
     ⟨(.call 59), [.tmp 28, .const (.int .i64 0), .tmp 30], (some 31), none⟩,
     ⟨(.call 17), [.tmp 27, .tmp 31], (some 32), none⟩,
     ⟨(.prim .id), [.tmp 32], (some 26), none⟩,
     ⟨(.prim (.extract 0)), [.tmp 26], (some 33), none⟩,
     ⟨(.prim (.extract 1)), [.tmp 26], (some 34), none⟩,
     ⟨(.prim (.extract 2)), [.tmp 26], (some 35), none⟩,
     ⟨(.prim (.extract 3)), [.tmp 26], (some 36), none⟩,
     ⟨(.prim (.store (some 9))), [.tmp 1, .tmp 33], none, none⟩,
     ⟨(.prim .id), [.tmp 35], (some 4), none⟩] (some [[], [], [], [2], [1, 3], [0, 4, 4], [5], [6], [6], [6], [6], [7, 5, 0, 1, 2, 3, 4, 5, 6, 7], [9, 11, 0, 1, 2, 3, 4, 5, 6, 7, 8, 9, 11]])))
   (.region [⟨(.prim .id), [.tmp 5], (some 24), none⟩,
    ⟨(.prim (.bin .add .none)), [.tmp 24, .const (.int .i64 1)], (some 25), none⟩,
    ⟨(.prim .id), [.tmp 25], (some 5), none⟩] none))))))
 (.seq (.region [⟨(.prim (.load (some 9))), [.tmp 1], (some 37), none⟩,
  ⟨(.call 19), [.tmp 37], (some 38), none⟩,
  ⟨(.prim .id), [.tmp 38], (some 6), none⟩] none)
 (.seq (.region [⟨(.prim (.build [(.int .i8 0), (.int .i64 0), (.int .i64 0), (.int .i64 0), (.int .i64 0), (.int .i64 0), (.int .i64 0), (.int .i64 0), (.sl .clip [])] [])), [], (some 40), none⟩,
  ⟨(.prim (.build [(.int .i64 0), (.int .i64 0)] [(0, 1), (1, 1)])), [.const (.int .i64 2), .const (.int .i64 3)], (some 41), none⟩,
  ⟨(.call 58), [], (some 42), none⟩,
  ⟨(.call 13), [.tmp 40, .tmp 41, .const (.int .i64 1), .tmp 42], (some 43), none⟩,
  ⟨(.prim .id), [.tmp 43], (some 39), none⟩,
  ⟨(.prim (.extract 0)), [.tmp 39], (some 44), none⟩,
  ⟨(.prim (.extract 1)), [.tmp 39], (some 45), none⟩,
  ⟨(.prim (.extract 2)), [.tmp 39], (some 46), none⟩,
  ⟨(.prim (.alloc [(.int .i8 0), (.int .i64 0), (.int .i64 0), (.int .i64 0), (.int .i64 0), (.int .i64 0), (.int .i64 0), (.int .i64 0), (.sl .clip [])])), [], (some 7), none⟩,
  ⟨(.prim (.store (some 9))), [.tmp 7, .tmp 44], none, none⟩,
  ⟨(.prim .id), [.tmp 45], (some 8), none⟩,
  ⟨(.prim .id), [.tmp 46], (some 9), none⟩] none)
 (.seq (.region [⟨(.prim (.load (some 9))), [.tmp 7], (some 48), none⟩,
  ⟨(.call 59), [.const (.int .i64 1), .const (.int .i64 120), .const (.int .u8 0)], (some 49), none⟩,
  ⟨(.call 17), [.tmp 48, .tmp 49], (some 50), none⟩,
  ⟨(.prim .id), [.tmp 50], (some 47), none⟩,
  ⟨(.prim (.extract 0)), [.tmp 47], (some 51), none⟩,
  ⟨(.prim (.extract 1)), [.tmp 47], (some 52), none⟩,
  ⟨(.prim (.extract 2)), [.tmp 47], (some 53), none⟩,
  ⟨(.prim (.extract 3)), [.tmp 47], (some 54), none⟩,
  ⟨(.prim (.alloc [(.int .i8 0), (.int .i64 0), (.int .i64 0), (.int .i64 0), (.int .i64 0), (.int .i64 0), (.int .i64 0), (.int .i64 0), (.sl .clip [])])), [], (some 10), none⟩,
  ⟨(.prim (.store (some 9))), [.tmp 10, .tmp 51], none, none⟩,
  ⟨(.prim .id), [.tmp 52], (some 11), none⟩,
  ⟨(.prim .id), [.tmp 53], (some 12), none⟩,
  ⟨(.prim .id), [.tmp 54], (some 13), none⟩] (some [[], [], [0, 1, 1], [2], [3], [3], [3], [3], [], [8, 4, 2, 0, 1, 2, 3, 4, 8], [5, 9, 0, 1, 2, 3, 4, 5, 8, 9], [6, 10, 0, 1, 2, 3, 4, 5, 6, 8, 9, 10], [7, 11, 0, 1, 2, 3, 4, 5, 6, 7, 8, 9, 10, 11]]))
 (.seq (.region [⟨(.prim .id), [.tmp 3], (some 55), none⟩,
  ⟨(.prim (.bin .eql .none)), [.tmp 55, .const (.int .i64 0)], (some 56), none⟩,
  ⟨(.prim .id), [.tmp 56], (some 57), none⟩,
  ⟨(.prim .id), [.tmp 2], (some 58), (some (57, true))⟩,
  ⟨(.prim .len), [.tmp 58], (some 59), (some (57, true))⟩,
  ⟨(.prim (.bin .eql .none)), [.tmp 59, .const (.int .i64 1)], (some 60), (some (57, true))⟩,
  ⟨(.prim .pick), [.tmp 57, .tmp 60, .const (.bool false)], (some 61), none⟩,
  ⟨(.prim .id), [.tmp 61], (some 62), none⟩,
  ⟨(.prim .id), [.tmp 2], (some 63), (some (62, true))⟩,
  ⟨(.prim (.idxSl (some 24))), [.tmp 63, .const (.int .i64 0)], (some 64), (some (62, true))⟩,
  ⟨(.prim (.fieldAddr 10 none)), [.tmp 64], (some 65), (some (62, true))⟩,
  ⟨(.prim (.load none)), [.tmp 65], (some 66), (some (62, true))⟩,
  ⟨(.prim (.bin .eql .none)), [.tmp 66, .const (.int .i64 8)], (some 67), (some (62, true))⟩,
  ⟨(.prim .pick), [.tmp 62, .tmp 67, .const (.bool false)], (some 68), none⟩,
  ⟨(.prim .id), [.tmp 68], (some 69), none⟩,
  ⟨(.prim .id), [.tmp 2], (some 70), (some (69, true))⟩,
  ⟨(.prim (.idxSl (some 24))), [.tmp 70, .const (.int .i64 0)], (some 71), (some (69, true))⟩,
  ⟨(.prim (.fieldAddr 9 none)), [.tmp 71], (some 72), (some (69, true))⟩,
  ⟨(.prim (.load none)), [.tmp 72], (some 73), (some (69, true))⟩,
  ⟨(.prim (.bin .eql .none)), [.tmp 73, .const (.int .i8 2)], (some 74), (some (69, true))⟩,
  ⟨(.prim .pick), [.tmp 69, .tmp 74, .const (.bool false)], (some 75), none⟩,
  ⟨(.prim .id), [.tmp 75], (some 76), none⟩,
  ⟨(.prim .id), [.tmp 4], (some 77), (some (76, true))⟩,
  ⟨(.prim (.bin .eql .none)), [.tmp 77, .const (.int .i8 1)], (some 78), (some (76, true))⟩,
  ⟨(.prim .pick), [.tmp 76, .tmp 78, .const (.bool false)], (some 79), none⟩,
  ⟨(.prim .id), [.tmp 79], (some 80), none⟩,
  ⟨(.prim .id), [.tmp 6], (some 81), (some (80, true))⟩,
  ⟨(.prim .len), [.tmp 81], (some 82), (some (80, true))⟩,
  ⟨(.prim (.bin .eql .none)), [.tmp 82, .const (.int .i64 4)], (some 83), (some (80, true))⟩,
  ⟨(.prim .pick), [.tmp 80, .tmp 83, .const (.bool false)], (some 84), none⟩,
  ⟨(.prim .id), [.tmp 84], (some 85), none⟩,
  ⟨(.prim .id), [.tmp 6], (some 86), (some (85, true))⟩,
  ⟨(.prim (.idxSl (some 9))), [.tmp 86, .const (.int .i64 1)], (some 87), (some (85, true))⟩,
  ⟨(.prim (.fieldAddr 0 none)), [.tmp 87], (some 88), (some (85, true))⟩,
  ⟨(.prim (.load none)), [.tmp 88], (some 89), (some (85, true))⟩,
  ⟨(.prim (.bin .eql .none)), [.tmp 89, .const (.int .i64 9)], (some 90), (some (85, true))⟩,
  ⟨(.prim .pick), [.tmp 85, .tmp 90, .const (.bool false)], (some 91), none⟩,
  ⟨(.prim .id), [.tmp 91], (some 92), none⟩,
  ⟨(.prim .id), [.tmp 6], (some 93), (some (92, true))⟩,
  ⟨(.prim (.idxSl (some 9))), [.tmp 93, .const (.int .i64 1)], (some 94), (some (92, true))⟩,
  ⟨(.prim (.fieldAddr 1 (some 8))), [.tmp 94], (some 95), (some (92, true))⟩,
  ⟨(.prim (.idxArr 8 none)), [.tmp 95, .const (.int .i64 0)], (some 96), (some (92, true))⟩,
  ⟨(.prim (.load none)), [.tmp 96], (some 97), (some (92, true))⟩,
  ⟨(.prim (.bin .eql .none)), [.tmp 97, .const (.int .u8 2)], (some 98), (some (92, true))⟩,
  ⟨(.prim .pick), [.tmp 92, .tmp 98, .const (.bool false)], (some 99), none⟩,
  ⟨(.prim .id), [.tmp 99], (some 100), none⟩,
  ⟨(.prim .id), [.tmp 12], (some 101), (some (100, true))⟩,
  ⟨(.prim (.bin .eql .none)), [.tmp 101, .const (.int .i8 2)], (some 102), (some (100, true))⟩,
  ⟨(.prim .pick), [.tmp 100, .tmp 102, .const (.bool false)], (some 103), none⟩,
  ⟨(.prim .id), [.tmp 103], (some 104), none⟩,
  ⟨(.prim .id), [.tmp 13], (some 105), (some (104, true))⟩,
  ⟨(.prim (.bin .eql .none)), [.tmp 105, .const (.int .i64 0)], (some 106), (some (104, true))⟩,
  ⟨(.prim .pick), [.tmp 104, .tmp 106, .const (.bool false)], (some 107), none⟩,
  ⟨(.prim .id), [.tmp 107], (some 0), none⟩] none)
 .ret))))))))
theorem F12 : IsFun Try.prog 12 0 108 c12 [.tmp 0] := ⟨by decide, Try.f12, _, [], Try.func12, rfl, by decide, rfl, by kernel_rfl, by kernel_rfl⟩

/-- cashbox/move.Begin -/
def c13 : ACode :=
 (.seq (.region [⟨(.prim (.boxR (some 9))), [.tmp 0], (some 4), none⟩,
  ⟨(.prim (.boxR (some 2))), [.tmp 1], (some 5), none⟩,
  ⟨(.prim (.boxR (some 3))), [.tmp 3], (some 7), none⟩,
  ⟨(.prim (.alloc [(.int .i8 0), (.int .i64 0), (.int .i64 0), (.int .i64 0), (.int .i64 0), (.int .i64 0), (.int .i64 0), (.int .i64 0), (.sl .clip [])])), [], (some 8), none⟩,
  ⟨(.prim .id), [.const (.sl .clip [])], (some 9), none⟩,
  ⟨(.prim .id), [.const (.int .i64 0)], (some 10), none⟩] none)
 (.seq (.block 0
  (.seq (.seq (.region [⟨(.prim (.load (some 9))), [.tmp 4], (some 13), none⟩,
   ⟨(.call 18), [.tmp 13], (some 14), none⟩,
   ⟨(.prim (.bin .neq .none)), [.tmp 14, .const (.int .i64 0)], (some 15), none⟩,
   ⟨(.prim .id), [.tmp 15], (some 12), none⟩] none)
  (.cond (.tmp 12)
   .skip
   (.region [⟨(.prim (.load (some 2))), [.tmp 5], (some 16), none⟩,
    ⟨(.prim .id), [.tmp 2], (some 17), none⟩,
    ⟨(.prim (.load (some 3))), [.tmp 7], (some 18), none⟩,
    ⟨(.call 60), [.tmp 16, .tmp 17, .tmp 18], (some 19), none⟩,
    ⟨(.prim (.un .not)), [.tmp 19], (some 20), none⟩,
    ⟨(.prim .id), [.tmp 20], (some 12), none⟩] none)))
  (.cond (.tmp 12)
   (.seq (.region [⟨(.prim (.build [(.int .i8 0), (.int .i64 0), (.int .i64 0), (.int .i64 0), (.int .i64 0), (.int .i64 0), (.int .i64 0), (.int .i64 0), (.sl .clip [])] [])), [], (some 21), none⟩,
    ⟨(.prim (.store (some 9))), [.tmp 8, .tmp 21], none, none⟩,
    ⟨(.prim .id), [.const (.sl .clip [])], (some 9), none⟩,
    ⟨(.prim .id), [.const (.int .i64 2)], (some 10), none⟩] none)
   .ret)
   (.seq (.region [⟨(.prim (.fieldAddr 0 none)), [.tmp 4], (some 23), none⟩,
    ⟨(.prim (.load none)), [.tmp 23], (some 24), none⟩,
    ⟨(.prim (.bin .neq .none)), [.tmp 24, .const (.int .i8 0)], (some 25), none⟩,
    ⟨(.prim .id), [.tmp 25], (some 22), none⟩] none)
   (.cond (.tmp 22)
    (.seq (.region [⟨(.prim (.build [(.int .i8 0), (.int .i64 0), (.int .i64 0), (.int .i64 0), (.int .i64 0), (.int .i64 0), (.int .i64 0), (.int .i64 0), (.sl .clip [])] [])), [], (some 26), none⟩,
     ⟨(.prim (.store (some 9))), [.tmp 8, .tmp 26], none, none⟩,
     ⟨(.prim .id), [.const (.sl .clip [])], (some 9), none⟩,
     ⟨(.prim .id), [.const (.int .i64 242)], (some 10), none⟩] none)
    .ret)
    .skip)))))
 (.seq (.region [⟨(.prim (.load (some 3))), [.tmp 7], (some 27), none⟩,
  ⟨(.prim (.load (some 2))), [.tmp 5], (some 28), none⟩,
  ⟨(.prim .id), [.tmp 2], (some 29), none⟩,
  ⟨(.prim (.build [(.int .i8 0), (.int .i64 0), (.int .i64 0), (.int .i64 0), (.int .i64 0), (.int .i64 0), (.int .i64 0), (.int .i64 0), (.sl .clip [])] [(0, 1), (1, 3), (4, 2), (6, 1), (7, 1)])), [.const (.int .i8 1), .tmp 27, .tmp 28, .tmp 29, .const (.int .i64 1)], (some 30), none⟩,
  ⟨(.prim (.alloc [(.int .i8 0), (.int .i64 0), (.int .i64 0), (.int .i64 0), (.int .i64 0), (.int .i64 0), (.int .i64 0), (.int .i64 0), (.sl .clip [])])), [], (some 11), none⟩,
  ⟨(.prim (.store (some 9))), [.tmp 11, .tmp 30], none, none⟩] none)
 (.seq (.region [⟨(.prim (.load (some 9))), [.tmp 11], (some 31), none⟩,
  ⟨(.call 61), [.tmp 11], (some 32), none⟩,
  ⟨(.prim (.store (some 9))), [.tmp 8, .tmp 31], none, none⟩,
  ⟨(.prim .id), [.tmp 32], (some 9), none⟩,
  ⟨(.prim .id), [.const (.int .i64 0)], (some 10), none⟩] (some [[], [], [0, 1, 0], [1, 2, 0, 1, 2], [3, 0, 1, 2, 3]]))
 .ret))))
theorem F13 : IsFun Try.prog 13 4 33 c13 [.cell 8 (some 9), .tmp 9, .tmp 10] := ⟨by decide, Try.f13, _, [4, 5, 7], Try.func13, rfl, by decide, rfl, by kernel_rfl, by kernel_rfl⟩

/-- cashbox/move.Tick -/
def c15 : ACode :=
 (.seq (.region [⟨(.prim (.boxR (some 9))), [.tmp 0], (some 1), none⟩,
  ⟨(.prim (.alloc [(.int .i8 0), (.int .i64 0), (.int .i64 0), (.int .i64 0), (.int .i64 0), (.int .i64 0), (.int .i64 0), (.int .i64 0), (.sl .clip [])])), [], (some 2), none⟩,
  ⟨(.prim .id), [.const (.sl .clip [])], (some 3), none⟩,
  ⟨(.prim .id), [.const (.int .i64 0)], (some 4), none⟩] none)
 (.seq (.block 0
  (.seq (.region [⟨(.prim (.load (some 9))), [.tmp 1], (some 6), none⟩,
   ⟨(.call 18), [.tmp 6], (some 7), none⟩,
   ⟨(.prim (.bin .neq .none)), [.tmp 7, .const (.int .i64 0)], (some 8), none⟩,
   ⟨(.prim .id), [.tmp 8], (some 5), none⟩] none)
  (.cond (.tmp 5)
   (.seq (.region [⟨(.prim (.build [(.int .i8 0), (.int .i64 0), (.int .i64 0), (.int .i64 0), (.int .i64 0), (.int .i64 0), (.int .i64 0), (.int .i64 0), (.sl .clip [])] [])), [], (some 9), none⟩,
    ⟨(.prim (.store (some 9))), [.tmp 2, .tmp 9], none, none⟩,
    ⟨(.prim .id), [.const (.sl .clip [])], (some 3), none⟩,
    ⟨(.prim .id), [.const (.int .i64 2)], (some 4), none⟩] none)
   .ret)
   (.seq (.region [⟨(.prim (.fieldAddr 0 none)), [.tmp 1], (some 11), none⟩,
    ⟨(.prim (.load none)), [.tmp 11], (some 12), none⟩,
    ⟨(.prim (.bin .neq .none)), [.tmp 12, .const (.int .i8 1)], (some 13), none⟩,
    ⟨(.prim .id), [.tmp 13], (some 10), none⟩] none)
   (.cond (.tmp 10)
    (.seq (.region [⟨(.prim (.load (some 9))), [.tmp 1], (some 14), none⟩,
     ⟨(.call 62), [.tmp 14], (some 15), none⟩,
     ⟨(.prim (.store (some 9))), [.tmp 2, .tmp 15], none, none⟩,
     ⟨(.prim .id), [.const (.sl .clip [])], (some 3), none⟩,
     ⟨(.prim .id), [.const (.int .i64 0)], (some 4), none⟩] none)
    .ret)
    .skip)))))
 (.seq (.region [⟨(.prim (.load (some 9))), [.tmp 1], (some 16), none⟩,
  ⟨(.call 62), [.tmp 16], (some 17), none⟩,
  ⟨(.call 61), [.tmp 1], (some 18), none⟩,
  ⟨(.prim (.store (some 9))), [.tmp 2, .tmp 17], none, none⟩,
  ⟨(.prim .id), [.tmp 18], (some 3), none⟩,
  ⟨(.prim .id), [.const (.int .i64 0)], (some 4), none⟩] none)
 .ret)))
theorem F15 : IsFun Try.prog 15 1 19 c15 [.cell 2 (some 9), .tmp 3, .tmp 4] := ⟨by decide, Try.f15, _, [1], Try.func15, rfl, by decide, rfl, by kernel_rfl, by kernel_rfl⟩

/-- cashbox/move.Same -/
def c16 : ACode :=
 (.seq (.region [⟨(.prim (.boxR (some 9))), [.tmp 0], (some 2), none⟩,
  ⟨(.prim (.boxR (some 9))), [.tmp 1], (some 3), none⟩,
  ⟨(.prim .id), [.const (.bool false)], (some 4), none⟩] none)
 (.seq (.region [⟨(.prim (.fieldAddr 0 none)), [.tmp 2], (some 5), none⟩,
  ⟨(.prim (.load none)), [.tmp 5], (some 6), none⟩,
  ⟨(.prim (.fieldAddr 0 none)), [.tmp 3], (some 7), none⟩,
  ⟨(.prim (.load none)), [.tmp 7], (some 8), none⟩,
  ⟨(.prim (.bin .eql .none)), [.tmp 6, .tmp 8], (some 9), none⟩,
  ⟨(.prim .id), [.tmp 9], (some 10), none⟩,
  ⟨(.prim (.fieldAddr 1 (some 3))), [.tmp 2], (some 11), (some (10, true))⟩,
  ⟨(.prim (.load (some 3))), [.tmp 11], (some 12), (some (10, true))⟩,
  ⟨(.prim (.fieldAddr 1 (some 3))), [.tmp 3], (some 13), (some (10, true))⟩,
  ⟨(.prim (.load (some 3))), [.tmp 13], (some 14), (some (10, true))⟩,
  ⟨(.prim (.bin .eql (.flat [0, 0, 0]))), [.tmp 12, .tmp 14], (some 15), (some (10, true))⟩,
  ⟨(.prim .pick), [.tmp 10, .tmp 15, .const (.bool false)], (some 16), none⟩,
  ⟨(.prim .id), [.tmp 16], (some 17), none⟩,
  ⟨(.prim (.fieldAddr 4 (some 2))), [.tmp 2], (some 18), (some (17, true))⟩,
  ⟨(.prim (.load (some 2))), [.tmp 18], (some 19), (some (17, true))⟩,
  ⟨(.prim (.fieldAddr 4 (some 2))), [.tmp 3], (some 20), (some (17, true))⟩,
  ⟨(.prim (.load (some 2))), [.tmp 20], (some 21), (some (17, true))⟩,
  ⟨(.prim (.bin .eql (.flat [0, 0]))), [.tmp 19, .tmp 21], (some 22), (some (17, true))⟩,
  ⟨(.prim .pick), [.tmp 17, .tmp 22, .const (.bool false)], (some 23), none⟩,
  ⟨(.prim .id), [.tmp 23], (some 24), none⟩,
  ⟨(.prim (.fieldAddr 6 none)), [.tmp 2], (some 25), (some (24, true))⟩,
  ⟨(.prim (.load none)), [.tmp 25], (some 26), (some (24, true))⟩,
  ⟨(.prim (.fieldAddr 6 none)), [.tmp 3], (some 27), (some (24, true))⟩,
  ⟨(.prim (.load none)), [.tmp 27], (some 28), (some (24, true))⟩,
  ⟨(.prim (.bin .eql .none)), [.tmp 26, .tmp 28], (some 29), (some (24, true))⟩,
  ⟨(.prim .pick), [.tmp 24, .tmp 29, .const (.bool false)], (some 30), none⟩,
  ⟨(.prim .id), [.tmp 30], (some 31), none⟩,
  ⟨(.prim (.fieldAddr 7 none)), [.tmp 2], (some 32), (some (31, true))⟩,
  ⟨(.prim (.load none)), [.tmp 32], (some 33), (some (31, true))⟩,
  ⟨(.prim (.fieldAddr 7 none)), [.tmp 3], (some 34), (some (31, true))⟩,
  ⟨(.prim (.load none)), [.tmp 34], (some 35), (some (31, true))⟩,
  ⟨(.prim (.bin .eql .none)), [.tmp 33, .tmp 35], (some 36), (some (31, true))⟩,
  ⟨(.prim .pick), [.tmp 31, .tmp 36, .const (.bool false)], (some 37), none⟩,
  ⟨(.prim .id), [.tmp 37], (some 38), none⟩,
  ⟨(.prim (.fieldAddr 8 none)), [.tmp 2], (some 39), (some (38, true))⟩,
  ⟨(.prim (.load none)), [.tmp 39], (some 40), (some (38, true))⟩,
  ⟨(.prim (.fieldAddr 8 none)), [.tmp 3], (some 41), (some (38, true))⟩,
  ⟨(.prim (.load none)), [.tmp 41], (some 42), (some (38, true))⟩,
  ⟨(.call 63), [.tmp 40, .tmp 42], (some 43), (some (38, true))⟩,
  ⟨(.prim .pick), [.tmp 38, .tmp 43, .const (.bool false)], (some 44), none⟩,
  ⟨(.prim .id), [.tmp 44], (some 4), none⟩] none)
 .ret))
theorem F16 : IsFun Try.prog 16 2 45 c16 [.tmp 4] := ⟨by decide, Try.f16, _, [2, 3], Try.func16, rfl, by decide, rfl, by kernel_rfl, by kernel_rfl⟩

/-- cashbox/move.Hear -/
def c17 : ACode :=
 (.seq (.region [⟨(.prim (.boxR (some 9))), [.tmp 0], (some 2), none⟩,
  ⟨(.prim (.boxR (some 24))), [.tmp 1], (some 3), none⟩,
  ⟨(.prim (.alloc [(.int .i8 0), (.int .i64 0), (.int .i64 0), (.int .i64 0), (.int .i64 0), (.int .i64 0), (.int .i64 0), (.int .i64 0), (.sl .clip [])])), [], (some 4), none⟩,
  ⟨(.prim .id), [.const (.sl .clip [])], (some 5), none⟩,
  ⟨(.prim .id), [.const (.int .i8 0)], (some 6), none⟩,
  ⟨(.prim .id), [.const (.int .i64 0)], (some 7), none⟩] none)
 (.scopeJ
  (.seq (.seq (.region [⟨(.prim (.load (some 9))), [.tmp 2], (some 9), none⟩,
   ⟨(.call 18), [.tmp 9], (some 10), none⟩,
   ⟨(.prim (.bin .neq .none)), [.tmp 10, .const (.int .i64 0)], (some 11), none⟩,
   ⟨(.prim .id), [.tmp 11], (some 12), none⟩,
   ⟨(.prim (.load (some 24))), [.tmp 3], (some 13), (some (12, false))⟩,
   ⟨(.call 64), [.tmp 13], (some 14), (some (12, false))⟩,
   ⟨(.prim (.un .not)), [.tmp 14], (some 15), (some (12, false))⟩,
   ⟨(.prim .pick), [.tmp 12, .const (.bool true), .tmp 15], (some 16), none⟩,
   ⟨(.prim .id), [.tmp 16], (some 17), none⟩,
   ⟨(.prim (.fieldAddr 0 none)), [.tmp 3], (some 18), (some (17, false))⟩,
   ⟨(.prim (.load none)), [.tmp 18], (some 19), (some (17, false))⟩,
   ⟨(.prim (.bin .neq .none)), [.tmp 19, .const (.int .i8 3)], (some 20), (some (17, false))⟩,
   ⟨(.prim .pick), [.tmp 17, .const (.bool true), .tmp 20], (some 21), none⟩] none)
  (.cond (.tmp 21)
   (.seq (.region [⟨(.prim (.build [(.int .i8 0), (.int .i64 0), (.int .i64 0), (.int .i64 0), (.int .i64 0), (.int .i64 0), (.int .i64 0), (.int .i64 0), (.sl .clip [])] [])), [], (some 22), none⟩,
    ⟨(.prim (.store (some 9))), [.tmp 4, .tmp 22], none, none⟩,
    ⟨(.prim .id), [.const (.sl .clip [])], (some 5), none⟩,
    ⟨(.prim .id), [.const (.int .i8 0)], (some 6), none⟩,
    ⟨(.prim .id), [.const (.int .i64 2)], (some 7), none⟩] none)
   .ret)
   .skip))
  (.seq (.region [⟨(.prim (.load (some 9))), [.tmp 2], (some 23), none⟩,
   ⟨(.call 62), [.tmp 23], (some 24), none⟩,
   ⟨(.prim (.alloc [(.int .i8 0), (.int .i64 0), (.int .i64 0), (.int .i64 0), (.int .i64 0), (.int .i64 0), (.int .i64 0), (.int .i64 0), (.sl .clip [])])), [], (some 8), none⟩,
   ⟨(.prim (.store (some 9))), [.tmp 8, .tmp 24], none, none⟩] none)
  (.seq (.seq (.region [⟨(.prim (.fieldAddr 0 none)), [.tmp 2], (some 25), none⟩,
   ⟨(.prim (.load none)), [.tmp 25], (some 26), none⟩,
   ⟨(.prim (.bin .neq .none)), [.tmp 26, .const (.int .i8 1)], (some 27), none⟩,
   ⟨(.prim .id), [.tmp 27], (some 28), none⟩,
   ⟨(.prim (.fieldAddr 5 (some 3))), [.tmp 3], (some 29), (some (28, false))⟩,
   ⟨(.prim (.load (some 3))), [.tmp 29], (some 30), (some (28, false))⟩,
   ⟨(.prim (.fieldAddr 1 (some 3))), [.tmp 2], (some 31), (some (28, false))⟩,
   ⟨(.prim (.load (some 3))), [.tmp 31], (some 32), (some (28, false))⟩,
   ⟨(.prim (.bin .neq (.flat [0, 0, 0]))), [.tmp 30, .tmp 32], (some 33), (some (28, false))⟩,
   ⟨(.prim .pick), [.tmp 28, .const (.bool true), .tmp 33], (some 34), none⟩,
   ⟨(.prim .id), [.tmp 34], (some 35), none⟩,
   ⟨(.prim (.fieldAddr 8 none)), [.tmp 3], (some 36), (some (35, false))⟩,
   ⟨(.prim (.load none)), [.tmp 36], (some 37), (some (35, false))⟩,
   ⟨(.prim (.fieldAddr 7 none)), [.tmp 2], (some 38), (some (35, false))⟩,
   ⟨(.prim (.load none)), [.tmp 38], (some 39), (some (35, false))⟩,
   ⟨(.prim (.bin .neq .none)), [.tmp 37, .tmp 39], (some 40), (some (35, false))⟩,
   ⟨(.prim .pick), [.tmp 35, .const (.bool true), .tmp 40], (some 41), none⟩,
   ⟨(.prim .id), [.tmp 41], (some 42), none⟩,
   ⟨(.prim (.fieldAddr 1 none)), [.tmp 3], (some 43), (some (42, false))⟩,
   ⟨(.prim (.load none)), [.tmp 43], (some 44), (some (42, false))⟩,
   ⟨(.prim (.fieldAddr 6 none)), [.tmp 2], (some 45), (some (42, false))⟩,
   ⟨(.prim (.load none)), [.tmp 45], (some 46), (some (42, false))⟩,
   ⟨(.prim (.bin .neq .none)), [.tmp 44, .tmp 46], (some 47), (some (42, false))⟩,
   ⟨(.prim .pick), [.tmp 42, .const (.bool true), .tmp 47], (some 48), none⟩] none)
  (.cond (.tmp 48)
   (.goto 0)
   .skip))
  (.seq (.seq (.region [⟨(.prim (.fieldAddr 19 none)), [.tmp 3], (some 49), none⟩,
   ⟨(.prim (.load none)), [.tmp 49], (some 50), none⟩,
   ⟨(.prim (.bin .neq .none)), [.tmp 50, .const (.int .i64 0)], (some 51), none⟩] none)
  (.cond (.tmp 51)
   (.seq (.region [⟨(.prim (.build [(.int .i8 0), (.int .i64 0), (.int .i64 0), (.int .i64 0), (.int .i64 0), (.int .i64 0), (.int .i64 0), (.int .i64 0), (.sl .clip [])] [])), [], (some 52), none⟩,
    ⟨(.prim (.store (some 9))), [.tmp 4, .tmp 52], none, none⟩,
    ⟨(.prim .id), [.const (.sl .clip [])], (some 5), none⟩,
    ⟨(.prim .id), [.const (.int .i8 2)], (some 6), none⟩,
    ⟨(.prim .id), [.const (.int .i64 0)], (some 7), none⟩] none)
   .ret)
   .skip))
  (.seq (.region [⟨(.prim (.fieldAddr 8 none)), [.tmp 8], (some 53), none⟩,
   ⟨(.prim (.load none)), [.tmp 53], (some 54), none⟩,
   ⟨(.prim (.fieldAddr 8 none)), [.tmp 2], (some 55), none⟩,
   ⟨(.prim (.load none)), [.tmp 55], (some 56), none⟩,
   ⟨(.prim .len), [.tmp 56], (some 57), none⟩,
   ⟨(.prim (.fieldAddr 8 none)), [.tmp 2], (some 58), none⟩,
   ⟨(.prim (.load none)), [.tmp 58], (some 59), none⟩,
   ⟨(.prim .len), [.tmp 59], (some 60), none⟩,
   ⟨(.prim (.slcSl (some 8) false true true)), [.tmp 54, .tmp 57, .tmp 60], (some 61), none⟩,
   ⟨(.prim (.fieldAddr 11 (some 8))), [.tmp 3], (some 62), none⟩,
   ⟨(.prim (.load (some 8))), [.tmp 62], (some 63), none⟩,
   ⟨(.prim (.buildSl (some 8))), [.tmp 63], (some 64), none⟩,
   ⟨(.prim (.append (some 8))), [.tmp 61, .tmp 64], (some 65), none⟩,
   ⟨(.prim (.fieldAddr 8 none)), [.tmp 8], (some 66), none⟩,
   ⟨(.prim (.store none)), [.tmp 66, .tmp 65], none, none⟩] (some [[], [0], [], [2], [3], [], [5], [6], [1, 4, 7], [], [9], [10], [8, 11], [0, 1, 2, 3, 4, 5, 6, 7, 8, 9, 10, 11, 12], [13, 12, 12, 0, 1, 2, 3, 4, 5, 6, 7, 8, 9, 10, 11, 12]]))
  (.seq (.seq (.region [⟨(.prim (.fieldAddr 8 none)), [.tmp 8], (some 67), none⟩,
   ⟨(.prim (.load none)), [.tmp 67], (some 68), none⟩,
   ⟨(.prim .len), [.tmp 68], (some 69), none⟩,
   ⟨(.prim (.bin .eql .none)), [.tmp 69, .const (.int .i64 4)], (some 70), none⟩] none)
  (.cond (.tmp 70)
   (.seq (.region [⟨(.prim (.fieldAddr 0 none)), [.tmp 8], (some 71), none⟩,
    ⟨(.prim (.store none)), [.tmp 71, .const (.int .i8 2)], none, none⟩] none)
   (.seq (.region [⟨(.prim (.load (some 9))), [.tmp 8], (some 72), none⟩,
    ⟨(.prim (.store (some 9))), [.tmp 4, .tmp 72], none, none⟩,
    ⟨(.prim .id), [.const (.sl .clip [])], (some 5), none⟩,
    ⟨(.prim .id), [.const (.int .i8 1)], (some 6), none⟩,
    ⟨(.prim .id), [.const (.int .i64 0)], (some 7), none⟩] none)
   .ret))
   .skip))
  (.seq (.region [⟨(.prim (.fieldAddr 7 none)), [.tmp 8], (some 73), none⟩,
   ⟨(.prim (.load none)), [.tmp 73], (some 74), none⟩,
   ⟨(.prim (.bin .add .none)), [.tmp 74, .const (.int .i64 1)], (some 75), none⟩,
   ⟨(.prim (.fieldAddr 7 none)), [.tmp 8], (some 76), none⟩,
   ⟨(.prim (.store none)), [.tmp 76, .tmp 75], none, none⟩] none)
  (.seq (.seq (.region [⟨(.prim (.load (some 9))), [.tmp 8], (some 77), none⟩,
   ⟨(.call 61), [.tmp 8], (some 78), none⟩,
   ⟨(.prim (.store (some 9))), [.tmp 4, .tmp 77], none, none⟩,
   ⟨(.prim .id), [.tmp 78], (some 5), none⟩,
   ⟨(.prim .id), [.const (.int .i8 0)], (some 6), none⟩,
   ⟨(.prim .id), [.const (.int .i64 0)], (some 7), none⟩] (some [[], [], [0, 1, 0], [1, 2, 0, 1, 2], [3, 0, 1, 2, 3], [4, 0, 1, 2, 3, 4]]))
  .ret)
  (.seq (.label 0)
  (.seq (.region [⟨(.prim (.load (some 9))), [.tmp 8], (some 79), none⟩,
   ⟨(.prim (.store (some 9))), [.tmp 4, .tmp 79], none, none⟩,
   ⟨(.prim .id), [.const (.sl .clip [])], (some 5), none⟩,
   ⟨(.prim .id), [.const (.int .i8 0)], (some 6), none⟩,
   ⟨(.prim .id), [.const (.int .i64 0)], (some 7), none⟩] none)
  .ret)))))))))) 0
  (.seq .skip
  (.seq (.region [⟨(.prim (.load (some 9))), [.tmp 8], (some 79), none⟩,
   ⟨(.prim (.store (some 9))), [.tmp 4, .tmp 79], none, none⟩,
   ⟨(.prim .id), [.const (.sl .clip [])], (some 5), none⟩,
   ⟨(.prim .id), [.const (.int .i8 0)], (some 6), none⟩,
   ⟨(.prim .id), [.const (.int .i64 0)], (some 7), none⟩] none)
  .ret))))
theorem F17 : IsFun Try.prog 17 2 80 c17 [.cell 4 (some 9), .tmp 5, .tmp 6, .tmp 7] := ⟨by decide, Try.f17, _, [2, 3], Try.func17, rfl, by decide, rfl, by kernel_rfl, by kernel_rfl⟩

/-- cashbox/move.Check -/
def c18 : ACode :=
 (.seq (.region [⟨(.prim (.boxR (some 9))), [.tmp 0], (some 1), none⟩,
  ⟨(.prim .id), [.const (.int .i64 0)], (some 2), none⟩] none)
 (.seq (.region [⟨(.prim (.fieldAddr 7 none)), [.tmp 1], (some 4), none⟩,
  ⟨(.prim (.load none)), [.tmp 4], (some 5), none⟩,
  ⟨(.prim .id), [.tmp 5], (some 3), none⟩] none)
 (.seq (.seq (.region [⟨(.prim (.fieldAddr 0 none)), [.tmp 1], (some 6), none⟩,
  ⟨(.prim (.load none)), [.tmp 6], (some 7), none⟩] none)
 (.block 0
  (.seq (.block 3
   (.seq (.block 2
    (.seq (.block 1
     (.seq (.seq (.seq (.region [⟨(.prim (.bin .eql .none)), [.tmp 7, .const (.int .i8 0)], (some 9), none⟩,
      ⟨(.prim .id), [.tmp 9], (some 8), none⟩] none)
     (.cond (.tmp 8)
      (.exit 1)
      .skip))
     (.seq (.seq (.region [⟨(.prim (.bin .eql .none)), [.tmp 7, .const (.int .i8 1)], (some 11), none⟩,
      ⟨(.prim .id), [.tmp 11], (some 10), none⟩] none)
     (.cond (.tmp 10)
      (.exit 2)
      .skip))
     (.seq (.region [⟨(.prim (.bin .eql .none)), [.tmp 7, .const (.int .i8 2)], (some 13), none⟩,
      ⟨(.prim .id), [.tmp 13], (some 12), none⟩] none)
     (.cond (.tmp 12)
      (.exit 3)
      .skip))))
     (.exit 0)))
    (.seq (.seq (.seq (.region [⟨(.prim (.load (some 9))), [.tmp 1], (some 14), none⟩,
     ⟨(.prim (.build [(.int .i8 0), (.int .i64 0), (.int .i64 0), (.int .i64 0), (.int .i64 0), (.int .i64 0), (.int .i64 0), (.int .i64 0), (.sl .clip [])] [])), [], (some 15), none⟩,
     ⟨(.call 16), [.tmp 14, .tmp 15], (some 16), none⟩] none)
    (.cond (.tmp 16)
     (.seq (.region [⟨(.prim .id), [.const (.int .i64 0)], (some 2), none⟩] none)
     .ret)
     .skip))
    (.seq (.region [⟨(.prim .id), [.const (.int .i64 2)], (some 2), none⟩] none)
    .ret))
    (.exit 0))))
   (.region [⟨(.prim .id), [.tmp 3], (some 17), none⟩,
    ⟨(.prim (.bin .sub .none)), [.tmp 17, .const (.int .i64 1)], (some 18), none⟩,
    ⟨(.prim .id), [.tmp 18], (some 3), none⟩] none)))
  (.seq (.seq (.region [⟨(.prim (.fieldAddr 4 (some 2))), [.tmp 1], (some 19), none⟩,
   ⟨(.prim (.load (some 2))), [.tmp 19], (some 20), none⟩,
   ⟨(.prim (.fieldAddr 6 none)), [.tmp 1], (some 21), none⟩,
   ⟨(.prim (.load none)), [.tmp 21], (some 22), none⟩,
   ⟨(.prim (.fieldAddr 1 (some 3))), [.tmp 1], (some 23), none⟩,
   ⟨(.prim (.load (some 3))), [.tmp 23], (some 24), none⟩,
   ⟨(.call 60), [.tmp 20, .tmp 22, .tmp 24], (some 25), none⟩,
   ⟨(.prim .id), [.tmp 25], (some 26), none⟩,
   ⟨(.prim (.fieldAddr 7 none)), [.tmp 1], (some 27), (some (26, true))⟩,
   ⟨(.prim (.load none)), [.tmp 27], (some 28), (some (26, true))⟩,
   ⟨(.call 65), [.tmp 28, .const (.int .i64 1), .const (.int .i64 4)], (some 29), (some (26, true))⟩,
   ⟨(.prim .pick), [.tmp 26, .tmp 29, .const (.bool false)], (some 30), none⟩,
   ⟨(.prim .id), [.tmp 30], (some 31), none⟩,
   ⟨(.prim (.fieldAddr 8 none)), [.tmp 1], (some 32), (some (31, true))⟩,
   ⟨(.prim (.load none)), [.tmp 32], (some 33), (some (31, true))⟩,
   ⟨(.prim .len), [.tmp 33], (some 34), (some (31, true))⟩,
   ⟨(.prim .id), [.tmp 3], (some 35), (some (31, true))⟩,
   ⟨(.prim (.bin .eql .none)), [.tmp 34, .tmp 35], (some 36), (some (31, true))⟩,
   ⟨(.prim .pick), [.tmp 31, .tmp 36, .const (.bool false)], (some 37), none⟩,
   ⟨(.prim .id), [.tmp 37], (some 38), none⟩,
   ⟨(.prim (.fieldAddr 0 none)), [.tmp 1], (some 39), (some (38, true))⟩,
   ⟨(.prim (.load none)), [.tmp 39], (some 40), (some (38, true))⟩,
   ⟨(.prim (.bin .eql .none)), [.tmp 40, .const (.int .i8 1)], (some 41), (some (38, true))⟩,
   ⟨(.prim .id), [.tmp 41], (some 42), (some (38, true))⟩,
   ⟨(.prim (.fieldAddr 7 none)), [.tmp 1], (some 43), (some (42, false))⟩,
   ⟨(.prim (.load none)), [.tmp 43], (some 44), (some (42, false))⟩,
   ⟨(.prim (.bin .eql .none)), [.tmp 44, .const (.int .i64 4)], (some 45), (some (42, false))⟩,
   ⟨(.prim .pick), [.tmp 42, .const (.bool true), .tmp 45], (some 46), (some (38, true))⟩,
   ⟨(.prim .pick), [.tmp 38, .tmp 46, .const (.bool false)], (some 47), none⟩] none)
  (.cond (.tmp 47)
   (.seq (.region [⟨(.prim .id), [.const (.int .i64 0)], (some 2), none⟩] none)
   .ret)
   .skip))
  (.exit 0)))))
 (.seq (.region [⟨(.prim .id), [.const (.int .i64 2)], (some 2), none⟩] none)
 .ret))))
theorem F18 : IsFun Try.prog 18 1 48 c18 [.tmp 2] := ⟨by decide, Try.f18, _, [1], Try.func18, rfl, by decide, rfl, by kernel_rfl, by kernel_rfl⟩

-- loop: 1:m, 3:out, 15:, 16:, 17:
/-- cashbox/move.Writes -/
def c19 : ACode :=
 (.seq (.region [⟨(.prim (.boxR (some 9))), [.tmp 0], (some 1), none⟩,
  ⟨(.prim .id), [.const (.sl .clip [])], (some 2), none⟩] none)
 (.seq (.seq (.region [⟨(.prim (.load (some 9))), [.tmp 1], (some 6), none⟩,
  ⟨(.call 18), [.tmp 6], (some 7), none⟩,
  ⟨(.prim (.bin .neq .none)), [.tmp 7, .const (.int .i64 0)], (some 8), none⟩,
  ⟨(.prim .id), [.tmp 8], (some 9), none⟩,
  ⟨(.prim (.fieldAddr 0 none)), [.tmp 1], (some 10), (some (9, false))⟩,
  ⟨(.prim (.load none)), [.tmp 10], (some 11), (some (9, false))⟩,
  ⟨(.prim (.bin .neq .none)), [.tmp 11, .const (.int .i8 2)], (some 12), (some (9, false))⟩,
  ⟨(.prim .pick), [.tmp 9, .const (.bool true), .tmp 12], (some 13), none⟩] none)
 (.cond (.tmp 13)
  (.seq (.region [⟨(.prim .id), [.const (.sl .clip [])], (some 2), none⟩] none)
  .ret)
  .skip))
 (.seq (.region [⟨(.prim .id), [.const (.sl .clip [])], (some 3), none⟩] none)
 (.seq (.seq (.region [⟨(.prim (.fieldAddr 8 none)), [.tmp 1], (some 14), none⟩,
  ⟨(.prim (.load none)), [.tmp 14], (some 15), none⟩,
  ⟨(.prim .len), [.tmp 15], (some 16), none⟩,
  ⟨(.prim .id), [.const (.int .i64 0)], (some 17), none⟩] none)
 (.block 0
  (.loop
   (.seq (.region [⟨(.prim (.bin .lss .none)), [.tmp 17, .tmp 16], (some 18), none⟩] none)
   (.seq (.cond (.tmp 18)
    .skip
    (.exit 0))
   (.seq (.block 1
    (.seq (.region [⟨(.prim .id), [.tmp 17], (some 19), none⟩,
     ⟨(.prim (.idxSl (some 8))), [.tmp 15, .tmp 17], (some 20), none⟩,
     ⟨(.prim (.load (some 8))), [.tmp 20], (some 21), none⟩,
     ⟨(.prim (.alloc [(.int .u8 0), (.int .u8 0), (.int .u8 0), (.int .u8 0), (.int .u8 0), (.int .u8 0), (.int .u8 0), (.int .u8 0)])), [], (some 5), none⟩,
     ⟨(.prim .id), [.tmp 19], (some 4), none⟩,
     ⟨(.prim (.store (some 8))), [.tmp 5, .tmp 21], none, none⟩] none)
    (.region [⟨(.prim .id), [.tmp 3], (some 22), none⟩,
     ⟨(.prim (.fieldAddr 4 (some 2))), [.tmp 1], (some 23), none⟩,
     ⟨(.prim (.fieldAddr 0 none)), [.tmp 23], (some 24), none⟩,
     ⟨(.prim (.load none)), [.tmp 24], (some 25), none⟩,
     ⟨(.prim (.bin .mul .none)), [.tmp 25, .const (.int .i64 4)], (some 26), none⟩,
     ⟨(.prim .id), [.tmp 4], (some 27), none⟩,
     ⟨(.prim (.bin .add .none)), [.tmp 26, .tmp 27], (some 28), none⟩,
     ⟨(.prim (.load (some 8))), [.tmp 5], (some 29), none⟩,
     ⟨(.prim (.build [(.int .i64 0), (.int .u8 0), (.int .u8 0), (.int .u8 0), (.int .u8 0), (.int .u8 0), (.int .u8 0), (.int .u8 0), (.int .u8 0)] [(0, 1), (1, 8)])), [.tmp 28, .tmp 29], (some 30), none⟩,
     ⟨(.prim (.buildSl (some 9))), [.tmp 30], (some 31), none⟩,
     ⟨(.prim (.append (some 9))), [.tmp 22, .tmp 31], (some 32), none⟩,
     ⟨(.prim .id), [.tmp 32], (some 3), none⟩] none)))
   (.region [⟨(.prim (.bin .add .none)), [.tmp 17, .const (.int .i64 1)], (some 33), none⟩,
    ⟨(.prim .id), [.tmp 33], (some 17), none⟩] none)))))))
 (.seq (.region [⟨(.prim .id), [.tmp 3], (some 34), none⟩,
  ⟨(.prim .id), [.tmp 34], (some 2), none⟩] none)
 .ret)))))
theorem F19 : IsFun Try.prog 19 1 35 c19 [.tmp 2] := ⟨by decide, Try.f19, _, [1], Try.func19, rfl, by decide, rfl, by kernel_rfl, by kernel_rfl⟩

/-- cashbox/cashboxlaw25.great -/
def c20 : ACode :=
 (.seq (.region [⟨(.prim (.boxR (some 9))), [.tmp 0], (some 1), none⟩,
  ⟨(.prim .id), [.const (.bool false)], (some 2), none⟩] none)
 (.seq (.region [⟨(.prim (.fieldAddr 8 none)), [.tmp 1], (some 3), none⟩,
  ⟨(.prim (.load none)), [.tmp 3], (some 4), none⟩,
  ⟨(.prim .len), [.tmp 4], (some 5), none⟩,
  ⟨(.prim (.bin .gtr .none)), [.tmp 5, .const (.int .i64 40)], (some 6), none⟩,
  ⟨(.prim .id), [.tmp 6], (some 2), none⟩] none)
 .ret))
theorem F20 : IsFun Try.prog 20 1 7 c20 [.tmp 2] := ⟨by decide, Try.f20, _, [1], Try.func20, rfl, by decide, rfl, by kernel_rfl, by kernel_rfl⟩

/-- cashbox/cashboxlaw25.name -/
def c58 : ACode :=
 (.seq (.region [⟨(.prim (.alloc [(.int .i64 0), (.int .i64 0), (.int .i64 0)])), [], (some 0), none⟩] none)
 (.seq (.region [⟨(.prim (.build [(.int .i64 0), (.int .i64 0), (.int .i64 0)] [(0, 1), (1, 1), (2, 1)])), [.const (.int .i64 4), .const (.int .i64 1), .const (.int .i64 1)], (some 1), none⟩,
  ⟨(.prim (.store (some 3))), [.tmp 0, .tmp 1], none, none⟩] none)
 .ret))
theorem F58 : IsFun Try.prog 58 0 2 c58 [.cell 0 (some 3)] := ⟨by decide, Try.f58, _, [], Try.func58, rfl, by decide, rfl, by kernel_rfl, by kernel_rfl⟩

/-- cashbox/cashboxlaw25.did -/
def c59 : ACode :=
 (.seq (.region [⟨(.prim (.alloc [(.int .i8 0), (.int .i64 0), (.int .i64 0), (.int .i64 0), (.int .i64 0), (.int .i64 0), (.int .i64 0), (.int .i64 0), (.int .i64 0), (.int .i8 0), (.int .i64 0), (.int .u8 0), (.int .u8 0), (.int .u8 0), (.int .u8 0), (.int .u8 0), (.int .u8 0), (.int .u8 0), (.int .u8 0), (.int .i64 0), (.bool false), (.int .i64 0), (.int .i64 0), (.sl .clip [])])), [], (some 6), none⟩] none)
 (.seq (.region [⟨(.call 58), [], (some 8), none⟩,
  ⟨(.prim .id), [.tmp 0], (some 9), none⟩,
  ⟨(.prim .id), [.tmp 1], (some 10), none⟩,
  ⟨(.prim (.build [(.int .i8 0), (.int .i64 0), (.int .i64 0), (.int .i64 0), (.int .i64 0), (.int .i64 0), (.int .i64 0), (.int .i64 0), (.int .i64 0), (.int .i8 0), (.int .i64 0), (.int .u8 0), (.int .u8 0), (.int .u8 0), (.int .u8 0), (.int .u8 0), (.int .u8 0), (.int .u8 0), (.int .u8 0), (.int .i64 0), (.bool false), (.int .i64 0), (.int .i64 0), (.sl .clip [])] [(0, 1), (1, 1), (3, 1), (5, 3), (8, 1), (19, 1)])), [.const (.int .i8 3), .const (.int .i64 1), .const (.int .i64 1), .tmp 8, .tmp 9, .tmp 10], (some 11), none⟩,
  ⟨(.prim (.alloc [(.int .i8 0), (.int .i64 0), (.int .i64 0), (.int .i64 0), (.int .i64 0), (.int .i64 0), (.int .i64 0), (.int .i64 0), (.int .i64 0), (.int .i8 0), (.int .i64 0), (.int .u8 0), (.int .u8 0), (.int .u8 0), (.int .u8 0), (.int .u8 0), (.int .u8 0), (.int .u8 0), (.int .u8 0), (.int .i64 0), (.bool false), (.int .i64 0), (.int .i64 0), (.sl .clip [])])), [], (some 7), none⟩,
  ⟨(.prim (.store (some 24))), [.tmp 7, .tmp 11], none, none⟩] none)
 (.seq (.seq (.region [⟨(.prim .id), [.tmp 1], (some 12), none⟩,
  ⟨(.prim (.bin .eql .none)), [.tmp 12, .const (.int .i64 0)], (some 13), none⟩] none)
 (.cond (.tmp 13)
  (.region [⟨(.prim .id), [.tmp 2], (some 14), none⟩,
   ⟨(.prim (.build [(.int .u8 0), (.int .u8 0), (.int .u8 0), (.int .u8 0), (.int .u8 0), (.int .u8 0), (.int .u8 0), (.int .u8 0)] [(0, 1)])), [.tmp 14], (some 15), none⟩,
   ⟨(.prim (.fieldAddr 11 (some 8))), [.tmp 7], (some 16), none⟩,
   ⟨(.prim (.store (some 8))), [.tmp 16, .tmp 15], none, none⟩] none)
  .skip))
 (.seq (.region [⟨(.prim (.load (some 24))), [.tmp 7], (some 17), none⟩,
  ⟨(.prim (.store (some 24))), [.tmp 6, .tmp 17], none, none⟩] none)
 .ret))))
theorem F59 : IsFun Try.prog 59 3 18 c59 [.cell 6 (some 24)] := ⟨by decide, Try.f59, _, [], Try.func59, rfl, by decide, rfl, by kernel_rfl, by kernel_rfl⟩

/-- cashbox/move.such -/
def c60 : ACode :=
 (.seq (.region [⟨(.prim (.boxR (some 2))), [.tmp 0], (some 3), none⟩,
  ⟨(.prim (.boxR (some 3))), [.tmp 2], (some 5), none⟩,
  ⟨(.prim .id), [.const (.bool false)], (some 6), none⟩] none)
 (.seq (.region [⟨(.prim (.fieldAddr 0 none)), [.tmp 3], (some 7), none⟩,
  ⟨(.prim (.load none)), [.tmp 7], (some 8), none⟩,
  ⟨(.call 65), [.tmp 8, .const (.int .i64 0), .const (.int .i64 7)], (some 9), none⟩,
  ⟨(.prim .id), [.tmp 9], (some 10), none⟩,
  ⟨(.prim (.fieldAddr 1 none)), [.tmp 3], (some 11), (some (10, true))⟩,
  ⟨(.prim (.load none)), [.tmp 11], (some 12), (some (10, true))⟩,
  ⟨(.call 65), [.tmp 12, .const (.int .i64 1), .const (.int .i64 4)], (some 13), (some (10, true))⟩,
  ⟨(.prim .pick), [.tmp 10, .tmp 13, .const (.bool false)], (some 14), none⟩,
  ⟨(.prim .id), [.tmp 14], (some 15), none⟩,
  ⟨(.prim .id), [.tmp 1], (some 16), (some (15, true))⟩,
  ⟨(.call 65), [.tmp 16, .const (.int .i64 1), .const (.int .i64 4)], (some 17), (some (15, true))⟩,
  ⟨(.prim .pick), [.tmp 15, .tmp 17, .const (.bool false)], (some 18), none⟩,
  ⟨(.prim .id), [.tmp 18], (some 19), none⟩,
  ⟨(.prim .id), [.tmp 1], (some 20), (some (19, true))⟩,
  ⟨(.prim (.fieldAddr 1 none)), [.tmp 3], (some 21), (some (19, true))⟩,
  ⟨(.prim (.load none)), [.tmp 21], (some 22), (some (19, true))⟩,
  ⟨(.prim (.bin .neq .none)), [.tmp 20, .tmp 22], (some 23), (some (19, true))⟩,
  ⟨(.prim .pick), [.tmp 19, .tmp 23, .const (.bool false)], (some 24), none⟩,
  ⟨(.prim .id), [.tmp 24], (some 25), none⟩,
  ⟨(.prim (.load (some 3))), [.tmp 5], (some 26), (some (25, true))⟩,
  ⟨(.call 118), [.tmp 26], (some 27), (some (25, true))⟩,
  ⟨(.prim .pick), [.tmp 25, .tmp 27, .const (.bool false)], (some 28), none⟩,
  ⟨(.prim .id), [.tmp 28], (some 6), none⟩] none)
 .ret))
theorem F60 : IsFun Try.prog 60 3 29 c60 [.tmp 6] := ⟨by decide, Try.f60, _, [3, 5], Try.func60, rfl, by decide, rfl, by kernel_rfl, by kernel_rfl⟩

/-- cashbox/move.ask -/
def c61 : ACode :=
 (.seq (.region [⟨(.prim .id), [.const (.sl .clip [])], (some 2), none⟩] none)
 (.seq (.region [⟨(.prim .id), [.tmp 0], (some 3), none⟩,
  ⟨(.prim .nilc), [.tmp 3], (some 4), none⟩,
  ⟨(.prim (.fieldAddr 6 none)), [.tmp 4], (some 5), none⟩,
  ⟨(.prim (.load none)), [.tmp 5], (some 6), none⟩,
  ⟨(.prim .id), [.tmp 0], (some 7), none⟩,
  ⟨(.prim .nilc), [.tmp 7], (some 8), none⟩,
  ⟨(.prim (.fieldAddr 1 (some 3))), [.tmp 8], (some 9), none⟩,
  ⟨(.prim (.load (some 3))), [.tmp 9], (some 10), none⟩,
  ⟨(.prim .id), [.tmp 0], (some 11), none⟩,
  ⟨(.prim .nilc), [.tmp 11], (some 12), none⟩,
  ⟨(.prim (.fieldAddr 7 none)), [.tmp 12], (some 13), none⟩,
  ⟨(.prim (.load none)), [.tmp 13], (some 14), none⟩,
  ⟨(.prim .id), [.tmp 0], (some 15), none⟩,
  ⟨(.prim .nilc), [.tmp 15], (some 16), none⟩,
  ⟨(.prim (.fieldAddr 4 (some 2))), [.tmp 16], (some 17), none⟩,
  ⟨(.prim (.fieldAddr 0 none)), [.tmp 17], (some 18), none⟩,
  ⟨(.prim (.load none)), [.tmp 18], (some 19), none⟩,
  ⟨(.prim (.bin .mul .none)), [.tmp 19, .const (.int .i64 4)], (some 20), none⟩,
  ⟨(.prim .id), [.tmp 0], (some 21), none⟩,
  ⟨(.prim .nilc), [.tmp 21], (some 22), none⟩,
  ⟨(.prim (.fieldAddr 7 none)), [.tmp 22], (some 23), none⟩,
  ⟨(.prim (.load none)), [.tmp 23], (some 24), none⟩,
  ⟨(.prim (.bin .add .none)), [.tmp 20, .tmp 24], (some 25), none⟩,
  ⟨(.prim (.bin .sub .none)), [.tmp 25, .const (.int .i64 1)], (some 26), none⟩,
  ⟨(.prim (.build [(.int .i8 0), (.int .i64 0), (.int .i64 0), (.int .i64 0), (.int .i64 0), (.int .i64 0), (.int .i64 0), (.int .i64 0), (.int .i64 0), (.int .i8 0), (.int .i64 0), (.int .u8 0), (.int .u8 0), (.int .u8 0), (.int .u8 0), (.int .u8 0), (.int .u8 0), (.int .u8 0), (.int .u8 0), (.int .i64 0), (.bool false), (.int .i64 0), (.int .i64 0), (.sl .clip [])] [(0, 1), (2, 1), (5, 3), (8, 1), (9, 1), (10, 1)])), [.const (.int .i8 2), .tmp 6, .tmp 10, .tmp 14, .const (.int .i8 2), .tmp 26], (some 27), none⟩,
  ⟨(.prim (.buildSl (some 24))), [.tmp 27], (some 28), none⟩,
  ⟨(.prim .id), [.tmp 28], (some 2), none⟩] (some [[], [0], [1], [2], [], [4], [5], [6], [], [8], [9], [10], [], [12], [13], [14], [15], [16], [], [18], [19], [20], [17, 21], [22], [3, 7, 11, 23], [24], [25, 0, 1, 2, 3, 4, 5, 6, 7, 8, 9, 10, 11, 12, 13, 14, 15, 16, 17, 18, 19, 20, 21, 22, 23, 24, 25]]))
 .ret))
theorem F61 : IsFun Try.prog 61 1 29 c61 [.tmp 2] := ⟨by decide, Try.f61, _, [], Try.func61, rfl, by decide, rfl, by kernel_rfl, by kernel_rfl⟩

/-- cashbox/move.own -/
def c62 : ACode :=
 (.seq (.region [⟨(.prim (.box (some 9))), [.tmp 0], (some 1), none⟩,
  ⟨(.prim (.alloc [(.int .i8 0), (.int .i64 0), (.int .i64 0), (.int .i64 0), (.int .i64 0), (.int .i64 0), (.int .i64 0), (.int .i64 0), (.sl .clip [])])), [], (some 2), none⟩] none)
 (.seq (.region [⟨(.prim (.fieldAddr 8 none)), [.tmp 1], (some 3), none⟩,
  ⟨(.prim (.load none)), [.tmp 3], (some 4), none⟩,
  ⟨(.call 119), [.tmp 4], (some 5), none⟩,
  ⟨(.prim (.fieldAddr 8 none)), [.tmp 1], (some 6), none⟩,
  ⟨(.prim (.store none)), [.tmp 6, .tmp 5], none, none⟩] none)
 (.seq (.region [⟨(.prim (.load (some 9))), [.tmp 1], (some 7), none⟩,
  ⟨(.prim (.store (some 9))), [.tmp 2, .tmp 7], none, none⟩] none)
 .ret)))
theorem F62 : IsFun Try.prog 62 1 8 c62 [.cell 2 (some 9)] := ⟨by decide, Try.f62, _, [], Try.func62, rfl, by decide, rfl, by kernel_rfl, by kernel_rfl⟩

-- loop: 0:s1, 1:s2, 12:, 13:
/-- slices.Equal[[]cashbox/api.Value,cashbox/api.Value] -/
def c63 : ACode :=
 (.seq (.region [⟨(.prim .id), [.const (.bool false)], (some 4), none⟩] none)
 (.seq (.seq (.region [⟨(.prim .id), [.tmp 0], (some 6), none⟩,
  ⟨(.prim .len), [.tmp 6], (some 7), none⟩,
  ⟨(.prim .id), [.tmp 1], (some 8), none⟩,
  ⟨(.prim .len), [.tmp 8], (some 9), none⟩,
  ⟨(.prim (.bin .neq .none)), [.tmp 7, .tmp 9], (some 10), none⟩] none)
 (.cond (.tmp 10)
  (.seq (.region [⟨(.prim .id), [.const (.bool false)], (some 4), none⟩] none)
  .ret)
  .skip))
 (.seq (.seq (.region [⟨(.prim .id), [.tmp 0], (some 11), none⟩,
  ⟨(.prim .len), [.tmp 11], (some 12), none⟩,
  ⟨(.prim .id), [.const (.int .i64 0)], (some 13), none⟩] none)
 (.block 0
  (.loop
   (.seq (.region [⟨(.prim (.bin .lss .none)), [.tmp 13, .tmp 12], (some 14), none⟩] none)
   (.seq (.cond (.tmp 14)
    .skip
    (.exit 0))
   (.seq (.block 1
    (.seq (.region [⟨(.prim .id), [.tmp 13], (some 15), none⟩,
     ⟨(.prim .id), [.tmp 15], (some 5), none⟩] none)
    (.seq (.region [⟨(.prim .id), [.tmp 0], (some 16), none⟩,
     ⟨(.prim .id), [.tmp 5], (some 17), none⟩,
     ⟨(.prim (.idxSl (some 8))), [.tmp 16, .tmp 17], (some 18), none⟩,
     ⟨(.prim (.load (some 8))), [.tmp 18], (some 19), none⟩,
     ⟨(.prim .id), [.tmp 1], (some 20), none⟩,
     ⟨(.prim .id), [.tmp 5], (some 21), none⟩,
     ⟨(.prim (.idxSl (some 8))), [.tmp 20, .tmp 21], (some 22), none⟩,
     ⟨(.prim (.load (some 8))), [.tmp 22], (some 23), none⟩,
     ⟨(.prim (.bin .neq (.flat [0, 0, 0, 0, 0, 0, 0, 0]))), [.tmp 19, .tmp 23], (some 24), none⟩] (some [[], [], [0, 1], [2], [], [], [4, 5], [6], [3, 7]]))
    (.cond (.tmp 24)
     (.seq (.region [⟨(.prim .id), [.const (.bool false)], (some 4), none⟩] none)
     .ret)
     .skip))))
   (.region [⟨(.prim (.bin .add .none)), [.tmp 13, .const (.int .i64 1)], (some 25), none⟩,
    ⟨(.prim .id), [.tmp 25], (some 13), none⟩] none)))))))
 (.seq (.region [⟨(.prim .id), [.const (.bool true)], (some 4), none⟩] none)
 .ret))))
theorem F63 : IsFun Try.prog 63 2 26 c63 [.tmp 4] := ⟨by decide, Try.f63, _, [], Try.func63, rfl, by decide, rfl, by kernel_rfl, by kernel_rfl⟩

/-- slices.Clone[[]cashbox/api.Value,cashbox/api.Value] -/
def c119 : ACode :=
 (.seq (.region [⟨(.prim .id), [.const (.sl .clip [])], (some 2), none⟩] none)
 (.seq (.seq (.region [⟨(.prim .id), [.tmp 0], (some 3), none⟩,
  ⟨(.prim (.isNil 0 false)), [.tmp 3], (some 4), none⟩] none)
 (.cond (.tmp 4)
  (.seq (.region [⟨(.prim .id), [.const (.sl .clip [])], (some 2), none⟩] none)
  .ret)
  .skip))
 (.seq (.region [⟨(.prim (.buildSl (some 8))), [], (some 5), none⟩,
  ⟨(.prim .id), [.tmp 0], (some 6), none⟩,
  ⟨(.prim (.append (some 8))), [.tmp 5, .tmp 6], (some 7), none⟩,
  ⟨(.prim .id), [.tmp 7], (some 2), none⟩] none)
 .ret)))
theorem F119 : IsFun Try.prog 119 1 8 c119 [.tmp 2] := ⟨by decide, Try.f119, _, [], Try.func119, rfl, by decide, rfl, by kernel_rfl, by kernel_rfl⟩

end Go.Proofs.Ytjceilhmgbdgiaa
