/- The functions' code for the abstract machine, printed by wip/tools/Gen.lean. -/
import Derived.Test.YtjceilhmgbdgiaaProg
import Derived.Test.YtjceilhmgbdgiaaZCodeW
import Derived.KernelRfl
set_option linter.all false
namespace Go.Proofs.Ytjceilhmgbdgiaa
open Go.Am

/-- cashbox/cashboxlaw16.FabricBack -/
def c9 : ACode :=
 (.seq (.region [⟨(.prim (.boxR (some 1))), [.tmp 0], (some 3), none⟩,
  ⟨(.prim (.boxR (some 24))), [.tmp 1], (some 4), none⟩,
  ⟨(.prim .id), [.const (.bool false)], (some 6), none⟩] none)
 (.seq (.seq (.region [⟨(.prim (.load (some 1))), [.tmp 3], (some 24), none⟩,
  ⟨(.call 34), [.tmp 24], (some 25), none⟩,
  ⟨(.prim .id), [.tmp 25], (some 26), none⟩,
  ⟨(.prim (.load (some 24))), [.tmp 4], (some 27), (some (26, false))⟩,
  ⟨(.call 14), [.tmp 27], (some 28), (some (26, false))⟩,
  ⟨(.prim .pick), [.tmp 26, .const (.bool true), .tmp 28], (some 29), none⟩,
  ⟨(.prim .id), [.tmp 29], (some 30), none⟩,
  ⟨(.prim (.load (some 1))), [.tmp 3], (some 31), (some (30, false))⟩,
  ⟨(.call 41), [.tmp 31], (some 32), (some (30, false))⟩,
  ⟨(.prim (.bin .neq .none)), [.tmp 32, .const (.int .i64 0)], (some 33), (some (30, false))⟩,
  ⟨(.prim .pick), [.tmp 30, .const (.bool true), .tmp 33], (some 34), none⟩] none)
 (.cond (.tmp 34)
  (.seq (.region [⟨(.call 35), [], (some 35), none⟩,
   ⟨(.prim .id), [.tmp 35], (some 6), none⟩] none)
  .ret)
  .skip))
 (.seq (.region [⟨(.prim (.load (some 1))), [.tmp 3], (some 37), none⟩,
  ⟨(.call 36), [.tmp 37], (some 38), none⟩,
  ⟨(.prim .id), [.tmp 38], (some 36), none⟩,
  ⟨(.prim (.extract 0)), [.tmp 36], (some 39), none⟩,
  ⟨(.prim (.extract 1)), [.tmp 36], (some 40), none⟩,
  ⟨(.prim .id), [.tmp 39], (some 7), none⟩,
  ⟨(.prim .id), [.tmp 40], (some 8), none⟩] none)
 (.seq (.region [⟨(.prim .id), [.tmp 7], (some 42), none⟩,
  ⟨(.call 38), [.tmp 42], (some 43), none⟩,
  ⟨(.prim .id), [.tmp 43], (some 41), none⟩,
  ⟨(.prim (.extract 0)), [.tmp 41], (some 44), none⟩,
  ⟨(.prim (.extract 1)), [.tmp 41], (some 45), none⟩,
  ⟨(.prim (.alloc [(.sl .clip [])])), [], (some 9), none⟩,
  ⟨(.prim (.store (some 1))), [.tmp 9, .tmp 44], none, none⟩,
  ⟨(.prim .id), [.tmp 45], (some 10), none⟩] none)
 (.seq (.seq (.region [⟨(.prim .id), [.tmp 8], (some 46), none⟩,
  ⟨(.prim (.bin .neq .none)), [.tmp 46, .const (.int .i64 0)], (some 47), none⟩,
  ⟨(.prim .id), [.tmp 47], (some 48), none⟩,
  ⟨(.prim .id), [.tmp 10], (some 49), (some (48, false))⟩,
  ⟨(.prim (.bin .neq .none)), [.tmp 49, .const (.int .i64 0)], (some 50), (some (48, false))⟩,
  ⟨(.prim .pick), [.tmp 48, .const (.bool true), .tmp 50], (some 51), none⟩,
  ⟨(.prim .id), [.tmp 51], (some 52), none⟩,
  ⟨(.prim (.load (some 1))), [.tmp 9], (some 53), (some (52, false))⟩,
  ⟨(.prim (.load (some 1))), [.tmp 3], (some 54), (some (52, false))⟩,
  ⟨(.call 40), [.tmp 53, .tmp 54], (some 55), (some (52, false))⟩,
  ⟨(.prim (.un .not)), [.tmp 55], (some 56), (some (52, false))⟩,
  ⟨(.prim .pick), [.tmp 52, .const (.bool true), .tmp 56], (some 57), none⟩] none)
 (.cond (.tmp 57)
  (.seq (.region [⟨(.prim .id), [.const (.bool false)], (some 6), none⟩] none)
  .ret)
  .skip))
 (.seq (.region [⟨(.prim (.load (some 1))), [.tmp 3], (some 59), none⟩,
  ⟨(.prim (.load (some 24))), [.tmp 4], (some 60), none⟩,
  ⟨(.call 42), [.tmp 59, .tmp 60], (some 61), none⟩,
  ⟨(.prim .id), [.tmp 61], (some 58), none⟩,
  ⟨(.prim (.extract 0)), [.tmp 58], (some 62), none⟩,
  ⟨(.prim (.extract 1)), [.tmp 58], (some 63), none⟩,
  ⟨(.prim (.alloc [(.sl .clip [])])), [], (some 11), none⟩,
  ⟨(.prim (.store (some 1))), [.tmp 11, .tmp 62], none, none⟩,
  ⟨(.prim .id), [.tmp 63], (some 12), none⟩] none)
 (.seq (.seq (.region [⟨(.prim .id), [.tmp 12], (some 64), none⟩,
  ⟨(.prim (.bin .eql .none)), [.tmp 64, .const (.int .i64 0)], (some 65), none⟩] none)
 (.cond (.tmp 65)
  (.seq (.region [⟨(.prim (.load (some 1))), [.tmp 11], (some 67), none⟩,
   ⟨(.prim (.fieldAddr 0 none)), [.tmp 3], (some 68), none⟩,
   ⟨(.prim (.load none)), [.tmp 68], (some 69), none⟩,
   ⟨(.prim .len), [.tmp 69], (some 70), none⟩,
   ⟨(.call 43), [.tmp 67, .tmp 70], (some 71), none⟩,
   ⟨(.prim .id), [.tmp 71], (some 66), none⟩,
   ⟨(.prim (.extract 0)), [.tmp 66], (some 72), none⟩,
   ⟨(.prim (.extract 1)), [.tmp 66], (some 73), none⟩,
   ⟨(.prim (.extract 2)), [.tmp 66], (some 74), none⟩,
   ⟨(.prim (.alloc [(.sl .clip [])])), [], (some 13), none⟩,
   ⟨(.prim (.alloc [(.int .i8 0), (.int .i64 0), (.int .i64 0), (.int .i64 0), (.int .i64 0), (.int .i64 0), (.int .i64 0), (.int .i64 0), (.int .i64 0), (.int .i8 0), (.int .i64 0), (.int .u8 0), (.int .u8 0), (.int .u8 0), (.int .u8 0), (.int .u8 0), (.int .u8 0), (.int .u8 0), (.int .u8 0), (.int .i64 0), (.bool false), (.int .i64 0), (.int .i64 0), (.sl .clip [])])), [], (some 14), none⟩,
   ⟨(.prim (.store (some 1))), [.tmp 13, .tmp 72], none, none⟩,
   ⟨(.prim (.store (some 24))), [.tmp 14, .tmp 73], none, none⟩,
   ⟨(.prim .id), [.tmp 74], (some 15), none⟩] none)
  (.seq (.region [⟨(.prim .id), [.tmp 15], (some 75), none⟩,
   ⟨(.prim (.bin .neq .none)), [.tmp 75, .const (.int .i64 0)], (some 76), none⟩,
   ⟨(.prim .id), [.tmp 76], (some 77), none⟩,
   ⟨(.prim (.load (some 24))), [.tmp 14], (some 78), (some (77, false))⟩,
   ⟨(.prim (.load (some 24))), [.tmp 4], (some 79), (some (77, false))⟩,
   ⟨(.call 44), [.tmp 78, .tmp 79], (some 80), (some (77, false))⟩,
   ⟨(.prim (.un .not)), [.tmp 80], (some 81), (some (77, false))⟩,
   ⟨(.prim .pick), [.tmp 77, .const (.bool true), .tmp 81], (some 82), none⟩,
   ⟨(.prim .id), [.tmp 82], (some 83), none⟩,
   ⟨(.prim (.load (some 1))), [.tmp 13], (some 84), (some (83, false))⟩,
   ⟨(.prim (.load (some 1))), [.tmp 3], (some 85), (some (83, false))⟩,
   ⟨(.call 40), [.tmp 84, .tmp 85], (some 86), (some (83, false))⟩,
   ⟨(.prim (.un .not)), [.tmp 86], (some 87), (some (83, false))⟩,
   ⟨(.prim .pick), [.tmp 83, .const (.bool true), .tmp 87], (some 88), none⟩] none)
  (.cond (.tmp 88)
   (.seq (.region [⟨(.prim .id), [.const (.bool false)], (some 6), none⟩] none)
   .ret)
   .skip)))
  .skip))
 (.seq (.region [⟨(.prim (.load (some 1))), [.tmp 3], (some 90), none⟩,
  ⟨(.prim .id), [.tmp 2], (some 91), none⟩,
  ⟨(.call 45), [.tmp 90, .tmp 91], (some 92), none⟩,
  ⟨(.prim .id), [.tmp 92], (some 89), none⟩,
  ⟨(.prim (.extract 0)), [.tmp 89], (some 93), none⟩,
  ⟨(.prim (.extract 1)), [.tmp 89], (some 94), none⟩,
  ⟨(.prim (.alloc [(.sl .clip [])])), [], (some 16), none⟩,
  ⟨(.prim (.store (some 1))), [.tmp 16, .tmp 93], none, none⟩,
  ⟨(.prim .id), [.tmp 94], (some 17), none⟩] none)
 (.seq (.seq (.region [⟨(.prim .id), [.tmp 17], (some 95), none⟩,
  ⟨(.prim (.bin .neq .none)), [.tmp 95, .const (.int .i64 0)], (some 96), none⟩] none)
 (.cond (.tmp 96)
  (.seq (.region [⟨(.call 35), [], (some 97), none⟩,
   ⟨(.prim .id), [.tmp 97], (some 6), none⟩] none)
  .ret)
  .skip))
 (.seq (.region [⟨(.prim (.load (some 1))), [.tmp 16], (some 99), none⟩,
  ⟨(.prim (.fieldAddr 0 none)), [.tmp 3], (some 100), none⟩,
  ⟨(.prim (.load none)), [.tmp 100], (some 101), none⟩,
  ⟨(.prim .len), [.tmp 101], (some 102), none⟩,
  ⟨(.call 43), [.tmp 99, .tmp 102], (some 103), none⟩,
  ⟨(.prim .id), [.tmp 103], (some 98), none⟩,
  ⟨(.prim (.extract 0)), [.tmp 98], (some 104), none⟩,
  ⟨(.prim (.extract 1)), [.tmp 98], (some 105), none⟩,
  ⟨(.prim (.extract 2)), [.tmp 98], (some 106), none⟩,
  ⟨(.prim (.alloc [(.sl .clip [])])), [], (some 18), none⟩,
  ⟨(.prim (.alloc [(.int .i8 0), (.int .i64 0), (.int .i64 0), (.int .i64 0), (.int .i64 0), (.int .i64 0), (.int .i64 0), (.int .i64 0), (.int .i64 0), (.int .i8 0), (.int .i64 0), (.int .u8 0), (.int .u8 0), (.int .u8 0), (.int .u8 0), (.int .u8 0), (.int .u8 0), (.int .u8 0), (.int .u8 0), (.int .i64 0), (.bool false), (.int .i64 0), (.int .i64 0), (.sl .clip [])])), [], (some 19), none⟩,
  ⟨(.prim (.store (some 1))), [.tmp 18, .tmp 104], none, none⟩,
  ⟨(.prim (.store (some 24))), [.tmp 19, .tmp 105], none, none⟩,
  ⟨(.prim .id), [.tmp 106], (some 20), none⟩] none)
 (.seq (.region [⟨(.prim (.load (some 1))), [.tmp 16], (some 108), none⟩,
  ⟨(.prim .id), [.tmp 2], (some 109), none⟩,
  ⟨(.call 43), [.tmp 108, .tmp 109], (some 110), none⟩,
  ⟨(.prim .id), [.tmp 110], (some 107), none⟩,
  ⟨(.prim (.extract 0)), [.tmp 107], (some 111), none⟩,
  ⟨(.prim (.extract 1)), [.tmp 107], (some 112), none⟩,
  ⟨(.prim (.extract 2)), [.tmp 107], (some 113), none⟩,
  ⟨(.prim (.alloc [(.sl .clip [])])), [], (some 21), none⟩,
  ⟨(.prim (.alloc [(.int .i8 0), (.int .i64 0), (.int .i64 0), (.int .i64 0), (.int .i64 0), (.int .i64 0), (.int .i64 0), (.int .i64 0), (.int .i64 0), (.int .i8 0), (.int .i64 0), (.int .u8 0), (.int .u8 0), (.int .u8 0), (.int .u8 0), (.int .u8 0), (.int .u8 0), (.int .u8 0), (.int .u8 0), (.int .i64 0), (.bool false), (.int .i64 0), (.int .i64 0), (.sl .clip [])])), [], (some 22), none⟩,
  ⟨(.prim (.store (some 1))), [.tmp 21, .tmp 111], none, none⟩,
  ⟨(.prim (.store (some 24))), [.tmp 22, .tmp 112], none, none⟩,
  ⟨(.prim .id), [.tmp 113], (some 23), none⟩] none)
 (.seq (.region [⟨(.prim .id), [.tmp 20], (some 114), none⟩,
  ⟨(.prim (.bin .eql .none)), [.tmp 114, .const (.int .i64 0)], (some 115), none⟩,
  ⟨(.prim .id), [.tmp 115], (some 116), none⟩,
  ⟨(.prim .id), [.tmp 23], (some 117), (some (116, true))⟩,
  ⟨(.prim (.bin .eql .none)), [.tmp 117, .const (.int .i64 0)], (some 118), (some (116, true))⟩,
  ⟨(.prim .pick), [.tmp 116, .tmp 118, .const (.bool false)], (some 119), none⟩,
  ⟨(.prim .id), [.tmp 119], (some 120), none⟩,
  ⟨(.prim (.load (some 24))), [.tmp 19], (some 121), (some (120, true))⟩,
  ⟨(.prim (.load (some 24))), [.tmp 22], (some 122), (some (120, true))⟩,
  ⟨(.call 44), [.tmp 121, .tmp 122], (some 123), (some (120, true))⟩,
  ⟨(.prim .pick), [.tmp 120, .tmp 123, .const (.bool false)], (some 124), none⟩,
  ⟨(.prim .id), [.tmp 124], (some 125), none⟩,
  ⟨(.prim (.load (some 1))), [.tmp 18], (some 126), (some (125, true))⟩,
  ⟨(.prim (.load (some 1))), [.tmp 3], (some 127), (some (125, true))⟩,
  ⟨(.call 40), [.tmp 126, .tmp 127], (some 128), (some (125, true))⟩,
  ⟨(.prim .pick), [.tmp 125, .tmp 128, .const (.bool false)], (some 129), none⟩,
  ⟨(.prim .id), [.tmp 129], (some 130), none⟩,
  ⟨(.call 35), [], (some 131), (some (130, true))⟩,
  ⟨(.prim .pick), [.tmp 130, .tmp 131, .const (.bool false)], (some 132), none⟩,
  ⟨(.prim .id), [.tmp 132], (some 6), none⟩] none)
 .ret))))))))))))
theorem F9 : IsFun Try.prog 9 3 133 c9 [.tmp 6] := ⟨by decide, Try.f9, _, [3, 4], Try.func9, rfl, by decide, rfl, by kernel_rfl, by kernel_rfl⟩

-- loop: 1:f, 3:i
/-- cashbox/cashboxref16.Great -/
def c34 : ACode :=
 (.seq (.region [⟨(.prim (.boxR (some 1))), [.tmp 0], (some 1), none⟩,
  ⟨(.prim .id), [.const (.bool false)], (some 2), none⟩] none)
 (.seq (.seq (.region [⟨(.prim .id), [.const (.int .i64 0)], (some 3), none⟩] none)
 (.block 0
  (.loop
   (.seq (.seq (.region [⟨(.prim .id), [.tmp 3], (some 4), none⟩,
    ⟨(.prim (.fieldAddr 0 none)), [.tmp 1], (some 5), none⟩,
    ⟨(.prim (.load none)), [.tmp 5], (some 6), none⟩,
    ⟨(.prim .len), [.tmp 6], (some 7), none⟩,
    ⟨(.prim (.bin .lss .none)), [.tmp 4, .tmp 7], (some 8), none⟩,
    ⟨(.prim .id), [.tmp 8], (some 9), none⟩,
    ⟨(.prim .id), [.tmp 3], (some 10), (some (9, true))⟩,
    ⟨(.prim (.bin .leq .none)), [.tmp 10, .const (.int .i64 300)], (some 11), (some (9, true))⟩,
    ⟨(.prim .pick), [.tmp 9, .tmp 11, .const (.bool false)], (some 12), none⟩] none)
   (.cond (.tmp 12)
    .skip
    (.exit 0)))
   (.seq (.block 1
    (.seq (.region [⟨(.prim (.fieldAddr 0 none)), [.tmp 1], (some 15), none⟩,
     ⟨(.prim (.load none)), [.tmp 15], (some 16), none⟩,
     ⟨(.prim .id), [.tmp 3], (some 17), none⟩,
     ⟨(.prim (.idxSl (some 24))), [.tmp 16, .tmp 17], (some 18), none⟩,
     ⟨(.prim (.load (some 24))), [.tmp 18], (some 19), none⟩,
     ⟨(.call 14), [.tmp 19], (some 20), none⟩] none)
    (.cond (.tmp 20)
     (.seq (.region [⟨(.prim .id), [.const (.bool true)], (some 2), none⟩] none)
     .ret)
     .skip)))
   (.region [⟨(.prim .id), [.tmp 3], (some 13), none⟩,
    ⟨(.prim (.bin .add .none)), [.tmp 13, .const (.int .i64 1)], (some 14), none⟩,
    ⟨(.prim .id), [.tmp 14], (some 3), none⟩] none))))))
 (.seq (.region [⟨(.prim (.fieldAddr 0 none)), [.tmp 1], (some 21), none⟩,
  ⟨(.prim (.load none)), [.tmp 21], (some 22), none⟩,
  ⟨(.prim .len), [.tmp 22], (some 23), none⟩,
  ⟨(.prim (.bin .gtr .none)), [.tmp 23, .const (.int .i64 300)], (some 24), none⟩,
  ⟨(.prim .id), [.tmp 24], (some 2), none⟩] none)
 .ret)))
theorem F34 : IsFun Try.prog 34 1 25 c34 [.tmp 2] := ⟨by decide, Try.f34, _, [1], Try.func34, rfl, by decide, rfl, by kernel_rfl, by kernel_rfl⟩

/-- cashbox/cashboxlaw16.wakes -/
def c35 : ACode :=
 (.seq (.region [⟨(.prim .id), [.const (.bool false)], (some 0), none⟩] none)
 (.seq (.region [⟨(.prim (.alloc [(.sl .clip [])])), [], (some 1), none⟩] none)
 (.seq (.region [⟨(.prim (.load (some 1))), [.tmp 1], (some 8), none⟩,
  ⟨(.call 90), [.const (.int .i64 1)], (some 9), none⟩,
  ⟨(.call 42), [.tmp 8, .tmp 9], (some 10), none⟩,
  ⟨(.prim .id), [.tmp 10], (some 7), none⟩,
  ⟨(.prim (.extract 0)), [.tmp 7], (some 11), none⟩,
  ⟨(.prim (.extract 1)), [.tmp 7], (some 12), none⟩,
  ⟨(.prim (.store (some 1))), [.tmp 1, .tmp 11], none, none⟩,
  ⟨(.prim .id), [.tmp 12], (some 2), none⟩] (some [[], [], [0, 1, 1], [2], [3], [3], [4, 2, 0, 1, 2, 3, 4], [5, 6, 0, 1, 2, 3, 4, 5, 6]]))
 (.seq (.region [⟨(.prim (.load (some 1))), [.tmp 1], (some 14), none⟩,
  ⟨(.call 90), [.const (.int .i64 2)], (some 15), none⟩,
  ⟨(.call 42), [.tmp 14, .tmp 15], (some 16), none⟩,
  ⟨(.prim .id), [.tmp 16], (some 13), none⟩,
  ⟨(.prim (.extract 0)), [.tmp 13], (some 17), none⟩,
  ⟨(.prim (.extract 1)), [.tmp 13], (some 18), none⟩,
  ⟨(.prim (.store (some 1))), [.tmp 1, .tmp 17], none, none⟩,
  ⟨(.prim .id), [.tmp 18], (some 3), none⟩] (some [[], [], [0, 1, 1], [2], [3], [3], [4, 2, 0, 1, 2, 3, 4], [5, 6, 0, 1, 2, 3, 4, 5, 6]]))
 (.seq (.region [⟨(.prim (.load (some 1))), [.tmp 1], (some 20), none⟩,
  ⟨(.call 45), [.tmp 20, .const (.int .i64 0)], (some 21), none⟩,
  ⟨(.prim .id), [.tmp 21], (some 19), none⟩,
  ⟨(.prim (.extract 0)), [.tmp 19], (some 22), none⟩,
  ⟨(.prim (.extract 1)), [.tmp 19], (some 23), none⟩,
  ⟨(.prim (.store (some 1))), [.tmp 1, .tmp 22], none, none⟩,
  ⟨(.prim .id), [.tmp 23], (some 4), none⟩] none)
 (.seq (.region [⟨(.prim (.load (some 1))), [.tmp 1], (some 25), none⟩,
  ⟨(.call 43), [.tmp 25, .const (.int .i64 0)], (some 26), none⟩,
  ⟨(.prim .id), [.tmp 26], (some 24), none⟩,
  ⟨(.prim (.extract 0)), [.tmp 24], (some 27), none⟩,
  ⟨(.prim (.extract 1)), [.tmp 24], (some 28), none⟩,
  ⟨(.prim (.extract 2)), [.tmp 24], (some 29), none⟩,
  ⟨(.prim (.alloc [(.int .i8 0), (.int .i64 0), (.int .i64 0), (.int .i64 0), (.int .i64 0), (.int .i64 0), (.int .i64 0), (.int .i64 0), (.int .i64 0), (.int .i8 0), (.int .i64 0), (.int .u8 0), (.int .u8 0), (.int .u8 0), (.int .u8 0), (.int .u8 0), (.int .u8 0), (.int .u8 0), (.int .u8 0), (.int .i64 0), (.bool false), (.int .i64 0), (.int .i64 0), (.sl .clip [])])), [], (some 5), none⟩,
  ⟨(.prim (.store (some 1))), [.tmp 1, .tmp 27], none, none⟩,
  ⟨(.prim (.store (some 24))), [.tmp 5, .tmp 28], none, none⟩,
  ⟨(.prim .id), [.tmp 29], (some 6), none⟩] none)
 (.seq (.region [⟨(.prim .id), [.tmp 2], (some 30), none⟩,
  ⟨(.prim (.bin .eql .none)), [.tmp 30, .const (.int .i64 0)], (some 31), none⟩,
  ⟨(.prim .id), [.tmp 31], (some 32), none⟩,
  ⟨(.prim .id), [.tmp 3], (some 33), (some (32, true))⟩,
  ⟨(.prim (.bin .eql .none)), [.tmp 33, .const (.int .i64 0)], (some 34), (some (32, true))⟩,
  ⟨(.prim .pick), [.tmp 32, .tmp 34, .const (.bool false)], (some 35), none⟩,
  ⟨(.prim .id), [.tmp 35], (some 36), none⟩,
  ⟨(.prim .id), [.tmp 4], (some 37), (some (36, true))⟩,
  ⟨(.prim (.bin .eql .none)), [.tmp 37, .const (.int .i64 0)], (some 38), (some (36, true))⟩,
  ⟨(.prim .pick), [.tmp 36, .tmp 38, .const (.bool false)], (some 39), none⟩,
  ⟨(.prim .id), [.tmp 39], (some 40), none⟩,
  ⟨(.prim .id), [.tmp 6], (some 41), (some (40, true))⟩,
  ⟨(.prim (.bin .eql .none)), [.tmp 41, .const (.int .i64 0)], (some 42), (some (40, true))⟩,
  ⟨(.prim .pick), [.tmp 40, .tmp 42, .const (.bool false)], (some 43), none⟩,
  ⟨(.prim .id), [.tmp 43], (some 44), none⟩,
  ⟨(.prim (.fieldAddr 2 none)), [.tmp 5], (some 45), (some (44, true))⟩,
  ⟨(.prim (.load none)), [.tmp 45], (some 46), (some (44, true))⟩,
  ⟨(.prim (.bin .eql .none)), [.tmp 46, .const (.int .i64 1)], (some 47), (some (44, true))⟩,
  ⟨(.prim .pick), [.tmp 44, .tmp 47, .const (.bool false)], (some 48), none⟩,
  ⟨(.prim .id), [.tmp 48], (some 49), none⟩,
  ⟨(.prim (.fieldAddr 0 none)), [.tmp 1], (some 50), (some (49, true))⟩,
  ⟨(.prim (.load none)), [.tmp 50], (some 51), (some (49, true))⟩,
  ⟨(.prim .len), [.tmp 51], (some 52), (some (49, true))⟩,
  ⟨(.prim (.bin .eql .none)), [.tmp 52, .const (.int .i64 2)], (some 53), (some (49, true))⟩,
  ⟨(.prim .pick), [.tmp 49, .tmp 53, .const (.bool false)], (some 54), none⟩,
  ⟨(.prim .id), [.tmp 54], (some 55), none⟩,
  ⟨(.prim (.fieldAddr 0 none)), [.tmp 1], (some 56), (some (55, true))⟩,
  ⟨(.prim (.load none)), [.tmp 56], (some 57), (some (55, true))⟩,
  ⟨(.prim (.idxSl (some 24))), [.tmp 57, .const (.int .i64 0)], (some 58), (some (55, true))⟩,
  ⟨(.prim (.fieldAddr 2 none)), [.tmp 58], (some 59), (some (55, true))⟩,
  ⟨(.prim (.load none)), [.tmp 59], (some 60), (some (55, true))⟩,
  ⟨(.prim (.bin .eql .none)), [.tmp 60, .const (.int .i64 2)], (some 61), (some (55, true))⟩,
  ⟨(.prim .pick), [.tmp 55, .tmp 61, .const (.bool false)], (some 62), none⟩,
  ⟨(.prim .id), [.tmp 62], (some 63), none⟩,
  ⟨(.prim (.fieldAddr 0 none)), [.tmp 1], (some 64), (some (63, true))⟩,
  ⟨(.prim (.load none)), [.tmp 64], (some 65), (some (63, true))⟩,
  ⟨(.prim (.idxSl (some 24))), [.tmp 65, .const (.int .i64 1)], (some 66), (some (63, true))⟩,
  ⟨(.prim (.fieldAddr 2 none)), [.tmp 66], (some 67), (some (63, true))⟩,
  ⟨(.prim (.load none)), [.tmp 67], (some 68), (some (63, true))⟩,
  ⟨(.prim (.bin .eql .none)), [.tmp 68, .const (.int .i64 1)], (some 69), (some (63, true))⟩,
  ⟨(.prim .pick), [.tmp 63, .tmp 69, .const (.bool false)], (some 70), none⟩,
  ⟨(.prim .id), [.tmp 70], (some 0), none⟩] none)
 .ret)))))))
theorem F35 : IsFun Try.prog 35 0 71 c35 [.tmp 0] := ⟨by decide, Try.f35, _, [], Try.func35, rfl, by decide, rfl, by kernel_rfl, by kernel_rfl⟩

-- loop: 2:out, 15:, 16:, 17:
/-- cashbox/fabric.Bytes -/
def c36 : ACode :=
 (.seq (.region [⟨(.prim (.boxR (some 1))), [.tmp 0], (some 1), none⟩,
  ⟨(.prim .id), [.const (.sl .clip [])], (some 2), none⟩,
  ⟨(.prim .id), [.const (.int .i64 0)], (some 3), none⟩] none)
 (.seq (.seq (.region [⟨(.prim (.load (some 1))), [.tmp 1], (some 9), none⟩,
  ⟨(.call 41), [.tmp 9], (some 10), none⟩,
  ⟨(.prim .id), [.tmp 10], (some 4), none⟩] none)
 (.seq (.region [⟨(.prim .id), [.tmp 4], (some 11), none⟩,
  ⟨(.prim (.bin .neq .none)), [.tmp 11, .const (.int .i64 0)], (some 12), none⟩] none)
 (.cond (.tmp 12)
  (.seq (.region [⟨(.prim .id), [.tmp 4], (some 13), none⟩,
   ⟨(.prim .id), [.const (.sl .clip [])], (some 2), none⟩,
   ⟨(.prim .id), [.tmp 13], (some 3), none⟩] none)
  .ret)
  .skip)))
 (.seq (.seq (.region [⟨(.prim (.fieldAddr 0 none)), [.tmp 1], (some 14), none⟩,
  ⟨(.prim (.load none)), [.tmp 14], (some 15), none⟩,
  ⟨(.prim .len), [.tmp 15], (some 16), none⟩,
  ⟨(.prim .id), [.const (.int .i64 0)], (some 17), none⟩] none)
 (.block 0
  (.loop
   (.seq (.region [⟨(.prim (.bin .lss .none)), [.tmp 17, .tmp 16], (some 18), none⟩] none)
   (.seq (.cond (.tmp 18)
    .skip
    (.exit 0))
   (.seq (.block 1
    (.seq (.region [⟨(.prim (.idxSl (some 24))), [.tmp 15, .tmp 17], (some 19), none⟩,
     ⟨(.prim (.load (some 24))), [.tmp 19], (some 20), none⟩,
     ⟨(.prim (.alloc [(.int .i8 0), (.int .i64 0), (.int .i64 0), (.int .i64 0), (.int .i64 0), (.int .i64 0), (.int .i64 0), (.int .i64 0), (.int .i64 0), (.int .i8 0), (.int .i64 0), (.int .u8 0), (.int .u8 0), (.int .u8 0), (.int .u8 0), (.int .u8 0), (.int .u8 0), (.int .u8 0), (.int .u8 0), (.int .i64 0), (.bool false), (.int .i64 0), (.int .i64 0), (.sl .clip [])])), [], (some 6), none⟩,
     ⟨(.prim (.store (some 24))), [.tmp 6, .tmp 20], none, none⟩] none)
    (.seq (.region [⟨(.prim (.load (some 24))), [.tmp 6], (some 22), none⟩,
     ⟨(.call 91), [.tmp 22], (some 23), none⟩,
     ⟨(.prim .id), [.tmp 23], (some 21), none⟩,
     ⟨(.prim (.extract 0)), [.tmp 21], (some 24), none⟩,
     ⟨(.prim (.extract 1)), [.tmp 21], (some 25), none⟩,
     ⟨(.prim .id), [.tmp 24], (some 7), none⟩,
     ⟨(.prim .id), [.tmp 25], (some 8), none⟩] none)
    (.seq (.region [⟨(.prim .id), [.tmp 2], (some 27), none⟩,
     ⟨(.prim .id), [.tmp 7], (some 28), none⟩,
     ⟨(.prim .len), [.tmp 28], (some 29), none⟩,
     ⟨(.call 92), [.tmp 27, .tmp 29, .const (.int .i64 2)], (some 30), none⟩,
     ⟨(.prim .id), [.tmp 30], (some 26), none⟩,
     ⟨(.prim (.extract 0)), [.tmp 26], (some 31), none⟩,
     ⟨(.prim (.extract 1)), [.tmp 26], (some 32), none⟩,
     ⟨(.prim .id), [.tmp 31], (some 2), none⟩] none)
    (.region [⟨(.prim .id), [.tmp 2], (some 33), none⟩,
     ⟨(.prim .id), [.tmp 7], (some 34), none⟩,
     ⟨(.prim (.append none)), [.tmp 33, .tmp 34], (some 35), none⟩,
     ⟨(.prim .id), [.tmp 35], (some 2), none⟩] none)))))
   (.region [⟨(.prim (.bin .add .none)), [.tmp 17, .const (.int .i64 1)], (some 36), none⟩,
    ⟨(.prim .id), [.tmp 36], (some 17), none⟩] none)))))))
 (.seq (.region [⟨(.prim .id), [.tmp 2], (some 37), none⟩,
  ⟨(.prim .id), [.tmp 37], (some 2), none⟩,
  ⟨(.prim .id), [.const (.int .i64 0)], (some 3), none⟩] none)
 .ret))))
theorem F36 : IsFun Try.prog 36 1 38 c36 [.tmp 2, .tmp 3] := ⟨by decide, Try.f36, _, [1], Try.func36, rfl, by decide, rfl, by kernel_rfl, by kernel_rfl⟩

-- loop: 2:, 4:r, 5:next
/-- cashbox/fabric.Read -/
def c38 : ACode :=
 (.seq (.region [⟨(.prim (.alloc [(.sl .clip [])])), [], (some 2), none⟩,
  ⟨(.prim .id), [.const (.int .i64 0)], (some 3), none⟩] none)
 (.seq (.region [⟨(.prim .id), [.tmp 0], (some 6), none⟩,
  ⟨(.prim (.build [(.sl .clip []), (.sl .clip [])] [(0, 1)])), [.tmp 6], (some 7), none⟩,
  ⟨(.prim (.box (some 2))), [.tmp 7], (some 8), none⟩,
  ⟨(.prim .id), [.tmp 8], (some 4), none⟩] none)
 (.seq (.region [⟨(.prim .id), [.tmp 4], (some 9), none⟩,
  ⟨(.prim (.mkfn (.func 95) 1)), [.tmp 9], (some 10), none⟩,
  ⟨(.prim .id), [.tmp 10], (some 5), none⟩] none)
 (.seq (.block 0
  (.loop
   (.seq (.seq (.region [⟨(.prim .id), [.tmp 4], (some 11), none⟩,
    ⟨(.prim .nilc), [.tmp 11], (some 12), none⟩,
    ⟨(.prim (.fieldAddr 0 none)), [.tmp 12], (some 13), none⟩,
    ⟨(.prim (.load none)), [.tmp 13], (some 14), none⟩,
    ⟨(.prim .len), [.tmp 14], (some 15), none⟩,
    ⟨(.prim (.bin .gtr .none)), [.tmp 15, .const (.int .i64 0)], (some 16), none⟩] none)
   (.cond (.tmp 16)
    .skip
    (.exit 0)))
   (.block 1
    (.seq (.region [⟨(.prim .id), [.tmp 5], (some 17), none⟩,
     ⟨.callV, [.tmp 17], (some 18), none⟩,
     ⟨(.prim (.un .not)), [.tmp 18], (some 19), none⟩] none)
    (.cond (.tmp 19)
     (.seq (.region [⟨(.prim (.build [(.sl .clip [])] [])), [], (some 20), none⟩,
      ⟨(.prim (.store (some 1))), [.tmp 2, .tmp 20], none, none⟩,
      ⟨(.prim .id), [.const (.int .i64 2)], (some 3), none⟩] none)
     .ret)
     .skip))))))
 (.seq (.region [⟨(.prim .id), [.tmp 4], (some 21), none⟩,
  ⟨(.prim .nilc), [.tmp 21], (some 22), none⟩,
  ⟨(.prim (.fieldAddr 1 (some 1))), [.tmp 22], (some 23), none⟩,
  ⟨(.prim (.load (some 1))), [.tmp 23], (some 24), none⟩,
  ⟨(.prim (.store (some 1))), [.tmp 2, .tmp 24], none, none⟩,
  ⟨(.prim .id), [.const (.int .i64 0)], (some 3), none⟩] none)
 .ret)))))
theorem F38 : IsFun Try.prog 38 1 25 c38 [.cell 2 (some 1), .tmp 3] := ⟨by decide, Try.f38, _, [], Try.func38, rfl, by decide, rfl, by kernel_rfl, by kernel_rfl⟩

-- loop: 2:a, 3:b, 5:i
/-- cashbox/cashboxref16.Same -/
def c40 : ACode :=
 (.seq (.region [⟨(.prim (.boxR (some 1))), [.tmp 0], (some 2), none⟩,
  ⟨(.prim (.boxR (some 1))), [.tmp 1], (some 3), none⟩,
  ⟨(.prim .id), [.const (.bool false)], (some 4), none⟩] none)
 (.seq (.seq (.region [⟨(.prim (.fieldAddr 0 none)), [.tmp 2], (some 6), none⟩,
  ⟨(.prim (.load none)), [.tmp 6], (some 7), none⟩,
  ⟨(.prim .len), [.tmp 7], (some 8), none⟩,
  ⟨(.prim (.fieldAddr 0 none)), [.tmp 3], (some 9), none⟩,
  ⟨(.prim (.load none)), [.tmp 9], (some 10), none⟩,
  ⟨(.prim .len), [.tmp 10], (some 11), none⟩,
  ⟨(.prim (.bin .neq .none)), [.tmp 8, .tmp 11], (some 12), none⟩] none)
 (.cond (.tmp 12)
  (.seq (.region [⟨(.prim .id), [.const (.bool false)], (some 4), none⟩] none)
  .ret)
  .skip))
 (.seq (.seq (.region [⟨(.prim .id), [.const (.int .i64 0)], (some 5), none⟩] none)
 (.block 0
  (.loop
   (.seq (.seq (.region [⟨(.prim .id), [.tmp 5], (some 13), none⟩,
    ⟨(.prim (.fieldAddr 0 none)), [.tmp 2], (some 14), none⟩,
    ⟨(.prim (.load none)), [.tmp 14], (some 15), none⟩,
    ⟨(.prim .len), [.tmp 15], (some 16), none⟩,
    ⟨(.prim (.bin .lss .none)), [.tmp 13, .tmp 16], (some 17), none⟩] none)
   (.cond (.tmp 17)
    .skip
    (.exit 0)))
   (.seq (.block 1
    (.seq (.region [⟨(.prim (.fieldAddr 0 none)), [.tmp 2], (some 20), none⟩,
     ⟨(.prim (.load none)), [.tmp 20], (some 21), none⟩,
     ⟨(.prim .id), [.tmp 5], (some 22), none⟩,
     ⟨(.prim (.idxSl (some 24))), [.tmp 21, .tmp 22], (some 23), none⟩,
     ⟨(.prim (.load (some 24))), [.tmp 23], (some 24), none⟩,
     ⟨(.prim (.fieldAddr 0 none)), [.tmp 3], (some 25), none⟩,
     ⟨(.prim (.load none)), [.tmp 25], (some 26), none⟩,
     ⟨(.prim .id), [.tmp 5], (some 27), none⟩,
     ⟨(.prim (.idxSl (some 24))), [.tmp 26, .tmp 27], (some 28), none⟩,
     ⟨(.prim (.load (some 24))), [.tmp 28], (some 29), none⟩,
     ⟨(.call 44), [.tmp 24, .tmp 29], (some 30), none⟩,
     ⟨(.prim (.un .not)), [.tmp 30], (some 31), none⟩] (some [[], [0], [], [1, 2], [3], [], [5], [], [6, 7], [8], [4, 9], [10]]))
    (.cond (.tmp 31)
     (.seq (.region [⟨(.prim .id), [.const (.bool false)], (some 4), none⟩] none)
     .ret)
     .skip)))
   (.region [⟨(.prim .id), [.tmp 5], (some 18), none⟩,
    ⟨(.prim (.bin .add .none)), [.tmp 18, .const (.int .i64 1)], (some 19), none⟩,
    ⟨(.prim .id), [.tmp 19], (some 5), none⟩] none))))))
 (.seq (.region [⟨(.prim .id), [.const (.bool true)], (some 4), none⟩] none)
 .ret))))
theorem F40 : IsFun Try.prog 40 2 32 c40 [.tmp 4] := ⟨by decide, Try.f40, _, [2, 3], Try.func40, rfl, by decide, rfl, by kernel_rfl, by kernel_rfl⟩

-- loop: 10:, 11:, 12:
/-- cashbox/fabric.Check -/
def c41 : ACode :=
 (.seq (.region [⟨(.prim (.boxR (some 1))), [.tmp 0], (some 1), none⟩,
  ⟨(.prim .id), [.const (.int .i64 0)], (some 2), none⟩] none)
 (.seq (.seq (.region [⟨(.prim (.fieldAddr 0 none)), [.tmp 1], (some 5), none⟩,
  ⟨(.prim (.load none)), [.tmp 5], (some 6), none⟩,
  ⟨(.prim .len), [.tmp 6], (some 7), none⟩,
  ⟨(.prim (.bin .gtr .none)), [.tmp 7, .const (.int .i64 200)], (some 8), none⟩] none)
 (.cond (.tmp 8)
  (.seq (.region [⟨(.prim .id), [.const (.int .i64 2)], (some 2), none⟩] none)
  .ret)
  .skip))
 (.seq (.seq (.region [⟨(.prim (.fieldAddr 0 none)), [.tmp 1], (some 9), none⟩,
  ⟨(.prim (.load none)), [.tmp 9], (some 10), none⟩,
  ⟨(.prim .len), [.tmp 10], (some 11), none⟩,
  ⟨(.prim .id), [.const (.int .i64 0)], (some 12), none⟩] none)
 (.block 0
  (.loop
   (.seq (.region [⟨(.prim (.bin .lss .none)), [.tmp 12, .tmp 11], (some 13), none⟩] none)
   (.seq (.cond (.tmp 13)
    .skip
    (.exit 0))
   (.seq (.block 1
    (.seq (.region [⟨(.prim (.idxSl (some 24))), [.tmp 10, .tmp 12], (some 14), none⟩,
     ⟨(.prim (.load (some 24))), [.tmp 14], (some 15), none⟩,
     ⟨(.prim (.alloc [(.int .i8 0), (.int .i64 0), (.int .i64 0), (.int .i64 0), (.int .i64 0), (.int .i64 0), (.int .i64 0), (.int .i64 0), (.int .i64 0), (.int .i8 0), (.int .i64 0), (.int .u8 0), (.int .u8 0), (.int .u8 0), (.int .u8 0), (.int .u8 0), (.int .u8 0), (.int .u8 0), (.int .u8 0), (.int .i64 0), (.bool false), (.int .i64 0), (.int .i64 0), (.sl .clip [])])), [], (some 4), none⟩,
     ⟨(.prim (.store (some 24))), [.tmp 4, .tmp 15], none, none⟩] none)
    (.seq (.region [⟨(.prim (.load (some 24))), [.tmp 4], (some 16), none⟩,
     ⟨(.call 64), [.tmp 16], (some 17), none⟩,
     ⟨(.prim (.un .not)), [.tmp 17], (some 18), none⟩] none)
    (.cond (.tmp 18)
     (.seq (.region [⟨(.prim .id), [.const (.int .i64 2)], (some 2), none⟩] none)
     .ret)
     .skip))))
   (.region [⟨(.prim (.bin .add .none)), [.tmp 12, .const (.int .i64 1)], (some 19), none⟩,
    ⟨(.prim .id), [.tmp 19], (some 12), none⟩] none)))))))
 (.seq (.region [⟨(.prim .id), [.const (.int .i64 0)], (some 2), none⟩] none)
 .ret))))
theorem F41 : IsFun Try.prog 41 1 20 c41 [.tmp 2] := ⟨by decide, Try.f41, _, [1], Try.func41, rfl, by decide, rfl, by kernel_rfl, by kernel_rfl⟩

/-- cashbox/fabric.Put -/
def c42 : ACode :=
 (.seq (.region [⟨(.prim (.boxR (some 1))), [.tmp 0], (some 2), none⟩,
  ⟨(.prim (.boxR (some 24))), [.tmp 1], (some 3), none⟩,
  ⟨(.prim (.alloc [(.sl .clip [])])), [], (some 4), none⟩,
  ⟨(.prim .id), [.const (.int .i64 0)], (some 5), none⟩] none)
 (.seq (.region [⟨(.prim (.fieldAddr 0 none)), [.tmp 2], (some 7), none⟩,
  ⟨(.prim (.load none)), [.tmp 7], (some 8), none⟩,
  ⟨(.prim .len), [.tmp 8], (some 9), none⟩,
  ⟨(.prim .id), [.tmp 9], (some 6), none⟩] none)
 (.seq (.block 0
  (.seq (.region [⟨(.prim (.load (some 1))), [.tmp 2], (some 11), none⟩,
   ⟨(.call 41), [.tmp 11], (some 12), none⟩,
   ⟨(.prim (.bin .neq .none)), [.tmp 12, .const (.int .i64 0)], (some 13), none⟩,
   ⟨(.prim .id), [.tmp 13], (some 14), none⟩,
   ⟨(.prim (.load (some 24))), [.tmp 3], (some 15), (some (14, false))⟩,
   ⟨(.call 64), [.tmp 15], (some 16), (some (14, false))⟩,
   ⟨(.prim (.un .not)), [.tmp 16], (some 17), (some (14, false))⟩,
   ⟨(.prim .pick), [.tmp 14, .const (.bool true), .tmp 17], (some 18), none⟩,
   ⟨(.prim .id), [.tmp 18], (some 10), none⟩] none)
  (.cond (.tmp 10)
   (.seq (.region [⟨(.prim (.build [(.sl .clip [])] [])), [], (some 19), none⟩,
    ⟨(.prim (.store (some 1))), [.tmp 4, .tmp 19], none, none⟩,
    ⟨(.prim .id), [.const (.int .i64 2)], (some 5), none⟩] none)
   .ret)
   (.seq (.region [⟨(.prim .id), [.tmp 6], (some 21), none⟩,
    ⟨(.prim (.bin .eql .none)), [.tmp 21, .const (.int .i64 200)], (some 22), none⟩,
    ⟨(.prim .id), [.tmp 22], (some 20), none⟩] none)
   (.cond (.tmp 20)
    (.seq (.region [⟨(.prim (.build [(.sl .clip [])] [])), [], (some 23), none⟩,
     ⟨(.prim (.store (some 1))), [.tmp 4, .tmp 23], none, none⟩,
     ⟨(.prim .id), [.const (.int .i64 50)], (some 5), none⟩] none)
    .ret)
    .skip)))))
 (.seq (.region [⟨(.prim (.fieldAddr 0 none)), [.tmp 2], (some 24), none⟩,
  ⟨(.prim (.load none)), [.tmp 24], (some 25), none⟩,
  ⟨(.prim .id), [.tmp 6], (some 26), none⟩,
  ⟨(.prim .id), [.tmp 6], (some 27), none⟩,
  ⟨(.prim (.slcSl (some 24) false true true)), [.tmp 25, .tmp 26, .tmp 27], (some 28), none⟩,
  ⟨(.prim (.load (some 24))), [.tmp 3], (some 29), none⟩,
  ⟨(.prim (.buildSl (some 24))), [.tmp 29], (some 30), none⟩,
  ⟨(.prim (.append (some 24))), [.tmp 28, .tmp 30], (some 31), none⟩,
  ⟨(.prim (.build [(.sl .clip [])] [(0, 1)])), [.tmp 31], (some 32), none⟩,
  ⟨(.prim (.store (some 1))), [.tmp 4, .tmp 32], none, none⟩,
  ⟨(.prim .id), [.const (.int .i64 0)], (some 5), none⟩] (some [[], [0], [], [], [1, 2, 3], [], [5], [4, 6], [7], [8, 7, 0, 1, 2, 3, 4, 5, 6, 7, 8], [9, 0, 1, 2, 3, 4, 5, 6, 7, 8, 9]]))
 .ret))))
theorem F42 : IsFun Try.prog 42 2 33 c42 [.cell 4 (some 1), .tmp 5] := ⟨by decide, Try.f42, _, [2, 3], Try.func42, rfl, by decide, rfl, by kernel_rfl, by kernel_rfl⟩

/-- cashbox/fabric.Take -/
def c43 : ACode :=
 (.seq (.region [⟨(.prim (.boxR (some 1))), [.tmp 0], (some 2), none⟩,
  ⟨(.prim (.alloc [(.sl .clip [])])), [], (some 4), none⟩,
  ⟨(.prim (.alloc [(.int .i8 0), (.int .i64 0), (.int .i64 0), (.int .i64 0), (.int .i64 0), (.int .i64 0), (.int .i64 0), (.int .i64 0), (.int .i64 0), (.int .i8 0), (.int .i64 0), (.int .u8 0), (.int .u8 0), (.int .u8 0), (.int .u8 0), (.int .u8 0), (.int .u8 0), (.int .u8 0), (.int .u8 0), (.int .i64 0), (.bool false), (.int .i64 0), (.int .i64 0), (.sl .clip [])])), [], (some 5), none⟩,
  ⟨(.prim .id), [.const (.int .i64 0)], (some 6), none⟩] none)
 (.seq (.seq (.region [⟨(.prim (.load (some 1))), [.tmp 2], (some 8), none⟩,
  ⟨(.prim .id), [.tmp 1], (some 9), none⟩,
  ⟨(.call 97), [.tmp 8, .tmp 9], (some 10), none⟩,
  ⟨(.prim .id), [.tmp 10], (some 7), none⟩] none)
 (.seq (.region [⟨(.prim .id), [.tmp 7], (some 11), none⟩,
  ⟨(.prim (.bin .neq .none)), [.tmp 11, .const (.int .i64 0)], (some 12), none⟩] none)
 (.cond (.tmp 12)
  (.seq (.region [⟨(.prim (.build [(.sl .clip [])] [])), [], (some 13), none⟩,
   ⟨(.prim (.build [(.int .i8 0), (.int .i64 0), (.int .i64 0), (.int .i64 0), (.int .i64 0), (.int .i64 0), (.int .i64 0), (.int .i64 0), (.int .i64 0), (.int .i8 0), (.int .i64 0), (.int .u8 0), (.int .u8 0), (.int .u8 0), (.int .u8 0), (.int .u8 0), (.int .u8 0), (.int .u8 0), (.int .u8 0), (.int .i64 0), (.bool false), (.int .i64 0), (.int .i64 0), (.sl .clip [])] [])), [], (some 14), none⟩,
   ⟨(.prim .id), [.tmp 7], (some 15), none⟩,
   ⟨(.prim (.store (some 1))), [.tmp 4, .tmp 13], none, none⟩,
   ⟨(.prim (.store (some 24))), [.tmp 5, .tmp 14], none, none⟩,
   ⟨(.prim .id), [.tmp 15], (some 6), none⟩] none)
  .ret)
  .skip)))
 (.seq (.region [⟨(.prim (.fieldAddr 0 none)), [.tmp 2], (some 16), none⟩,
  ⟨(.prim (.load none)), [.tmp 16], (some 17), none⟩,
  ⟨(.prim .id), [.tmp 1], (some 18), none⟩,
  ⟨(.prim .id), [.tmp 1], (some 19), none⟩,
  ⟨(.prim (.slcSl (some 24) false true true)), [.tmp 17, .tmp 18, .tmp 19], (some 20), none⟩,
  ⟨(.prim (.fieldAddr 0 none)), [.tmp 2], (some 21), none⟩,
  ⟨(.prim (.load none)), [.tmp 21], (some 22), none⟩,
  ⟨(.prim .id), [.tmp 1], (some 23), none⟩,
  ⟨(.prim (.bin .add .none)), [.tmp 23, .const (.int .i64 1)], (some 24), none⟩,
  ⟨(.prim (.slcSl (some 24) true false false)), [.tmp 22, .tmp 24], (some 25), none⟩,
  ⟨(.prim (.append (some 24))), [.tmp 20, .tmp 25], (some 26), none⟩,
  ⟨(.prim (.build [(.sl .clip [])] [(0, 1)])), [.tmp 26], (some 27), none⟩,
  ⟨(.prim (.fieldAddr 0 none)), [.tmp 2], (some 28), none⟩,
  ⟨(.prim (.load none)), [.tmp 28], (some 29), none⟩,
  ⟨(.prim .id), [.tmp 1], (some 30), none⟩,
  ⟨(.prim (.idxSl (some 24))), [.tmp 29, .tmp 30], (some 31), none⟩,
  ⟨(.prim (.load (some 24))), [.tmp 31], (some 32), none⟩,
  ⟨(.prim (.store (some 1))), [.tmp 4, .tmp 27], none, none⟩,
  ⟨(.prim (.store (some 24))), [.tmp 5, .tmp 32], none, none⟩,
  ⟨(.prim .id), [.const (.int .i64 0)], (some 6), none⟩] (some [[], [0], [], [], [1, 2, 3], [], [5], [], [7], [6, 8], [4, 9], [10], [], [12], [], [13, 14], [15], [11, 10, 0, 1, 2, 3, 4, 5, 6, 7, 8, 9, 10, 11], [16, 17, 0, 1, 2, 3, 4, 5, 6, 7, 8, 9, 10, 11, 12, 13, 14, 15, 16, 17], [18, 0, 1, 2, 3, 4, 5, 6, 7, 8, 9, 10, 11, 12, 13, 14, 15, 16, 17, 18]]))
 .ret)))
theorem F43 : IsFun Try.prog 43 2 33 c43 [.cell 4 (some 1), .cell 5 (some 24), .tmp 6] := ⟨by decide, Try.f43, _, [2], Try.func43, rfl, by decide, rfl, by kernel_rfl, by kernel_rfl⟩

/-- cashbox/fabric.Twice -/
def c45 : ACode :=
 (.seq (.region [⟨(.prim (.boxR (some 1))), [.tmp 0], (some 2), none⟩,
  ⟨(.prim (.alloc [(.sl .clip [])])), [], (some 4), none⟩,
  ⟨(.prim .id), [.const (.int .i64 0)], (some 5), none⟩] none)
 (.seq (.seq (.region [⟨(.prim (.load (some 1))), [.tmp 2], (some 7), none⟩,
  ⟨(.prim .id), [.tmp 1], (some 8), none⟩,
  ⟨(.call 97), [.tmp 7, .tmp 8], (some 9), none⟩,
  ⟨(.prim .id), [.tmp 9], (some 6), none⟩] none)
 (.seq (.region [⟨(.prim .id), [.tmp 6], (some 10), none⟩,
  ⟨(.prim (.bin .neq .none)), [.tmp 10, .const (.int .i64 0)], (some 11), none⟩] none)
 (.cond (.tmp 11)
  (.seq (.region [⟨(.prim (.build [(.sl .clip [])] [])), [], (some 12), none⟩,
   ⟨(.prim .id), [.tmp 6], (some 13), none⟩,
   ⟨(.prim (.store (some 1))), [.tmp 4, .tmp 12], none, none⟩,
   ⟨(.prim .id), [.tmp 13], (some 5), none⟩] none)
  .ret)
  .skip)))
 (.seq (.region [⟨(.prim (.load (some 1))), [.tmp 2], (some 14), none⟩,
  ⟨(.prim (.fieldAddr 0 none)), [.tmp 2], (some 15), none⟩,
  ⟨(.prim (.load none)), [.tmp 15], (some 16), none⟩,
  ⟨(.prim .id), [.tmp 1], (some 17), none⟩,
  ⟨(.prim (.idxSl (some 24))), [.tmp 16, .tmp 17], (some 18), none⟩,
  ⟨(.prim (.load (some 24))), [.tmp 18], (some 19), none⟩,
  ⟨(.call 42), [.tmp 14, .tmp 19], (some 20), none⟩,
  ⟨(.prim (.extract 0)), [.tmp 20], (some 21), none⟩,
  ⟨(.prim (.extract 1)), [.tmp 20], (some 22), none⟩,
  ⟨(.prim (.store (some 1))), [.tmp 4, .tmp 21], none, none⟩,
  ⟨(.prim .id), [.tmp 22], (some 5), none⟩] (some [[], [], [1], [], [2, 3], [4], [0, 5], [6], [6], [7, 6, 0, 1, 2, 3, 4, 5, 6, 7, 8], [8, 9, 0, 1, 2, 3, 4, 5, 6, 7, 8, 9]]))
 .ret)))
theorem F45 : IsFun Try.prog 45 2 23 c45 [.cell 4 (some 1), .tmp 5] := ⟨by decide, Try.f45, _, [2], Try.func45, rfl, by decide, rfl, by kernel_rfl, by kernel_rfl⟩

/-- cashbox/cashboxlaw16.ping -/
def c90 : ACode :=
 (.seq (.region [⟨(.prim (.alloc [(.int .i8 0), (.int .i64 0), (.int .i64 0), (.int .i64 0), (.int .i64 0), (.int .i64 0), (.int .i64 0), (.int .i64 0), (.int .i64 0), (.int .i8 0), (.int .i64 0), (.int .u8 0), (.int .u8 0), (.int .u8 0), (.int .u8 0), (.int .u8 0), (.int .u8 0), (.int .u8 0), (.int .u8 0), (.int .i64 0), (.bool false), (.int .i64 0), (.int .i64 0), (.sl .clip [])])), [], (some 2), none⟩] none)
 (.seq (.region [⟨(.prim .id), [.tmp 0], (some 3), none⟩,
  ⟨(.prim (.build [(.int .i8 0), (.int .i64 0), (.int .i64 0), (.int .i64 0), (.int .i64 0), (.int .i64 0), (.int .i64 0), (.int .i64 0), (.int .i64 0), (.int .i8 0), (.int .i64 0), (.int .u8 0), (.int .u8 0), (.int .u8 0), (.int .u8 0), (.int .u8 0), (.int .u8 0), (.int .u8 0), (.int .u8 0), (.int .i64 0), (.bool false), (.int .i64 0), (.int .i64 0), (.sl .clip [])] [(0, 1), (2, 1), (3, 1)])), [.const (.int .i8 1), .tmp 3, .const (.int .i64 1)], (some 4), none⟩,
  ⟨(.prim (.store (some 24))), [.tmp 2, .tmp 4], none, none⟩] none)
 .ret))
theorem F90 : IsFun Try.prog 90 1 5 c90 [.cell 2 (some 24)] := ⟨by decide, Try.f90, _, [], Try.func90, rfl, by decide, rfl, by kernel_rfl, by kernel_rfl⟩

-- loop: 1:n, 8:out, 24:, 25:
/-- cashbox/pack.Put -/
def c92 : ACode :=
 (.seq (.region [⟨(.prim .id), [.const (.sl .clip [])], (some 6), none⟩,
  ⟨(.prim .id), [.const (.int .i64 0)], (some 7), none⟩] none)
 (.seq (.seq (.region [⟨(.prim .id), [.tmp 1], (some 10), none⟩,
  ⟨(.prim .id), [.tmp 2], (some 11), none⟩,
  ⟨(.call 139), [.tmp 10, .tmp 11], (some 12), none⟩,
  ⟨(.prim (.un .not)), [.tmp 12], (some 13), none⟩] none)
 (.cond (.tmp 13)
  (.seq (.region [⟨(.prim .id), [.const (.sl .clip [])], (some 6), none⟩,
   ⟨(.prim .id), [.const (.int .i64 2)], (some 7), none⟩] none)
  .ret)
  .skip))
 (.seq (.region [⟨(.prim .id), [.tmp 0], (some 14), none⟩,
  ⟨(.prim .len), [.tmp 14], (some 15), none⟩,
  ⟨(.prim .id), [.tmp 0], (some 16), none⟩,
  ⟨(.prim .len), [.tmp 16], (some 17), none⟩,
  ⟨(.prim .id), [.tmp 2], (some 18), none⟩,
  ⟨(.prim (.bin .add .none)), [.tmp 17, .tmp 18], (some 19), none⟩,
  ⟨(.prim (.mkslice none [(.int .u8 0)])), [.tmp 15, .tmp 19], (some 20), none⟩,
  ⟨(.prim .id), [.tmp 20], (some 8), none⟩] none)
 (.seq (.region [⟨(.prim .id), [.tmp 8], (some 21), none⟩,
  ⟨(.prim .id), [.tmp 0], (some 22), none⟩,
  ⟨(.prim (.copy none)), [.tmp 21, .tmp 22], (some 23), none⟩] none)
 (.seq (.seq (.region [⟨(.prim .id), [.tmp 2], (some 24), none⟩,
  ⟨(.prim .id), [.const (.int .i64 0)], (some 25), none⟩] none)
 (.block 0
  (.loop
   (.seq (.region [⟨(.prim (.bin .lss .none)), [.tmp 25, .tmp 24], (some 26), none⟩] none)
   (.seq (.cond (.tmp 26)
    .skip
    (.exit 0))
   (.seq (.block 1
    (.seq (.region [⟨(.prim .id), [.tmp 25], (some 27), none⟩,
     ⟨(.prim .id), [.tmp 27], (some 9), none⟩] none)
    (.region [⟨(.prim .id), [.tmp 8], (some 28), none⟩,
     ⟨(.prim .id), [.tmp 1], (some 29), none⟩,
     ⟨(.prim .id), [.tmp 9], (some 30), none⟩,
     ⟨(.prim (.bin .mul .none)), [.const (.int .i64 8), .tmp 30], (some 31), none⟩,
     ⟨(.prim (.bin .shr .none)), [.tmp 29, .tmp 31], (some 32), none⟩,
     ⟨(.prim (.conv .u8)), [.tmp 32], (some 33), none⟩,
     ⟨(.prim (.buildSl none)), [.tmp 33], (some 34), none⟩,
     ⟨(.prim (.append none)), [.tmp 28, .tmp 34], (some 35), none⟩,
     ⟨(.prim .id), [.tmp 35], (some 8), none⟩] none)))
   (.region [⟨(.prim (.bin .add .none)), [.tmp 25, .const (.int .i64 1)], (some 36), none⟩,
    ⟨(.prim .id), [.tmp 36], (some 25), none⟩] none)))))))
 (.seq (.region [⟨(.prim .id), [.tmp 8], (some 37), none⟩,
  ⟨(.prim .id), [.tmp 37], (some 6), none⟩,
  ⟨(.prim .id), [.const (.int .i64 0)], (some 7), none⟩] none)
 .ret))))))
theorem F92 : IsFun Try.prog 92 3 38 c92 [.tmp 6, .tmp 7] := ⟨by decide, Try.f92, _, [], Try.func92, rfl, by decide, rfl, by kernel_rfl, by kernel_rfl⟩

/-- (*cashbox/fabric.reader).next -/
def c95 : ACode :=
 (.seq (.region [⟨(.prim .id), [.const (.bool false)], (some 2), none⟩] none)
 (.seq (.region [⟨(.prim .id), [.tmp 0], (some 7), none⟩,
  ⟨(.prim .nilc), [.tmp 7], (some 8), none⟩,
  ⟨(.prim (.fieldAddr 0 none)), [.tmp 8], (some 9), none⟩,
  ⟨(.prim (.load none)), [.tmp 9], (some 10), none⟩,
  ⟨(.call 145), [.tmp 10, .const (.int .i64 0), .const (.int .i64 2)], (some 11), none⟩,
  ⟨(.prim .id), [.tmp 11], (some 6), none⟩,
  ⟨(.prim (.extract 0)), [.tmp 6], (some 12), none⟩,
  ⟨(.prim (.extract 1)), [.tmp 6], (some 13), none⟩,
  ⟨(.prim .id), [.tmp 12], (some 3), none⟩,
  ⟨(.prim .id), [.tmp 13], (some 4), none⟩] none)
 (.seq (.seq (.region [⟨(.prim .id), [.tmp 4], (some 14), none⟩,
  ⟨(.prim (.bin .neq .none)), [.tmp 14, .const (.int .i64 0)], (some 15), none⟩,
  ⟨(.prim .id), [.tmp 15], (some 16), none⟩,
  ⟨(.prim .id), [.tmp 3], (some 17), (some (16, false))⟩,
  ⟨(.prim .id), [.tmp 0], (some 18), (some (16, false))⟩,
  ⟨(.prim .nilc), [.tmp 18], (some 19), (some (16, false))⟩,
  ⟨(.prim (.fieldAddr 0 none)), [.tmp 19], (some 20), (some (16, false))⟩,
  ⟨(.prim (.load none)), [.tmp 20], (some 21), (some (16, false))⟩,
  ⟨(.prim .len), [.tmp 21], (some 22), (some (16, false))⟩,
  ⟨(.prim (.bin .sub .none)), [.tmp 22, .const (.int .i64 2)], (some 23), (some (16, false))⟩,
  ⟨(.prim (.bin .gtr .none)), [.tmp 17, .tmp 23], (some 24), (some (16, false))⟩,
  ⟨(.prim .pick), [.tmp 16, .const (.bool true), .tmp 24], (some 25), none⟩,
  ⟨(.prim .id), [.tmp 25], (some 26), none⟩,
  ⟨(.prim .id), [.tmp 0], (some 27), (some (26, false))⟩,
  ⟨(.prim .nilc), [.tmp 27], (some 28), (some (26, false))⟩,
  ⟨(.prim (.fieldAddr 1 (some 1))), [.tmp 28], (some 29), (some (26, false))⟩,
  ⟨(.prim (.fieldAddr 0 none)), [.tmp 29], (some 30), (some (26, false))⟩,
  ⟨(.prim (.load none)), [.tmp 30], (some 31), (some (26, false))⟩,
  ⟨(.prim .len), [.tmp 31], (some 32), (some (26, false))⟩,
  ⟨(.prim (.bin .eql .none)), [.tmp 32, .const (.int .i64 200)], (some 33), (some (26, false))⟩,
  ⟨(.prim .pick), [.tmp 26, .const (.bool true), .tmp 33], (some 34), none⟩] none)
 (.cond (.tmp 34)
  (.seq (.region [⟨(.prim .id), [.const (.bool false)], (some 2), none⟩] none)
  .ret)
  .skip))
 (.seq (.region [⟨(.prim .id), [.tmp 0], (some 36), none⟩,
  ⟨(.prim .nilc), [.tmp 36], (some 37), none⟩,
  ⟨(.prim (.fieldAddr 0 none)), [.tmp 37], (some 38), none⟩,
  ⟨(.prim (.load none)), [.tmp 38], (some 39), none⟩,
  ⟨(.prim .id), [.tmp 3], (some 40), none⟩,
  ⟨(.prim (.bin .add .none)), [.const (.int .i64 2), .tmp 40], (some 41), none⟩,
  ⟨(.prim .id), [.tmp 3], (some 42), none⟩,
  ⟨(.prim (.bin .add .none)), [.const (.int .i64 2), .tmp 42], (some 43), none⟩,
  ⟨(.prim (.slcSl none true true true)), [.tmp 39, .const (.int .i64 2), .tmp 41, .tmp 43], (some 44), none⟩,
  ⟨(.call 146), [.tmp 44], (some 45), none⟩,
  ⟨(.prim .id), [.tmp 45], (some 35), none⟩,
  ⟨(.prim (.extract 0)), [.tmp 35], (some 46), none⟩,
  ⟨(.prim (.extract 1)), [.tmp 35], (some 47), none⟩,
  ⟨(.prim (.alloc [(.int .i8 0), (.int .i64 0), (.int .i64 0), (.int .i64 0), (.int .i64 0), (.int .i64 0), (.int .i64 0), (.int .i64 0), (.int .i64 0), (.int .i8 0), (.int .i64 0), (.int .u8 0), (.int .u8 0), (.int .u8 0), (.int .u8 0), (.int .u8 0), (.int .u8 0), (.int .u8 0), (.int .u8 0), (.int .i64 0), (.bool false), (.int .i64 0), (.int .i64 0), (.sl .clip [])])), [], (some 5), none⟩,
  ⟨(.prim (.store (some 24))), [.tmp 5, .tmp 46], none, none⟩,
  ⟨(.prim .id), [.tmp 47], (some 4), none⟩] none)
 (.seq (.region [⟨(.prim .id), [.tmp 0], (some 48), none⟩,
  ⟨(.prim .id), [.tmp 0], (some 49), none⟩,
  ⟨(.prim .nilc), [.tmp 49], (some 50), none⟩,
  ⟨(.prim (.fieldAddr 0 none)), [.tmp 50], (some 51), none⟩,
  ⟨(.prim (.load none)), [.tmp 51], (some 52), none⟩,
  ⟨(.prim .id), [.tmp 3], (some 53), none⟩,
  ⟨(.prim (.bin .add .none)), [.const (.int .i64 2), .tmp 53], (some 54), none⟩,
  ⟨(.prim (.slcSl none true false false)), [.tmp 52, .tmp 54], (some 55), none⟩,
  ⟨(.prim .nilc), [.tmp 48], (some 56), none⟩,
  ⟨(.prim (.fieldAddr 0 none)), [.tmp 56], (some 57), none⟩,
  ⟨(.prim (.store none)), [.tmp 57, .tmp 55], none, none⟩] none)
 (.seq (.region [⟨(.prim .id), [.tmp 0], (some 58), none⟩,
  ⟨(.prim .id), [.tmp 0], (some 59), none⟩,
  ⟨(.prim .nilc), [.tmp 59], (some 60), none⟩,
  ⟨(.prim (.fieldAddr 1 (some 1))), [.tmp 60], (some 61), none⟩,
  ⟨(.prim (.fieldAddr 0 none)), [.tmp 61], (some 62), none⟩,
  ⟨(.prim (.load none)), [.tmp 62], (some 63), none⟩,
  ⟨(.prim (.load (some 24))), [.tmp 5], (some 64), none⟩,
  ⟨(.prim (.buildSl (some 24))), [.tmp 64], (some 65), none⟩,
  ⟨(.prim (.append (some 24))), [.tmp 63, .tmp 65], (some 66), none⟩,
  ⟨(.prim .nilc), [.tmp 58], (some 67), none⟩,
  ⟨(.prim (.fieldAddr 1 (some 1))), [.tmp 67], (some 68), none⟩,
  ⟨(.prim (.fieldAddr 0 none)), [.tmp 68], (some 69), none⟩,
  ⟨(.prim (.store none)), [.tmp 69, .tmp 66], none, none⟩] (some [[], [], [1], [2], [3], [4], [], [6], [5, 7], [0, 0, 1, 2, 3, 4, 5, 6, 7, 8], [9, 0, 1, 2, 3, 4, 5, 6, 7, 8], [10, 0, 1, 2, 3, 4, 5, 6, 7, 8], [11, 8, 8, 0, 1, 2, 3, 4, 5, 6, 7, 8]]))
 (.seq (.region [⟨(.prim .id), [.tmp 4], (some 70), none⟩,
  ⟨(.prim (.bin .eql .none)), [.tmp 70, .const (.int .i64 0)], (some 71), none⟩,
  ⟨(.prim .id), [.tmp 71], (some 2), none⟩] none)
 .ret)))))))
theorem F95 : IsFun Try.prog 95 1 72 c95 [.tmp 2] := ⟨by decide, Try.f95, _, [], Try.func95, rfl, by decide, rfl, by kernel_rfl, by kernel_rfl⟩

/-- cashbox/fabric.at -/
def c97 : ACode :=
 (.seq (.region [⟨(.prim (.boxR (some 1))), [.tmp 0], (some 2), none⟩,
  ⟨(.prim .id), [.const (.int .i64 0)], (some 4), none⟩] none)
 (.seq (.block 0
  (.seq (.region [⟨(.prim (.load (some 1))), [.tmp 2], (some 6), none⟩,
   ⟨(.call 41), [.tmp 6], (some 7), none⟩,
   ⟨(.prim (.bin .neq .none)), [.tmp 7, .const (.int .i64 0)], (some 8), none⟩,
   ⟨(.prim .id), [.tmp 8], (some 5), none⟩] none)
  (.cond (.tmp 5)
   (.seq (.region [⟨(.prim .id), [.const (.int .i64 2)], (some 4), none⟩] none)
   .ret)
   (.seq (.region [⟨(.prim .id), [.tmp 1], (some 10), none⟩,
    ⟨(.prim (.bin .lss .none)), [.tmp 10, .const (.int .i64 0)], (some 11), none⟩,
    ⟨(.prim .id), [.tmp 11], (some 12), none⟩,
    ⟨(.prim .id), [.tmp 1], (some 13), (some (12, false))⟩,
    ⟨(.prim (.fieldAddr 0 none)), [.tmp 2], (some 14), (some (12, false))⟩,
    ⟨(.prim (.load none)), [.tmp 14], (some 15), (some (12, false))⟩,
    ⟨(.prim .len), [.tmp 15], (some 16), (some (12, false))⟩,
    ⟨(.prim (.bin .geq .none)), [.tmp 13, .tmp 16], (some 17), (some (12, false))⟩,
    ⟨(.prim .pick), [.tmp 12, .const (.bool true), .tmp 17], (some 18), none⟩,
    ⟨(.prim .id), [.tmp 18], (some 9), none⟩] none)
   (.cond (.tmp 9)
    (.seq (.region [⟨(.prim .id), [.const (.int .i64 4)], (some 4), none⟩] none)
    .ret)
    .skip)))))
 (.seq (.region [⟨(.prim .id), [.const (.int .i64 0)], (some 4), none⟩] none)
 .ret)))
theorem F97 : IsFun Try.prog 97 2 19 c97 [.tmp 4] := ⟨by decide, Try.f97, _, [2], Try.func97, rfl, by decide, rfl, by kernel_rfl, by kernel_rfl⟩

/-- cashbox/pack.Fits -/
def c139 : ACode :=
 (.seq (.region [⟨(.prim .id), [.const (.bool false)], (some 4), none⟩] none)
 (.seq (.region [⟨(.prim .id), [.tmp 1], (some 5), none⟩,
  ⟨(.prim (.bin .geq .none)), [.tmp 5, .const (.int .i64 1)], (some 6), none⟩,
  ⟨(.prim .id), [.tmp 6], (some 7), none⟩,
  ⟨(.prim .id), [.tmp 1], (some 8), (some (7, true))⟩,
  ⟨(.prim (.bin .leq .none)), [.tmp 8, .const (.int .i64 6)], (some 9), (some (7, true))⟩,
  ⟨(.prim .pick), [.tmp 7, .tmp 9, .const (.bool false)], (some 10), none⟩,
  ⟨(.prim .id), [.tmp 10], (some 11), none⟩,
  ⟨(.prim .id), [.tmp 0], (some 12), (some (11, true))⟩,
  ⟨(.prim (.bin .geq .none)), [.tmp 12, .const (.int .i64 0)], (some 13), (some (11, true))⟩,
  ⟨(.prim .pick), [.tmp 11, .tmp 13, .const (.bool false)], (some 14), none⟩,
  ⟨(.prim .id), [.tmp 14], (some 15), none⟩,
  ⟨(.prim .id), [.tmp 0], (some 16), (some (15, true))⟩,
  ⟨(.prim .id), [.tmp 1], (some 17), (some (15, true))⟩,
  ⟨(.prim (.bin .mul .none)), [.const (.int .i64 8), .tmp 17], (some 18), (some (15, true))⟩,
  ⟨(.prim (.bin .shr .none)), [.tmp 16, .tmp 18], (some 19), (some (15, true))⟩,
  ⟨(.prim (.bin .eql .none)), [.tmp 19, .const (.int .i64 0)], (some 20), (some (15, true))⟩,
  ⟨(.prim .pick), [.tmp 15, .tmp 20, .const (.bool false)], (some 21), none⟩,
  ⟨(.prim .id), [.tmp 21], (some 4), none⟩] none)
 .ret))
theorem F139 : IsFun Try.prog 139 2 22 c139 [.tmp 4] := ⟨by decide, Try.f139, _, [], Try.func139, rfl, by decide, rfl, by kernel_rfl, by kernel_rfl⟩

-- loop: 0:b, 1:at, 6:n, 33:, 34:
/-- cashbox/pack.Get -/
def c145 : ACode :=
 (.seq (.region [⟨(.prim .id), [.const (.int .i64 0)], (some 6), none⟩,
  ⟨(.prim .id), [.const (.int .i64 0)], (some 7), none⟩] none)
 (.seq (.block 0
  (.seq (.region [⟨(.prim .id), [.tmp 2], (some 10), none⟩,
   ⟨(.prim (.bin .lss .none)), [.tmp 10, .const (.int .i64 1)], (some 11), none⟩,
   ⟨(.prim .id), [.tmp 11], (some 12), none⟩,
   ⟨(.prim .id), [.tmp 2], (some 13), (some (12, false))⟩,
   ⟨(.prim (.bin .gtr .none)), [.tmp 13, .const (.int .i64 6)], (some 14), (some (12, false))⟩,
   ⟨(.prim .pick), [.tmp 12, .const (.bool true), .tmp 14], (some 15), none⟩,
   ⟨(.prim .id), [.tmp 15], (some 9), none⟩] none)
  (.cond (.tmp 9)
   (.seq (.region [⟨(.prim .id), [.const (.int .i64 0)], (some 6), none⟩,
    ⟨(.prim .id), [.const (.int .i64 2)], (some 7), none⟩] none)
   .ret)
   (.seq (.region [⟨(.prim .id), [.tmp 1], (some 17), none⟩,
    ⟨(.prim (.bin .lss .none)), [.tmp 17, .const (.int .i64 0)], (some 18), none⟩,
    ⟨(.prim .id), [.tmp 18], (some 19), none⟩,
    ⟨(.prim .id), [.tmp 0], (some 20), (some (19, false))⟩,
    ⟨(.prim .len), [.tmp 20], (some 21), (some (19, false))⟩,
    ⟨(.prim .id), [.tmp 2], (some 22), (some (19, false))⟩,
    ⟨(.prim (.bin .lss .none)), [.tmp 21, .tmp 22], (some 23), (some (19, false))⟩,
    ⟨(.prim .pick), [.tmp 19, .const (.bool true), .tmp 23], (some 24), none⟩,
    ⟨(.prim .id), [.tmp 24], (some 25), none⟩,
    ⟨(.prim .id), [.tmp 1], (some 26), (some (25, false))⟩,
    ⟨(.prim .id), [.tmp 0], (some 27), (some (25, false))⟩,
    ⟨(.prim .len), [.tmp 27], (some 28), (some (25, false))⟩,
    ⟨(.prim .id), [.tmp 2], (some 29), (some (25, false))⟩,
    ⟨(.prim (.bin .sub .none)), [.tmp 28, .tmp 29], (some 30), (some (25, false))⟩,
    ⟨(.prim (.bin .gtr .none)), [.tmp 26, .tmp 30], (some 31), (some (25, false))⟩,
    ⟨(.prim .pick), [.tmp 25, .const (.bool true), .tmp 31], (some 32), none⟩,
    ⟨(.prim .id), [.tmp 32], (some 16), none⟩] none)
   (.cond (.tmp 16)
    (.seq (.region [⟨(.prim .id), [.const (.int .i64 0)], (some 6), none⟩,
     ⟨(.prim .id), [.const (.int .i64 40)], (some 7), none⟩] none)
    .ret)
    .skip)))))
 (.seq (.seq (.region [⟨(.prim .id), [.tmp 2], (some 33), none⟩,
  ⟨(.prim .id), [.const (.int .i64 0)], (some 34), none⟩] none)
 (.block 1
  (.loop
   (.seq (.region [⟨(.prim (.bin .lss .none)), [.tmp 34, .tmp 33], (some 35), none⟩] none)
   (.seq (.cond (.tmp 35)
    .skip
    (.exit 1))
   (.seq (.block 2
    (.seq (.region [⟨(.prim .id), [.tmp 34], (some 36), none⟩,
     ⟨(.prim .id), [.tmp 36], (some 8), none⟩] none)
    (.region [⟨(.prim .id), [.tmp 6], (some 37), none⟩,
     ⟨(.prim .id), [.tmp 0], (some 38), none⟩,
     ⟨(.prim .id), [.tmp 1], (some 39), none⟩,
     ⟨(.prim .id), [.tmp 8], (some 40), none⟩,
     ⟨(.prim (.bin .add .none)), [.tmp 39, .tmp 40], (some 41), none⟩,
     ⟨(.prim (.idxSl none)), [.tmp 38, .tmp 41], (some 42), none⟩,
     ⟨(.prim (.load none)), [.tmp 42], (some 43), none⟩,
     ⟨(.prim (.conv .i64)), [.tmp 43], (some 44), none⟩,
     ⟨(.prim .id), [.tmp 8], (some 45), none⟩,
     ⟨(.prim (.bin .mul .none)), [.const (.int .i64 8), .tmp 45], (some 46), none⟩,
     ⟨(.prim (.bin .shl .none)), [.tmp 44, .tmp 46], (some 47), none⟩,
     ⟨(.prim (.bin .or .none)), [.tmp 37, .tmp 47], (some 48), none⟩,
     ⟨(.prim .id), [.tmp 48], (some 6), none⟩] none)))
   (.region [⟨(.prim (.bin .add .none)), [.tmp 34, .const (.int .i64 1)], (some 49), none⟩,
    ⟨(.prim .id), [.tmp 49], (some 34), none⟩] none)))))))
 (.seq (.region [⟨(.prim .id), [.tmp 6], (some 50), none⟩,
  ⟨(.prim .id), [.tmp 50], (some 6), none⟩,
  ⟨(.prim .id), [.const (.int .i64 0)], (some 7), none⟩] none)
 .ret))))
theorem F145 : IsFun Try.prog 145 3 51 c145 [.tmp 6, .tmp 7] := ⟨by decide, Try.f145, _, [], Try.func145, rfl, by decide, rfl, by kernel_rfl, by kernel_rfl⟩

end Go.Proofs.Ytjceilhmgbdgiaa
