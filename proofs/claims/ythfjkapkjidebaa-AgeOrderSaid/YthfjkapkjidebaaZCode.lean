/- The functions' code for the abstract machine, printed by wip/tools/Gen.lean. -/
import Derived.Test.YthfjkapkjidebaaProg
import Derived.Test.YthfjkapkjidebaaZAmEval
import Derived.KernelRfl
set_option linter.all false
namespace Go.Proofs.Ythfjkapkjidebaa
open Go.Am

-- loop: 3:l, 11:oldest, 13:others, 14:i
-- loop: 3:l, 15:s, 16:i
-- loop: 3:l, 15:s, 17:i
-- loop: 3:l, 15:s, 17:i, 18:n, 19:k
/-- cashbox/cashboxlaw12.AgeOrder -/
def c3p0 : ACode :=
 (.region [⟨(.prim (.boxR (some 3))), [.tmp 0], (some 4), none⟩,
  ⟨(.prim (.boxR (some 3))), [.tmp 1], (some 5), none⟩,
  ⟨(.prim (.boxR (some 3))), [.tmp 2], (some 6), none⟩,
  ⟨(.prim .id), [.const (.bool false)], (some 8), none⟩] none)
def c3p1 : ACode :=
 (.seq (.region [⟨(.prim .id), [.tmp 3], (some 20), none⟩,
  ⟨(.call 7), [.tmp 20], (some 21), none⟩] none)
 (.cond (.tmp 21)
  (.seq (.region [⟨(.call 8), [], (some 22), none⟩,
   ⟨(.prim .id), [.tmp 22], (some 8), none⟩] none)
  .ret)
  .skip))
def c3p2 : ACode :=
 (.region [⟨(.prim (.load (some 3))), [.tmp 4], (some 23), none⟩,
  ⟨(.prim (.load (some 3))), [.tmp 5], (some 24), none⟩,
  ⟨(.prim (.buildSl (some 3))), [.tmp 24], (some 25), none⟩,
  ⟨(.call 9), [.tmp 23, .tmp 25], (some 26), none⟩,
  ⟨(.prim (.load (some 3))), [.tmp 5], (some 27), none⟩,
  ⟨(.prim (.load (some 3))), [.tmp 4], (some 28), none⟩,
  ⟨(.prim (.buildSl (some 3))), [.tmp 28], (some 29), none⟩,
  ⟨(.call 9), [.tmp 27, .tmp 29], (some 30), none⟩,
  ⟨(.prim .id), [.tmp 26], (some 9), none⟩,
  ⟨(.prim .id), [.tmp 30], (some 10), none⟩] (some [[], [], [1], [0, 2], [], [], [5], [4, 6, 3], [3, 7, 0, 1, 2, 3], [7, 8, 0, 1, 2, 3, 4, 5, 6, 7, 8]]))
def c3p3 : ACode :=
 (.seq (.region [⟨(.prim .id), [.tmp 9], (some 31), none⟩,
  ⟨(.prim .id), [.tmp 31], (some 32), none⟩,
  ⟨(.prim .id), [.tmp 10], (some 33), (some (32, true))⟩,
  ⟨(.prim .pick), [.tmp 32, .tmp 33, .const (.bool false)], (some 34), none⟩,
  ⟨(.prim .id), [.tmp 34], (some 35), none⟩,
  ⟨(.prim (.load (some 3))), [.tmp 4], (some 36), (some (35, false))⟩,
  ⟨(.prim (.load (some 3))), [.tmp 4], (some 37), (some (35, false))⟩,
  ⟨(.call 10), [.tmp 36, .tmp 37], (some 38), (some (35, false))⟩,
  ⟨(.prim .pick), [.tmp 35, .const (.bool true), .tmp 38], (some 39), none⟩,
  ⟨(.prim .id), [.tmp 39], (some 40), none⟩,
  ⟨(.prim (.fieldAddr 0 none)), [.tmp 4], (some 41), (some (40, false))⟩,
  ⟨(.prim (.load none)), [.tmp 41], (some 42), (some (40, false))⟩,
  ⟨(.prim (.fieldAddr 0 none)), [.tmp 5], (some 43), (some (40, false))⟩,
  ⟨(.prim (.load none)), [.tmp 43], (some 44), (some (40, false))⟩,
  ⟨(.prim (.bin .neq .none)), [.tmp 42, .tmp 44], (some 45), (some (40, false))⟩,
  ⟨(.prim .id), [.tmp 9], (some 46), (some (40, false))⟩,
  ⟨(.prim .id), [.tmp 46], (some 47), (some (40, false))⟩,
  ⟨(.prim .id), [.tmp 10], (some 48), (some (47, false))⟩,
  ⟨(.prim .pick), [.tmp 47, .const (.bool true), .tmp 48], (some 49), (some (40, false))⟩,
  ⟨(.prim (.bin .neq .bool)), [.tmp 45, .tmp 49], (some 50), (some (40, false))⟩,
  ⟨(.prim .pick), [.tmp 40, .const (.bool true), .tmp 50], (some 51), none⟩,
  ⟨(.prim .id), [.tmp 51], (some 52), none⟩,
  ⟨(.prim (.load (some 3))), [.tmp 4], (some 53), (some (52, false))⟩,
  ⟨(.prim (.load (some 3))), [.tmp 5], (some 54), (some (52, false))⟩,
  ⟨(.call 10), [.tmp 53, .tmp 54], (some 55), (some (52, false))⟩,
  ⟨(.prim .id), [.tmp 55], (some 56), (some (52, false))⟩,
  ⟨(.prim (.load (some 3))), [.tmp 5], (some 57), (some (56, true))⟩,
  ⟨(.prim (.load (some 3))), [.tmp 6], (some 58), (some (56, true))⟩,
  ⟨(.call 10), [.tmp 57, .tmp 58], (some 59), (some (56, true))⟩,
  ⟨(.prim .pick), [.tmp 56, .tmp 59, .const (.bool false)], (some 60), (some (52, false))⟩,
  ⟨(.prim .id), [.tmp 60], (some 61), (some (52, false))⟩,
  ⟨(.prim (.load (some 3))), [.tmp 4], (some 62), (some (61, true))⟩,
  ⟨(.prim (.load (some 3))), [.tmp 6], (some 63), (some (61, true))⟩,
  ⟨(.call 10), [.tmp 62, .tmp 63], (some 64), (some (61, true))⟩,
  ⟨(.prim (.un .not)), [.tmp 64], (some 65), (some (61, true))⟩,
  ⟨(.prim .pick), [.tmp 61, .tmp 65, .const (.bool false)], (some 66), (some (52, false))⟩,
  ⟨(.prim .pick), [.tmp 52, .const (.bool true), .tmp 66], (some 67), none⟩,
  ⟨(.prim .id), [.tmp 67], (some 68), none⟩,
  ⟨(.prim .id), [.tmp 9], (some 69), (some (68, false))⟩,
  ⟨(.prim (.load (some 3))), [.tmp 4], (some 70), (some (68, false))⟩,
  ⟨(.prim (.load (some 3))), [.tmp 5], (some 71), (some (68, false))⟩,
  ⟨(.call 10), [.tmp 70, .tmp 71], (some 72), (some (68, false))⟩,
  ⟨(.prim (.bin .neq .bool)), [.tmp 69, .tmp 72], (some 73), (some (68, false))⟩,
  ⟨(.prim .pick), [.tmp 68, .const (.bool true), .tmp 73], (some 74), none⟩] none)
 (.cond (.tmp 74)
  (.seq (.region [⟨(.prim .id), [.const (.bool false)], (some 8), none⟩] none)
  .ret)
  .skip))
def c3p4 : ACode :=
 (.region [⟨(.prim .id), [.tmp 3], (some 76), none⟩,
  ⟨(.call 11), [.tmp 76], (some 77), none⟩,
  ⟨(.prim .id), [.tmp 77], (some 75), none⟩,
  ⟨(.prim (.extract 0)), [.tmp 75], (some 78), none⟩,
  ⟨(.prim (.extract 1)), [.tmp 75], (some 79), none⟩,
  ⟨(.prim (.alloc [(.int .i64 0), (.int .i64 0), (.int .i64 0)])), [], (some 11), none⟩,
  ⟨(.prim (.store (some 3))), [.tmp 11, .tmp 78], none, none⟩,
  ⟨(.prim .id), [.tmp 79], (some 12), none⟩] none)
def c3p5 : ACode :=
 (.seq (.region [⟨(.prim .id), [.tmp 12], (some 80), none⟩,
  ⟨(.prim .id), [.tmp 3], (some 81), none⟩,
  ⟨(.prim .len), [.tmp 81], (some 82), none⟩,
  ⟨(.prim (.bin .gtr .none)), [.tmp 82, .const (.int .i64 0)], (some 83), none⟩,
  ⟨(.prim (.bin .neq .bool)), [.tmp 80, .tmp 83], (some 84), none⟩] none)
 (.cond (.tmp 84)
  (.seq (.region [⟨(.prim .id), [.const (.bool false)], (some 8), none⟩] none)
  .ret)
  .skip))
def c3p6 : ACode :=
 (.region [⟨(.prim .id), [.const (.sl .clip [])], (some 13), none⟩] none)
def c3p7 : ACode :=
 (.seq (.region [⟨(.prim .id), [.const (.int .i64 0)], (some 14), none⟩] none)
 (.block 0
  (.loop
   (.seq (.seq (.region [⟨(.prim .id), [.tmp 14], (some 85), none⟩,
    ⟨(.prim .id), [.tmp 3], (some 86), none⟩,
    ⟨(.prim .len), [.tmp 86], (some 87), none⟩,
    ⟨(.prim (.bin .lss .none)), [.tmp 85, .tmp 87], (some 88), none⟩] none)
   (.cond (.tmp 88)
    .skip
    (.exit 0)))
   (.seq (.block 1
    (.seq (.seq (.region [⟨(.prim .id), [.tmp 3], (some 91), none⟩,
     ⟨(.prim .id), [.tmp 14], (some 92), none⟩,
     ⟨(.prim (.idxSl (some 3))), [.tmp 91, .tmp 92], (some 93), none⟩,
     ⟨(.prim (.fieldAddr 0 none)), [.tmp 93], (some 94), none⟩,
     ⟨(.prim (.load none)), [.tmp 94], (some 95), none⟩,
     ⟨(.prim (.fieldAddr 0 none)), [.tmp 11], (some 96), none⟩,
     ⟨(.prim (.load none)), [.tmp 96], (some 97), none⟩,
     ⟨(.prim (.bin .neq .none)), [.tmp 95, .tmp 97], (some 98), none⟩] (some [[], [], [0, 1], [2], [3], [], [5], [4, 6]]))
    (.cond (.tmp 98)
     (.region [⟨(.prim .id), [.tmp 13], (some 99), none⟩,
      ⟨(.prim .id), [.tmp 3], (some 100), none⟩,
      ⟨(.prim .id), [.tmp 14], (some 101), none⟩,
      ⟨(.prim (.idxSl (some 3))), [.tmp 100, .tmp 101], (some 102), none⟩,
      ⟨(.prim (.load (some 3))), [.tmp 102], (some 103), none⟩,
      ⟨(.prim (.buildSl (some 3))), [.tmp 103], (some 104), none⟩,
      ⟨(.prim (.append (some 3))), [.tmp 99, .tmp 104], (some 105), none⟩,
      ⟨(.prim .id), [.tmp 105], (some 13), none⟩] none)
     .skip))
    (.seq (.region [⟨(.prim .id), [.tmp 3], (some 106), none⟩,
     ⟨(.prim .id), [.tmp 14], (some 107), none⟩,
     ⟨(.prim (.idxSl (some 3))), [.tmp 106, .tmp 107], (some 108), none⟩,
     ⟨(.prim (.load (some 3))), [.tmp 108], (some 109), none⟩,
     ⟨(.prim (.load (some 3))), [.tmp 11], (some 110), none⟩,
     ⟨(.call 10), [.tmp 109, .tmp 110], (some 111), none⟩] (some [[], [], [0, 1], [2], [], [3, 4]]))
    (.cond (.tmp 111)
     (.seq (.region [⟨(.prim .id), [.const (.bool false)], (some 8), none⟩] none)
     .ret)
     .skip))))
   (.region [⟨(.prim .id), [.tmp 14], (some 89), none⟩,
    ⟨(.prim (.bin .add .none)), [.tmp 89, .const (.int .i64 1)], (some 90), none⟩,
    ⟨(.prim .id), [.tmp 90], (some 14), none⟩] none))))))
def c3p8 : ACode :=
 (.seq (.region [⟨(.prim (.load (some 3))), [.tmp 11], (some 112), none⟩,
  ⟨(.prim .id), [.tmp 13], (some 113), none⟩,
  ⟨(.call 9), [.tmp 112, .tmp 113], (some 114), none⟩,
  ⟨(.prim (.un .not)), [.tmp 114], (some 115), none⟩] none)
 (.cond (.tmp 115)
  (.seq (.region [⟨(.prim .id), [.const (.bool false)], (some 8), none⟩] none)
  .ret)
  .skip))
def c3p9 : ACode :=
 (.region [⟨(.prim .id), [.tmp 3], (some 116), none⟩,
  ⟨(.call 12), [.tmp 116], (some 117), none⟩,
  ⟨(.prim .id), [.tmp 117], (some 15), none⟩] none)
def c3p10 : ACode :=
 (.seq (.region [⟨(.prim .id), [.const (.int .i64 1)], (some 16), none⟩] none)
 (.block 2
  (.loop
   (.seq (.seq (.region [⟨(.prim .id), [.tmp 16], (some 118), none⟩,
    ⟨(.prim .id), [.tmp 15], (some 119), none⟩,
    ⟨(.prim .len), [.tmp 119], (some 120), none⟩,
    ⟨(.prim (.bin .lss .none)), [.tmp 118, .tmp 120], (some 121), none⟩] none)
   (.cond (.tmp 121)
    .skip
    (.exit 2)))
   (.seq (.block 3
    (.seq (.region [⟨(.prim .id), [.tmp 15], (some 124), none⟩,
     ⟨(.prim .id), [.tmp 16], (some 125), none⟩,
     ⟨(.prim (.bin .sub .none)), [.tmp 125, .const (.int .i64 1)], (some 126), none⟩,
     ⟨(.prim (.idxSl (some 3))), [.tmp 124, .tmp 126], (some 127), none⟩,
     ⟨(.prim (.load (some 3))), [.tmp 127], (some 128), none⟩,
     ⟨(.prim .id), [.tmp 15], (some 129), none⟩,
     ⟨(.prim .id), [.tmp 16], (some 130), none⟩,
     ⟨(.prim (.idxSl (some 3))), [.tmp 129, .tmp 130], (some 131), none⟩,
     ⟨(.prim (.load (some 3))), [.tmp 131], (some 132), none⟩,
     ⟨(.call 13), [.tmp 128, .tmp 132], (some 133), none⟩,
     ⟨(.prim (.un .not)), [.tmp 133], (some 134), none⟩] (some [[], [], [1], [0, 2], [3], [], [], [5, 6], [7], [4, 8], [9]]))
    (.cond (.tmp 134)
     (.seq (.region [⟨(.prim .id), [.const (.bool false)], (some 8), none⟩] none)
     .ret)
     .skip)))
   (.region [⟨(.prim .id), [.tmp 16], (some 122), none⟩,
    ⟨(.prim (.bin .add .none)), [.tmp 122, .const (.int .i64 1)], (some 123), none⟩,
    ⟨(.prim .id), [.tmp 123], (some 16), none⟩] none))))))
def c3p11 : ACode :=
 (.seq (.region [⟨(.prim .id), [.const (.int .i64 0)], (some 17), none⟩] none)
 (.block 4
  (.loop
   (.seq (.seq (.region [⟨(.prim .id), [.tmp 17], (some 135), none⟩,
    ⟨(.prim .id), [.tmp 3], (some 136), none⟩,
    ⟨(.prim .len), [.tmp 136], (some 137), none⟩,
    ⟨(.prim (.bin .lss .none)), [.tmp 135, .tmp 137], (some 138), none⟩] none)
   (.cond (.tmp 138)
    .skip
    (.exit 4)))
   (.seq (.block 5
    (.seq (.region [⟨(.prim .id), [.const (.int .i64 0)], (some 18), none⟩] none)
    (.seq (.seq (.region [⟨(.prim .id), [.const (.int .i64 0)], (some 19), none⟩] none)
    (.block 6
     (.loop
      (.seq (.seq (.region [⟨(.prim .id), [.tmp 19], (some 141), none⟩,
       ⟨(.prim .id), [.tmp 15], (some 142), none⟩,
       ⟨(.prim .len), [.tmp 142], (some 143), none⟩,
       ⟨(.prim (.bin .lss .none)), [.tmp 141, .tmp 143], (some 144), none⟩] none)
      (.cond (.tmp 144)
       .skip
       (.exit 6)))
      (.seq (.block 7
       (.seq (.region [⟨(.prim .id), [.tmp 15], (some 147), none⟩,
        ⟨(.prim .id), [.tmp 19], (some 148), none⟩,
        ⟨(.prim (.idxSl (some 3))), [.tmp 147, .tmp 148], (some 149), none⟩,
        ⟨(.prim (.load (some 3))), [.tmp 149], (some 150), none⟩,
        ⟨(.prim .id), [.tmp 3], (some 151), none⟩,
        ⟨(.prim .id), [.tmp 17], (some 152), none⟩,
        ⟨(.prim (.idxSl (some 3))), [.tmp 151, .tmp 152], (some 153), none⟩,
        ⟨(.prim (.load (some 3))), [.tmp 153], (some 154), none⟩,
        ⟨(.prim (.bin .eql (.flat [0, 0, 0]))), [.tmp 150, .tmp 154], (some 155), none⟩] (some [[], [], [0, 1], [2], [], [], [4, 5], [6], [3, 7]]))
       (.cond (.tmp 155)
        (.region [⟨(.prim .id), [.tmp 18], (some 156), none⟩,
         ⟨(.prim (.bin .add .none)), [.tmp 156, .const (.int .i64 1)], (some 157), none⟩,
         ⟨(.prim .id), [.tmp 157], (some 18), none⟩] none)
        .skip)))
      (.region [⟨(.prim .id), [.tmp 19], (some 145), none⟩,
       ⟨(.prim (.bin .add .none)), [.tmp 145, .const (.int .i64 1)], (some 146), none⟩,
       ⟨(.prim .id), [.tmp 146], (some 19), none⟩] none))))))
    (.seq (.region [⟨(.prim .id), [.tmp 18], (some 158), none⟩,
     ⟨(.prim (.bin .neq .none)), [.tmp 158, .const (.int .i64 1)], (some 159), none⟩] none)
    (.cond (.tmp 159)
     (.seq (.region [⟨(.prim .id), [.const (.bool false)], (some 8), none⟩] none)
     .ret)
     .skip)))))
   (.region [⟨(.prim .id), [.tmp 17], (some 139), none⟩,
    ⟨(.prim (.bin .add .none)), [.tmp 139, .const (.int .i64 1)], (some 140), none⟩,
    ⟨(.prim .id), [.tmp 140], (some 17), none⟩] none))))))
def c3p12 : ACode :=
 (.region [⟨(.prim .id), [.tmp 15], (some 160), none⟩,
  ⟨(.prim .len), [.tmp 160], (some 161), none⟩,
  ⟨(.prim .id), [.tmp 3], (some 162), none⟩,
  ⟨(.prim .len), [.tmp 162], (some 163), none⟩,
  ⟨(.prim (.bin .leq .none)), [.tmp 161, .tmp 163], (some 164), none⟩,
  ⟨(.prim .id), [.tmp 164], (some 165), none⟩,
  ⟨(.call 8), [], (some 166), (some (165, true))⟩,
  ⟨(.prim .pick), [.tmp 165, .tmp 166, .const (.bool false)], (some 167), none⟩,
  ⟨(.prim .id), [.tmp 167], (some 8), none⟩] none)
def c3p13 : ACode :=
 .ret
def c3r13 : ACode := c3p13
def c3r12 : ACode := .seq c3p12 c3r13
def c3r11 : ACode := .seq c3p11 c3r12
def c3r10 : ACode := .seq c3p10 c3r11
def c3r9 : ACode := .seq c3p9 c3r10
def c3r8 : ACode := .seq c3p8 c3r9
def c3r7 : ACode := .seq c3p7 c3r8
def c3r6 : ACode := .seq c3p6 c3r7
def c3r5 : ACode := .seq c3p5 c3r6
def c3r4 : ACode := .seq c3p4 c3r5
def c3r3 : ACode := .seq c3p3 c3r4
def c3r2 : ACode := .seq c3p2 c3r3
def c3r1 : ACode := .seq c3p1 c3r2
def c3 : ACode := .seq c3p0 c3r1
theorem F3 : IsFun Try.prog 3 4 168 c3 [.tmp 8] := ⟨by decide, Try.f3, _, [4, 5, 6], Try.func3, rfl, by decide, rfl, by kernel_rfl, by kernel_rfl⟩

/-- cashbox/cashboxlaw12.great -/
def c7 : ACode :=
 (.seq (.region [⟨(.prim .id), [.const (.bool false)], (some 2), none⟩] none)
 (.seq (.region [⟨(.prim .id), [.tmp 0], (some 3), none⟩,
  ⟨(.prim .len), [.tmp 3], (some 4), none⟩,
  ⟨(.prim (.bin .gtr .none)), [.tmp 4, .const (.int .i64 200)], (some 5), none⟩,
  ⟨(.prim .id), [.tmp 5], (some 2), none⟩] none)
 .ret))
theorem F7 : IsFun Try.prog 7 1 6 c7 [.tmp 2] := ⟨by decide, Try.f7, _, [], Try.func7, rfl, by decide, rfl, by kernel_rfl, by kernel_rfl⟩

/-- cashbox/cashboxlaw12.wakes -/
def c8 : ACode :=
 (.seq (.region [⟨(.prim .id), [.const (.bool false)], (some 0), none⟩] none)
 (.seq (.region [⟨(.call 28), [.const (.int .i64 5)], (some 4), none⟩,
  ⟨(.call 28), [.const (.int .i64 3)], (some 5), none⟩,
  ⟨(.call 28), [.const (.int .i64 7)], (some 6), none⟩,
  ⟨(.prim (.buildSl (some 3))), [.tmp 4, .tmp 5, .tmp 6], (some 7), none⟩,
  ⟨(.call 11), [.tmp 7], (some 8), none⟩,
  ⟨(.prim .id), [.tmp 8], (some 3), none⟩,
  ⟨(.prim (.extract 0)), [.tmp 3], (some 9), none⟩,
  ⟨(.prim (.extract 1)), [.tmp 3], (some 10), none⟩,
  ⟨(.prim (.alloc [(.int .i64 0), (.int .i64 0), (.int .i64 0)])), [], (some 1), none⟩,
  ⟨(.prim (.store (some 3))), [.tmp 1, .tmp 9], none, none⟩,
  ⟨(.prim .id), [.tmp 10], (some 2), none⟩] none)
 (.seq (.region [⟨(.call 28), [.const (.int .i64 3)], (some 11), none⟩,
  ⟨(.call 28), [.const (.int .i64 5)], (some 12), none⟩,
  ⟨(.call 28), [.const (.int .i64 7)], (some 13), none⟩,
  ⟨(.prim (.buildSl (some 3))), [.tmp 12, .tmp 13], (some 14), none⟩,
  ⟨(.call 9), [.tmp 11, .tmp 14], (some 15), none⟩,
  ⟨(.prim .id), [.tmp 15], (some 16), none⟩,
  ⟨(.call 28), [.const (.int .i64 5)], (some 17), (some (16, true))⟩,
  ⟨(.call 28), [.const (.int .i64 3)], (some 18), (some (16, true))⟩,
  ⟨(.call 28), [.const (.int .i64 7)], (some 19), (some (16, true))⟩,
  ⟨(.prim (.buildSl (some 3))), [.tmp 18, .tmp 19], (some 20), (some (16, true))⟩,
  ⟨(.call 9), [.tmp 17, .tmp 20], (some 21), (some (16, true))⟩,
  ⟨(.prim (.un .not)), [.tmp 21], (some 22), (some (16, true))⟩,
  ⟨(.prim .pick), [.tmp 16, .tmp 22, .const (.bool false)], (some 23), none⟩,
  ⟨(.prim .id), [.tmp 23], (some 24), none⟩,
  ⟨(.prim .id), [.tmp 2], (some 25), (some (24, true))⟩,
  ⟨(.prim .pick), [.tmp 24, .tmp 25, .const (.bool false)], (some 26), none⟩,
  ⟨(.prim .id), [.tmp 26], (some 27), none⟩,
  ⟨(.prim (.fieldAddr 0 none)), [.tmp 1], (some 28), (some (27, true))⟩,
  ⟨(.prim (.load none)), [.tmp 28], (some 29), (some (27, true))⟩,
  ⟨(.prim (.bin .eql .none)), [.tmp 29, .const (.int .i64 3)], (some 30), (some (27, true))⟩,
  ⟨(.prim .pick), [.tmp 27, .tmp 30, .const (.bool false)], (some 31), none⟩,
  ⟨(.prim .id), [.tmp 31], (some 0), none⟩] none)
 .ret)))
theorem F8 : IsFun Try.prog 8 0 32 c8 [.tmp 0] := ⟨by decide, Try.f8, _, [], Try.func8, rfl, by decide, rfl, by kernel_rfl, by kernel_rfl⟩

-- loop: 2:n, 7:, 8:, 9:
/-- cashbox/age.Waits -/
def c9 : ACode :=
 (.seq (.region [⟨(.prim (.boxR (some 3))), [.tmp 0], (some 2), none⟩,
  ⟨(.prim .id), [.const (.bool false)], (some 4), none⟩] none)
 (.seq (.seq (.region [⟨(.prim .id), [.tmp 1], (some 7), none⟩,
  ⟨(.prim .len), [.tmp 7], (some 8), none⟩,
  ⟨(.prim .id), [.const (.int .i64 0)], (some 9), none⟩] none)
 (.block 0
  (.loop
   (.seq (.region [⟨(.prim (.bin .lss .none)), [.tmp 9, .tmp 8], (some 10), none⟩] none)
   (.seq (.cond (.tmp 10)
    .skip
    (.exit 0))
   (.seq (.block 1
    (.seq (.region [⟨(.prim (.idxSl (some 3))), [.tmp 7, .tmp 9], (some 11), none⟩,
     ⟨(.prim (.load (some 3))), [.tmp 11], (some 12), none⟩,
     ⟨(.prim (.alloc [(.int .i64 0), (.int .i64 0), (.int .i64 0)])), [], (some 6), none⟩,
     ⟨(.prim (.store (some 3))), [.tmp 6, .tmp 12], none, none⟩] none)
    (.seq (.region [⟨(.prim (.load (some 3))), [.tmp 2], (some 13), none⟩,
     ⟨(.prim (.load (some 3))), [.tmp 6], (some 14), none⟩,
     ⟨(.call 10), [.tmp 13, .tmp 14], (some 15), none⟩,
     ⟨(.prim (.un .not)), [.tmp 15], (some 16), none⟩] none)
    (.cond (.tmp 16)
     (.seq (.region [⟨(.prim .id), [.const (.bool false)], (some 4), none⟩] none)
     .ret)
     .skip))))
   (.region [⟨(.prim (.bin .add .none)), [.tmp 9, .const (.int .i64 1)], (some 17), none⟩,
    ⟨(.prim .id), [.tmp 17], (some 9), none⟩] none)))))))
 (.seq (.region [⟨(.prim .id), [.const (.bool true)], (some 4), none⟩] none)
 .ret)))
theorem F9 : IsFun Try.prog 9 2 18 c9 [.tmp 4] := ⟨by decide, Try.f9, _, [2], Try.func9, rfl, by decide, rfl, by kernel_rfl, by kernel_rfl⟩

/-- cashbox/age.Older -/
def c10 : ACode :=
 (.seq (.region [⟨(.prim (.boxR (some 3))), [.tmp 0], (some 2), none⟩,
  ⟨(.prim (.boxR (some 3))), [.tmp 1], (some 3), none⟩,
  ⟨(.prim .id), [.const (.bool false)], (some 4), none⟩] none)
 (.seq (.region [⟨(.prim (.fieldAddr 0 none)), [.tmp 2], (some 5), none⟩,
  ⟨(.prim (.load none)), [.tmp 5], (some 6), none⟩,
  ⟨(.prim (.fieldAddr 0 none)), [.tmp 3], (some 7), none⟩,
  ⟨(.prim (.load none)), [.tmp 7], (some 8), none⟩,
  ⟨(.prim (.bin .lss .none)), [.tmp 6, .tmp 8], (some 9), none⟩,
  ⟨(.prim .id), [.tmp 9], (some 4), none⟩] none)
 .ret))
theorem F10 : IsFun Try.prog 10 2 10 c10 [.tmp 4] := ⟨by decide, Try.f10, _, [2, 3], Try.func10, rfl, by decide, rfl, by kernel_rfl, by kernel_rfl⟩

-- loop: 2:n, 3:ok, 4:keep, 8:, 9:, 10:
/-- cashbox/age.Oldest -/
def c11 : ACode :=
 (.seq (.region [⟨(.prim (.alloc [(.int .i64 0), (.int .i64 0), (.int .i64 0)])), [], (some 2), none⟩,
  ⟨(.prim (.alloc [(.bool false)])), [], (some 3), none⟩] none)
 (.seq (.region [⟨(.prim (.mkfn (.func 29) 0)), [.tmp 3, .tmp 2], (some 7), none⟩,
  ⟨(.prim .id), [.tmp 7], (some 4), none⟩] none)
 (.seq (.seq (.region [⟨(.prim .id), [.tmp 0], (some 8), none⟩,
  ⟨(.prim .len), [.tmp 8], (some 9), none⟩,
  ⟨(.prim .id), [.const (.int .i64 0)], (some 10), none⟩] none)
 (.block 0
  (.loop
   (.seq (.region [⟨(.prim (.bin .lss .none)), [.tmp 10, .tmp 9], (some 11), none⟩] none)
   (.seq (.cond (.tmp 11)
    .skip
    (.exit 0))
   (.seq (.block 1
    (.seq (.region [⟨(.prim (.idxSl (some 3))), [.tmp 8, .tmp 10], (some 12), none⟩,
     ⟨(.prim (.load (some 3))), [.tmp 12], (some 13), none⟩,
     ⟨(.prim (.alloc [(.int .i64 0), (.int .i64 0), (.int .i64 0)])), [], (some 6), none⟩,
     ⟨(.prim (.store (some 3))), [.tmp 6, .tmp 13], none, none⟩] none)
    (.region [⟨(.prim .id), [.tmp 4], (some 14), none⟩,
     ⟨(.prim (.load (some 3))), [.tmp 6], (some 15), none⟩,
     ⟨.callV, [.tmp 14, .tmp 15], (some 16), none⟩] none)))
   (.region [⟨(.prim (.bin .add .none)), [.tmp 10, .const (.int .i64 1)], (some 17), none⟩,
    ⟨(.prim .id), [.tmp 17], (some 10), none⟩] none)))))))
 (.seq (.region [⟨(.prim (.load (some 3))), [.tmp 2], (some 18), none⟩,
  ⟨(.prim (.load none)), [.tmp 3], (some 19), none⟩,
  ⟨(.prim (.store (some 3))), [.tmp 2, .tmp 18], none, none⟩,
  ⟨(.prim (.store none)), [.tmp 3, .tmp 19], none, none⟩] (some [[], [], [0, 0], [1, 2, 0, 1, 2]]))
 .ret))))
theorem F11 : IsFun Try.prog 11 1 20 c11 [.cell 2 (some 3), .cell 3 none] := ⟨by decide, Try.f11, _, [], Try.func11, rfl, by decide, rfl, by kernel_rfl, by kernel_rfl⟩

-- loop: 2:out, 3:seen, 8:, 9:, 10:
/-- cashbox/age.Sort -/
def c12 : ACode :=
 (.seq (.region [⟨(.prim .id), [.const (.sl .clip [])], (some 2), none⟩] none)
 (.seq (.region [⟨(.prim .mkmap), [], (some 6), none⟩,
  ⟨(.prim .id), [.tmp 6], (some 3), none⟩] none)
 (.seq (.seq (.region [⟨(.prim .id), [.tmp 0], (some 7), none⟩,
  ⟨(.call 31), [.tmp 7, .const (.fn (.func 30) [] [])], (some 8), none⟩,
  ⟨(.prim .len), [.tmp 8], (some 9), none⟩,
  ⟨(.prim .id), [.const (.int .i64 0)], (some 10), none⟩] none)
 (.block 0
  (.loop
   (.seq (.region [⟨(.prim (.bin .lss .none)), [.tmp 10, .tmp 9], (some 11), none⟩] none)
   (.seq (.cond (.tmp 11)
    .skip
    (.exit 0))
   (.seq (.block 1
    (.seq (.region [⟨(.prim (.idxSl (some 3))), [.tmp 8, .tmp 10], (some 12), none⟩,
     ⟨(.prim (.load (some 3))), [.tmp 12], (some 13), none⟩,
     ⟨(.prim (.alloc [(.int .i64 0), (.int .i64 0), (.int .i64 0)])), [], (some 5), none⟩,
     ⟨(.prim (.store (some 3))), [.tmp 5, .tmp 13], none, none⟩] none)
    (.seq (.region [⟨(.prim .id), [.tmp 3], (some 14), none⟩,
     ⟨(.prim (.load (some 3))), [.tmp 5], (some 15), none⟩,
     ⟨(.prim (.mapGet (.flat [0, 0, 0]) (.int .i64 0) false)), [.tmp 14, .tmp 15], (some 16), none⟩,
     ⟨(.prim (.bin .add .none)), [.tmp 16, .const (.int .i64 1)], (some 17), none⟩,
     ⟨(.prim (.mapEnt (.flat [0, 0, 0]) (.int .i64 0))), [.tmp 14, .tmp 15], (some 18), none⟩,
     ⟨(.prim (.extract 1)), [.tmp 18], (some 19), none⟩,
     ⟨(.prim .entSet), [.tmp 14, .tmp 19, .tmp 17], none, none⟩] (some [[], [], [0, 1], [2], [0, 1, 0, 1], [4], [0, 5, 3, 4, 0, 1, 2, 3, 4, 5]]))
    (.seq (.region [⟨(.prim .id), [.tmp 3], (some 20), none⟩,
     ⟨(.prim (.load (some 3))), [.tmp 5], (some 21), none⟩,
     ⟨(.prim (.mapGet (.flat [0, 0, 0]) (.int .i64 0) false)), [.tmp 20, .tmp 21], (some 22), none⟩,
     ⟨(.prim (.bin .eql .none)), [.tmp 22, .const (.int .i64 1)], (some 23), none⟩] none)
    (.cond (.tmp 23)
     (.region [⟨(.prim .id), [.tmp 2], (some 24), none⟩,
      ⟨(.prim (.load (some 3))), [.tmp 5], (some 25), none⟩,
      ⟨(.prim (.buildSl (some 3))), [.tmp 25], (some 26), none⟩,
      ⟨(.prim (.append (some 3))), [.tmp 24, .tmp 26], (some 27), none⟩,
      ⟨(.prim .id), [.tmp 27], (some 2), none⟩] none)
     .skip)))))
   (.region [⟨(.prim (.bin .add .none)), [.tmp 10, .const (.int .i64 1)], (some 28), none⟩,
    ⟨(.prim .id), [.tmp 28], (some 10), none⟩] none)))))))
 (.seq (.region [⟨(.prim .id), [.tmp 2], (some 29), none⟩,
  ⟨(.prim .id), [.tmp 29], (some 2), none⟩] none)
 .ret))))
theorem F12 : IsFun Try.prog 12 1 30 c12 [.tmp 2] := ⟨by decide, Try.f12, _, [], Try.func12, rfl, by decide, rfl, by kernel_rfl, by kernel_rfl⟩

/-- cashbox/cashboxref07.Less -/
def c13 : ACode :=
 (.seq (.region [⟨(.prim (.boxR (some 3))), [.tmp 0], (some 2), none⟩,
  ⟨(.prim (.boxR (some 3))), [.tmp 1], (some 3), none⟩,
  ⟨(.prim .id), [.const (.bool false)], (some 4), none⟩] none)
 (.seq (.seq (.region [⟨(.prim (.fieldAddr 0 none)), [.tmp 2], (some 5), none⟩,
  ⟨(.prim (.load none)), [.tmp 5], (some 6), none⟩,
  ⟨(.prim (.fieldAddr 0 none)), [.tmp 3], (some 7), none⟩,
  ⟨(.prim (.load none)), [.tmp 7], (some 8), none⟩,
  ⟨(.prim (.bin .neq .none)), [.tmp 6, .tmp 8], (some 9), none⟩] none)
 (.cond (.tmp 9)
  (.seq (.region [⟨(.prim (.fieldAddr 0 none)), [.tmp 2], (some 10), none⟩,
   ⟨(.prim (.load none)), [.tmp 10], (some 11), none⟩,
   ⟨(.prim (.fieldAddr 0 none)), [.tmp 3], (some 12), none⟩,
   ⟨(.prim (.load none)), [.tmp 12], (some 13), none⟩,
   ⟨(.prim (.bin .lss .none)), [.tmp 11, .tmp 13], (some 14), none⟩,
   ⟨(.prim .id), [.tmp 14], (some 4), none⟩] none)
  .ret)
  .skip))
 (.seq (.seq (.region [⟨(.prim (.fieldAddr 1 none)), [.tmp 2], (some 15), none⟩,
  ⟨(.prim (.load none)), [.tmp 15], (some 16), none⟩,
  ⟨(.prim (.fieldAddr 1 none)), [.tmp 3], (some 17), none⟩,
  ⟨(.prim (.load none)), [.tmp 17], (some 18), none⟩,
  ⟨(.prim (.bin .neq .none)), [.tmp 16, .tmp 18], (some 19), none⟩] none)
 (.cond (.tmp 19)
  (.seq (.region [⟨(.prim (.fieldAddr 1 none)), [.tmp 2], (some 20), none⟩,
   ⟨(.prim (.load none)), [.tmp 20], (some 21), none⟩,
   ⟨(.prim (.fieldAddr 1 none)), [.tmp 3], (some 22), none⟩,
   ⟨(.prim (.load none)), [.tmp 22], (some 23), none⟩,
   ⟨(.prim (.bin .lss .none)), [.tmp 21, .tmp 23], (some 24), none⟩,
   ⟨(.prim .id), [.tmp 24], (some 4), none⟩] none)
  .ret)
  .skip))
 (.seq (.region [⟨(.prim (.fieldAddr 2 none)), [.tmp 2], (some 25), none⟩,
  ⟨(.prim (.load none)), [.tmp 25], (some 26), none⟩,
  ⟨(.prim (.fieldAddr 2 none)), [.tmp 3], (some 27), none⟩,
  ⟨(.prim (.load none)), [.tmp 27], (some 28), none⟩,
  ⟨(.prim (.bin .lss .none)), [.tmp 26, .tmp 28], (some 29), none⟩,
  ⟨(.prim .id), [.tmp 29], (some 4), none⟩] none)
 .ret))))
theorem F13 : IsFun Try.prog 13 2 30 c13 [.tmp 4] := ⟨by decide, Try.f13, _, [2, 3], Try.func13, rfl, by decide, rfl, by kernel_rfl, by kernel_rfl⟩

/-- cashbox/cashboxlaw12.name -/
def c28 : ACode :=
 (.seq (.region [⟨(.prim (.alloc [(.int .i64 0), (.int .i64 0), (.int .i64 0)])), [], (some 2), none⟩] none)
 (.seq (.region [⟨(.prim .id), [.tmp 0], (some 3), none⟩,
  ⟨(.prim (.build [(.int .i64 0), (.int .i64 0), (.int .i64 0)] [(0, 1), (1, 1), (2, 1)])), [.tmp 3, .const (.int .i64 1), .const (.int .i64 1)], (some 4), none⟩,
  ⟨(.prim (.store (some 3))), [.tmp 2, .tmp 4], none, none⟩] none)
 .ret))
theorem F28 : IsFun Try.prog 28 1 5 c28 [.cell 2 (some 3)] := ⟨by decide, Try.f28, _, [], Try.func28, rfl, by decide, rfl, by kernel_rfl, by kernel_rfl⟩

/-- cashbox/age.Oldest$1 -/
def c29 : ACode :=
 (.seq (.region [⟨(.prim (.boxR (some 3))), [.tmp 0], (some 3), none⟩] none)
 (.seq (.region [⟨(.prim (.load none)), [.tmp 1], (some 4), none⟩,
  ⟨(.prim (.un .not)), [.tmp 4], (some 5), none⟩,
  ⟨(.prim .id), [.tmp 5], (some 6), none⟩,
  ⟨(.prim (.load (some 3))), [.tmp 3], (some 7), (some (6, false))⟩,
  ⟨(.prim (.load (some 3))), [.tmp 2], (some 8), (some (6, false))⟩,
  ⟨(.call 30), [.tmp 7, .tmp 8], (some 9), (some (6, false))⟩,
  ⟨(.prim .pick), [.tmp 6, .const (.bool true), .tmp 9], (some 10), none⟩] none)
 (.cond (.tmp 10)
  (.region [⟨(.prim (.load (some 3))), [.tmp 3], (some 11), none⟩,
   ⟨(.prim (.store (some 3))), [.tmp 2, .tmp 11], none, none⟩,
   ⟨(.prim (.store none)), [.tmp 1, .const (.bool true)], none, none⟩] none)
  .skip)))
theorem F29 : IsFun Try.prog 29 3 12 c29 [] := ⟨by decide, Try.f29, _, [3], Try.func29, rfl, by decide, rfl, by kernel_rfl, by kernel_rfl⟩

/-- cashbox/record.Less -/
def c30 : ACode :=
 (.seq (.region [⟨(.prim (.boxR (some 3))), [.tmp 0], (some 2), none⟩,
  ⟨(.prim (.boxR (some 3))), [.tmp 1], (some 3), none⟩,
  ⟨(.prim .id), [.const (.bool false)], (some 4), none⟩] none)
 (.seq (.region [⟨(.prim (.fieldAddr 0 none)), [.tmp 2], (some 5), none⟩,
  ⟨(.prim (.load none)), [.tmp 5], (some 6), none⟩,
  ⟨(.prim (.fieldAddr 0 none)), [.tmp 3], (some 7), none⟩,
  ⟨(.prim (.load none)), [.tmp 7], (some 8), none⟩,
  ⟨(.call 60), [.tmp 6, .tmp 8], (some 9), none⟩,
  ⟨(.prim (.fieldAddr 1 none)), [.tmp 2], (some 10), none⟩,
  ⟨(.prim (.load none)), [.tmp 10], (some 11), none⟩,
  ⟨(.prim (.fieldAddr 1 none)), [.tmp 3], (some 12), none⟩,
  ⟨(.prim (.load none)), [.tmp 12], (some 13), none⟩,
  ⟨(.call 60), [.tmp 11, .tmp 13], (some 14), none⟩,
  ⟨(.prim (.fieldAddr 2 none)), [.tmp 2], (some 15), none⟩,
  ⟨(.prim (.load none)), [.tmp 15], (some 16), none⟩,
  ⟨(.prim (.fieldAddr 2 none)), [.tmp 3], (some 17), none⟩,
  ⟨(.prim (.load none)), [.tmp 17], (some 18), none⟩,
  ⟨(.call 60), [.tmp 16, .tmp 18], (some 19), none⟩,
  ⟨(.prim (.buildSl none)), [.tmp 9, .tmp 14, .tmp 19], (some 20), none⟩,
  ⟨(.call 59), [.tmp 20], (some 21), none⟩,
  ⟨(.prim (.bin .lss .none)), [.tmp 21, .const (.int .i64 0)], (some 22), none⟩,
  ⟨(.prim .id), [.tmp 22], (some 4), none⟩] (some [[], [0], [], [2], [1, 3], [], [5], [], [7], [6, 8, 4], [], [10], [], [12], [11, 13, 9], [4, 9, 14], [15, 14], [16], [17, 16, 0, 1, 2, 3, 4, 5, 6, 7, 8, 9, 10, 11, 12, 13, 14, 15, 16, 17]]))
 .ret))
theorem F30 : IsFun Try.prog 30 2 23 c30 [.tmp 4] := ⟨by decide, Try.f30, _, [2, 3], Try.func30, rfl, by decide, rfl, by kernel_rfl, by kernel_rfl⟩

-- loop: 1:less, 5:out, 9:, 10:, 11:
-- loop: 1:less, 5:out, 7:x, 8:k, 9:, 10:, 11:
/-- cashbox/age.sorted[cashbox/api.Name] -/
def c31 : ACode :=
 (.seq (.region [⟨(.prim .id), [.const (.sl .clip [])], (some 4), none⟩] none)
 (.seq (.region [⟨(.prim .id), [.const (.sl .clip [])], (some 5), none⟩] none)
 (.seq (.seq (.region [⟨(.prim .id), [.tmp 0], (some 9), none⟩,
  ⟨(.prim .len), [.tmp 9], (some 10), none⟩,
  ⟨(.prim .id), [.const (.int .i64 0)], (some 11), none⟩] none)
 (.block 0
  (.loop
   (.seq (.region [⟨(.prim (.bin .lss .none)), [.tmp 11, .tmp 10], (some 12), none⟩] none)
   (.seq (.cond (.tmp 12)
    .skip
    (.exit 0))
   (.seq (.block 1
    (.seq (.region [⟨(.prim (.idxSl (some 3))), [.tmp 9, .tmp 11], (some 13), none⟩,
     ⟨(.prim (.load (some 3))), [.tmp 13], (some 14), none⟩,
     ⟨(.prim (.alloc [(.int .i64 0), (.int .i64 0), (.int .i64 0)])), [], (some 7), none⟩,
     ⟨(.prim (.store (some 3))), [.tmp 7, .tmp 14], none, none⟩] none)
    (.seq (.region [⟨(.prim .id), [.tmp 5], (some 15), none⟩,
     ⟨(.prim .len), [.tmp 15], (some 16), none⟩,
     ⟨(.prim .id), [.tmp 16], (some 8), none⟩] none)
    (.seq (.block 2
     (.loop
      (.seq (.seq (.region [⟨(.prim .id), [.tmp 8], (some 17), none⟩,
       ⟨(.prim (.bin .gtr .none)), [.tmp 17, .const (.int .i64 0)], (some 18), none⟩,
       ⟨(.prim .id), [.tmp 18], (some 19), none⟩,
       ⟨(.prim .id), [.tmp 1], (some 20), (some (19, true))⟩,
       ⟨(.prim (.load (some 3))), [.tmp 7], (some 21), (some (19, true))⟩,
       ⟨(.prim .id), [.tmp 5], (some 22), (some (19, true))⟩,
       ⟨(.prim .id), [.tmp 8], (some 23), (some (19, true))⟩,
       ⟨(.prim (.bin .sub .none)), [.tmp 23, .const (.int .i64 1)], (some 24), (some (19, true))⟩,
       ⟨(.prim (.idxSl (some 3))), [.tmp 22, .tmp 24], (some 25), (some (19, true))⟩,
       ⟨(.prim (.load (some 3))), [.tmp 25], (some 26), (some (19, true))⟩,
       ⟨.callV, [.tmp 20, .tmp 21, .tmp 26], (some 27), (some (19, true))⟩,
       ⟨(.prim .pick), [.tmp 19, .tmp 27, .const (.bool false)], (some 28), none⟩] (some [[], [0], [1], [2], [2], [2], [2], [6, 2], [5, 7, 2], [8, 2], [3, 4, 9, 2, 2], [2, 10]]))
      (.cond (.tmp 28)
       .skip
       (.exit 2)))
      (.block 3
       (.region [⟨(.prim .id), [.tmp 8], (some 29), none⟩,
        ⟨(.prim (.bin .sub .none)), [.tmp 29, .const (.int .i64 1)], (some 30), none⟩,
        ⟨(.prim .id), [.tmp 30], (some 8), none⟩] none)))))
    (.region [⟨(.prim .id), [.tmp 5], (some 31), none⟩,
     ⟨(.prim .id), [.tmp 8], (some 32), none⟩,
     ⟨(.prim .id), [.tmp 8], (some 33), none⟩,
     ⟨(.prim (.slcSl (some 3) false true true)), [.tmp 31, .tmp 32, .tmp 33], (some 34), none⟩,
     ⟨(.prim (.load (some 3))), [.tmp 7], (some 35), none⟩,
     ⟨(.prim (.buildSl (some 3))), [.tmp 35], (some 36), none⟩,
     ⟨(.prim .id), [.tmp 5], (some 37), none⟩,
     ⟨(.prim .id), [.tmp 8], (some 38), none⟩,
     ⟨(.prim (.slcSl (some 3) true false false)), [.tmp 37, .tmp 38], (some 39), none⟩,
     ⟨(.prim (.append (some 3))), [.tmp 36, .tmp 39], (some 40), none⟩,
     ⟨(.prim (.append (some 3))), [.tmp 34, .tmp 40], (some 41), none⟩,
     ⟨(.prim .id), [.tmp 41], (some 5), none⟩] (some [[], [], [], [0, 1, 2], [], [4], [], [], [6, 7], [5, 8], [3, 9, 9], [10, 10, 0, 1, 2, 3, 4, 5, 6, 7, 8, 9, 10]]))))))
   (.region [⟨(.prim (.bin .add .none)), [.tmp 11, .const (.int .i64 1)], (some 42), none⟩,
    ⟨(.prim .id), [.tmp 42], (some 11), none⟩] none)))))))
 (.seq (.region [⟨(.prim .id), [.tmp 5], (some 43), none⟩,
  ⟨(.prim .id), [.tmp 43], (some 4), none⟩] none)
 .ret))))
theorem F31 : IsFun Try.prog 31 2 44 c31 [.tmp 4] := ⟨by decide, Try.f31, _, [], Try.func31, rfl, by decide, rfl, by kernel_rfl, by kernel_rfl⟩

-- loop: 3:zero, 6:, 7:, 8:
/-- cmp.Or[int] -/
def c59 : ACode :=
 (.seq (.region [⟨(.prim .id), [.const (.int .i64 0)], (some 2), none⟩] none)
 (.seq (.region [⟨(.prim .id), [.const (.int .i64 0)], (some 3), none⟩] none)
 (.seq (.seq (.region [⟨(.prim .id), [.tmp 0], (some 6), none⟩,
  ⟨(.prim .len), [.tmp 6], (some 7), none⟩,
  ⟨(.prim .id), [.const (.int .i64 0)], (some 8), none⟩] none)
 (.block 0
  (.loop
   (.seq (.region [⟨(.prim (.bin .lss .none)), [.tmp 8, .tmp 7], (some 9), none⟩] none)
   (.seq (.cond (.tmp 9)
    .skip
    (.exit 0))
   (.seq (.block 1
    (.seq (.region [⟨(.prim (.idxSl none)), [.tmp 6, .tmp 8], (some 10), none⟩,
     ⟨(.prim (.load none)), [.tmp 10], (some 11), none⟩,
     ⟨(.prim .id), [.tmp 11], (some 5), none⟩] none)
    (.seq (.region [⟨(.prim .id), [.tmp 5], (some 12), none⟩,
     ⟨(.prim .id), [.tmp 3], (some 13), none⟩,
     ⟨(.prim (.bin .neq .none)), [.tmp 12, .tmp 13], (some 14), none⟩] none)
    (.cond (.tmp 14)
     (.seq (.region [⟨(.prim .id), [.tmp 5], (some 15), none⟩,
      ⟨(.prim .id), [.tmp 15], (some 2), none⟩] none)
     .ret)
     .skip))))
   (.region [⟨(.prim (.bin .add .none)), [.tmp 8, .const (.int .i64 1)], (some 16), none⟩,
    ⟨(.prim .id), [.tmp 16], (some 8), none⟩] none)))))))
 (.seq (.region [⟨(.prim .id), [.tmp 3], (some 17), none⟩,
  ⟨(.prim .id), [.tmp 17], (some 2), none⟩] none)
 .ret))))
theorem F59 : IsFun Try.prog 59 1 18 c59 [.tmp 2] := ⟨by decide, Try.f59, _, [], Try.func59, rfl, by decide, rfl, by kernel_rfl, by kernel_rfl⟩

/-- cmp.Compare[int] -/
def c60 : ACode :=
 (.seq (.region [⟨(.prim .id), [.const (.int .i64 0)], (some 4), none⟩] none)
 (.seq (.region [⟨(.prim .id), [.tmp 0], (some 7), none⟩,
  ⟨(.call 68), [.tmp 7], (some 8), none⟩,
  ⟨(.prim .id), [.tmp 8], (some 5), none⟩] none)
 (.seq (.region [⟨(.prim .id), [.tmp 1], (some 9), none⟩,
  ⟨(.call 68), [.tmp 9], (some 10), none⟩,
  ⟨(.prim .id), [.tmp 10], (some 6), none⟩] none)
 (.seq (.seq (.region [⟨(.prim .id), [.tmp 5], (some 11), none⟩] none)
 (.cond (.tmp 11)
  (.seq (.seq (.region [⟨(.prim .id), [.tmp 6], (some 12), none⟩] none)
  (.cond (.tmp 12)
   (.seq (.region [⟨(.prim .id), [.const (.int .i64 0)], (some 4), none⟩] none)
   .ret)
   .skip))
  (.seq (.region [⟨(.prim .id), [.const (.int .i64 (-1))], (some 4), none⟩] none)
  .ret))
  .skip))
 (.seq (.seq (.region [⟨(.prim .id), [.tmp 6], (some 13), none⟩] none)
 (.cond (.tmp 13)
  (.seq (.region [⟨(.prim .id), [.const (.int .i64 1)], (some 4), none⟩] none)
  .ret)
  .skip))
 (.seq (.seq (.region [⟨(.prim .id), [.tmp 0], (some 14), none⟩,
  ⟨(.prim .id), [.tmp 1], (some 15), none⟩,
  ⟨(.prim (.bin .lss .none)), [.tmp 14, .tmp 15], (some 16), none⟩] none)
 (.cond (.tmp 16)
  (.seq (.region [⟨(.prim .id), [.const (.int .i64 (-1))], (some 4), none⟩] none)
  .ret)
  .skip))
 (.seq (.seq (.region [⟨(.prim .id), [.tmp 0], (some 17), none⟩,
  ⟨(.prim .id), [.tmp 1], (some 18), none⟩,
  ⟨(.prim (.bin .gtr .none)), [.tmp 17, .tmp 18], (some 19), none⟩] none)
 (.cond (.tmp 19)
  (.seq (.region [⟨(.prim .id), [.const (.int .i64 1)], (some 4), none⟩] none)
  .ret)
  .skip))
 (.seq (.region [⟨(.prim .id), [.const (.int .i64 0)], (some 4), none⟩] none)
 .ret))))))))
theorem F60 : IsFun Try.prog 60 2 20 c60 [.tmp 4] := ⟨by decide, Try.f60, _, [], Try.func60, rfl, by decide, rfl, by kernel_rfl, by kernel_rfl⟩

/-- cmp.isNaN[int] -/
def c68 : ACode :=
 (.seq (.region [⟨(.prim .id), [.const (.bool false)], (some 2), none⟩] none)
 (.seq (.region [⟨(.prim .id), [.tmp 0], (some 3), none⟩,
  ⟨(.prim .id), [.tmp 0], (some 4), none⟩,
  ⟨(.prim (.bin .neq .none)), [.tmp 3, .tmp 4], (some 5), none⟩,
  ⟨(.prim .id), [.tmp 5], (some 2), none⟩] none)
 .ret))
theorem F68 : IsFun Try.prog 68 1 6 c68 [.tmp 2] := ⟨by decide, Try.f68, _, [], Try.func68, rfl, by decide, rfl, by kernel_rfl, by kernel_rfl⟩

end Go.Proofs.Ythfjkapkjidebaa
