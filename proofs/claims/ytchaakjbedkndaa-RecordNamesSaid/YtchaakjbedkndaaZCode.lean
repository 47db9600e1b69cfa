/- The functions' code for the abstract machine, printed by wip/tools/Gen.lean. -/
import Derived.Test.YtchaakjbedkndaaProg
import Derived.Test.YtchaakjbedkndaaZAmEval
import Derived.KernelRfl
set_option linter.all false
namespace Go.Proofs.Ytchaakjbedkndaa
open Go.Am

/-- cashbox/cashboxlaw07.RecordReads -/
def c3 : ACode :=
 (.seq (.region [⟨(.prim .id), [.const (.bool false)], (some 2), none⟩] none)
 (.seq (.seq (.region [⟨(.prim .id), [.tmp 0], (some 7), none⟩,
  ⟨(.prim .len), [.tmp 7], (some 8), none⟩,
  ⟨(.prim (.bin .gtr .none)), [.tmp 8, .const (.int .i64 300)], (some 9), none⟩] none)
 (.cond (.tmp 9)
  (.seq (.region [⟨(.call 8), [], (some 10), none⟩,
   ⟨(.prim .id), [.tmp 10], (some 2), none⟩] none)
  .ret)
  .skip))
 (.seq (.region [⟨(.prim .id), [.tmp 0], (some 12), none⟩,
  ⟨(.call 9), [.tmp 12], (some 13), none⟩,
  ⟨(.prim .id), [.tmp 13], (some 11), none⟩,
  ⟨(.prim (.extract 0)), [.tmp 11], (some 14), none⟩,
  ⟨(.prim (.extract 1)), [.tmp 11], (some 15), none⟩,
  ⟨(.prim (.alloc [(.int .i8 0), (.int .i64 0), (.int .i64 0), (.int .i64 0), (.bool false), (.sl .clip []), (.int .i64 0), (.int .i64 0), (.int .i64 0), (.int .i64 0), (.int .i64 0), (.int .i64 0)])), [], (some 3), none⟩,
  ⟨(.prim (.store (some 12))), [.tmp 3, .tmp 14], none, none⟩,
  ⟨(.prim .id), [.tmp 15], (some 4), none⟩] none)
 (.seq (.region [⟨(.prim .id), [.tmp 0], (some 17), none⟩,
  ⟨(.call 10), [.tmp 17], (some 18), none⟩,
  ⟨(.prim .id), [.tmp 18], (some 16), none⟩,
  ⟨(.prim (.extract 0)), [.tmp 16], (some 19), none⟩,
  ⟨(.prim (.extract 1)), [.tmp 16], (some 20), none⟩,
  ⟨(.prim (.alloc [(.int .i8 0), (.int .i64 0), (.int .i64 0), (.int .i64 0), (.bool false), (.sl .clip []), (.int .i64 0), (.int .i64 0), (.int .i64 0), (.int .i64 0), (.int .i64 0), (.int .i64 0)])), [], (some 5), none⟩,
  ⟨(.prim (.store (some 12))), [.tmp 5, .tmp 19], none, none⟩,
  ⟨(.prim .id), [.tmp 20], (some 6), none⟩] none)
 (.seq (.region [⟨(.prim (.load (some 12))), [.tmp 3], (some 21), none⟩,
  ⟨(.prim (.load (some 12))), [.tmp 5], (some 22), none⟩,
  ⟨(.call 11), [.tmp 21, .tmp 22], (some 23), none⟩,
  ⟨(.prim .id), [.tmp 23], (some 24), none⟩,
  ⟨(.prim .id), [.tmp 4], (some 25), (some (24, true))⟩,
  ⟨(.prim .id), [.tmp 6], (some 26), (some (24, true))⟩,
  ⟨(.prim (.bin .eql .none)), [.tmp 25, .tmp 26], (some 27), (some (24, true))⟩,
  ⟨(.prim .pick), [.tmp 24, .tmp 27, .const (.bool false)], (some 28), none⟩,
  ⟨(.prim .id), [.tmp 28], (some 29), none⟩,
  ⟨(.call 8), [], (some 30), (some (29, true))⟩,
  ⟨(.prim .pick), [.tmp 29, .tmp 30, .const (.bool false)], (some 31), none⟩,
  ⟨(.prim .id), [.tmp 31], (some 2), none⟩] none)
 .ret)))))
theorem F3 : IsFun Try.prog 3 1 32 c3 [.tmp 2] := ⟨by decide, Try.f3, _, [], Try.func3, rfl, by decide, rfl, by kernel_rfl, by kernel_rfl⟩

/-- cashbox/cashboxlaw07.RecordShort -/
def c4 : ACode :=
 (.seq (.region [⟨(.prim (.boxR (some 12))), [.tmp 0], (some 3), none⟩,
  ⟨(.prim .id), [.const (.bool false)], (some 6), none⟩] none)
 (.seq (.seq (.region [⟨(.prim (.load (some 12))), [.tmp 3], (some 11), none⟩,
  ⟨(.call 12), [.tmp 11], (some 12), none⟩,
  ⟨(.prim .id), [.tmp 12], (some 13), none⟩,
  ⟨(.prim .id), [.tmp 2], (some 14), (some (13, false))⟩,
  ⟨(.prim .len), [.tmp 14], (some 15), (some (13, false))⟩,
  ⟨(.prim (.bin .gtr .none)), [.tmp 15, .const (.int .i64 100)], (some 16), (some (13, false))⟩,
  ⟨(.prim .pick), [.tmp 13, .const (.bool true), .tmp 16], (some 17), none⟩] none)
 (.cond (.tmp 17)
  (.seq (.region [⟨(.call 8), [], (some 18), none⟩,
   ⟨(.prim .id), [.tmp 18], (some 6), none⟩] none)
  .ret)
  .skip))
 (.seq (.region [⟨(.prim (.load (some 12))), [.tmp 3], (some 20), none⟩,
  ⟨(.call 13), [.tmp 20], (some 21), none⟩,
  ⟨(.prim .id), [.tmp 21], (some 19), none⟩,
  ⟨(.prim (.extract 0)), [.tmp 19], (some 22), none⟩,
  ⟨(.prim (.extract 1)), [.tmp 19], (some 23), none⟩,
  ⟨(.prim .id), [.tmp 22], (some 7), none⟩,
  ⟨(.prim .id), [.tmp 23], (some 8), none⟩] none)
 (.seq (.seq (.region [⟨(.prim .id), [.tmp 8], (some 24), none⟩,
  ⟨(.prim (.bin .neq .none)), [.tmp 24, .const (.int .i64 0)], (some 25), none⟩] none)
 (.cond (.tmp 25)
  (.seq (.region [⟨(.prim (.load (some 12))), [.tmp 3], (some 26), none⟩,
   ⟨(.call 14), [.tmp 26], (some 27), none⟩,
   ⟨(.prim (.un .not)), [.tmp 27], (some 28), none⟩,
   ⟨(.prim .id), [.tmp 28], (some 29), none⟩,
   ⟨(.prim .id), [.tmp 7], (some 30), (some (29, true))⟩,
   ⟨(.prim .len), [.tmp 30], (some 31), (some (29, true))⟩,
   ⟨(.prim (.bin .eql .none)), [.tmp 31, .const (.int .i64 0)], (some 32), (some (29, true))⟩,
   ⟨(.prim .pick), [.tmp 29, .tmp 32, .const (.bool false)], (some 33), none⟩,
   ⟨(.prim .id), [.tmp 33], (some 34), none⟩,
   ⟨(.call 8), [], (some 35), (some (34, true))⟩,
   ⟨(.prim .pick), [.tmp 34, .tmp 35, .const (.bool false)], (some 36), none⟩,
   ⟨(.prim .id), [.tmp 36], (some 6), none⟩] none)
  .ret)
  .skip))
 (.seq (.seq (.region [⟨(.prim .id), [.tmp 7], (some 37), none⟩,
  ⟨(.prim .len), [.tmp 37], (some 38), none⟩,
  ⟨(.prim (.bin .eql .none)), [.tmp 38, .const (.int .i64 0)], (some 39), none⟩] none)
 (.cond (.tmp 39)
  (.seq (.region [⟨(.prim .id), [.const (.bool false)], (some 6), none⟩] none)
  .ret)
  .skip))
 (.seq (.region [⟨(.prim .id), [.tmp 1], (some 40), none⟩,
  ⟨(.prim .id), [.tmp 7], (some 41), none⟩,
  ⟨(.prim .len), [.tmp 41], (some 42), none⟩,
  ⟨(.prim (.bin .rem .none)), [.tmp 40, .tmp 42], (some 43), none⟩,
  ⟨(.prim .id), [.tmp 7], (some 44), none⟩,
  ⟨(.prim .len), [.tmp 44], (some 45), none⟩,
  ⟨(.prim (.bin .add .none)), [.tmp 43, .tmp 45], (some 46), none⟩,
  ⟨(.prim .id), [.tmp 7], (some 47), none⟩,
  ⟨(.prim .len), [.tmp 47], (some 48), none⟩,
  ⟨(.prim (.bin .rem .none)), [.tmp 46, .tmp 48], (some 49), none⟩,
  ⟨(.prim .id), [.tmp 49], (some 1), none⟩] none)
 (.seq (.region [⟨(.prim .id), [.tmp 7], (some 51), none⟩,
  ⟨(.prim .id), [.tmp 1], (some 52), none⟩,
  ⟨(.prim (.slcSl none false true false)), [.tmp 51, .tmp 52], (some 53), none⟩,
  ⟨(.call 9), [.tmp 53], (some 54), none⟩,
  ⟨(.prim .id), [.tmp 54], (some 50), none⟩,
  ⟨(.prim (.extract 0)), [.tmp 50], (some 55), none⟩,
  ⟨(.prim (.extract 1)), [.tmp 50], (some 56), none⟩,
  ⟨(.prim (.alloc [(.int .i8 0), (.int .i64 0), (.int .i64 0), (.int .i64 0), (.bool false), (.sl .clip []), (.int .i64 0), (.int .i64 0), (.int .i64 0), (.int .i64 0), (.int .i64 0), (.int .i64 0)])), [], (some 9), none⟩,
  ⟨(.prim (.store (some 12))), [.tmp 9, .tmp 55], none, none⟩,
  ⟨(.prim .id), [.tmp 56], (some 10), none⟩] none)
 (.seq (.seq (.region [⟨(.prim .id), [.tmp 10], (some 57), none⟩,
  ⟨(.prim (.bin .neq .none)), [.tmp 57, .const (.int .i64 40)], (some 58), none⟩] none)
 (.cond (.tmp 58)
  (.seq (.region [⟨(.prim .id), [.const (.bool false)], (some 6), none⟩] none)
  .ret)
  .skip))
 (.seq (.region [⟨(.prim (.buildSl none)), [], (some 60), none⟩,
  ⟨(.prim .id), [.tmp 7], (some 61), none⟩,
  ⟨(.prim (.append none)), [.tmp 60, .tmp 61], (some 62), none⟩,
  ⟨(.prim .id), [.tmp 2], (some 63), none⟩,
  ⟨(.prim (.append none)), [.tmp 62, .tmp 63], (some 64), none⟩,
  ⟨(.call 9), [.tmp 64], (some 65), none⟩,
  ⟨(.prim .id), [.tmp 65], (some 59), none⟩,
  ⟨(.prim (.extract 0)), [.tmp 59], (some 66), none⟩,
  ⟨(.prim (.extract 1)), [.tmp 59], (some 67), none⟩,
  ⟨(.prim .id), [.tmp 67], (some 10), none⟩] none)
 (.seq (.region [⟨(.prim .id), [.tmp 10], (some 68), none⟩,
  ⟨(.prim (.bin .eql .none)), [.tmp 68, .const (.int .i64 0)], (some 69), none⟩,
  ⟨(.prim .id), [.tmp 2], (some 70), none⟩,
  ⟨(.prim .len), [.tmp 70], (some 71), none⟩,
  ⟨(.prim (.bin .eql .none)), [.tmp 71, .const (.int .i64 0)], (some 72), none⟩,
  ⟨(.prim (.bin .eql .bool)), [.tmp 69, .tmp 72], (some 73), none⟩,
  ⟨(.prim .id), [.tmp 73], (some 74), none⟩,
  ⟨(.call 8), [], (some 75), (some (74, true))⟩,
  ⟨(.prim .pick), [.tmp 74, .tmp 75, .const (.bool false)], (some 76), none⟩,
  ⟨(.prim .id), [.tmp 76], (some 6), none⟩] none)
 .ret))))))))))
theorem F4 : IsFun Try.prog 4 3 77 c4 [.tmp 6] := ⟨by decide, Try.f4, _, [3], Try.func4, rfl, by decide, rfl, by kernel_rfl, by kernel_rfl⟩

/-- cashbox/cashboxlaw07.RecordBack -/
def c5 : ACode :=
 (.seq (.region [⟨(.prim (.boxR (some 12))), [.tmp 0], (some 2), none⟩,
  ⟨(.prim .id), [.const (.bool false)], (some 4), none⟩] none)
 (.seq (.seq (.region [⟨(.prim (.load (some 12))), [.tmp 2], (some 15), none⟩,
  ⟨(.call 12), [.tmp 15], (some 16), none⟩,
  ⟨(.prim .id), [.tmp 16], (some 17), none⟩,
  ⟨(.prim .id), [.tmp 1], (some 18), (some (17, false))⟩,
  ⟨(.prim .len), [.tmp 18], (some 19), (some (17, false))⟩,
  ⟨(.prim (.bin .gtr .none)), [.tmp 19, .const (.int .i64 300)], (some 20), (some (17, false))⟩,
  ⟨(.prim .pick), [.tmp 17, .const (.bool true), .tmp 20], (some 21), none⟩] none)
 (.cond (.tmp 21)
  (.seq (.region [⟨(.call 8), [], (some 22), none⟩,
   ⟨(.prim .id), [.tmp 22], (some 4), none⟩] none)
  .ret)
  .skip))
 (.seq (.region [⟨(.prim (.load (some 12))), [.tmp 2], (some 24), none⟩,
  ⟨(.call 13), [.tmp 24], (some 25), none⟩,
  ⟨(.prim .id), [.tmp 25], (some 23), none⟩,
  ⟨(.prim (.extract 0)), [.tmp 23], (some 26), none⟩,
  ⟨(.prim (.extract 1)), [.tmp 23], (some 27), none⟩,
  ⟨(.prim .id), [.tmp 26], (some 5), none⟩,
  ⟨(.prim .id), [.tmp 27], (some 6), none⟩] none)
 (.seq (.seq (.region [⟨(.prim .id), [.tmp 6], (some 28), none⟩,
  ⟨(.prim (.bin .eql .none)), [.tmp 28, .const (.int .i64 0)], (some 29), none⟩] none)
 (.cond (.tmp 29)
  (.seq (.region [⟨(.prim .id), [.tmp 5], (some 31), none⟩,
   ⟨(.call 9), [.tmp 31], (some 32), none⟩,
   ⟨(.prim .id), [.tmp 32], (some 30), none⟩,
   ⟨(.prim (.extract 0)), [.tmp 30], (some 33), none⟩,
   ⟨(.prim (.extract 1)), [.tmp 30], (some 34), none⟩,
   ⟨(.prim (.alloc [(.int .i8 0), (.int .i64 0), (.int .i64 0), (.int .i64 0), (.bool false), (.sl .clip []), (.int .i64 0), (.int .i64 0), (.int .i64 0), (.int .i64 0), (.int .i64 0), (.int .i64 0)])), [], (some 7), none⟩,
   ⟨(.prim (.store (some 12))), [.tmp 7, .tmp 33], none, none⟩,
   ⟨(.prim .id), [.tmp 34], (some 8), none⟩] none)
  (.seq (.region [⟨(.prim (.load (some 12))), [.tmp 2], (some 36), none⟩,
   ⟨(.call 15), [.tmp 36], (some 37), none⟩,
   ⟨(.prim .id), [.tmp 37], (some 35), none⟩,
   ⟨(.prim (.extract 0)), [.tmp 35], (some 38), none⟩,
   ⟨(.prim (.extract 1)), [.tmp 35], (some 39), none⟩,
   ⟨(.prim .id), [.tmp 38], (some 9), none⟩,
   ⟨(.prim .id), [.tmp 39], (some 10), none⟩] none)
  (.seq (.seq (.region [⟨(.prim .id), [.tmp 8], (some 40), none⟩,
   ⟨(.prim (.bin .neq .none)), [.tmp 40, .const (.int .i64 0)], (some 41), none⟩,
   ⟨(.prim .id), [.tmp 41], (some 42), none⟩,
   ⟨(.prim (.load (some 12))), [.tmp 7], (some 43), (some (42, false))⟩,
   ⟨(.prim (.load (some 12))), [.tmp 2], (some 44), (some (42, false))⟩,
   ⟨(.call 11), [.tmp 43, .tmp 44], (some 45), (some (42, false))⟩,
   ⟨(.prim (.un .not)), [.tmp 45], (some 46), (some (42, false))⟩,
   ⟨(.prim .pick), [.tmp 42, .const (.bool true), .tmp 46], (some 47), none⟩,
   ⟨(.prim .id), [.tmp 47], (some 48), none⟩,
   ⟨(.prim (.load (some 12))), [.tmp 7], (some 49), (some (48, false))⟩,
   ⟨(.call 14), [.tmp 49], (some 50), (some (48, false))⟩,
   ⟨(.prim (.un .not)), [.tmp 50], (some 51), (some (48, false))⟩,
   ⟨(.prim .pick), [.tmp 48, .const (.bool true), .tmp 51], (some 52), none⟩,
   ⟨(.prim .id), [.tmp 52], (some 53), none⟩,
   ⟨(.prim .id), [.tmp 10], (some 54), (some (53, false))⟩,
   ⟨(.prim (.bin .neq .none)), [.tmp 54, .const (.int .i64 0)], (some 55), (some (53, false))⟩,
   ⟨(.prim .pick), [.tmp 53, .const (.bool true), .tmp 55], (some 56), none⟩,
   ⟨(.prim .id), [.tmp 56], (some 57), none⟩,
   ⟨(.prim .id), [.tmp 9], (some 58), (some (57, false))⟩,
   ⟨(.prim (.bin .lss .none)), [.tmp 58, .const (.int .i64 1)], (some 59), (some (57, false))⟩,
   ⟨(.prim .pick), [.tmp 57, .const (.bool true), .tmp 59], (some 60), none⟩,
   ⟨(.prim .id), [.tmp 60], (some 61), none⟩,
   ⟨(.prim .id), [.tmp 9], (some 62), (some (61, false))⟩,
   ⟨(.prim (.bin .gtr .none)), [.tmp 62, .const (.int .i64 2)], (some 63), (some (61, false))⟩,
   ⟨(.prim .pick), [.tmp 61, .const (.bool true), .tmp 63], (some 64), none⟩,
   ⟨(.prim .id), [.tmp 64], (some 65), none⟩,
   ⟨(.prim .id), [.tmp 5], (some 66), (some (65, false))⟩,
   ⟨(.prim .len), [.tmp 66], (some 67), (some (65, false))⟩,
   ⟨(.prim .id), [.tmp 9], (some 68), (some (65, false))⟩,
   ⟨(.prim (.bin .mul .none)), [.tmp 68, .const (.int .i64 45)], (some 69), (some (65, false))⟩,
   ⟨(.prim (.bin .gtr .none)), [.tmp 67, .tmp 69], (some 70), (some (65, false))⟩,
   ⟨(.prim .pick), [.tmp 65, .const (.bool true), .tmp 70], (some 71), none⟩,
   ⟨(.prim .id), [.tmp 71], (some 72), none⟩,
   ⟨(.prim .id), [.tmp 5], (some 73), (some (72, false))⟩,
   ⟨(.prim .len), [.tmp 73], (some 74), (some (72, false))⟩,
   ⟨(.prim .id), [.tmp 9], (some 75), (some (72, false))⟩,
   ⟨(.prim (.bin .sub .none)), [.tmp 75, .const (.int .i64 1)], (some 76), (some (72, false))⟩,
   ⟨(.prim (.bin .mul .none)), [.tmp 76, .const (.int .i64 45)], (some 77), (some (72, false))⟩,
   ⟨(.prim (.bin .leq .none)), [.tmp 74, .tmp 77], (some 78), (some (72, false))⟩,
   ⟨(.prim .pick), [.tmp 72, .const (.bool true), .tmp 78], (some 79), none⟩] none)
  (.cond (.tmp 79)
   (.seq (.region [⟨(.prim .id), [.const (.bool false)], (some 4), none⟩] none)
   .ret)
   .skip))
  (.seq (.region [⟨(.prim .id), [.tmp 5], (some 81), none⟩,
   ⟨(.prim .id), [.tmp 5], (some 82), none⟩,
   ⟨(.prim .len), [.tmp 82], (some 83), none⟩,
   ⟨(.prim (.bin .sub .none)), [.tmp 83, .const (.int .i64 1)], (some 84), none⟩,
   ⟨(.prim (.slcSl none false true false)), [.tmp 81, .tmp 84], (some 85), none⟩,
   ⟨(.call 9), [.tmp 85], (some 86), none⟩,
   ⟨(.prim .id), [.tmp 86], (some 80), none⟩,
   ⟨(.prim (.extract 0)), [.tmp 80], (some 87), none⟩,
   ⟨(.prim (.extract 1)), [.tmp 80], (some 88), none⟩,
   ⟨(.prim .id), [.tmp 88], (some 8), none⟩] none)
  (.seq (.region [⟨(.prim .id), [.tmp 8], (some 89), none⟩,
   ⟨(.prim (.bin .neq .none)), [.tmp 89, .const (.int .i64 40)], (some 90), none⟩] none)
  (.cond (.tmp 90)
   (.seq (.region [⟨(.prim .id), [.const (.bool false)], (some 4), none⟩] none)
   .ret)
   .skip))))))
  .skip))
 (.seq (.region [⟨(.prim .id), [.tmp 1], (some 92), none⟩,
  ⟨(.call 9), [.tmp 92], (some 93), none⟩,
  ⟨(.prim .id), [.tmp 93], (some 91), none⟩,
  ⟨(.prim (.extract 0)), [.tmp 91], (some 94), none⟩,
  ⟨(.prim (.extract 1)), [.tmp 91], (some 95), none⟩,
  ⟨(.prim (.alloc [(.int .i8 0), (.int .i64 0), (.int .i64 0), (.int .i64 0), (.bool false), (.sl .clip []), (.int .i64 0), (.int .i64 0), (.int .i64 0), (.int .i64 0), (.int .i64 0), (.int .i64 0)])), [], (some 11), none⟩,
  ⟨(.prim (.store (some 12))), [.tmp 11, .tmp 94], none, none⟩,
  ⟨(.prim .id), [.tmp 95], (some 12), none⟩] none)
 (.seq (.seq (.region [⟨(.prim .id), [.tmp 12], (some 96), none⟩,
  ⟨(.prim (.bin .eql .none)), [.tmp 96, .const (.int .i64 0)], (some 97), none⟩] none)
 (.cond (.tmp 97)
  (.seq (.region [⟨(.prim (.load (some 12))), [.tmp 11], (some 99), none⟩,
   ⟨(.call 13), [.tmp 99], (some 100), none⟩,
   ⟨(.prim .id), [.tmp 100], (some 98), none⟩,
   ⟨(.prim (.extract 0)), [.tmp 98], (some 101), none⟩,
   ⟨(.prim (.extract 1)), [.tmp 98], (some 102), none⟩,
   ⟨(.prim .id), [.tmp 101], (some 13), none⟩,
   ⟨(.prim .id), [.tmp 102], (some 14), none⟩] none)
  (.seq (.region [⟨(.prim .id), [.tmp 14], (some 103), none⟩,
   ⟨(.prim (.bin .neq .none)), [.tmp 103, .const (.int .i64 0)], (some 104), none⟩,
   ⟨(.prim .id), [.tmp 104], (some 105), none⟩,
   ⟨(.prim .id), [.tmp 13], (some 106), (some (105, false))⟩,
   ⟨(.prim .strOf), [.tmp 106], (some 107), (some (105, false))⟩,
   ⟨(.prim .id), [.tmp 1], (some 108), (some (105, false))⟩,
   ⟨(.prim .strOf), [.tmp 108], (some 109), (some (105, false))⟩,
   ⟨(.prim (.bin .neq .none)), [.tmp 107, .tmp 109], (some 110), (some (105, false))⟩,
   ⟨(.prim .pick), [.tmp 105, .const (.bool true), .tmp 110], (some 111), none⟩] none)
  (.cond (.tmp 111)
   (.seq (.region [⟨(.prim .id), [.const (.bool false)], (some 4), none⟩] none)
   .ret)
   .skip)))
  .skip))
 (.seq (.region [⟨(.call 8), [], (some 112), none⟩,
  ⟨(.prim .id), [.tmp 112], (some 4), none⟩] none)
 .ret)))))))
theorem F5 : IsFun Try.prog 5 2 113 c5 [.tmp 4] := ⟨by decide, Try.f5, _, [2], Try.func5, rfl, by decide, rfl, by kernel_rfl, by kernel_rfl⟩

/-- cashbox/cashboxlaw07.RecordNames -/
def c6 : ACode :=
 (.seq (.region [⟨(.prim (.boxR (some 3))), [.tmp 0], (some 3), none⟩,
  ⟨(.prim (.boxR (some 3))), [.tmp 1], (some 4), none⟩,
  ⟨(.prim (.boxR (some 3))), [.tmp 2], (some 5), none⟩,
  ⟨(.prim .id), [.const (.bool false)], (some 6), none⟩] none)
 (.seq (.region [⟨(.prim (.load (some 3))), [.tmp 3], (some 11), none⟩,
  ⟨(.prim (.load (some 3))), [.tmp 4], (some 12), none⟩,
  ⟨(.call 16), [.tmp 11, .tmp 12], (some 13), none⟩,
  ⟨(.prim (.load (some 3))), [.tmp 4], (some 14), none⟩,
  ⟨(.prim (.load (some 3))), [.tmp 3], (some 15), none⟩,
  ⟨(.call 16), [.tmp 14, .tmp 15], (some 16), none⟩,
  ⟨(.prim (.load (some 3))), [.tmp 4], (some 17), none⟩,
  ⟨(.prim (.load (some 3))), [.tmp 5], (some 18), none⟩,
  ⟨(.call 16), [.tmp 17, .tmp 18], (some 19), none⟩,
  ⟨(.prim (.load (some 3))), [.tmp 3], (some 20), none⟩,
  ⟨(.prim (.load (some 3))), [.tmp 5], (some 21), none⟩,
  ⟨(.call 16), [.tmp 20, .tmp 21], (some 22), none⟩,
  ⟨(.prim .id), [.tmp 13], (some 7), none⟩,
  ⟨(.prim .id), [.tmp 16], (some 8), none⟩,
  ⟨(.prim .id), [.tmp 19], (some 9), none⟩,
  ⟨(.prim .id), [.tmp 22], (some 10), none⟩] (some [[], [], [0, 1], [], [], [3, 4, 2], [], [], [6, 7, 5], [], [], [9, 10, 8], [2, 11, 0, 1, 2], [5, 12, 0, 1, 2, 3, 4, 5, 12], [8, 13, 0, 1, 2, 3, 4, 5, 6, 7, 8, 12, 13], [11, 14, 0, 1, 2, 3, 4, 5, 6, 7, 8, 9, 10, 11, 12, 13, 14]]))
 (.seq (.region [⟨(.prim .id), [.tmp 7], (some 23), none⟩,
  ⟨(.prim .id), [.tmp 23], (some 24), none⟩,
  ⟨(.prim .id), [.tmp 8], (some 25), (some (24, true))⟩,
  ⟨(.prim .pick), [.tmp 24, .tmp 25, .const (.bool false)], (some 26), none⟩,
  ⟨(.prim (.un .not)), [.tmp 26], (some 27), none⟩,
  ⟨(.prim .id), [.tmp 27], (some 28), none⟩,
  ⟨(.prim .id), [.tmp 7], (some 29), (some (28, true))⟩,
  ⟨(.prim .id), [.tmp 29], (some 30), (some (28, true))⟩,
  ⟨(.prim .id), [.tmp 8], (some 31), (some (30, false))⟩,
  ⟨(.prim .pick), [.tmp 30, .const (.bool true), .tmp 31], (some 32), (some (28, true))⟩,
  ⟨(.prim .id), [.tmp 32], (some 33), (some (28, true))⟩,
  ⟨(.prim (.load (some 3))), [.tmp 3], (some 34), (some (33, false))⟩,
  ⟨(.prim (.load (some 3))), [.tmp 4], (some 35), (some (33, false))⟩,
  ⟨(.prim (.bin .eql (.flat [0, 0, 0]))), [.tmp 34, .tmp 35], (some 36), (some (33, false))⟩,
  ⟨(.prim .pick), [.tmp 33, .const (.bool true), .tmp 36], (some 37), (some (28, true))⟩,
  ⟨(.prim .pick), [.tmp 28, .tmp 37, .const (.bool false)], (some 38), none⟩,
  ⟨(.prim .id), [.tmp 38], (some 39), none⟩,
  ⟨(.prim .id), [.tmp 7], (some 40), (some (39, true))⟩,
  ⟨(.prim (.un .not)), [.tmp 40], (some 41), (some (39, true))⟩,
  ⟨(.prim .id), [.tmp 41], (some 42), (some (39, true))⟩,
  ⟨(.prim .id), [.tmp 9], (some 43), (some (42, false))⟩,
  ⟨(.prim (.un .not)), [.tmp 43], (some 44), (some (42, false))⟩,
  ⟨(.prim .pick), [.tmp 42, .const (.bool true), .tmp 44], (some 45), (some (39, true))⟩,
  ⟨(.prim .id), [.tmp 45], (some 46), (some (39, true))⟩,
  ⟨(.prim .id), [.tmp 10], (some 47), (some (46, false))⟩,
  ⟨(.prim .pick), [.tmp 46, .const (.bool true), .tmp 47], (some 48), (some (39, true))⟩,
  ⟨(.prim .pick), [.tmp 39, .tmp 48, .const (.bool false)], (some 49), none⟩,
  ⟨(.prim .id), [.tmp 49], (some 50), none⟩,
  ⟨(.prim (.load (some 3))), [.tmp 3], (some 51), (some (50, true))⟩,
  ⟨(.prim (.load (some 3))), [.tmp 3], (some 52), (some (50, true))⟩,
  ⟨(.call 16), [.tmp 51, .tmp 52], (some 53), (some (50, true))⟩,
  ⟨(.prim (.un .not)), [.tmp 53], (some 54), (some (50, true))⟩,
  ⟨(.prim .pick), [.tmp 50, .tmp 54, .const (.bool false)], (some 55), none⟩,
  ⟨(.prim .id), [.tmp 55], (some 56), none⟩,
  ⟨(.call 8), [], (some 57), (some (56, true))⟩,
  ⟨(.prim .pick), [.tmp 56, .tmp 57, .const (.bool false)], (some 58), none⟩,
  ⟨(.prim .id), [.tmp 58], (some 6), none⟩] none)
 .ret)))
theorem F6 : IsFun Try.prog 6 3 59 c6 [.tmp 6] := ⟨by decide, Try.f6, _, [3, 4, 5], Try.func6, rfl, by decide, rfl, by kernel_rfl, by kernel_rfl⟩

/-- cashbox/cashboxlaw07.RecordTells -/
def c7 : ACode :=
 (.seq (.region [⟨(.prim (.boxR (some 12))), [.tmp 0], (some 2), none⟩,
  ⟨(.prim (.boxR (some 12))), [.tmp 1], (some 3), none⟩,
  ⟨(.prim .id), [.const (.bool false)], (some 4), none⟩] none)
 (.seq (.seq (.region [⟨(.prim (.load (some 12))), [.tmp 2], (some 13), none⟩,
  ⟨(.call 12), [.tmp 13], (some 14), none⟩,
  ⟨(.prim .id), [.tmp 14], (some 15), none⟩,
  ⟨(.prim (.load (some 12))), [.tmp 3], (some 16), (some (15, false))⟩,
  ⟨(.call 12), [.tmp 16], (some 17), (some (15, false))⟩,
  ⟨(.prim .pick), [.tmp 15, .const (.bool true), .tmp 17], (some 18), none⟩] none)
 (.cond (.tmp 18)
  (.seq (.region [⟨(.call 8), [], (some 19), none⟩,
   ⟨(.prim .id), [.tmp 19], (some 4), none⟩] none)
  .ret)
  .skip))
 (.seq (.region [⟨(.prim (.load (some 12))), [.tmp 2], (some 21), none⟩,
  ⟨(.call 13), [.tmp 21], (some 22), none⟩,
  ⟨(.prim .id), [.tmp 22], (some 20), none⟩,
  ⟨(.prim (.extract 0)), [.tmp 20], (some 23), none⟩,
  ⟨(.prim (.extract 1)), [.tmp 20], (some 24), none⟩,
  ⟨(.prim .id), [.tmp 23], (some 5), none⟩,
  ⟨(.prim .id), [.tmp 24], (some 6), none⟩] none)
 (.seq (.region [⟨(.prim (.load (some 12))), [.tmp 2], (some 26), none⟩,
  ⟨(.call 17), [.tmp 26], (some 27), none⟩,
  ⟨(.prim .id), [.tmp 27], (some 25), none⟩,
  ⟨(.prim (.extract 0)), [.tmp 25], (some 28), none⟩,
  ⟨(.prim (.extract 1)), [.tmp 25], (some 29), none⟩,
  ⟨(.prim .id), [.tmp 28], (some 7), none⟩,
  ⟨(.prim .id), [.tmp 29], (some 8), none⟩] none)
 (.seq (.region [⟨(.prim (.load (some 12))), [.tmp 2], (some 31), none⟩,
  ⟨(.call 15), [.tmp 31], (some 32), none⟩,
  ⟨(.prim .id), [.tmp 32], (some 30), none⟩,
  ⟨(.prim (.extract 0)), [.tmp 30], (some 33), none⟩,
  ⟨(.prim (.extract 1)), [.tmp 30], (some 34), none⟩,
  ⟨(.prim .id), [.tmp 33], (some 9), none⟩,
  ⟨(.prim .id), [.tmp 34], (some 10), none⟩] none)
 (.seq (.region [⟨(.prim (.load (some 12))), [.tmp 2], (some 36), none⟩,
  ⟨(.call 18), [.tmp 36], (some 37), none⟩,
  ⟨(.prim .id), [.tmp 37], (some 35), none⟩,
  ⟨(.prim (.extract 0)), [.tmp 35], (some 38), none⟩,
  ⟨(.prim (.extract 1)), [.tmp 35], (some 39), none⟩,
  ⟨(.prim .id), [.tmp 38], (some 11), none⟩,
  ⟨(.prim .id), [.tmp 39], (some 12), none⟩] none)
 (.seq (.region [⟨(.prim (.load (some 12))), [.tmp 2], (some 40), none⟩,
  ⟨(.call 14), [.tmp 40], (some 41), none⟩,
  ⟨(.prim (.load (some 12))), [.tmp 2], (some 42), none⟩,
  ⟨(.call 19), [.tmp 42], (some 43), none⟩,
  ⟨(.prim (.bin .eql .bool)), [.tmp 41, .tmp 43], (some 44), none⟩,
  ⟨(.prim .id), [.tmp 44], (some 45), none⟩,
  ⟨(.prim .id), [.tmp 5], (some 46), (some (45, true))⟩,
  ⟨(.prim .strOf), [.tmp 46], (some 47), (some (45, true))⟩,
  ⟨(.prim .id), [.tmp 7], (some 48), (some (45, true))⟩,
  ⟨(.prim .strOf), [.tmp 48], (some 49), (some (45, true))⟩,
  ⟨(.prim (.bin .eql .none)), [.tmp 47, .tmp 49], (some 50), (some (45, true))⟩,
  ⟨(.prim .pick), [.tmp 45, .tmp 50, .const (.bool false)], (some 51), none⟩,
  ⟨(.prim .id), [.tmp 51], (some 52), none⟩,
  ⟨(.prim .id), [.tmp 6], (some 53), (some (52, true))⟩,
  ⟨(.prim .id), [.tmp 8], (some 54), (some (52, true))⟩,
  ⟨(.prim (.bin .eql .none)), [.tmp 53, .tmp 54], (some 55), (some (52, true))⟩,
  ⟨(.prim .pick), [.tmp 52, .tmp 55, .const (.bool false)], (some 56), none⟩,
  ⟨(.prim .id), [.tmp 56], (some 57), none⟩,
  ⟨(.prim .id), [.tmp 9], (some 58), (some (57, true))⟩,
  ⟨(.prim .id), [.tmp 11], (some 59), (some (57, true))⟩,
  ⟨(.prim (.bin .eql .none)), [.tmp 58, .tmp 59], (some 60), (some (57, true))⟩,
  ⟨(.prim .pick), [.tmp 57, .tmp 60, .const (.bool false)], (some 61), none⟩,
  ⟨(.prim .id), [.tmp 61], (some 62), none⟩,
  ⟨(.prim .id), [.tmp 10], (some 63), (some (62, true))⟩,
  ⟨(.prim .id), [.tmp 12], (some 64), (some (62, true))⟩,
  ⟨(.prim (.bin .eql .none)), [.tmp 63, .tmp 64], (some 65), (some (62, true))⟩,
  ⟨(.prim .pick), [.tmp 62, .tmp 65, .const (.bool false)], (some 66), none⟩,
  ⟨(.prim .id), [.tmp 66], (some 67), none⟩,
  ⟨(.prim (.fieldAddr 1 (some 3))), [.tmp 2], (some 68), (some (67, true))⟩,
  ⟨(.prim (.load (some 3))), [.tmp 68], (some 69), (some (67, true))⟩,
  ⟨(.call 20), [.tmp 69], (some 70), (some (67, true))⟩,
  ⟨(.prim (.fieldAddr 1 (some 3))), [.tmp 2], (some 71), (some (67, true))⟩,
  ⟨(.prim (.load (some 3))), [.tmp 71], (some 72), (some (67, true))⟩,
  ⟨(.call 21), [.tmp 72], (some 73), (some (67, true))⟩,
  ⟨(.prim (.bin .eql .bool)), [.tmp 70, .tmp 73], (some 74), (some (67, true))⟩,
  ⟨(.prim .pick), [.tmp 67, .tmp 74, .const (.bool false)], (some 75), none⟩,
  ⟨(.prim .id), [.tmp 75], (some 76), none⟩,
  ⟨(.prim (.fieldAddr 5 none)), [.tmp 2], (some 77), (some (76, true))⟩,
  ⟨(.prim (.load none)), [.tmp 77], (some 78), (some (76, true))⟩,
  ⟨(.call 22), [.tmp 78], (some 79), (some (76, true))⟩,
  ⟨(.prim (.fieldAddr 5 none)), [.tmp 2], (some 80), (some (76, true))⟩,
  ⟨(.prim (.load none)), [.tmp 80], (some 81), (some (76, true))⟩,
  ⟨(.call 23), [.tmp 81], (some 82), (some (76, true))⟩,
  ⟨(.prim (.bin .eql .bool)), [.tmp 79, .tmp 82], (some 83), (some (76, true))⟩,
  ⟨(.prim .pick), [.tmp 76, .tmp 83, .const (.bool false)], (some 84), none⟩,
  ⟨(.prim .id), [.tmp 84], (some 85), none⟩,
  ⟨(.prim (.load (some 12))), [.tmp 2], (some 86), (some (85, true))⟩,
  ⟨(.prim (.load (some 12))), [.tmp 3], (some 87), (some (85, true))⟩,
  ⟨(.call 11), [.tmp 86, .tmp 87], (some 88), (some (85, true))⟩,
  ⟨(.prim (.load (some 12))), [.tmp 2], (some 89), (some (85, true))⟩,
  ⟨(.prim (.load (some 12))), [.tmp 3], (some 90), (some (85, true))⟩,
  ⟨(.call 24), [.tmp 89, .tmp 90], (some 91), (some (85, true))⟩,
  ⟨(.prim (.bin .eql .bool)), [.tmp 88, .tmp 91], (some 92), (some (85, true))⟩,
  ⟨(.prim .pick), [.tmp 85, .tmp 92, .const (.bool false)], (some 93), none⟩,
  ⟨(.prim .id), [.tmp 93], (some 94), none⟩,
  ⟨(.prim (.fieldAddr 1 (some 3))), [.tmp 2], (some 95), (some (94, true))⟩,
  ⟨(.prim (.load (some 3))), [.tmp 95], (some 96), (some (94, true))⟩,
  ⟨(.prim (.fieldAddr 1 (some 3))), [.tmp 3], (some 97), (some (94, true))⟩,
  ⟨(.prim (.load (some 3))), [.tmp 97], (some 98), (some (94, true))⟩,
  ⟨(.call 16), [.tmp 96, .tmp 98], (some 99), (some (94, true))⟩,
  ⟨(.prim (.fieldAddr 1 (some 3))), [.tmp 2], (some 100), (some (94, true))⟩,
  ⟨(.prim (.load (some 3))), [.tmp 100], (some 101), (some (94, true))⟩,
  ⟨(.prim (.fieldAddr 1 (some 3))), [.tmp 3], (some 102), (some (94, true))⟩,
  ⟨(.prim (.load (some 3))), [.tmp 102], (some 103), (some (94, true))⟩,
  ⟨(.call 25), [.tmp 101, .tmp 103], (some 104), (some (94, true))⟩,
  ⟨(.prim (.bin .eql .bool)), [.tmp 99, .tmp 104], (some 105), (some (94, true))⟩,
  ⟨(.prim .pick), [.tmp 94, .tmp 105, .const (.bool false)], (some 106), none⟩,
  ⟨(.prim .id), [.tmp 106], (some 107), none⟩,
  ⟨(.call 8), [], (some 108), (some (107, true))⟩,
  ⟨(.prim .pick), [.tmp 107, .tmp 108, .const (.bool false)], (some 109), none⟩,
  ⟨(.prim .id), [.tmp 109], (some 4), none⟩] (some [[], [0], [], [2, 1], [1, 3], [4, 3], [5], [6, 5], [5], [8, 5], [7, 9, 5], [5, 10], [11, 5], [12], [12], [13, 14, 12], [12, 15], [16, 12], [17], [17], [18, 19, 17], [17, 20], [21, 17], [22], [22], [23, 24, 22], [22, 25], [26, 22], [27], [28, 27], [29, 27, 27], [27], [31, 27], [32, 30, 27], [30, 33, 27], [27, 34], [35, 33], [36], [37, 36], [38, 36, 36], [36], [40, 36], [41, 39, 36], [39, 42, 36], [36, 43], [44, 42], [45], [45], [46, 47, 45, 45], [45], [45], [49, 50, 48, 45], [48, 51, 45], [45, 52], [53, 51], [54], [55, 54], [54], [57, 54], [56, 58, 54, 54], [54], [60, 54], [54], [62, 54], [61, 63, 59, 54], [59, 64, 54], [54, 65], [66, 64], [67, 67], [67, 68], [69, 68, 0, 1, 2, 3, 4, 5, 6, 7, 8, 9, 10, 11, 12, 13, 14, 15, 16, 17, 18, 19, 20, 21, 22, 23, 24, 25, 26, 27, 28, 29, 30, 31, 32, 33, 34, 35, 36, 37, 38, 39, 40, 41, 42, 43, 44, 45, 46, 47, 48, 49, 50, 51, 52, 53, 54, 55, 56, 57, 58, 59, 60, 61, 62, 63, 64, 65, 66, 67, 68, 69]]))
 .ret)))))))
theorem F7 : IsFun Try.prog 7 2 110 c7 [.tmp 4] := ⟨by decide, Try.f7, _, [2, 3], Try.func7, rfl, by decide, rfl, by kernel_rfl, by kernel_rfl⟩

/-- cashbox/cashboxlaw07.wakes -/
def c8 : ACode :=
 (.seq (.region [⟨(.prim .id), [.const (.bool false)], (some 0), none⟩] none)
 (.seq (.region [⟨(.prim (.build [(.int .i64 0), (.int .i64 0), (.int .i64 0)] [(0, 1), (1, 1), (2, 1)])), [.const (.int .i64 1), .const (.int .i64 1), .const (.int .i64 1)], (some 6), none⟩,
  ⟨(.prim (.alloc [(.int .i64 0), (.int .i64 0), (.int .i64 0)])), [], (some 1), none⟩,
  ⟨(.prim (.store (some 3))), [.tmp 1, .tmp 6], none, none⟩] none)
 (.seq (.region [⟨(.prim (.load (some 3))), [.tmp 1], (some 8), none⟩,
  ⟨(.prim (.build [(.int .i8 0), (.int .i64 0), (.int .i64 0), (.int .i64 0), (.bool false), (.sl .clip []), (.int .i64 0), (.int .i64 0), (.int .i64 0), (.int .i64 0), (.int .i64 0), (.int .i64 0)] [(0, 1), (1, 3), (4, 1)])), [.const (.int .i8 3), .tmp 8, .const (.bool true)], (some 9), none⟩,
  ⟨(.call 13), [.tmp 9], (some 10), none⟩,
  ⟨(.prim .id), [.tmp 10], (some 7), none⟩,
  ⟨(.prim (.extract 0)), [.tmp 7], (some 11), none⟩,
  ⟨(.prim (.extract 1)), [.tmp 7], (some 12), none⟩,
  ⟨(.prim .id), [.tmp 11], (some 2), none⟩,
  ⟨(.prim .id), [.tmp 12], (some 3), none⟩] none)
 (.seq (.region [⟨(.prim (.buildSl none)), [], (some 14), none⟩,
  ⟨(.prim .id), [.tmp 2], (some 15), none⟩,
  ⟨(.prim (.append none)), [.tmp 14, .tmp 15], (some 16), none⟩,
  ⟨(.prim (.buildSl none)), [.const (.int .u8 0)], (some 17), none⟩,
  ⟨(.prim (.append none)), [.tmp 16, .tmp 17], (some 18), none⟩,
  ⟨(.call 9), [.tmp 18], (some 19), none⟩,
  ⟨(.prim .id), [.tmp 19], (some 13), none⟩,
  ⟨(.prim (.extract 0)), [.tmp 13], (some 20), none⟩,
  ⟨(.prim (.extract 1)), [.tmp 13], (some 21), none⟩,
  ⟨(.prim (.alloc [(.int .i8 0), (.int .i64 0), (.int .i64 0), (.int .i64 0), (.bool false), (.sl .clip []), (.int .i64 0), (.int .i64 0), (.int .i64 0), (.int .i64 0), (.int .i64 0), (.int .i64 0)])), [], (some 4), none⟩,
  ⟨(.prim (.store (some 12))), [.tmp 4, .tmp 20], none, none⟩,
  ⟨(.prim .id), [.tmp 21], (some 5), none⟩] none)
 (.seq (.region [⟨(.prim .id), [.tmp 3], (some 22), none⟩,
  ⟨(.prim (.bin .eql .none)), [.tmp 22, .const (.int .i64 0)], (some 23), none⟩,
  ⟨(.prim .id), [.tmp 23], (some 24), none⟩,
  ⟨(.prim .id), [.tmp 2], (some 25), (some (24, true))⟩,
  ⟨(.prim .strOf), [.tmp 25], (some 26), (some (24, true))⟩,
  ⟨(.prim (.bin .eql .none)), [.tmp 26, .const (.str [3, 1, 0, 0, 1, 0, 0, 1, 0, 0, 1])], (some 27), (some (24, true))⟩,
  ⟨(.prim .pick), [.tmp 24, .tmp 27, .const (.bool false)], (some 28), none⟩,
  ⟨(.prim .id), [.tmp 28], (some 29), none⟩,
  ⟨(.prim .id), [.tmp 5], (some 30), (some (29, true))⟩,
  ⟨(.prim (.bin .eql .none)), [.tmp 30, .const (.int .i64 40)], (some 31), (some (29, true))⟩,
  ⟨(.prim .pick), [.tmp 29, .tmp 31, .const (.bool false)], (some 32), none⟩,
  ⟨(.prim .id), [.tmp 32], (some 0), none⟩] none)
 .ret)))))
theorem F8 : IsFun Try.prog 8 0 33 c8 [.tmp 0] := ⟨by decide, Try.f8, _, [], Try.func8, rfl, by decide, rfl, by kernel_rfl, by kernel_rfl⟩

/-- cashbox/record.Read -/
def c9 : ACode :=
 (.seq (.region [⟨(.prim (.alloc [(.int .i8 0), (.int .i64 0), (.int .i64 0), (.int .i64 0), (.bool false), (.sl .clip []), (.int .i64 0), (.int .i64 0), (.int .i64 0), (.int .i64 0), (.int .i64 0), (.int .i64 0)])), [], (some 2), none⟩,
  ⟨(.prim .id), [.const (.int .i64 0)], (some 3), none⟩] none)
 (.seq (.seq (.region [⟨(.prim .id), [.tmp 0], (some 7), none⟩,
  ⟨(.prim .len), [.tmp 7], (some 8), none⟩,
  ⟨(.prim (.bin .eql .none)), [.tmp 8, .const (.int .i64 0)], (some 9), none⟩,
  ⟨(.prim .id), [.tmp 9], (some 10), none⟩,
  ⟨(.prim .id), [.tmp 0], (some 11), (some (10, false))⟩,
  ⟨(.prim (.idxSl none)), [.tmp 11, .const (.int .i64 0)], (some 12), (some (10, false))⟩,
  ⟨(.prim (.load none)), [.tmp 12], (some 13), (some (10, false))⟩,
  ⟨(.prim (.bin .gtr .none)), [.tmp 13, .const (.int .u8 127)], (some 14), (some (10, false))⟩,
  ⟨(.prim .pick), [.tmp 10, .const (.bool true), .tmp 14], (some 15), none⟩] none)
 (.cond (.tmp 15)
  (.seq (.region [⟨(.prim (.build [(.int .i8 0), (.int .i64 0), (.int .i64 0), (.int .i64 0), (.bool false), (.sl .clip []), (.int .i64 0), (.int .i64 0), (.int .i64 0), (.int .i64 0), (.int .i64 0), (.int .i64 0)] [])), [], (some 16), none⟩,
   ⟨(.prim (.store (some 12))), [.tmp 2, .tmp 16], none, none⟩,
   ⟨(.prim .id), [.const (.int .i64 40)], (some 3), none⟩] none)
  .ret)
  .skip))
 (.seq (.region [⟨(.prim .id), [.tmp 0], (some 17), none⟩,
  ⟨(.prim (.idxSl none)), [.tmp 17, .const (.int .i64 0)], (some 18), none⟩,
  ⟨(.prim (.load none)), [.tmp 18], (some 19), none⟩,
  ⟨(.prim (.conv .i8)), [.tmp 19], (some 20), none⟩,
  ⟨(.prim (.build [(.int .i8 0), (.int .i64 0), (.int .i64 0), (.int .i64 0), (.bool false), (.sl .clip []), (.int .i64 0), (.int .i64 0), (.int .i64 0), (.int .i64 0), (.int .i64 0), (.int .i64 0)] [(0, 1)])), [.tmp 20], (some 21), none⟩,
  ⟨(.prim (.alloc [(.int .i8 0), (.int .i64 0), (.int .i64 0), (.int .i64 0), (.bool false), (.sl .clip []), (.int .i64 0), (.int .i64 0), (.int .i64 0), (.int .i64 0), (.int .i64 0), (.int .i64 0)])), [], (some 4), none⟩,
  ⟨(.prim (.store (some 12))), [.tmp 4, .tmp 21], none, none⟩] none)
 (.seq (.region [⟨(.prim (.fieldAddr 0 none)), [.tmp 4], (some 22), none⟩,
  ⟨(.prim (.load none)), [.tmp 22], (some 23), none⟩,
  ⟨(.call 26), [.tmp 23], (some 24), none⟩,
  ⟨(.prim .id), [.tmp 24], (some 5), none⟩] none)
 (.seq (.seq (.region [⟨(.prim .id), [.tmp 5], (some 25), none⟩,
  ⟨(.prim (.bin .eql .ptr)), [.tmp 25, .const .nilp], (some 26), none⟩] none)
 (.cond (.tmp 26)
  (.seq (.region [⟨(.prim (.build [(.int .i8 0), (.int .i64 0), (.int .i64 0), (.int .i64 0), (.bool false), (.sl .clip []), (.int .i64 0), (.int .i64 0), (.int .i64 0), (.int .i64 0), (.int .i64 0), (.int .i64 0)] [])), [], (some 27), none⟩,
   ⟨(.prim (.store (some 12))), [.tmp 2, .tmp 27], none, none⟩,
   ⟨(.prim .id), [.const (.int .i64 40)], (some 3), none⟩] none)
  .ret)
  .skip))
 (.seq (.region [⟨(.prim .id), [.tmp 0], (some 28), none⟩,
  ⟨(.prim (.slcSl none true false false)), [.tmp 28, .const (.int .i64 1)], (some 29), none⟩,
  ⟨(.prim (.build [(.sl .clip []), (.bool false)] [(0, 1)])), [.tmp 29], (some 30), none⟩,
  ⟨(.prim (.box (some 2))), [.tmp 30], (some 31), none⟩,
  ⟨(.prim .id), [.tmp 31], (some 6), none⟩] none)
 (.seq (.region [⟨(.prim .id), [.tmp 5], (some 32), none⟩,
  ⟨(.prim .nilc), [.tmp 32], (some 33), none⟩,
  ⟨(.prim (.fieldAddr 1 none)), [.tmp 33], (some 34), none⟩,
  ⟨(.prim (.load none)), [.tmp 34], (some 35), none⟩,
  ⟨(.prim .id), [.tmp 6], (some 36), none⟩,
  ⟨.callV, [.tmp 35, .tmp 36, .tmp 4], (some 37), none⟩] none)
 (.seq (.seq (.region [⟨(.prim .id), [.tmp 6], (some 38), none⟩,
  ⟨(.prim .nilc), [.tmp 38], (some 39), none⟩,
  ⟨(.prim (.fieldAddr 1 none)), [.tmp 39], (some 40), none⟩,
  ⟨(.prim (.load none)), [.tmp 40], (some 41), none⟩,
  ⟨(.prim .id), [.tmp 41], (some 42), none⟩,
  ⟨(.prim .id), [.tmp 6], (some 43), (some (42, false))⟩,
  ⟨(.prim .nilc), [.tmp 43], (some 44), (some (42, false))⟩,
  ⟨(.prim (.fieldAddr 0 none)), [.tmp 44], (some 45), (some (42, false))⟩,
  ⟨(.prim (.load none)), [.tmp 45], (some 46), (some (42, false))⟩,
  ⟨(.prim .len), [.tmp 46], (some 47), (some (42, false))⟩,
  ⟨(.prim (.bin .gtr .none)), [.tmp 47, .const (.int .i64 0)], (some 48), (some (42, false))⟩,
  ⟨(.prim .pick), [.tmp 42, .const (.bool true), .tmp 48], (some 49), none⟩,
  ⟨(.prim .id), [.tmp 49], (some 50), none⟩,
  ⟨(.prim (.load (some 12))), [.tmp 4], (some 51), (some (50, false))⟩,
  ⟨(.call 14), [.tmp 51], (some 52), (some (50, false))⟩,
  ⟨(.prim (.un .not)), [.tmp 52], (some 53), (some (50, false))⟩,
  ⟨(.prim .pick), [.tmp 50, .const (.bool true), .tmp 53], (some 54), none⟩] none)
 (.cond (.tmp 54)
  (.seq (.region [⟨(.prim (.build [(.int .i8 0), (.int .i64 0), (.int .i64 0), (.int .i64 0), (.bool false), (.sl .clip []), (.int .i64 0), (.int .i64 0), (.int .i64 0), (.int .i64 0), (.int .i64 0), (.int .i64 0)] [])), [], (some 55), none⟩,
   ⟨(.prim (.store (some 12))), [.tmp 2, .tmp 55], none, none⟩,
   ⟨(.prim .id), [.const (.int .i64 40)], (some 3), none⟩] none)
  .ret)
  .skip))
 (.seq (.region [⟨(.prim (.load (some 12))), [.tmp 4], (some 56), none⟩,
  ⟨(.prim (.store (some 12))), [.tmp 2, .tmp 56], none, none⟩,
  ⟨(.prim .id), [.const (.int .i64 0)], (some 3), none⟩] none)
 .ret)))))))))
theorem F9 : IsFun Try.prog 9 1 57 c9 [.cell 2 (some 12), .tmp 3] := ⟨by decide, Try.f9, _, [], Try.func9, rfl, by decide, rfl, by kernel_rfl, by kernel_rfl⟩

/-- cashbox/cashboxref07.Read -/
def c10 : ACode :=
 (.seq (.region [⟨(.prim (.alloc [(.int .i8 0), (.int .i64 0), (.int .i64 0), (.int .i64 0), (.bool false), (.sl .clip []), (.int .i64 0), (.int .i64 0), (.int .i64 0), (.int .i64 0), (.int .i64 0), (.int .i64 0)])), [], (some 2), none⟩,
  ⟨(.prim .id), [.const (.int .i64 0)], (some 3), none⟩] none)
 (.seq (.region [⟨(.prim .id), [.tmp 0], (some 6), none⟩,
  ⟨(.prim (.build [(.sl .clip []), (.int .i64 0), (.bool false)] [(0, 1)])), [.tmp 6], (some 7), none⟩,
  ⟨(.prim (.box (some 3))), [.tmp 7], (some 8), none⟩,
  ⟨(.prim .id), [.tmp 8], (some 4), none⟩] none)
 (.seq (.region [⟨(.prim .id), [.tmp 4], (some 9), none⟩,
  ⟨(.call 27), [.tmp 9], (some 10), none⟩,
  ⟨(.prim (.bin .and .none)), [.tmp 10, .const (.int .i64 127)], (some 11), none⟩,
  ⟨(.prim (.conv .i8)), [.tmp 11], (some 12), none⟩,
  ⟨(.prim (.build [(.int .i8 0), (.int .i64 0), (.int .i64 0), (.int .i64 0), (.bool false), (.sl .clip []), (.int .i64 0), (.int .i64 0), (.int .i64 0), (.int .i64 0), (.int .i64 0), (.int .i64 0)] [(0, 1)])), [.tmp 12], (some 13), none⟩,
  ⟨(.prim (.alloc [(.int .i8 0), (.int .i64 0), (.int .i64 0), (.int .i64 0), (.bool false), (.sl .clip []), (.int .i64 0), (.int .i64 0), (.int .i64 0), (.int .i64 0), (.int .i64 0), (.int .i64 0)])), [], (some 5), none⟩,
  ⟨(.prim (.store (some 12))), [.tmp 5, .tmp 13], none, none⟩] none)
 (.seq (.seq (.region [⟨(.prim .id), [.tmp 0], (some 14), none⟩,
  ⟨(.prim .len), [.tmp 14], (some 15), none⟩,
  ⟨(.prim (.bin .gtr .none)), [.tmp 15, .const (.int .i64 0)], (some 16), none⟩,
  ⟨(.prim .id), [.tmp 16], (some 17), none⟩,
  ⟨(.prim .id), [.tmp 0], (some 18), (some (17, true))⟩,
  ⟨(.prim (.idxSl none)), [.tmp 18, .const (.int .i64 0)], (some 19), (some (17, true))⟩,
  ⟨(.prim (.load none)), [.tmp 19], (some 20), (some (17, true))⟩,
  ⟨(.prim (.bin .gtr .none)), [.tmp 20, .const (.int .u8 127)], (some 21), (some (17, true))⟩,
  ⟨(.prim .pick), [.tmp 17, .tmp 21, .const (.bool false)], (some 22), none⟩] none)
 (.cond (.tmp 22)
  (.seq (.region [⟨(.prim (.build [(.int .i8 0), (.int .i64 0), (.int .i64 0), (.int .i64 0), (.bool false), (.sl .clip []), (.int .i64 0), (.int .i64 0), (.int .i64 0), (.int .i64 0), (.int .i64 0), (.int .i64 0)] [])), [], (some 23), none⟩,
   ⟨(.prim (.store (some 12))), [.tmp 2, .tmp 23], none, none⟩,
   ⟨(.prim .id), [.const (.int .i64 40)], (some 3), none⟩] none)
  .ret)
  .skip))
 (.seq (.seq (.region [⟨(.prim (.fieldAddr 0 none)), [.tmp 5], (some 24), none⟩,
  ⟨(.prim (.load none)), [.tmp 24], (some 25), none⟩,
  ⟨(.prim (.bin .eql .none)), [.tmp 25, .const (.int .i8 6)], (some 26), none⟩,
  ⟨(.prim .id), [.tmp 26], (some 27), none⟩,
  ⟨(.prim (.fieldAddr 0 none)), [.tmp 5], (some 28), (some (27, false))⟩,
  ⟨(.prim (.load none)), [.tmp 28], (some 29), (some (27, false))⟩,
  ⟨(.prim (.bin .eql .none)), [.tmp 29, .const (.int .i8 7)], (some 30), (some (27, false))⟩,
  ⟨(.prim .pick), [.tmp 27, .const (.bool true), .tmp 30], (some 31), none⟩] none)
 (.cond (.tmp 31)
  (.region [⟨(.prim .id), [.tmp 4], (some 32), none⟩,
   ⟨(.call 28), [.tmp 32], (some 33), none⟩,
   ⟨(.prim (.fieldAddr 11 none)), [.tmp 5], (some 34), none⟩,
   ⟨(.prim (.store none)), [.tmp 34, .tmp 33], none, none⟩] none)
  (.seq (.region [⟨(.prim .id), [.tmp 4], (some 35), none⟩,
   ⟨(.call 29), [.tmp 35], (some 36), none⟩,
   ⟨(.prim (.fieldAddr 1 (some 3))), [.tmp 5], (some 37), none⟩,
   ⟨(.prim (.store (some 3))), [.tmp 37, .tmp 36], none, none⟩] none)
  (.seq (.region [⟨(.prim (.fieldAddr 0 none)), [.tmp 5], (some 38), none⟩,
   ⟨(.prim (.load none)), [.tmp 38], (some 39), none⟩] none)
  (.block 0
   (.seq (.region [⟨(.prim (.bin .eql .none)), [.tmp 39, .const (.int .i8 1)], (some 41), none⟩,
    ⟨(.prim .id), [.tmp 41], (some 40), none⟩] none)
   (.cond (.tmp 40)
    (.region [⟨(.prim .id), [.tmp 4], (some 42), none⟩,
     ⟨(.call 30), [.tmp 42], (some 43), none⟩,
     ⟨(.prim (.fieldAddr 5 none)), [.tmp 5], (some 44), none⟩,
     ⟨(.prim (.store none)), [.tmp 44, .tmp 43], none, none⟩] none)
    (.seq (.region [⟨(.prim (.bin .eql .none)), [.tmp 39, .const (.int .i8 2)], (some 46), none⟩,
     ⟨(.prim .id), [.tmp 46], (some 45), none⟩] none)
    (.cond (.tmp 45)
     (.seq (.region [⟨(.prim .id), [.tmp 4], (some 47), none⟩,
      ⟨(.call 30), [.tmp 47], (some 48), none⟩,
      ⟨(.prim (.fieldAddr 5 none)), [.tmp 5], (some 49), none⟩,
      ⟨(.prim (.store none)), [.tmp 49, .tmp 48], none, none⟩] none)
     (.seq (.region [⟨(.prim .id), [.tmp 4], (some 50), none⟩,
      ⟨(.call 27), [.tmp 50], (some 51), none⟩,
      ⟨(.prim (.fieldAddr 6 none)), [.tmp 5], (some 52), none⟩,
      ⟨(.prim (.store none)), [.tmp 52, .tmp 51], none, none⟩] none)
     (.region [⟨(.prim .id), [.tmp 4], (some 53), none⟩,
      ⟨(.call 27), [.tmp 53], (some 54), none⟩,
      ⟨(.prim (.fieldAddr 7 none)), [.tmp 5], (some 55), none⟩,
      ⟨(.prim (.store none)), [.tmp 55, .tmp 54], none, none⟩] none)))
     (.seq (.region [⟨(.prim (.bin .eql .none)), [.tmp 39, .const (.int .i8 3)], (some 57), none⟩,
      ⟨(.prim .id), [.tmp 57], (some 56), none⟩] none)
     (.cond (.tmp 56)
      (.region [⟨(.prim .id), [.tmp 4], (some 58), none⟩,
       ⟨(.call 31), [.tmp 58], (some 59), none⟩,
       ⟨(.prim (.fieldAddr 4 none)), [.tmp 5], (some 60), none⟩,
       ⟨(.prim (.store none)), [.tmp 60, .tmp 59], none, none⟩] none)
      (.seq (.region [⟨(.prim (.bin .eql .none)), [.tmp 39, .const (.int .i8 4)], (some 62), none⟩,
       ⟨(.prim .id), [.tmp 62], (some 61), none⟩] none)
      (.cond (.tmp 61)
       (.seq (.region [⟨(.prim .id), [.tmp 4], (some 63), none⟩,
        ⟨(.call 27), [.tmp 63], (some 64), none⟩,
        ⟨(.prim (.fieldAddr 8 none)), [.tmp 5], (some 65), none⟩,
        ⟨(.prim (.store none)), [.tmp 65, .tmp 64], none, none⟩] none)
       (.seq (.region [⟨(.prim .id), [.tmp 4], (some 66), none⟩,
        ⟨(.call 27), [.tmp 66], (some 67), none⟩,
        ⟨(.prim (.bin .sub .none)), [.tmp 67, .const (.int .i64 1)], (some 68), none⟩,
        ⟨(.prim (.fieldAddr 9 (some 2))), [.tmp 5], (some 69), none⟩,
        ⟨(.prim (.fieldAddr 0 none)), [.tmp 69], (some 70), none⟩,
        ⟨(.prim (.store none)), [.tmp 70, .tmp 68], none, none⟩] none)
       (.region [⟨(.prim .id), [.tmp 4], (some 71), none⟩,
        ⟨(.call 27), [.tmp 71], (some 72), none⟩,
        ⟨(.prim (.fieldAddr 9 (some 2))), [.tmp 5], (some 73), none⟩,
        ⟨(.prim (.fieldAddr 1 none)), [.tmp 73], (some 74), none⟩,
        ⟨(.prim (.store none)), [.tmp 74, .tmp 72], none, none⟩] none)))
       .skip)))))))))))))
 (.seq (.seq (.region [⟨(.prim .id), [.tmp 4], (some 75), none⟩,
  ⟨(.prim .nilc), [.tmp 75], (some 76), none⟩,
  ⟨(.prim (.fieldAddr 2 none)), [.tmp 76], (some 77), none⟩,
  ⟨(.prim (.load none)), [.tmp 77], (some 78), none⟩,
  ⟨(.prim .id), [.tmp 78], (some 79), none⟩,
  ⟨(.prim .id), [.tmp 4], (some 80), (some (79, false))⟩,
  ⟨(.prim .nilc), [.tmp 80], (some 81), (some (79, false))⟩,
  ⟨(.prim (.fieldAddr 1 none)), [.tmp 81], (some 82), (some (79, false))⟩,
  ⟨(.prim (.load none)), [.tmp 82], (some 83), (some (79, false))⟩,
  ⟨(.prim .id), [.tmp 0], (some 84), (some (79, false))⟩,
  ⟨(.prim .len), [.tmp 84], (some 85), (some (79, false))⟩,
  ⟨(.prim (.bin .neq .none)), [.tmp 83, .tmp 85], (some 86), (some (79, false))⟩,
  ⟨(.prim .pick), [.tmp 79, .const (.bool true), .tmp 86], (some 87), none⟩,
  ⟨(.prim .id), [.tmp 87], (some 88), none⟩,
  ⟨(.prim (.load (some 12))), [.tmp 5], (some 89), (some (88, false))⟩,
  ⟨(.call 19), [.tmp 89], (some 90), (some (88, false))⟩,
  ⟨(.prim (.un .not)), [.tmp 90], (some 91), (some (88, false))⟩,
  ⟨(.prim .pick), [.tmp 88, .const (.bool true), .tmp 91], (some 92), none⟩] none)
 (.cond (.tmp 92)
  (.seq (.region [⟨(.prim (.build [(.int .i8 0), (.int .i64 0), (.int .i64 0), (.int .i64 0), (.bool false), (.sl .clip []), (.int .i64 0), (.int .i64 0), (.int .i64 0), (.int .i64 0), (.int .i64 0), (.int .i64 0)] [])), [], (some 93), none⟩,
   ⟨(.prim (.store (some 12))), [.tmp 2, .tmp 93], none, none⟩,
   ⟨(.prim .id), [.const (.int .i64 40)], (some 3), none⟩] none)
  .ret)
  .skip))
 (.seq (.region [⟨(.prim (.load (some 12))), [.tmp 5], (some 94), none⟩,
  ⟨(.prim (.store (some 12))), [.tmp 2, .tmp 94], none, none⟩,
  ⟨(.prim .id), [.const (.int .i64 0)], (some 3), none⟩] none)
 .ret)))))))
theorem F10 : IsFun Try.prog 10 1 95 c10 [.cell 2 (some 12), .tmp 3] := ⟨by decide, Try.f10, _, [], Try.func10, rfl, by decide, rfl, by kernel_rfl, by kernel_rfl⟩

/-- cashbox/record.Same -/
def c11 : ACode :=
 (.seq (.region [⟨(.prim (.box (some 12))), [.tmp 0], (some 2), none⟩,
  ⟨(.prim (.box (some 12))), [.tmp 1], (some 3), none⟩,
  ⟨(.prim .id), [.const (.bool false)], (some 4), none⟩] none)
 (.seq (.seq (.region [⟨(.prim (.fieldAddr 5 none)), [.tmp 2], (some 5), none⟩,
  ⟨(.prim (.load none)), [.tmp 5], (some 6), none⟩,
  ⟨(.prim (.fieldAddr 5 none)), [.tmp 3], (some 7), none⟩,
  ⟨(.prim (.load none)), [.tmp 7], (some 8), none⟩,
  ⟨(.call 32), [.tmp 6, .tmp 8], (some 9), none⟩,
  ⟨(.prim (.un .not)), [.tmp 9], (some 10), none⟩] none)
 (.cond (.tmp 10)
  (.seq (.region [⟨(.prim .id), [.const (.bool false)], (some 4), none⟩] none)
  .ret)
  .skip))
 (.seq (.region [⟨(.prim (.fieldAddr 5 none)), [.tmp 2], (some 11), none⟩,
  ⟨(.prim (.store none)), [.tmp 11, .const (.sl .clip [])], none, none⟩,
  ⟨(.prim (.fieldAddr 5 none)), [.tmp 3], (some 12), none⟩,
  ⟨(.prim (.store none)), [.tmp 12, .const (.sl .clip [])], none, none⟩] none)
 (.seq (.region [⟨(.prim (.fieldAddr 0 none)), [.tmp 2], (some 13), none⟩,
  ⟨(.prim (.load none)), [.tmp 13], (some 14), none⟩,
  ⟨(.prim (.fieldAddr 0 none)), [.tmp 3], (some 15), none⟩,
  ⟨(.prim (.load none)), [.tmp 15], (some 16), none⟩,
  ⟨(.prim (.bin .eql .none)), [.tmp 14, .tmp 16], (some 17), none⟩,
  ⟨(.prim .id), [.tmp 17], (some 18), none⟩,
  ⟨(.prim (.fieldAddr 1 (some 3))), [.tmp 2], (some 19), (some (18, true))⟩,
  ⟨(.prim (.load (some 3))), [.tmp 19], (some 20), (some (18, true))⟩,
  ⟨(.prim (.fieldAddr 1 (some 3))), [.tmp 3], (some 21), (some (18, true))⟩,
  ⟨(.prim (.load (some 3))), [.tmp 21], (some 22), (some (18, true))⟩,
  ⟨(.prim (.bin .eql (.flat [0, 0, 0]))), [.tmp 20, .tmp 22], (some 23), (some (18, true))⟩,
  ⟨(.prim .pick), [.tmp 18, .tmp 23, .const (.bool false)], (some 24), none⟩,
  ⟨(.prim .id), [.tmp 24], (some 25), none⟩,
  ⟨(.prim (.fieldAddr 4 none)), [.tmp 2], (some 26), (some (25, true))⟩,
  ⟨(.prim (.load none)), [.tmp 26], (some 27), (some (25, true))⟩,
  ⟨(.prim (.fieldAddr 4 none)), [.tmp 3], (some 28), (some (25, true))⟩,
  ⟨(.prim (.load none)), [.tmp 28], (some 29), (some (25, true))⟩,
  ⟨(.prim (.bin .eql .bool)), [.tmp 27, .tmp 29], (some 30), (some (25, true))⟩,
  ⟨(.prim .pick), [.tmp 25, .tmp 30, .const (.bool false)], (some 31), none⟩,
  ⟨(.prim .id), [.tmp 31], (some 32), none⟩,
  ⟨(.prim (.fieldAddr 6 none)), [.tmp 2], (some 33), (some (32, true))⟩,
  ⟨(.prim (.load none)), [.tmp 33], (some 34), (some (32, true))⟩,
  ⟨(.prim (.fieldAddr 6 none)), [.tmp 3], (some 35), (some (32, true))⟩,
  ⟨(.prim (.load none)), [.tmp 35], (some 36), (some (32, true))⟩,
  ⟨(.prim (.bin .eql .none)), [.tmp 34, .tmp 36], (some 37), (some (32, true))⟩,
  ⟨(.prim .pick), [.tmp 32, .tmp 37, .const (.bool false)], (some 38), none⟩,
  ⟨(.prim .id), [.tmp 38], (some 39), none⟩,
  ⟨(.prim (.fieldAddr 7 none)), [.tmp 2], (some 40), (some (39, true))⟩,
  ⟨(.prim (.load none)), [.tmp 40], (some 41), (some (39, true))⟩,
  ⟨(.prim (.fieldAddr 7 none)), [.tmp 3], (some 42), (some (39, true))⟩,
  ⟨(.prim (.load none)), [.tmp 42], (some 43), (some (39, true))⟩,
  ⟨(.prim (.bin .eql .none)), [.tmp 41, .tmp 43], (some 44), (some (39, true))⟩,
  ⟨(.prim .pick), [.tmp 39, .tmp 44, .const (.bool false)], (some 45), none⟩,
  ⟨(.prim .id), [.tmp 45], (some 46), none⟩,
  ⟨(.prim (.fieldAddr 8 none)), [.tmp 2], (some 47), (some (46, true))⟩,
  ⟨(.prim (.load none)), [.tmp 47], (some 48), (some (46, true))⟩,
  ⟨(.prim (.fieldAddr 8 none)), [.tmp 3], (some 49), (some (46, true))⟩,
  ⟨(.prim (.load none)), [.tmp 49], (some 50), (some (46, true))⟩,
  ⟨(.prim (.bin .eql .none)), [.tmp 48, .tmp 50], (some 51), (some (46, true))⟩,
  ⟨(.prim .pick), [.tmp 46, .tmp 51, .const (.bool false)], (some 52), none⟩,
  ⟨(.prim .id), [.tmp 52], (some 53), none⟩,
  ⟨(.prim (.fieldAddr 9 (some 2))), [.tmp 2], (some 54), (some (53, true))⟩,
  ⟨(.prim (.load (some 2))), [.tmp 54], (some 55), (some (53, true))⟩,
  ⟨(.prim (.fieldAddr 9 (some 2))), [.tmp 3], (some 56), (some (53, true))⟩,
  ⟨(.prim (.load (some 2))), [.tmp 56], (some 57), (some (53, true))⟩,
  ⟨(.prim (.bin .eql (.flat [0, 0]))), [.tmp 55, .tmp 57], (some 58), (some (53, true))⟩,
  ⟨(.prim .pick), [.tmp 53, .tmp 58, .const (.bool false)], (some 59), none⟩,
  ⟨(.prim .id), [.tmp 59], (some 60), none⟩,
  ⟨(.prim (.fieldAddr 11 none)), [.tmp 2], (some 61), (some (60, true))⟩,
  ⟨(.prim (.load none)), [.tmp 61], (some 62), (some (60, true))⟩,
  ⟨(.prim (.fieldAddr 11 none)), [.tmp 3], (some 63), (some (60, true))⟩,
  ⟨(.prim (.load none)), [.tmp 63], (some 64), (some (60, true))⟩,
  ⟨(.prim (.bin .eql .none)), [.tmp 62, .tmp 64], (some 65), (some (60, true))⟩,
  ⟨(.prim .pick), [.tmp 60, .tmp 65, .const (.bool false)], (some 66), none⟩,
  ⟨(.prim .id), [.tmp 66], (some 4), none⟩] none)
 .ret))))
theorem F11 : IsFun Try.prog 11 2 67 c11 [.tmp 4] := ⟨by decide, Try.f11, _, [], Try.func11, rfl, by decide, rfl, by kernel_rfl, by kernel_rfl⟩

/-- cashbox/cashboxref07.Great -/
def c12 : ACode :=
 (.seq (.region [⟨(.prim (.boxR (some 12))), [.tmp 0], (some 1), none⟩,
  ⟨(.prim .id), [.const (.bool false)], (some 2), none⟩] none)
 (.seq (.region [⟨(.prim (.fieldAddr 5 none)), [.tmp 1], (some 3), none⟩,
  ⟨(.prim (.load none)), [.tmp 3], (some 4), none⟩,
  ⟨(.prim .len), [.tmp 4], (some 5), none⟩,
  ⟨(.prim (.bin .gtr .none)), [.tmp 5, .const (.int .i64 40)], (some 6), none⟩,
  ⟨(.prim .id), [.tmp 6], (some 2), none⟩] none)
 .ret))
theorem F12 : IsFun Try.prog 12 1 7 c12 [.tmp 2] := ⟨by decide, Try.f12, _, [1], Try.func12, rfl, by decide, rfl, by kernel_rfl, by kernel_rfl⟩

/-- cashbox/record.Bytes -/
def c13 : ACode :=
 (.seq (.region [⟨(.prim (.box (some 12))), [.tmp 0], (some 1), none⟩,
  ⟨(.prim .id), [.const (.sl .clip [])], (some 2), none⟩,
  ⟨(.prim .id), [.const (.int .i64 0)], (some 3), none⟩] none)
 (.seq (.seq (.region [⟨(.prim (.load (some 12))), [.tmp 1], (some 4), none⟩,
  ⟨(.call 14), [.tmp 4], (some 5), none⟩,
  ⟨(.prim (.un .not)), [.tmp 5], (some 6), none⟩] none)
 (.cond (.tmp 6)
  (.seq (.region [⟨(.prim .id), [.const (.sl .clip [])], (some 2), none⟩,
   ⟨(.prim .id), [.const (.int .i64 2)], (some 3), none⟩] none)
  .ret)
  .skip))
 (.seq (.region [⟨(.prim (.fieldAddr 0 none)), [.tmp 1], (some 7), none⟩,
  ⟨(.prim (.load none)), [.tmp 7], (some 8), none⟩,
  ⟨(.prim (.conv .u8)), [.tmp 8], (some 9), none⟩,
  ⟨(.prim (.buildSl none)), [.tmp 9], (some 10), none⟩,
  ⟨(.prim (.fieldAddr 0 none)), [.tmp 1], (some 11), none⟩,
  ⟨(.prim (.load none)), [.tmp 11], (some 12), none⟩,
  ⟨(.call 26), [.tmp 12], (some 13), none⟩,
  ⟨(.call 33), [.tmp 13, .tmp 1], (some 14), none⟩,
  ⟨(.prim (.append none)), [.tmp 10, .tmp 14], (some 15), none⟩,
  ⟨(.prim .id), [.tmp 15], (some 2), none⟩,
  ⟨(.prim .id), [.const (.int .i64 0)], (some 3), none⟩] (some [[], [0], [1], [2], [], [4], [5], [6, 6], [3, 7, 7], [8, 8, 0, 1, 2, 3, 4, 5, 6, 7, 8], [9, 0, 1, 2, 3, 4, 5, 6, 7, 8, 9]]))
 .ret)))
theorem F13 : IsFun Try.prog 13 1 16 c13 [.tmp 2, .tmp 3] := ⟨by decide, Try.f13, _, [], Try.func13, rfl, by decide, rfl, by kernel_rfl, by kernel_rfl⟩

/-- cashbox/record.May -/
def c14 : ACode :=
 (.seq (.region [⟨(.prim (.box (some 12))), [.tmp 0], (some 1), none⟩,
  ⟨(.prim .id), [.const (.bool false)], (some 2), none⟩] none)
 (.seq (.region [⟨(.prim (.fieldAddr 0 none)), [.tmp 1], (some 5), none⟩,
  ⟨(.prim (.load none)), [.tmp 5], (some 6), none⟩,
  ⟨(.call 26), [.tmp 6], (some 7), none⟩,
  ⟨(.prim .id), [.tmp 7], (some 3), none⟩] none)
 (.seq (.seq (.region [⟨(.prim .id), [.tmp 3], (some 8), none⟩,
  ⟨(.prim (.bin .eql .ptr)), [.tmp 8, .const .nilp], (some 9), none⟩,
  ⟨(.prim .id), [.tmp 9], (some 10), none⟩,
  ⟨(.prim .id), [.tmp 3], (some 11), (some (10, false))⟩,
  ⟨(.prim .nilc), [.tmp 11], (some 12), (some (10, false))⟩,
  ⟨(.prim (.fieldAddr 2 none)), [.tmp 12], (some 13), (some (10, false))⟩,
  ⟨(.prim (.load none)), [.tmp 13], (some 14), (some (10, false))⟩,
  ⟨.callV, [.tmp 14, .tmp 1], (some 15), (some (10, false))⟩,
  ⟨(.prim (.un .not)), [.tmp 15], (some 16), (some (10, false))⟩,
  ⟨(.prim .pick), [.tmp 10, .const (.bool true), .tmp 16], (some 17), none⟩] none)
 (.cond (.tmp 17)
  (.seq (.region [⟨(.prim .id), [.const (.bool false)], (some 2), none⟩] none)
  .ret)
  .skip))
 (.seq (.region [⟨(.prim (.fieldAddr 0 none)), [.tmp 1], (some 18), none⟩,
  ⟨(.prim (.load none)), [.tmp 18], (some 19), none⟩,
  ⟨(.prim (.build [(.int .i8 0), (.int .i64 0), (.int .i64 0), (.int .i64 0), (.bool false), (.sl .clip []), (.int .i64 0), (.int .i64 0), (.int .i64 0), (.int .i64 0), (.int .i64 0), (.int .i64 0)] [(0, 1)])), [.tmp 19], (some 20), none⟩,
  ⟨(.prim (.alloc [(.int .i8 0), (.int .i64 0), (.int .i64 0), (.int .i64 0), (.bool false), (.sl .clip []), (.int .i64 0), (.int .i64 0), (.int .i64 0), (.int .i64 0), (.int .i64 0), (.int .i64 0)])), [], (some 4), none⟩,
  ⟨(.prim (.store (some 12))), [.tmp 4, .tmp 20], none, none⟩] none)
 (.seq (.region [⟨(.prim .id), [.tmp 3], (some 21), none⟩,
  ⟨(.prim .nilc), [.tmp 21], (some 22), none⟩,
  ⟨(.prim (.fieldAddr 1 none)), [.tmp 22], (some 23), none⟩,
  ⟨(.prim (.load none)), [.tmp 23], (some 24), none⟩,
  ⟨(.prim .id), [.tmp 3], (some 25), none⟩,
  ⟨(.call 33), [.tmp 25, .tmp 1], (some 26), none⟩,
  ⟨(.prim (.build [(.sl .clip []), (.bool false)] [(0, 1)])), [.tmp 26], (some 27), none⟩,
  ⟨(.prim (.box (some 2))), [.tmp 27], (some 28), none⟩,
  ⟨.callV, [.tmp 24, .tmp 28, .tmp 4], (some 29), none⟩] (some [[], [0], [1], [2], [], [4], [5], [6], [3, 7, 5]]))
 (.seq (.region [⟨(.prim (.load (some 12))), [.tmp 1], (some 30), none⟩,
  ⟨(.prim (.load (some 12))), [.tmp 4], (some 31), none⟩,
  ⟨(.call 11), [.tmp 30, .tmp 31], (some 32), none⟩,
  ⟨(.prim .id), [.tmp 32], (some 2), none⟩] none)
 .ret))))))
theorem F14 : IsFun Try.prog 14 1 33 c14 [.tmp 2] := ⟨by decide, Try.f14, _, [], Try.func14, rfl, by decide, rfl, by kernel_rfl, by kernel_rfl⟩

/-- cashbox/record.Sectors -/
def c15 : ACode :=
 (.seq (.region [⟨(.prim (.boxR (some 12))), [.tmp 0], (some 1), none⟩,
  ⟨(.prim .id), [.const (.int .i64 0)], (some 2), none⟩,
  ⟨(.prim .id), [.const (.int .i64 0)], (some 3), none⟩] none)
 (.seq (.region [⟨(.prim (.load (some 12))), [.tmp 1], (some 7), none⟩,
  ⟨(.call 13), [.tmp 7], (some 8), none⟩,
  ⟨(.prim .id), [.tmp 8], (some 6), none⟩,
  ⟨(.prim (.extract 0)), [.tmp 6], (some 9), none⟩,
  ⟨(.prim (.extract 1)), [.tmp 6], (some 10), none⟩,
  ⟨(.prim .id), [.tmp 9], (some 4), none⟩,
  ⟨(.prim .id), [.tmp 10], (some 5), none⟩] none)
 (.seq (.region [⟨(.prim .id), [.tmp 4], (some 11), none⟩,
  ⟨(.prim .len), [.tmp 11], (some 12), none⟩,
  ⟨(.prim (.bin .add .none)), [.tmp 12, .const (.int .i64 45)], (some 13), none⟩,
  ⟨(.prim (.bin .sub .none)), [.tmp 13, .const (.int .i64 1)], (some 14), none⟩,
  ⟨(.prim (.bin .quo .none)), [.tmp 14, .const (.int .i64 45)], (some 15), none⟩,
  ⟨(.prim .id), [.tmp 5], (some 16), none⟩,
  ⟨(.prim .id), [.tmp 15], (some 2), none⟩,
  ⟨(.prim .id), [.tmp 16], (some 3), none⟩] none)
 .ret)))
theorem F15 : IsFun Try.prog 15 1 17 c15 [.tmp 2, .tmp 3] := ⟨by decide, Try.f15, _, [1], Try.func15, rfl, by decide, rfl, by kernel_rfl, by kernel_rfl⟩

/-- cashbox/record.Less -/
def c16 : ACode :=
 (.seq (.region [⟨(.prim (.boxR (some 3))), [.tmp 0], (some 2), none⟩,
  ⟨(.prim (.boxR (some 3))), [.tmp 1], (some 3), none⟩,
  ⟨(.prim .id), [.const (.bool false)], (some 4), none⟩] none)
 (.seq (.region [⟨(.prim (.fieldAddr 0 none)), [.tmp 2], (some 5), none⟩,
  ⟨(.prim (.load none)), [.tmp 5], (some 6), none⟩,
  ⟨(.prim (.fieldAddr 0 none)), [.tmp 3], (some 7), none⟩,
  ⟨(.prim (.load none)), [.tmp 7], (some 8), none⟩,
  ⟨(.call 35), [.tmp 6, .tmp 8], (some 9), none⟩,
  ⟨(.prim (.fieldAddr 1 none)), [.tmp 2], (some 10), none⟩,
  ⟨(.prim (.load none)), [.tmp 10], (some 11), none⟩,
  ⟨(.prim (.fieldAddr 1 none)), [.tmp 3], (some 12), none⟩,
  ⟨(.prim (.load none)), [.tmp 12], (some 13), none⟩,
  ⟨(.call 35), [.tmp 11, .tmp 13], (some 14), none⟩,
  ⟨(.prim (.fieldAddr 2 none)), [.tmp 2], (some 15), none⟩,
  ⟨(.prim (.load none)), [.tmp 15], (some 16), none⟩,
  ⟨(.prim (.fieldAddr 2 none)), [.tmp 3], (some 17), none⟩,
  ⟨(.prim (.load none)), [.tmp 17], (some 18), none⟩,
  ⟨(.call 35), [.tmp 16, .tmp 18], (some 19), none⟩,
  ⟨(.prim (.buildSl none)), [.tmp 9, .tmp 14, .tmp 19], (some 20), none⟩,
  ⟨(.call 34), [.tmp 20], (some 21), none⟩,
  ⟨(.prim (.bin .lss .none)), [.tmp 21, .const (.int .i64 0)], (some 22), none⟩,
  ⟨(.prim .id), [.tmp 22], (some 4), none⟩] (some [[], [0], [], [2], [1, 3], [], [5], [], [7], [6, 8, 4], [], [10], [], [12], [11, 13, 9], [4, 9, 14], [15, 14], [16], [17, 16, 0, 1, 2, 3, 4, 5, 6, 7, 8, 9, 10, 11, 12, 13, 14, 15, 16, 17]]))
 .ret))
theorem F16 : IsFun Try.prog 16 2 23 c16 [.tmp 4] := ⟨by decide, Try.f16, _, [2, 3], Try.func16, rfl, by decide, rfl, by kernel_rfl, by kernel_rfl⟩

/-- cashbox/cashboxref07.Bytes -/
def c17 : ACode :=
 (.seq (.region [⟨(.prim (.boxR (some 12))), [.tmp 0], (some 1), none⟩,
  ⟨(.prim .id), [.const (.sl .clip [])], (some 2), none⟩,
  ⟨(.prim .id), [.const (.int .i64 0)], (some 3), none⟩] none)
 (.seq (.seq (.region [⟨(.prim (.load (some 12))), [.tmp 1], (some 5), none⟩,
  ⟨(.call 19), [.tmp 5], (some 6), none⟩,
  ⟨(.prim (.un .not)), [.tmp 6], (some 7), none⟩] none)
 (.cond (.tmp 7)
  (.seq (.region [⟨(.prim .id), [.const (.sl .clip [])], (some 2), none⟩,
   ⟨(.prim .id), [.const (.int .i64 2)], (some 3), none⟩] none)
  .ret)
  .skip))
 (.seq (.region [⟨(.prim (.fieldAddr 0 none)), [.tmp 1], (some 8), none⟩,
  ⟨(.prim (.load none)), [.tmp 8], (some 9), none⟩,
  ⟨(.prim (.conv .u8)), [.tmp 9], (some 10), none⟩,
  ⟨(.prim (.buildSl none)), [.tmp 10], (some 11), none⟩,
  ⟨(.prim .id), [.tmp 11], (some 4), none⟩] none)
 (.seq (.seq (.region [⟨(.prim (.fieldAddr 0 none)), [.tmp 1], (some 12), none⟩,
  ⟨(.prim (.load none)), [.tmp 12], (some 13), none⟩,
  ⟨(.prim (.bin .eql .none)), [.tmp 13, .const (.int .i8 6)], (some 14), none⟩,
  ⟨(.prim .id), [.tmp 14], (some 15), none⟩,
  ⟨(.prim (.fieldAddr 0 none)), [.tmp 1], (some 16), (some (15, false))⟩,
  ⟨(.prim (.load none)), [.tmp 16], (some 17), (some (15, false))⟩,
  ⟨(.prim (.bin .eql .none)), [.tmp 17, .const (.int .i8 7)], (some 18), (some (15, false))⟩,
  ⟨(.prim .pick), [.tmp 15, .const (.bool true), .tmp 18], (some 19), none⟩] none)
 (.cond (.tmp 19)
  (.seq (.region [⟨(.prim .id), [.tmp 4], (some 20), none⟩,
   ⟨(.prim (.fieldAddr 11 none)), [.tmp 1], (some 21), none⟩,
   ⟨(.prim (.load none)), [.tmp 21], (some 22), none⟩,
   ⟨(.call 36), [.tmp 20, .tmp 22], (some 23), none⟩,
   ⟨(.prim .id), [.tmp 23], (some 2), none⟩,
   ⟨(.prim .id), [.const (.int .i64 0)], (some 3), none⟩] none)
  .ret)
  .skip))
 (.seq (.region [⟨(.prim .id), [.tmp 4], (some 24), none⟩,
  ⟨(.prim (.fieldAddr 1 (some 3))), [.tmp 1], (some 25), none⟩,
  ⟨(.prim (.load (some 3))), [.tmp 25], (some 26), none⟩,
  ⟨(.call 37), [.tmp 24, .tmp 26], (some 27), none⟩,
  ⟨(.prim .id), [.tmp 27], (some 4), none⟩] none)
 (.seq (.seq (.region [⟨(.prim (.fieldAddr 0 none)), [.tmp 1], (some 28), none⟩,
  ⟨(.prim (.load none)), [.tmp 28], (some 29), none⟩] none)
 (.block 0
  (.seq (.region [⟨(.prim (.bin .eql .none)), [.tmp 29, .const (.int .i8 1)], (some 31), none⟩,
   ⟨(.prim .id), [.tmp 31], (some 30), none⟩] none)
  (.cond (.tmp 30)
   (.region [⟨(.prim .id), [.tmp 4], (some 32), none⟩,
    ⟨(.prim (.fieldAddr 5 none)), [.tmp 1], (some 33), none⟩,
    ⟨(.prim (.load none)), [.tmp 33], (some 34), none⟩,
    ⟨(.call 38), [.tmp 32, .tmp 34], (some 35), none⟩,
    ⟨(.prim .id), [.tmp 35], (some 4), none⟩] none)
   (.seq (.region [⟨(.prim (.bin .eql .none)), [.tmp 29, .const (.int .i8 2)], (some 37), none⟩,
    ⟨(.prim .id), [.tmp 37], (some 36), none⟩] none)
   (.cond (.tmp 36)
    (.seq (.region [⟨(.prim .id), [.tmp 4], (some 38), none⟩,
     ⟨(.prim (.fieldAddr 5 none)), [.tmp 1], (some 39), none⟩,
     ⟨(.prim (.load none)), [.tmp 39], (some 40), none⟩,
     ⟨(.call 38), [.tmp 38, .tmp 40], (some 41), none⟩,
     ⟨(.prim .id), [.tmp 41], (some 4), none⟩] none)
    (.region [⟨(.prim .id), [.tmp 4], (some 42), none⟩,
     ⟨(.prim (.fieldAddr 6 none)), [.tmp 1], (some 43), none⟩,
     ⟨(.prim (.load none)), [.tmp 43], (some 44), none⟩,
     ⟨(.prim (.conv .u8)), [.tmp 44], (some 45), none⟩,
     ⟨(.prim (.fieldAddr 7 none)), [.tmp 1], (some 46), none⟩,
     ⟨(.prim (.load none)), [.tmp 46], (some 47), none⟩,
     ⟨(.prim (.conv .u8)), [.tmp 47], (some 48), none⟩,
     ⟨(.prim (.buildSl none)), [.tmp 45, .tmp 48], (some 49), none⟩,
     ⟨(.prim (.append none)), [.tmp 42, .tmp 49], (some 50), none⟩,
     ⟨(.prim .id), [.tmp 50], (some 4), none⟩] none))
    (.seq (.region [⟨(.prim (.bin .eql .none)), [.tmp 29, .const (.int .i8 3)], (some 52), none⟩,
     ⟨(.prim .id), [.tmp 52], (some 51), none⟩] none)
    (.cond (.tmp 51)
     (.region [⟨(.prim .id), [.tmp 4], (some 53), none⟩,
      ⟨(.prim (.fieldAddr 4 none)), [.tmp 1], (some 54), none⟩,
      ⟨(.prim (.load none)), [.tmp 54], (some 55), none⟩,
      ⟨(.call 39), [.tmp 55], (some 56), none⟩,
      ⟨(.prim (.buildSl none)), [.tmp 56], (some 57), none⟩,
      ⟨(.prim (.append none)), [.tmp 53, .tmp 57], (some 58), none⟩,
      ⟨(.prim .id), [.tmp 58], (some 4), none⟩] none)
     (.seq (.region [⟨(.prim (.bin .eql .none)), [.tmp 29, .const (.int .i8 4)], (some 60), none⟩,
      ⟨(.prim .id), [.tmp 60], (some 59), none⟩] none)
     (.cond (.tmp 59)
      (.region [⟨(.prim .id), [.tmp 4], (some 61), none⟩,
       ⟨(.prim (.fieldAddr 8 none)), [.tmp 1], (some 62), none⟩,
       ⟨(.prim (.load none)), [.tmp 62], (some 63), none⟩,
       ⟨(.prim (.conv .u8)), [.tmp 63], (some 64), none⟩,
       ⟨(.prim (.fieldAddr 9 (some 2))), [.tmp 1], (some 65), none⟩,
       ⟨(.prim (.fieldAddr 0 none)), [.tmp 65], (some 66), none⟩,
       ⟨(.prim (.load none)), [.tmp 66], (some 67), none⟩,
       ⟨(.prim (.bin .add .none)), [.tmp 67, .const (.int .i64 1)], (some 68), none⟩,
       ⟨(.prim (.conv .u8)), [.tmp 68], (some 69), none⟩,
       ⟨(.prim (.fieldAddr 9 (some 2))), [.tmp 1], (some 70), none⟩,
       ⟨(.prim (.fieldAddr 1 none)), [.tmp 70], (some 71), none⟩,
       ⟨(.prim (.load none)), [.tmp 71], (some 72), none⟩,
       ⟨(.prim (.conv .u8)), [.tmp 72], (some 73), none⟩,
       ⟨(.prim (.buildSl none)), [.tmp 64, .tmp 69, .tmp 73], (some 74), none⟩,
       ⟨(.prim (.append none)), [.tmp 61, .tmp 74], (some 75), none⟩,
       ⟨(.prim .id), [.tmp 75], (some 4), none⟩] none)
      .skip))))))))))
 (.seq (.region [⟨(.prim .id), [.tmp 4], (some 76), none⟩,
  ⟨(.prim .id), [.tmp 76], (some 2), none⟩,
  ⟨(.prim .id), [.const (.int .i64 0)], (some 3), none⟩] none)
 .ret)))))))
theorem F17 : IsFun Try.prog 17 1 77 c17 [.tmp 2, .tmp 3] := ⟨by decide, Try.f17, _, [1], Try.func17, rfl, by decide, rfl, by kernel_rfl, by kernel_rfl⟩

/-- cashbox/cashboxref07.Sectors -/
def c18 : ACode :=
 (.seq (.region [⟨(.prim (.boxR (some 12))), [.tmp 0], (some 1), none⟩,
  ⟨(.prim .id), [.const (.int .i64 0)], (some 2), none⟩,
  ⟨(.prim .id), [.const (.int .i64 0)], (some 3), none⟩] none)
 (.seq (.region [⟨(.prim (.load (some 12))), [.tmp 1], (some 7), none⟩,
  ⟨(.call 17), [.tmp 7], (some 8), none⟩,
  ⟨(.prim .id), [.tmp 8], (some 6), none⟩,
  ⟨(.prim (.extract 0)), [.tmp 6], (some 9), none⟩,
  ⟨(.prim (.extract 1)), [.tmp 6], (some 10), none⟩,
  ⟨(.prim .id), [.tmp 9], (some 4), none⟩,
  ⟨(.prim .id), [.tmp 10], (some 5), none⟩] none)
 (.seq (.seq (.region [⟨(.prim .id), [.tmp 5], (some 11), none⟩,
  ⟨(.prim (.bin .neq .none)), [.tmp 11, .const (.int .i64 0)], (some 12), none⟩] none)
 (.cond (.tmp 12)
  (.seq (.region [⟨(.prim .id), [.tmp 5], (some 13), none⟩,
   ⟨(.prim .id), [.const (.int .i64 0)], (some 2), none⟩,
   ⟨(.prim .id), [.tmp 13], (some 3), none⟩] none)
  .ret)
  .skip))
 (.seq (.region [⟨(.prim .id), [.tmp 4], (some 14), none⟩,
  ⟨(.prim .len), [.tmp 14], (some 15), none⟩,
  ⟨(.prim (.bin .add .none)), [.tmp 15, .const (.int .i64 45)], (some 16), none⟩,
  ⟨(.prim (.bin .sub .none)), [.tmp 16, .const (.int .i64 1)], (some 17), none⟩,
  ⟨(.prim (.bin .quo .none)), [.tmp 17, .const (.int .i64 45)], (some 18), none⟩,
  ⟨(.prim .id), [.tmp 18], (some 2), none⟩,
  ⟨(.prim .id), [.const (.int .i64 0)], (some 3), none⟩] none)
 .ret))))
theorem F18 : IsFun Try.prog 18 1 19 c18 [.tmp 2, .tmp 3] := ⟨by decide, Try.f18, _, [1], Try.func18, rfl, by decide, rfl, by kernel_rfl, by kernel_rfl⟩

/-- cashbox/cashboxref07.May -/
def c19 : ACode :=
 (.seq (.region [⟨(.prim (.boxR (some 12))), [.tmp 0], (some 1), none⟩,
  ⟨(.prim .id), [.const (.bool false)], (some 2), none⟩] none)
 (.seq (.seq (.region [⟨(.prim (.fieldAddr 0 none)), [.tmp 1], (some 3), none⟩,
  ⟨(.prim (.load none)), [.tmp 3], (some 4), none⟩,
  ⟨(.prim (.bin .lss .none)), [.tmp 4, .const (.int .i8 1)], (some 5), none⟩,
  ⟨(.prim .id), [.tmp 5], (some 6), none⟩,
  ⟨(.prim (.fieldAddr 0 none)), [.tmp 1], (some 7), (some (6, false))⟩,
  ⟨(.prim (.load none)), [.tmp 7], (some 8), (some (6, false))⟩,
  ⟨(.prim (.bin .gtr .none)), [.tmp 8, .const (.int .i8 7)], (some 9), (some (6, false))⟩,
  ⟨(.prim .pick), [.tmp 6, .const (.bool true), .tmp 9], (some 10), none⟩,
  ⟨(.prim .id), [.tmp 10], (some 11), none⟩,
  ⟨(.prim (.load (some 12))), [.tmp 1], (some 12), (some (11, false))⟩,
  ⟨(.prim (.load (some 12))), [.tmp 1], (some 13), (some (11, false))⟩,
  ⟨(.call 40), [.tmp 13], (some 14), (some (11, false))⟩,
  ⟨(.call 24), [.tmp 12, .tmp 14], (some 15), (some (11, false))⟩,
  ⟨(.prim (.un .not)), [.tmp 15], (some 16), (some (11, false))⟩,
  ⟨(.prim .pick), [.tmp 11, .const (.bool true), .tmp 16], (some 17), none⟩] (some [[], [0], [1], [2], [3], [4, 3], [5, 3], [3, 6], [7, 3], [8], [8], [10, 8, 8], [9, 11, 11, 8], [12, 8], [8, 13]]))
 (.cond (.tmp 17)
  (.seq (.region [⟨(.prim .id), [.const (.bool false)], (some 2), none⟩] none)
  .ret)
  .skip))
 (.seq (.seq (.region [⟨(.prim (.fieldAddr 0 none)), [.tmp 1], (some 18), none⟩,
  ⟨(.prim (.load none)), [.tmp 18], (some 19), none⟩] none)
 (.block 0
  (.seq (.region [⟨(.prim (.bin .eql .none)), [.tmp 19, .const (.int .i8 6)], (some 21), none⟩,
   ⟨(.prim .id), [.tmp 21], (some 20), none⟩] none)
  (.cond (.tmp 20)
   (.seq (.region [⟨(.prim (.fieldAddr 11 none)), [.tmp 1], (some 22), none⟩,
    ⟨(.prim (.load none)), [.tmp 22], (some 23), none⟩,
    ⟨(.prim (.bin .geq .none)), [.tmp 23, .const (.int .i64 1)], (some 24), none⟩,
    ⟨(.prim .id), [.tmp 24], (some 25), none⟩,
    ⟨(.prim (.fieldAddr 11 none)), [.tmp 1], (some 26), (some (25, true))⟩,
    ⟨(.prim (.load none)), [.tmp 26], (some 27), (some (25, true))⟩,
    ⟨(.prim (.bin .leq .none)), [.tmp 27, .const (.int .i64 1048577)], (some 28), (some (25, true))⟩,
    ⟨(.prim .pick), [.tmp 25, .tmp 28, .const (.bool false)], (some 29), none⟩,
    ⟨(.prim .id), [.tmp 29], (some 2), none⟩] none)
   .ret)
   (.seq (.region [⟨(.prim (.bin .eql .none)), [.tmp 19, .const (.int .i8 7)], (some 31), none⟩,
    ⟨(.prim .id), [.tmp 31], (some 30), none⟩] none)
   (.cond (.tmp 30)
    (.seq (.region [⟨(.prim (.fieldAddr 11 none)), [.tmp 1], (some 32), none⟩,
     ⟨(.prim (.load none)), [.tmp 32], (some 33), none⟩,
     ⟨(.prim (.bin .geq .none)), [.tmp 33, .const (.int .i64 1)], (some 34), none⟩,
     ⟨(.prim .id), [.tmp 34], (some 35), none⟩,
     ⟨(.prim (.fieldAddr 11 none)), [.tmp 1], (some 36), (some (35, true))⟩,
     ⟨(.prim (.load none)), [.tmp 36], (some 37), (some (35, true))⟩,
     ⟨(.prim (.bin .leq .none)), [.tmp 37, .const (.int .i64 1048576)], (some 38), (some (35, true))⟩,
     ⟨(.prim .pick), [.tmp 35, .tmp 38, .const (.bool false)], (some 39), none⟩,
     ⟨(.prim .id), [.tmp 39], (some 2), none⟩] none)
    .ret)
    .skip))))))
 (.seq (.seq (.region [⟨(.prim (.fieldAddr 1 (some 3))), [.tmp 1], (some 40), none⟩,
  ⟨(.prim (.load (some 3))), [.tmp 40], (some 41), none⟩,
  ⟨(.call 21), [.tmp 41], (some 42), none⟩,
  ⟨(.prim (.un .not)), [.tmp 42], (some 43), none⟩,
  ⟨(.prim .id), [.tmp 43], (some 44), none⟩,
  ⟨(.prim (.fieldAddr 5 none)), [.tmp 1], (some 45), (some (44, false))⟩,
  ⟨(.prim (.load none)), [.tmp 45], (some 46), (some (44, false))⟩,
  ⟨(.call 23), [.tmp 46], (some 47), (some (44, false))⟩,
  ⟨(.prim (.un .not)), [.tmp 47], (some 48), (some (44, false))⟩,
  ⟨(.prim .pick), [.tmp 44, .const (.bool true), .tmp 48], (some 49), none⟩,
  ⟨(.prim .id), [.tmp 49], (some 50), none⟩,
  ⟨(.prim (.fieldAddr 6 none)), [.tmp 1], (some 51), (some (50, false))⟩,
  ⟨(.prim (.load none)), [.tmp 51], (some 52), (some (50, false))⟩,
  ⟨(.prim (.fieldAddr 7 none)), [.tmp 1], (some 53), (some (50, false))⟩,
  ⟨(.prim (.load none)), [.tmp 53], (some 54), (some (50, false))⟩,
  ⟨(.call 41), [.tmp 52, .tmp 54], (some 55), (some (50, false))⟩,
  ⟨(.prim (.un .not)), [.tmp 55], (some 56), (some (50, false))⟩,
  ⟨(.prim .pick), [.tmp 50, .const (.bool true), .tmp 56], (some 57), none⟩] none)
 (.cond (.tmp 57)
  (.seq (.region [⟨(.prim .id), [.const (.bool false)], (some 2), none⟩] none)
  .ret)
  .skip))
 (.seq (.region [⟨(.prim (.fieldAddr 0 none)), [.tmp 1], (some 58), none⟩,
  ⟨(.prim (.load none)), [.tmp 58], (some 59), none⟩,
  ⟨(.prim (.bin .neq .none)), [.tmp 59, .const (.int .i8 4)], (some 60), none⟩,
  ⟨(.prim .id), [.tmp 60], (some 61), none⟩,
  ⟨(.prim (.fieldAddr 8 none)), [.tmp 1], (some 62), (some (61, false))⟩,
  ⟨(.prim (.load none)), [.tmp 62], (some 63), (some (61, false))⟩,
  ⟨(.call 42), [.tmp 63], (some 64), (some (61, false))⟩,
  ⟨(.prim .id), [.tmp 64], (some 65), (some (61, false))⟩,
  ⟨(.prim (.fieldAddr 9 (some 2))), [.tmp 1], (some 66), (some (65, true))⟩,
  ⟨(.prim (.load (some 2))), [.tmp 66], (some 67), (some (65, true))⟩,
  ⟨(.call 43), [.tmp 67], (some 68), (some (65, true))⟩,
  ⟨(.prim .pick), [.tmp 65, .tmp 68, .const (.bool false)], (some 69), (some (61, false))⟩,
  ⟨(.prim .pick), [.tmp 61, .const (.bool true), .tmp 69], (some 70), none⟩,
  ⟨(.prim .id), [.tmp 70], (some 2), none⟩] none)
 .ret)))))
theorem F19 : IsFun Try.prog 19 1 71 c19 [.tmp 2] := ⟨by decide, Try.f19, _, [1], Try.func19, rfl, by decide, rfl, by kernel_rfl, by kernel_rfl⟩

/-- cashbox/record.Named -/
def c20 : ACode :=
 (.seq (.region [⟨(.prim (.boxR (some 3))), [.tmp 0], (some 1), none⟩,
  ⟨(.prim .id), [.const (.bool false)], (some 2), none⟩] none)
 (.seq (.region [⟨(.prim (.fieldAddr 0 none)), [.tmp 1], (some 3), none⟩,
  ⟨(.prim (.load none)), [.tmp 3], (some 4), none⟩,
  ⟨(.call 44), [.tmp 4, .const (.int .i64 1), .const (.int .i64 1048576)], (some 5), none⟩,
  ⟨(.prim .id), [.tmp 5], (some 6), none⟩,
  ⟨(.prim (.fieldAddr 1 none)), [.tmp 1], (some 7), (some (6, true))⟩,
  ⟨(.prim (.load none)), [.tmp 7], (some 8), (some (6, true))⟩,
  ⟨(.call 44), [.tmp 8, .const (.int .i64 1), .const (.int .i64 1048576)], (some 9), (some (6, true))⟩,
  ⟨(.prim .pick), [.tmp 6, .tmp 9, .const (.bool false)], (some 10), none⟩,
  ⟨(.prim .id), [.tmp 10], (some 11), none⟩,
  ⟨(.prim (.fieldAddr 2 none)), [.tmp 1], (some 12), (some (11, true))⟩,
  ⟨(.prim (.load none)), [.tmp 12], (some 13), (some (11, true))⟩,
  ⟨(.call 44), [.tmp 13, .const (.int .i64 1), .const (.int .i64 1048576)], (some 14), (some (11, true))⟩,
  ⟨(.prim .pick), [.tmp 11, .tmp 14, .const (.bool false)], (some 15), none⟩,
  ⟨(.prim .id), [.tmp 15], (some 2), none⟩] none)
 .ret))
theorem F20 : IsFun Try.prog 20 1 16 c20 [.tmp 2] := ⟨by decide, Try.f20, _, [1], Try.func20, rfl, by decide, rfl, by kernel_rfl, by kernel_rfl⟩

/-- cashbox/cashboxref07.Named -/
def c21 : ACode :=
 (.seq (.region [⟨(.prim (.boxR (some 3))), [.tmp 0], (some 1), none⟩,
  ⟨(.prim .id), [.const (.bool false)], (some 2), none⟩] none)
 (.seq (.region [⟨(.prim (.fieldAddr 0 none)), [.tmp 1], (some 3), none⟩,
  ⟨(.prim (.load none)), [.tmp 3], (some 4), none⟩,
  ⟨(.prim (.bin .geq .none)), [.tmp 4, .const (.int .i64 1)], (some 5), none⟩,
  ⟨(.prim .id), [.tmp 5], (some 6), none⟩,
  ⟨(.prim (.fieldAddr 0 none)), [.tmp 1], (some 7), (some (6, true))⟩,
  ⟨(.prim (.load none)), [.tmp 7], (some 8), (some (6, true))⟩,
  ⟨(.prim (.bin .leq .none)), [.tmp 8, .const (.int .i64 1048576)], (some 9), (some (6, true))⟩,
  ⟨(.prim .pick), [.tmp 6, .tmp 9, .const (.bool false)], (some 10), none⟩,
  ⟨(.prim .id), [.tmp 10], (some 11), none⟩,
  ⟨(.prim (.fieldAddr 1 none)), [.tmp 1], (some 12), (some (11, true))⟩,
  ⟨(.prim (.load none)), [.tmp 12], (some 13), (some (11, true))⟩,
  ⟨(.prim (.bin .geq .none)), [.tmp 13, .const (.int .i64 1)], (some 14), (some (11, true))⟩,
  ⟨(.prim .pick), [.tmp 11, .tmp 14, .const (.bool false)], (some 15), none⟩,
  ⟨(.prim .id), [.tmp 15], (some 16), none⟩,
  ⟨(.prim (.fieldAddr 1 none)), [.tmp 1], (some 17), (some (16, true))⟩,
  ⟨(.prim (.load none)), [.tmp 17], (some 18), (some (16, true))⟩,
  ⟨(.prim (.bin .leq .none)), [.tmp 18, .const (.int .i64 1048576)], (some 19), (some (16, true))⟩,
  ⟨(.prim .pick), [.tmp 16, .tmp 19, .const (.bool false)], (some 20), none⟩,
  ⟨(.prim .id), [.tmp 20], (some 21), none⟩,
  ⟨(.prim (.fieldAddr 2 none)), [.tmp 1], (some 22), (some (21, true))⟩,
  ⟨(.prim (.load none)), [.tmp 22], (some 23), (some (21, true))⟩,
  ⟨(.prim (.bin .geq .none)), [.tmp 23, .const (.int .i64 1)], (some 24), (some (21, true))⟩,
  ⟨(.prim .pick), [.tmp 21, .tmp 24, .const (.bool false)], (some 25), none⟩,
  ⟨(.prim .id), [.tmp 25], (some 26), none⟩,
  ⟨(.prim (.fieldAddr 2 none)), [.tmp 1], (some 27), (some (26, true))⟩,
  ⟨(.prim (.load none)), [.tmp 27], (some 28), (some (26, true))⟩,
  ⟨(.prim (.bin .leq .none)), [.tmp 28, .const (.int .i64 1048576)], (some 29), (some (26, true))⟩,
  ⟨(.prim .pick), [.tmp 26, .tmp 29, .const (.bool false)], (some 30), none⟩,
  ⟨(.prim .id), [.tmp 30], (some 2), none⟩] none)
 .ret))
theorem F21 : IsFun Try.prog 21 1 31 c21 [.tmp 2] := ⟨by decide, Try.f21, _, [1], Try.func21, rfl, by decide, rfl, by kernel_rfl, by kernel_rfl⟩

-- loop: 0:l, 3:last, 6:, 7:, 8:
/-- cashbox/record.Written -/
def c22 : ACode :=
 (.seq (.region [⟨(.prim .id), [.const (.bool false)], (some 2), none⟩] none)
 (.seq (.region [⟨(.prim .id), [.const (.int .i64 (-1))], (some 3), none⟩] none)
 (.seq (.seq (.region [⟨(.prim .id), [.tmp 0], (some 6), none⟩,
  ⟨(.prim .len), [.tmp 6], (some 7), none⟩,
  ⟨(.prim .id), [.const (.int .i64 0)], (some 8), none⟩] none)
 (.block 0
  (.loop
   (.seq (.region [⟨(.prim (.bin .lss .none)), [.tmp 8, .tmp 7], (some 9), none⟩] none)
   (.seq (.cond (.tmp 9)
    .skip
    (.exit 0))
   (.seq (.block 1
    (.seq (.region [⟨(.prim (.idxSl (some 9))), [.tmp 6, .tmp 8], (some 10), none⟩,
     ⟨(.prim (.load (some 9))), [.tmp 10], (some 11), none⟩,
     ⟨(.prim (.alloc [(.int .i64 0), (.int .u8 0), (.int .u8 0), (.int .u8 0), (.int .u8 0), (.int .u8 0), (.int .u8 0), (.int .u8 0), (.int .u8 0)])), [], (some 5), none⟩,
     ⟨(.prim (.store (some 9))), [.tmp 5, .tmp 11], none, none⟩] none)
    (.seq (.seq (.region [⟨(.prim (.fieldAddr 0 none)), [.tmp 5], (some 12), none⟩,
     ⟨(.prim (.load none)), [.tmp 12], (some 13), none⟩,
     ⟨(.prim .id), [.tmp 3], (some 14), none⟩,
     ⟨(.prim (.bin .leq .none)), [.tmp 13, .tmp 14], (some 15), none⟩,
     ⟨(.prim .id), [.tmp 15], (some 16), none⟩,
     ⟨(.prim (.fieldAddr 0 none)), [.tmp 5], (some 17), (some (16, false))⟩,
     ⟨(.prim (.load none)), [.tmp 17], (some 18), (some (16, false))⟩,
     ⟨(.prim (.bin .geq .none)), [.tmp 18, .const (.int .i64 32)], (some 19), (some (16, false))⟩,
     ⟨(.prim .pick), [.tmp 16, .const (.bool true), .tmp 19], (some 20), none⟩] none)
    (.cond (.tmp 20)
     (.seq (.region [⟨(.prim .id), [.const (.bool false)], (some 2), none⟩] none)
     .ret)
     .skip))
    (.region [⟨(.prim (.fieldAddr 0 none)), [.tmp 5], (some 21), none⟩,
     ⟨(.prim (.load none)), [.tmp 21], (some 22), none⟩,
     ⟨(.prim .id), [.tmp 22], (some 3), none⟩] none))))
   (.region [⟨(.prim (.bin .add .none)), [.tmp 8, .const (.int .i64 1)], (some 23), none⟩,
    ⟨(.prim .id), [.tmp 23], (some 8), none⟩] none)))))))
 (.seq (.region [⟨(.prim .id), [.tmp 0], (some 24), none⟩,
  ⟨(.prim .len), [.tmp 24], (some 25), none⟩,
  ⟨(.prim (.bin .leq .none)), [.tmp 25, .const (.int .i64 8)], (some 26), none⟩,
  ⟨(.prim .id), [.tmp 26], (some 2), none⟩] none)
 .ret))))
theorem F22 : IsFun Try.prog 22 1 27 c22 [.tmp 2] := ⟨by decide, Try.f22, _, [], Try.func22, rfl, by decide, rfl, by kernel_rfl, by kernel_rfl⟩

-- loop: 0:l, 3:i
/-- cashbox/cashboxref07.Written -/
def c23 : ACode :=
 (.seq (.region [⟨(.prim .id), [.const (.bool false)], (some 2), none⟩] none)
 (.seq (.seq (.region [⟨(.prim .id), [.tmp 0], (some 4), none⟩,
  ⟨(.prim .len), [.tmp 4], (some 5), none⟩,
  ⟨(.prim (.bin .gtr .none)), [.tmp 5, .const (.int .i64 8)], (some 6), none⟩] none)
 (.cond (.tmp 6)
  (.seq (.region [⟨(.prim .id), [.const (.bool false)], (some 2), none⟩] none)
  .ret)
  .skip))
 (.seq (.seq (.region [⟨(.prim .id), [.const (.int .i64 0)], (some 3), none⟩] none)
 (.block 0
  (.loop
   (.seq (.seq (.region [⟨(.prim .id), [.tmp 3], (some 7), none⟩,
    ⟨(.prim .id), [.tmp 0], (some 8), none⟩,
    ⟨(.prim .len), [.tmp 8], (some 9), none⟩,
    ⟨(.prim (.bin .lss .none)), [.tmp 7, .tmp 9], (some 10), none⟩] none)
   (.cond (.tmp 10)
    .skip
    (.exit 0)))
   (.seq (.block 1
    (.seq (.region [⟨(.prim .id), [.tmp 0], (some 13), none⟩,
     ⟨(.prim .id), [.tmp 3], (some 14), none⟩,
     ⟨(.prim (.idxSl (some 9))), [.tmp 13, .tmp 14], (some 15), none⟩,
     ⟨(.prim (.fieldAddr 0 none)), [.tmp 15], (some 16), none⟩,
     ⟨(.prim (.load none)), [.tmp 16], (some 17), none⟩,
     ⟨(.prim (.bin .lss .none)), [.tmp 17, .const (.int .i64 0)], (some 18), none⟩,
     ⟨(.prim .id), [.tmp 18], (some 19), none⟩,
     ⟨(.prim .id), [.tmp 0], (some 20), (some (19, false))⟩,
     ⟨(.prim .id), [.tmp 3], (some 21), (some (19, false))⟩,
     ⟨(.prim (.idxSl (some 9))), [.tmp 20, .tmp 21], (some 22), (some (19, false))⟩,
     ⟨(.prim (.fieldAddr 0 none)), [.tmp 22], (some 23), (some (19, false))⟩,
     ⟨(.prim (.load none)), [.tmp 23], (some 24), (some (19, false))⟩,
     ⟨(.prim (.bin .geq .none)), [.tmp 24, .const (.int .i64 32)], (some 25), (some (19, false))⟩,
     ⟨(.prim .pick), [.tmp 19, .const (.bool true), .tmp 25], (some 26), none⟩,
     ⟨(.prim .id), [.tmp 26], (some 27), none⟩,
     ⟨(.prim .id), [.tmp 3], (some 28), (some (27, false))⟩,
     ⟨(.prim (.bin .gtr .none)), [.tmp 28, .const (.int .i64 0)], (some 29), (some (27, false))⟩,
     ⟨(.prim .id), [.tmp 29], (some 30), (some (27, false))⟩,
     ⟨(.prim .id), [.tmp 0], (some 31), (some (30, true))⟩,
     ⟨(.prim .id), [.tmp 3], (some 32), (some (30, true))⟩,
     ⟨(.prim (.idxSl (some 9))), [.tmp 31, .tmp 32], (some 33), (some (30, true))⟩,
     ⟨(.prim (.fieldAddr 0 none)), [.tmp 33], (some 34), (some (30, true))⟩,
     ⟨(.prim (.load none)), [.tmp 34], (some 35), (some (30, true))⟩,
     ⟨(.prim .id), [.tmp 0], (some 36), (some (30, true))⟩,
     ⟨(.prim .id), [.tmp 3], (some 37), (some (30, true))⟩,
     ⟨(.prim (.bin .sub .none)), [.tmp 37, .const (.int .i64 1)], (some 38), (some (30, true))⟩,
     ⟨(.prim (.idxSl (some 9))), [.tmp 36, .tmp 38], (some 39), (some (30, true))⟩,
     ⟨(.prim (.fieldAddr 0 none)), [.tmp 39], (some 40), (some (30, true))⟩,
     ⟨(.prim (.load none)), [.tmp 40], (some 41), (some (30, true))⟩,
     ⟨(.prim (.bin .leq .none)), [.tmp 35, .tmp 41], (some 42), (some (30, true))⟩,
     ⟨(.prim .pick), [.tmp 30, .tmp 42, .const (.bool false)], (some 43), (some (27, false))⟩,
     ⟨(.prim .pick), [.tmp 27, .const (.bool true), .tmp 43], (some 44), none⟩] (some [[], [], [0, 1], [2], [3], [4], [5], [6], [6], [7, 8, 6], [9, 6], [10, 6], [11, 6], [6, 12], [13, 6], [14], [15, 14], [16, 14, 14], [17], [17], [18, 19, 17], [20, 17], [21, 17], [17], [17], [24, 17], [23, 25, 17], [26, 17], [27, 17], [22, 28, 17], [17, 29, 14], [14, 30]]))
    (.cond (.tmp 44)
     (.seq (.region [⟨(.prim .id), [.const (.bool false)], (some 2), none⟩] none)
     .ret)
     .skip)))
   (.region [⟨(.prim .id), [.tmp 3], (some 11), none⟩,
    ⟨(.prim (.bin .add .none)), [.tmp 11, .const (.int .i64 1)], (some 12), none⟩,
    ⟨(.prim .id), [.tmp 12], (some 3), none⟩] none))))))
 (.seq (.region [⟨(.prim .id), [.const (.bool true)], (some 2), none⟩] none)
 .ret))))
theorem F23 : IsFun Try.prog 23 1 45 c23 [.tmp 2] := ⟨by decide, Try.f23, _, [], Try.func23, rfl, by decide, rfl, by kernel_rfl, by kernel_rfl⟩

/-- cashbox/cashboxref07.Same -/
def c24 : ACode :=
 (.seq (.region [⟨(.prim (.boxR (some 12))), [.tmp 0], (some 2), none⟩,
  ⟨(.prim (.boxR (some 12))), [.tmp 1], (some 3), none⟩,
  ⟨(.prim .id), [.const (.bool false)], (some 4), none⟩] none)
 (.seq (.region [⟨(.prim (.fieldAddr 0 none)), [.tmp 2], (some 5), none⟩,
  ⟨(.prim (.load none)), [.tmp 5], (some 6), none⟩,
  ⟨(.prim (.fieldAddr 0 none)), [.tmp 3], (some 7), none⟩,
  ⟨(.prim (.load none)), [.tmp 7], (some 8), none⟩,
  ⟨(.prim (.bin .eql .none)), [.tmp 6, .tmp 8], (some 9), none⟩,
  ⟨(.prim .id), [.tmp 9], (some 10), none⟩,
  ⟨(.prim (.fieldAddr 1 (some 3))), [.tmp 2], (some 11), (some (10, true))⟩,
  ⟨(.prim (.load (some 3))), [.tmp 11], (some 12), (some (10, true))⟩,
  ⟨(.prim (.fieldAddr 1 (some 3))), [.tmp 3], (some 13), (some (10, true))⟩,
  ⟨(.prim (.load (some 3))), [.tmp 13], (some 14), (some (10, true))⟩,
  ⟨(.prim (.bin .eql (.flat [0, 0, 0]))), [.tmp 12, .tmp 14], (some 15), (some (10, true))⟩,
  ⟨(.prim .pick), [.tmp 10, .tmp 15, .const (.bool false)], (some 16), none⟩,
  ⟨(.prim .id), [.tmp 16], (some 17), none⟩,
  ⟨(.prim (.fieldAddr 4 none)), [.tmp 2], (some 18), (some (17, true))⟩,
  ⟨(.prim (.load none)), [.tmp 18], (some 19), (some (17, true))⟩,
  ⟨(.prim (.fieldAddr 4 none)), [.tmp 3], (some 20), (some (17, true))⟩,
  ⟨(.prim (.load none)), [.tmp 20], (some 21), (some (17, true))⟩,
  ⟨(.prim (.bin .eql .bool)), [.tmp 19, .tmp 21], (some 22), (some (17, true))⟩,
  ⟨(.prim .pick), [.tmp 17, .tmp 22, .const (.bool false)], (some 23), none⟩,
  ⟨(.prim .id), [.tmp 23], (some 24), none⟩,
  ⟨(.prim (.fieldAddr 5 none)), [.tmp 2], (some 25), (some (24, true))⟩,
  ⟨(.prim (.load none)), [.tmp 25], (some 26), (some (24, true))⟩,
  ⟨(.prim (.fieldAddr 5 none)), [.tmp 3], (some 27), (some (24, true))⟩,
  ⟨(.prim (.load none)), [.tmp 27], (some 28), (some (24, true))⟩,
  ⟨(.call 45), [.tmp 26, .tmp 28], (some 29), (some (24, true))⟩,
  ⟨(.prim .pick), [.tmp 24, .tmp 29, .const (.bool false)], (some 30), none⟩,
  ⟨(.prim .id), [.tmp 30], (some 31), none⟩,
  ⟨(.prim (.fieldAddr 6 none)), [.tmp 2], (some 32), (some (31, true))⟩,
  ⟨(.prim (.load none)), [.tmp 32], (some 33), (some (31, true))⟩,
  ⟨(.prim (.fieldAddr 6 none)), [.tmp 3], (some 34), (some (31, true))⟩,
  ⟨(.prim (.load none)), [.tmp 34], (some 35), (some (31, true))⟩,
  ⟨(.prim (.bin .eql .none)), [.tmp 33, .tmp 35], (some 36), (some (31, true))⟩,
  ⟨(.prim .pick), [.tmp 31, .tmp 36, .const (.bool false)], (some 37), none⟩,
  ⟨(.prim .id), [.tmp 37], (some 38), none⟩,
  ⟨(.prim (.fieldAddr 7 none)), [.tmp 2], (some 39), (some (38, true))⟩,
  ⟨(.prim (.load none)), [.tmp 39], (some 40), (some (38, true))⟩,
  ⟨(.prim (.fieldAddr 7 none)), [.tmp 3], (some 41), (some (38, true))⟩,
  ⟨(.prim (.load none)), [.tmp 41], (some 42), (some (38, true))⟩,
  ⟨(.prim (.bin .eql .none)), [.tmp 40, .tmp 42], (some 43), (some (38, true))⟩,
  ⟨(.prim .pick), [.tmp 38, .tmp 43, .const (.bool false)], (some 44), none⟩,
  ⟨(.prim .id), [.tmp 44], (some 45), none⟩,
  ⟨(.prim (.fieldAddr 8 none)), [.tmp 2], (some 46), (some (45, true))⟩,
  ⟨(.prim (.load none)), [.tmp 46], (some 47), (some (45, true))⟩,
  ⟨(.prim (.fieldAddr 8 none)), [.tmp 3], (some 48), (some (45, true))⟩,
  ⟨(.prim (.load none)), [.tmp 48], (some 49), (some (45, true))⟩,
  ⟨(.prim (.bin .eql .none)), [.tmp 47, .tmp 49], (some 50), (some (45, true))⟩,
  ⟨(.prim .pick), [.tmp 45, .tmp 50, .const (.bool false)], (some 51), none⟩,
  ⟨(.prim .id), [.tmp 51], (some 52), none⟩,
  ⟨(.prim (.fieldAddr 9 (some 2))), [.tmp 2], (some 53), (some (52, true))⟩,
  ⟨(.prim (.load (some 2))), [.tmp 53], (some 54), (some (52, true))⟩,
  ⟨(.prim (.fieldAddr 9 (some 2))), [.tmp 3], (some 55), (some (52, true))⟩,
  ⟨(.prim (.load (some 2))), [.tmp 55], (some 56), (some (52, true))⟩,
  ⟨(.prim (.bin .eql (.flat [0, 0]))), [.tmp 54, .tmp 56], (some 57), (some (52, true))⟩,
  ⟨(.prim .pick), [.tmp 52, .tmp 57, .const (.bool false)], (some 58), none⟩,
  ⟨(.prim .id), [.tmp 58], (some 59), none⟩,
  ⟨(.prim (.fieldAddr 11 none)), [.tmp 2], (some 60), (some (59, true))⟩,
  ⟨(.prim (.load none)), [.tmp 60], (some 61), (some (59, true))⟩,
  ⟨(.prim (.fieldAddr 11 none)), [.tmp 3], (some 62), (some (59, true))⟩,
  ⟨(.prim (.load none)), [.tmp 62], (some 63), (some (59, true))⟩,
  ⟨(.prim (.bin .eql .none)), [.tmp 61, .tmp 63], (some 64), (some (59, true))⟩,
  ⟨(.prim .pick), [.tmp 59, .tmp 64, .const (.bool false)], (some 65), none⟩,
  ⟨(.prim .id), [.tmp 65], (some 4), none⟩] none)
 .ret))
theorem F24 : IsFun Try.prog 24 2 66 c24 [.tmp 4] := ⟨by decide, Try.f24, _, [2, 3], Try.func24, rfl, by decide, rfl, by kernel_rfl, by kernel_rfl⟩

/-- cashbox/cashboxref07.Less -/
def c25 : ACode :=
 (.seq (.region [⟨(.prim (.boxR (some 3))), [.tmp 0], (some 2), none⟩,
  ⟨(.prim (.boxR (some 3))), [.tmp 1], (some 3), none⟩,
  ⟨(.prim .id), [.const (.bool false)], (some 4), none⟩] none)
 (.seq (.seq (.region [⟨(.prim (.fieldAddr 0 none)), [.tmp 2], (some 5), none⟩,
  ⟨(.prim (.load none)), [.tmp 5], (some 6), none⟩,
  ⟨(.prim (.fieldAddr 0 none)), [.tmp 3], (some 7), none⟩,
  ⟨(.prim (.load none)), [.tmp 7], (some 8), none⟩,
  ⟨(.prim (.bin .neq .none)), [.tmp 6, .tmp 8], (some 9), none⟩] none)
 (.cond (.tmp 9)
  (.seq (.region [⟨(.prim (.fieldAddr 0 none)), [.tmp 2], (some 10), none⟩,
   ⟨(.prim (.load none)), [.tmp 10], (some 11), none⟩,
   ⟨(.prim (.fieldAddr 0 none)), [.tmp 3], (some 12), none⟩,
   ⟨(.prim (.load none)), [.tmp 12], (some 13), none⟩,
   ⟨(.prim (.bin .lss .none)), [.tmp 11, .tmp 13], (some 14), none⟩,
   ⟨(.prim .id), [.tmp 14], (some 4), none⟩] none)
  .ret)
  .skip))
 (.seq (.seq (.region [⟨(.prim (.fieldAddr 1 none)), [.tmp 2], (some 15), none⟩,
  ⟨(.prim (.load none)), [.tmp 15], (some 16), none⟩,
  ⟨(.prim (.fieldAddr 1 none)), [.tmp 3], (some 17), none⟩,
  ⟨(.prim (.load none)), [.tmp 17], (some 18), none⟩,
  ⟨(.prim (.bin .neq .none)), [.tmp 16, .tmp 18], (some 19), none⟩] none)
 (.cond (.tmp 19)
  (.seq (.region [⟨(.prim (.fieldAddr 1 none)), [.tmp 2], (some 20), none⟩,
   ⟨(.prim (.load none)), [.tmp 20], (some 21), none⟩,
   ⟨(.prim (.fieldAddr 1 none)), [.tmp 3], (some 22), none⟩,
   ⟨(.prim (.load none)), [.tmp 22], (some 23), none⟩,
   ⟨(.prim (.bin .lss .none)), [.tmp 21, .tmp 23], (some 24), none⟩,
   ⟨(.prim .id), [.tmp 24], (some 4), none⟩] none)
  .ret)
  .skip))
 (.seq (.region [⟨(.prim (.fieldAddr 2 none)), [.tmp 2], (some 25), none⟩,
  ⟨(.prim (.load none)), [.tmp 25], (some 26), none⟩,
  ⟨(.prim (.fieldAddr 2 none)), [.tmp 3], (some 27), none⟩,
  ⟨(.prim (.load none)), [.tmp 27], (some 28), none⟩,
  ⟨(.prim (.bin .lss .none)), [.tmp 26, .tmp 28], (some 29), none⟩,
  ⟨(.prim .id), [.tmp 29], (some 4), none⟩] none)
 .ret))))
theorem F25 : IsFun Try.prog 25 2 30 c25 [.tmp 4] := ⟨by decide, Try.f25, _, [2, 3], Try.func25, rfl, by decide, rfl, by kernel_rfl, by kernel_rfl⟩

/-- cashbox/record.of -/
def c26 : ACode :=
 (.seq (.region [⟨(.prim .id), [.const .nilp], (some 2), none⟩] none)
 (.seq (.region [⟨(.call 46), [], (some 4), none⟩,
  ⟨(.prim (.alloc [.nilfn, .nilfn, .nilfn, .nilfn, .nilfn, .nilfn, .nilfn, .nilfn, .nilfn, .nilfn, .nilfn, .nilfn, .nilfn, .nilfn, .nilfn, .nilfn, .nilfn, .nilfn, .nilfn, .nilfn, .nilfn, .nilfn, .nilfn, .nilfn])), [], (some 3), none⟩,
  ⟨(.prim (.store (some 24))), [.tmp 3, .tmp 4], none, none⟩] none)
 (.seq (.seq (.region [⟨(.prim .id), [.tmp 0], (some 5), none⟩,
  ⟨(.prim (.bin .leq .none)), [.tmp 5, .const (.int .i8 0)], (some 6), none⟩,
  ⟨(.prim .id), [.tmp 6], (some 7), none⟩,
  ⟨(.prim .id), [.tmp 0], (some 8), (some (7, false))⟩,
  ⟨(.prim (.conv .i64)), [.tmp 8], (some 9), (some (7, false))⟩,
  ⟨(.prim (.bin .geq .none)), [.tmp 9, .const (.int .i64 8)], (some 10), (some (7, false))⟩,
  ⟨(.prim .pick), [.tmp 7, .const (.bool true), .tmp 10], (some 11), none⟩] none)
 (.cond (.tmp 11)
  (.seq (.region [⟨(.prim .id), [.const .nilp], (some 2), none⟩] none)
  .ret)
  .skip))
 (.seq (.region [⟨(.prim .id), [.tmp 0], (some 12), none⟩,
  ⟨(.prim (.idxArr 8 (some 3))), [.tmp 3, .tmp 12], (some 13), none⟩,
  ⟨(.prim .id), [.tmp 13], (some 2), none⟩] none)
 .ret))))
theorem F26 : IsFun Try.prog 26 1 14 c26 [.tmp 2] := ⟨by decide, Try.f26, _, [], Try.func26, rfl, by decide, rfl, by kernel_rfl, by kernel_rfl⟩

/-- (*cashbox/cashboxref07.Reader).Byte -/
def c27 : ACode :=
 (.seq (.region [⟨(.prim .id), [.const (.int .i64 0)], (some 2), none⟩] none)
 (.seq (.seq (.region [⟨(.prim .id), [.tmp 0], (some 4), none⟩,
  ⟨(.prim .nilc), [.tmp 4], (some 5), none⟩,
  ⟨(.prim (.fieldAddr 1 none)), [.tmp 5], (some 6), none⟩,
  ⟨(.prim (.load none)), [.tmp 6], (some 7), none⟩,
  ⟨(.prim .id), [.tmp 0], (some 8), none⟩,
  ⟨(.prim .nilc), [.tmp 8], (some 9), none⟩,
  ⟨(.prim (.fieldAddr 0 none)), [.tmp 9], (some 10), none⟩,
  ⟨(.prim (.load none)), [.tmp 10], (some 11), none⟩,
  ⟨(.prim .len), [.tmp 11], (some 12), none⟩,
  ⟨(.prim (.bin .geq .none)), [.tmp 7, .tmp 12], (some 13), none⟩] (some [[], [0], [1], [2], [], [4], [5], [6], [7], [3, 8]]))
 (.cond (.tmp 13)
  (.seq (.region [⟨(.prim .id), [.tmp 0], (some 14), none⟩,
   ⟨(.prim .nilc), [.tmp 14], (some 15), none⟩,
   ⟨(.prim (.fieldAddr 2 none)), [.tmp 15], (some 16), none⟩,
   ⟨(.prim (.store none)), [.tmp 16, .const (.bool true)], none, none⟩] none)
  (.seq (.region [⟨(.prim .id), [.const (.int .i64 0)], (some 2), none⟩] none)
  .ret))
  .skip))
 (.seq (.region [⟨(.prim .id), [.tmp 0], (some 17), none⟩,
  ⟨(.prim .nilc), [.tmp 17], (some 18), none⟩,
  ⟨(.prim (.fieldAddr 0 none)), [.tmp 18], (some 19), none⟩,
  ⟨(.prim (.load none)), [.tmp 19], (some 20), none⟩,
  ⟨(.prim .id), [.tmp 0], (some 21), none⟩,
  ⟨(.prim .nilc), [.tmp 21], (some 22), none⟩,
  ⟨(.prim (.fieldAddr 1 none)), [.tmp 22], (some 23), none⟩,
  ⟨(.prim (.load none)), [.tmp 23], (some 24), none⟩,
  ⟨(.prim (.idxSl none)), [.tmp 20, .tmp 24], (some 25), none⟩,
  ⟨(.prim (.load none)), [.tmp 25], (some 26), none⟩,
  ⟨(.prim (.conv .i64)), [.tmp 26], (some 27), none⟩,
  ⟨(.prim .id), [.tmp 27], (some 3), none⟩] (some [[], [0], [1], [2], [], [4], [5], [6], [3, 7], [8], [9], [10, 0, 1, 2, 3, 4, 5, 6, 7, 8, 9, 10]]))
 (.seq (.region [⟨(.prim .id), [.tmp 0], (some 28), none⟩,
  ⟨(.prim .nilc), [.tmp 28], (some 29), none⟩,
  ⟨(.prim (.fieldAddr 1 none)), [.tmp 29], (some 30), none⟩,
  ⟨(.prim (.load none)), [.tmp 30], (some 31), none⟩,
  ⟨(.prim (.bin .add .none)), [.tmp 31, .const (.int .i64 1)], (some 32), none⟩,
  ⟨(.prim .nilc), [.tmp 28], (some 33), none⟩,
  ⟨(.prim (.fieldAddr 1 none)), [.tmp 33], (some 34), none⟩,
  ⟨(.prim (.store none)), [.tmp 34, .tmp 32], none, none⟩] none)
 (.seq (.region [⟨(.prim .id), [.tmp 3], (some 35), none⟩,
  ⟨(.prim .id), [.tmp 35], (some 2), none⟩] none)
 .ret)))))
theorem F27 : IsFun Try.prog 27 1 36 c27 [.tmp 2] := ⟨by decide, Try.f27, _, [], Try.func27, rfl, by decide, rfl, by kernel_rfl, by kernel_rfl⟩

/-- (*cashbox/cashboxref07.Reader).Three -/
def c28 : ACode :=
 (.seq (.region [⟨(.prim .id), [.const (.int .i64 0)], (some 2), none⟩] none)
 (.seq (.region [⟨(.prim .id), [.tmp 0], (some 6), none⟩,
  ⟨(.call 27), [.tmp 6], (some 7), none⟩,
  ⟨(.prim .id), [.tmp 7], (some 3), none⟩] none)
 (.seq (.region [⟨(.prim .id), [.tmp 0], (some 8), none⟩,
  ⟨(.call 27), [.tmp 8], (some 9), none⟩,
  ⟨(.prim .id), [.tmp 9], (some 4), none⟩] none)
 (.seq (.region [⟨(.prim .id), [.tmp 0], (some 10), none⟩,
  ⟨(.call 27), [.tmp 10], (some 11), none⟩,
  ⟨(.prim .id), [.tmp 11], (some 5), none⟩] none)
 (.seq (.region [⟨(.prim .id), [.tmp 3], (some 12), none⟩,
  ⟨(.prim .id), [.tmp 4], (some 13), none⟩,
  ⟨(.prim (.bin .shl .none)), [.tmp 13, .const (.int .u64 8)], (some 14), none⟩,
  ⟨(.prim (.bin .add .none)), [.tmp 12, .tmp 14], (some 15), none⟩,
  ⟨(.prim .id), [.tmp 5], (some 16), none⟩,
  ⟨(.prim (.bin .shl .none)), [.tmp 16, .const (.int .u64 16)], (some 17), none⟩,
  ⟨(.prim (.bin .add .none)), [.tmp 15, .tmp 17], (some 18), none⟩,
  ⟨(.prim .id), [.tmp 18], (some 2), none⟩] none)
 .ret)))))
theorem F28 : IsFun Try.prog 28 1 19 c28 [.tmp 2] := ⟨by decide, Try.f28, _, [], Try.func28, rfl, by decide, rfl, by kernel_rfl, by kernel_rfl⟩

/-- (*cashbox/cashboxref07.Reader).Name -/
def c29 : ACode :=
 (.seq (.region [⟨(.prim (.alloc [(.int .i64 0), (.int .i64 0), (.int .i64 0)])), [], (some 2), none⟩] none)
 (.seq (.region [⟨(.prim .id), [.tmp 0], (some 6), none⟩,
  ⟨(.call 28), [.tmp 6], (some 7), none⟩,
  ⟨(.prim .id), [.tmp 7], (some 3), none⟩] none)
 (.seq (.region [⟨(.prim .id), [.tmp 0], (some 8), none⟩,
  ⟨(.call 28), [.tmp 8], (some 9), none⟩,
  ⟨(.prim .id), [.tmp 9], (some 4), none⟩] none)
 (.seq (.region [⟨(.prim .id), [.tmp 0], (some 10), none⟩,
  ⟨(.call 28), [.tmp 10], (some 11), none⟩,
  ⟨(.prim .id), [.tmp 11], (some 5), none⟩] none)
 (.seq (.region [⟨(.prim .id), [.tmp 3], (some 12), none⟩,
  ⟨(.prim .id), [.tmp 4], (some 13), none⟩,
  ⟨(.prim .id), [.tmp 5], (some 14), none⟩,
  ⟨(.prim (.build [(.int .i64 0), (.int .i64 0), (.int .i64 0)] [(0, 1), (1, 1), (2, 1)])), [.tmp 12, .tmp 13, .tmp 14], (some 15), none⟩,
  ⟨(.prim (.store (some 3))), [.tmp 2, .tmp 15], none, none⟩] none)
 .ret)))))
theorem F29 : IsFun Try.prog 29 1 16 c29 [.cell 2 (some 3)] := ⟨by decide, Try.f29, _, [], Try.func29, rfl, by decide, rfl, by kernel_rfl, by kernel_rfl⟩

-- loop: 0:r, 3:n, 4:out, 5:i
/-- (*cashbox/cashboxref07.Reader).Writes -/
def c30 : ACode :=
 (.seq (.region [⟨(.prim .id), [.const (.sl .clip [])], (some 2), none⟩] none)
 (.seq (.region [⟨(.prim .id), [.tmp 0], (some 8), none⟩,
  ⟨(.call 27), [.tmp 8], (some 9), none⟩,
  ⟨(.prim .id), [.tmp 9], (some 3), none⟩] none)
 (.seq (.region [⟨(.prim .id), [.const (.sl .clip [])], (some 4), none⟩] none)
 (.seq (.seq (.region [⟨(.prim .id), [.const (.int .i64 0)], (some 5), none⟩] none)
 (.block 0
  (.loop
   (.seq (.seq (.region [⟨(.prim .id), [.tmp 5], (some 10), none⟩,
    ⟨(.prim .id), [.tmp 3], (some 11), none⟩,
    ⟨(.prim (.bin .lss .none)), [.tmp 10, .tmp 11], (some 12), none⟩,
    ⟨(.prim .id), [.tmp 12], (some 13), none⟩,
    ⟨(.prim .id), [.tmp 0], (some 14), (some (13, true))⟩,
    ⟨(.prim .nilc), [.tmp 14], (some 15), (some (13, true))⟩,
    ⟨(.prim (.fieldAddr 2 none)), [.tmp 15], (some 16), (some (13, true))⟩,
    ⟨(.prim (.load none)), [.tmp 16], (some 17), (some (13, true))⟩,
    ⟨(.prim (.un .not)), [.tmp 17], (some 18), (some (13, true))⟩,
    ⟨(.prim .pick), [.tmp 13, .tmp 18, .const (.bool false)], (some 19), none⟩] none)
   (.cond (.tmp 19)
    .skip
    (.exit 0)))
   (.seq (.block 1
    (.seq (.region [⟨(.prim .id), [.tmp 0], (some 22), none⟩,
     ⟨(.call 27), [.tmp 22], (some 23), none⟩,
     ⟨(.prim .id), [.tmp 23], (some 6), none⟩] none)
    (.seq (.region [⟨(.prim .id), [.tmp 0], (some 24), none⟩,
     ⟨(.call 47), [.tmp 24], (some 25), none⟩,
     ⟨(.prim (.alloc [(.int .u8 0), (.int .u8 0), (.int .u8 0), (.int .u8 0), (.int .u8 0), (.int .u8 0), (.int .u8 0), (.int .u8 0)])), [], (some 7), none⟩,
     ⟨(.prim (.store (some 8))), [.tmp 7, .tmp 25], none, none⟩] none)
    (.region [⟨(.prim .id), [.tmp 4], (some 26), none⟩,
     ⟨(.prim .id), [.tmp 6], (some 27), none⟩,
     ⟨(.prim (.load (some 8))), [.tmp 7], (some 28), none⟩,
     ⟨(.prim (.build [(.int .i64 0), (.int .u8 0), (.int .u8 0), (.int .u8 0), (.int .u8 0), (.int .u8 0), (.int .u8 0), (.int .u8 0), (.int .u8 0)] [(0, 1), (1, 8)])), [.tmp 27, .tmp 28], (some 29), none⟩,
     ⟨(.prim (.buildSl (some 9))), [.tmp 29], (some 30), none⟩,
     ⟨(.prim (.append (some 9))), [.tmp 26, .tmp 30], (some 31), none⟩,
     ⟨(.prim .id), [.tmp 31], (some 4), none⟩] none))))
   (.region [⟨(.prim .id), [.tmp 5], (some 20), none⟩,
    ⟨(.prim (.bin .add .none)), [.tmp 20, .const (.int .i64 1)], (some 21), none⟩,
    ⟨(.prim .id), [.tmp 21], (some 5), none⟩] none))))))
 (.seq (.region [⟨(.prim .id), [.tmp 4], (some 32), none⟩,
  ⟨(.prim .id), [.tmp 32], (some 2), none⟩] none)
 .ret)))))
theorem F30 : IsFun Try.prog 30 1 33 c30 [.tmp 2] := ⟨by decide, Try.f30, _, [], Try.func30, rfl, by decide, rfl, by kernel_rfl, by kernel_rfl⟩

/-- (*cashbox/cashboxref07.Reader).Flag -/
def c31 : ACode :=
 (.seq (.region [⟨(.prim .id), [.const (.bool false)], (some 2), none⟩] none)
 (.seq (.region [⟨(.prim .id), [.tmp 0], (some 4), none⟩,
  ⟨(.call 27), [.tmp 4], (some 5), none⟩,
  ⟨(.prim .id), [.tmp 5], (some 3), none⟩] none)
 (.seq (.region [⟨(.prim .id), [.tmp 0], (some 6), none⟩,
  ⟨(.prim .id), [.tmp 0], (some 7), none⟩,
  ⟨(.prim .nilc), [.tmp 7], (some 8), none⟩,
  ⟨(.prim (.fieldAddr 2 none)), [.tmp 8], (some 9), none⟩,
  ⟨(.prim (.load none)), [.tmp 9], (some 10), none⟩,
  ⟨(.prim .id), [.tmp 10], (some 11), none⟩,
  ⟨(.prim .id), [.tmp 3], (some 12), (some (11, false))⟩,
  ⟨(.prim (.bin .gtr .none)), [.tmp 12, .const (.int .i64 1)], (some 13), (some (11, false))⟩,
  ⟨(.prim .pick), [.tmp 11, .const (.bool true), .tmp 13], (some 14), none⟩,
  ⟨(.prim .nilc), [.tmp 6], (some 15), none⟩,
  ⟨(.prim (.fieldAddr 2 none)), [.tmp 15], (some 16), none⟩,
  ⟨(.prim (.store none)), [.tmp 16, .tmp 14], none, none⟩] none)
 (.seq (.region [⟨(.prim .id), [.tmp 3], (some 17), none⟩,
  ⟨(.prim (.bin .eql .none)), [.tmp 17, .const (.int .i64 1)], (some 18), none⟩,
  ⟨(.prim .id), [.tmp 18], (some 2), none⟩] none)
 .ret))))
theorem F31 : IsFun Try.prog 31 1 19 c31 [.tmp 2] := ⟨by decide, Try.f31, _, [], Try.func31, rfl, by decide, rfl, by kernel_rfl, by kernel_rfl⟩

-- loop: 0:s1, 1:s2, 12:, 13:
/-- slices.Equal[[]cashbox/api.Write,cashbox/api.Write] -/
def c32 : ACode :=
 (.seq (.region [⟨(.prim .id), [.const (.bool false)], (some 4), none⟩] none)
 (.seq (.seq (.region [⟨(.prim .id), [.tmp 0], (some 6), none⟩,
  ⟨(.prim .len), [.tmp 6], (some 7), none⟩,
  ⟨(.prim .id), [.tmp 1], (some 8), none⟩,
  ⟨(.prim .len), [.tmp 8], (some 9), none⟩,
  ⟨(.prim (.bin .neq .none)), [.tmp 7, .tmp 9], (some 10), none⟩] none)
 (.cond (.tmp 10)
  (.seq (.region [⟨(.prim .id), [.const (.bool false)], (some 4), none⟩] none)
  .ret)
  .skip))
 (.seq (.seq (.region [⟨(.prim .id), [.tmp 0], (some 11), none⟩,
  ⟨(.prim .len), [.tmp 11], (some 12), none⟩,
  ⟨(.prim .id), [.const (.int .i64 0)], (some 13), none⟩] none)
 (.block 0
  (.loop
   (.seq (.region [⟨(.prim (.bin .lss .none)), [.tmp 13, .tmp 12], (some 14), none⟩] none)
   (.seq (.cond (.tmp 14)
    .skip
    (.exit 0))
   (.seq (.block 1
    (.seq (.region [⟨(.prim .id), [.tmp 13], (some 15), none⟩,
     ⟨(.prim .id), [.tmp 15], (some 5), none⟩] none)
    (.seq (.region [⟨(.prim .id), [.tmp 0], (some 16), none⟩,
     ⟨(.prim .id), [.tmp 5], (some 17), none⟩,
     ⟨(.prim (.idxSl (some 9))), [.tmp 16, .tmp 17], (some 18), none⟩,
     ⟨(.prim (.load (some 9))), [.tmp 18], (some 19), none⟩,
     ⟨(.prim .id), [.tmp 1], (some 20), none⟩,
     ⟨(.prim .id), [.tmp 5], (some 21), none⟩,
     ⟨(.prim (.idxSl (some 9))), [.tmp 20, .tmp 21], (some 22), none⟩,
     ⟨(.prim (.load (some 9))), [.tmp 22], (some 23), none⟩,
     ⟨(.prim (.bin .neq (.flat [0, 0, 0, 0, 0, 0, 0, 0, 0]))), [.tmp 19, .tmp 23], (some 24), none⟩] (some [[], [], [0, 1], [2], [], [], [4, 5], [6], [3, 7]]))
    (.cond (.tmp 24)
     (.seq (.region [⟨(.prim .id), [.const (.bool false)], (some 4), none⟩] none)
     .ret)
     .skip))))
   (.region [⟨(.prim (.bin .add .none)), [.tmp 13, .const (.int .i64 1)], (some 25), none⟩,
    ⟨(.prim .id), [.tmp 25], (some 13), none⟩] none)))))))
 (.seq (.region [⟨(.prim .id), [.const (.bool true)], (some 4), none⟩] none)
 .ret))))
theorem F32 : IsFun Try.prog 32 2 26 c32 [.tmp 4] := ⟨by decide, Try.f32, _, [], Try.func32, rfl, by decide, rfl, by kernel_rfl, by kernel_rfl⟩

/-- cashbox/record.body -/
def c33 : ACode :=
 (.seq (.region [⟨(.prim .id), [.const (.sl .clip [])], (some 4), none⟩] none)
 (.seq (.region [⟨(.prim (.alloc [(.sl .clip [])])), [], (some 5), none⟩] none)
 (.seq (.region [⟨(.prim .id), [.tmp 0], (some 6), none⟩,
  ⟨(.prim .nilc), [.tmp 6], (some 7), none⟩,
  ⟨(.prim (.fieldAddr 0 none)), [.tmp 7], (some 8), none⟩,
  ⟨(.prim (.load none)), [.tmp 8], (some 9), none⟩,
  ⟨(.prim .id), [.tmp 1], (some 10), none⟩,
  ⟨.callV, [.tmp 9, .tmp 5, .tmp 10], (some 11), none⟩] none)
 (.seq (.region [⟨(.prim (.fieldAddr 0 none)), [.tmp 5], (some 12), none⟩,
  ⟨(.prim (.load none)), [.tmp 12], (some 13), none⟩,
  ⟨(.prim .id), [.tmp 13], (some 4), none⟩] none)
 .ret))))
theorem F33 : IsFun Try.prog 33 2 14 c33 [.tmp 4] := ⟨by decide, Try.f33, _, [], Try.func33, rfl, by decide, rfl, by kernel_rfl, by kernel_rfl⟩

-- loop: 3:zero, 6:, 7:, 8:
/-- cmp.Or[int] -/
def c34 : ACode :=
 (.seq (.region [⟨(.prim .id), [.const (.int .i64 0)], (some 2), none⟩] none)
 (.seq (.region [⟨(.prim .id), [.const (.int .i64 0)], (some 3), none⟩] none)
 (.seq (.seq (.region [⟨(.prim .id), [.tmp 0], (some 6), none⟩,
  ⟨(.prim .len), [.tmp 6], (some 7), none⟩,
  ⟨(.prim .id), [.const (.int .i64 0)], (some 8), none⟩] none)
 (.block 0
  (.loop
   (.seq (.region [⟨(.prim (.bin .lss .none)), [.tmp 8, .tmp 7], (some 9), none⟩] none)
   (.seq (.cond (.tmp 9)
    .skip
    (.exit 0))
   (.seq (.block 1
    (.seq (.region [⟨(.prim (.idxSl none)), [.tmp 6, .tmp 8], (some 10), none⟩,
     ⟨(.prim (.load none)), [.tmp 10], (some 11), none⟩,
     ⟨(.prim .id), [.tmp 11], (some 5), none⟩] none)
    (.seq (.region [⟨(.prim .id), [.tmp 5], (some 12), none⟩,
     ⟨(.prim .id), [.tmp 3], (some 13), none⟩,
     ⟨(.prim (.bin .neq .none)), [.tmp 12, .tmp 13], (some 14), none⟩] none)
    (.cond (.tmp 14)
     (.seq (.region [⟨(.prim .id), [.tmp 5], (some 15), none⟩,
      ⟨(.prim .id), [.tmp 15], (some 2), none⟩] none)
     .ret)
     .skip))))
   (.region [⟨(.prim (.bin .add .none)), [.tmp 8, .const (.int .i64 1)], (some 16), none⟩,
    ⟨(.prim .id), [.tmp 16], (some 8), none⟩] none)))))))
 (.seq (.region [⟨(.prim .id), [.tmp 3], (some 17), none⟩,
  ⟨(.prim .id), [.tmp 17], (some 2), none⟩] none)
 .ret))))
theorem F34 : IsFun Try.prog 34 1 18 c34 [.tmp 2] := ⟨by decide, Try.f34, _, [], Try.func34, rfl, by decide, rfl, by kernel_rfl, by kernel_rfl⟩

/-- cmp.Compare[int] -/
def c35 : ACode :=
 (.seq (.region [⟨(.prim .id), [.const (.int .i64 0)], (some 4), none⟩] none)
 (.seq (.region [⟨(.prim .id), [.tmp 0], (some 7), none⟩,
  ⟨(.call 48), [.tmp 7], (some 8), none⟩,
  ⟨(.prim .id), [.tmp 8], (some 5), none⟩] none)
 (.seq (.region [⟨(.prim .id), [.tmp 1], (some 9), none⟩,
  ⟨(.call 48), [.tmp 9], (some 10), none⟩,
  ⟨(.prim .id), [.tmp 10], (some 6), none⟩] none)
 (.seq (.seq (.region [⟨(.prim .id), [.tmp 5], (some 11), none⟩] none)
 (.cond (.tmp 11)
  (.seq (.seq (.region [⟨(.prim .id), [.tmp 6], (some 12), none⟩] none)
  (.cond (.tmp 12)
   (.seq (.region [⟨(.prim .id), [.const (.int .i64 0)], (some 4), none⟩] none)
   .ret)
   .skip))
  (.seq (.region [⟨(.prim .id), [.const (.int .i64 (-1))], (some 4), none⟩] none)
  .ret))
  .skip))
 (.seq (.seq (.region [⟨(.prim .id), [.tmp 6], (some 13), none⟩] none)
 (.cond (.tmp 13)
  (.seq (.region [⟨(.prim .id), [.const (.int .i64 1)], (some 4), none⟩] none)
  .ret)
  .skip))
 (.seq (.seq (.region [⟨(.prim .id), [.tmp 0], (some 14), none⟩,
  ⟨(.prim .id), [.tmp 1], (some 15), none⟩,
  ⟨(.prim (.bin .lss .none)), [.tmp 14, .tmp 15], (some 16), none⟩] none)
 (.cond (.tmp 16)
  (.seq (.region [⟨(.prim .id), [.const (.int .i64 (-1))], (some 4), none⟩] none)
  .ret)
  .skip))
 (.seq (.seq (.region [⟨(.prim .id), [.tmp 0], (some 17), none⟩,
  ⟨(.prim .id), [.tmp 1], (some 18), none⟩,
  ⟨(.prim (.bin .gtr .none)), [.tmp 17, .tmp 18], (some 19), none⟩] none)
 (.cond (.tmp 19)
  (.seq (.region [⟨(.prim .id), [.const (.int .i64 1)], (some 4), none⟩] none)
  .ret)
  .skip))
 (.seq (.region [⟨(.prim .id), [.const (.int .i64 0)], (some 4), none⟩] none)
 .ret))))))))
theorem F35 : IsFun Try.prog 35 2 20 c35 [.tmp 4] := ⟨by decide, Try.f35, _, [], Try.func35, rfl, by decide, rfl, by kernel_rfl, by kernel_rfl⟩

/-- cashbox/cashboxref07.three -/
def c36 : ACode :=
 (.seq (.region [⟨(.prim .id), [.const (.sl .clip [])], (some 4), none⟩] none)
 (.seq (.region [⟨(.prim .id), [.tmp 0], (some 5), none⟩,
  ⟨(.prim .id), [.tmp 1], (some 6), none⟩,
  ⟨(.prim (.conv .u8)), [.tmp 6], (some 7), none⟩,
  ⟨(.prim .id), [.tmp 1], (some 8), none⟩,
  ⟨(.prim (.bin .shr .none)), [.tmp 8, .const (.int .u64 8)], (some 9), none⟩,
  ⟨(.prim (.conv .u8)), [.tmp 9], (some 10), none⟩,
  ⟨(.prim .id), [.tmp 1], (some 11), none⟩,
  ⟨(.prim (.bin .shr .none)), [.tmp 11, .const (.int .u64 16)], (some 12), none⟩,
  ⟨(.prim (.conv .u8)), [.tmp 12], (some 13), none⟩,
  ⟨(.prim (.buildSl none)), [.tmp 7, .tmp 10, .tmp 13], (some 14), none⟩,
  ⟨(.prim (.append none)), [.tmp 5, .tmp 14], (some 15), none⟩,
  ⟨(.prim .id), [.tmp 15], (some 4), none⟩] none)
 .ret))
theorem F36 : IsFun Try.prog 36 2 16 c36 [.tmp 4] := ⟨by decide, Try.f36, _, [], Try.func36, rfl, by decide, rfl, by kernel_rfl, by kernel_rfl⟩

/-- cashbox/cashboxref07.named -/
def c37 : ACode :=
 (.seq (.region [⟨(.prim (.boxR (some 3))), [.tmp 1], (some 3), none⟩,
  ⟨(.prim .id), [.const (.sl .clip [])], (some 4), none⟩] none)
 (.seq (.region [⟨(.prim .id), [.tmp 0], (some 5), none⟩,
  ⟨(.prim (.fieldAddr 0 none)), [.tmp 3], (some 6), none⟩,
  ⟨(.prim (.load none)), [.tmp 6], (some 7), none⟩,
  ⟨(.call 36), [.tmp 5, .tmp 7], (some 8), none⟩,
  ⟨(.prim .id), [.tmp 8], (some 0), none⟩] none)
 (.seq (.region [⟨(.prim .id), [.tmp 0], (some 9), none⟩,
  ⟨(.prim (.fieldAddr 1 none)), [.tmp 3], (some 10), none⟩,
  ⟨(.prim (.load none)), [.tmp 10], (some 11), none⟩,
  ⟨(.call 36), [.tmp 9, .tmp 11], (some 12), none⟩,
  ⟨(.prim .id), [.tmp 12], (some 0), none⟩] none)
 (.seq (.region [⟨(.prim .id), [.tmp 0], (some 13), none⟩,
  ⟨(.prim (.fieldAddr 2 none)), [.tmp 3], (some 14), none⟩,
  ⟨(.prim (.load none)), [.tmp 14], (some 15), none⟩,
  ⟨(.call 36), [.tmp 13, .tmp 15], (some 16), none⟩,
  ⟨(.prim .id), [.tmp 16], (some 4), none⟩] none)
 .ret))))
theorem F37 : IsFun Try.prog 37 2 17 c37 [.tmp 4] := ⟨by decide, Try.f37, _, [3], Try.func37, rfl, by decide, rfl, by kernel_rfl, by kernel_rfl⟩

-- loop: 0:b, 1:l, 5:i
-- loop: 0:b, 1:l, 5:i, 6:k
/-- cashbox/cashboxref07.Writes -/
def c38 : ACode :=
 (.seq (.region [⟨(.prim .id), [.const (.sl .clip [])], (some 4), none⟩] none)
 (.seq (.region [⟨(.prim .id), [.tmp 0], (some 7), none⟩,
  ⟨(.prim .id), [.tmp 1], (some 8), none⟩,
  ⟨(.prim .len), [.tmp 8], (some 9), none⟩,
  ⟨(.prim (.conv .u8)), [.tmp 9], (some 10), none⟩,
  ⟨(.prim (.buildSl none)), [.tmp 10], (some 11), none⟩,
  ⟨(.prim (.append none)), [.tmp 7, .tmp 11], (some 12), none⟩,
  ⟨(.prim .id), [.tmp 12], (some 0), none⟩] none)
 (.seq (.seq (.region [⟨(.prim .id), [.const (.int .i64 0)], (some 5), none⟩] none)
 (.block 0
  (.loop
   (.seq (.seq (.region [⟨(.prim .id), [.tmp 5], (some 13), none⟩,
    ⟨(.prim .id), [.tmp 1], (some 14), none⟩,
    ⟨(.prim .len), [.tmp 14], (some 15), none⟩,
    ⟨(.prim (.bin .lss .none)), [.tmp 13, .tmp 15], (some 16), none⟩] none)
   (.cond (.tmp 16)
    .skip
    (.exit 0)))
   (.seq (.block 1
    (.seq (.region [⟨(.prim .id), [.tmp 0], (some 19), none⟩,
     ⟨(.prim .id), [.tmp 1], (some 20), none⟩,
     ⟨(.prim .id), [.tmp 5], (some 21), none⟩,
     ⟨(.prim (.idxSl (some 9))), [.tmp 20, .tmp 21], (some 22), none⟩,
     ⟨(.prim (.fieldAddr 0 none)), [.tmp 22], (some 23), none⟩,
     ⟨(.prim (.load none)), [.tmp 23], (some 24), none⟩,
     ⟨(.prim (.conv .u8)), [.tmp 24], (some 25), none⟩,
     ⟨(.prim (.buildSl none)), [.tmp 25], (some 26), none⟩,
     ⟨(.prim (.append none)), [.tmp 19, .tmp 26], (some 27), none⟩,
     ⟨(.prim .id), [.tmp 27], (some 0), none⟩] none)
    (.seq (.region [⟨(.prim .id), [.const (.int .i64 0)], (some 6), none⟩] none)
    (.block 2
     (.loop
      (.seq (.seq (.region [⟨(.prim .id), [.tmp 6], (some 28), none⟩,
       ⟨(.prim (.bin .lss .none)), [.tmp 28, .const (.int .i64 8)], (some 29), none⟩] none)
      (.cond (.tmp 29)
       .skip
       (.exit 2)))
      (.seq (.block 3
       (.region [⟨(.prim .id), [.tmp 0], (some 32), none⟩,
        ⟨(.prim .id), [.tmp 1], (some 33), none⟩,
        ⟨(.prim .id), [.tmp 5], (some 34), none⟩,
        ⟨(.prim .id), [.tmp 6], (some 35), none⟩,
        ⟨(.prim (.idxSl (some 9))), [.tmp 33, .tmp 34], (some 36), none⟩,
        ⟨(.prim (.fieldAddr 1 (some 8))), [.tmp 36], (some 37), none⟩,
        ⟨(.prim (.idxArr 8 none)), [.tmp 37, .tmp 35], (some 38), none⟩,
        ⟨(.prim (.load none)), [.tmp 38], (some 39), none⟩,
        ⟨(.prim (.buildSl none)), [.tmp 39], (some 40), none⟩,
        ⟨(.prim (.append none)), [.tmp 32, .tmp 40], (some 41), none⟩,
        ⟨(.prim .id), [.tmp 41], (some 0), none⟩] none))
      (.region [⟨(.prim .id), [.tmp 6], (some 30), none⟩,
       ⟨(.prim (.bin .add .none)), [.tmp 30, .const (.int .i64 1)], (some 31), none⟩,
       ⟨(.prim .id), [.tmp 31], (some 6), none⟩] none))))))))
   (.region [⟨(.prim .id), [.tmp 5], (some 17), none⟩,
    ⟨(.prim (.bin .add .none)), [.tmp 17, .const (.int .i64 1)], (some 18), none⟩,
    ⟨(.prim .id), [.tmp 18], (some 5), none⟩] none))))))
 (.seq (.region [⟨(.prim .id), [.tmp 0], (some 42), none⟩,
  ⟨(.prim .id), [.tmp 42], (some 4), none⟩] none)
 .ret))))
theorem F38 : IsFun Try.prog 38 2 43 c38 [.tmp 4] := ⟨by decide, Try.f38, _, [], Try.func38, rfl, by decide, rfl, by kernel_rfl, by kernel_rfl⟩

/-- cashbox/cashboxref07.flag -/
def c39 : ACode :=
 (.seq (.region [⟨(.prim .id), [.const (.int .u8 0)], (some 2), none⟩] none)
 (.seq (.seq (.region [⟨(.prim .id), [.tmp 0], (some 3), none⟩] none)
 (.cond (.tmp 3)
  (.seq (.region [⟨(.prim .id), [.const (.int .u8 1)], (some 2), none⟩] none)
  .ret)
  .skip))
 (.seq (.region [⟨(.prim .id), [.const (.int .u8 0)], (some 2), none⟩] none)
 .ret)))
theorem F39 : IsFun Try.prog 39 1 4 c39 [.tmp 2] := ⟨by decide, Try.f39, _, [], Try.func39, rfl, by decide, rfl, by kernel_rfl, by kernel_rfl⟩

/-- cashbox/cashboxref07.fields -/
def c40 : ACode :=
 (.seq (.region [⟨(.prim (.boxR (some 12))), [.tmp 0], (some 1), none⟩,
  ⟨(.prim (.alloc [(.int .i8 0), (.int .i64 0), (.int .i64 0), (.int .i64 0), (.bool false), (.sl .clip []), (.int .i64 0), (.int .i64 0), (.int .i64 0), (.int .i64 0), (.int .i64 0), (.int .i64 0)])), [], (some 2), none⟩] none)
 (.seq (.region [⟨(.prim (.fieldAddr 0 none)), [.tmp 1], (some 4), none⟩,
  ⟨(.prim (.load none)), [.tmp 4], (some 5), none⟩,
  ⟨(.prim (.build [(.int .i8 0), (.int .i64 0), (.int .i64 0), (.int .i64 0), (.bool false), (.sl .clip []), (.int .i64 0), (.int .i64 0), (.int .i64 0), (.int .i64 0), (.int .i64 0), (.int .i64 0)] [(0, 1)])), [.tmp 5], (some 6), none⟩,
  ⟨(.prim (.alloc [(.int .i8 0), (.int .i64 0), (.int .i64 0), (.int .i64 0), (.bool false), (.sl .clip []), (.int .i64 0), (.int .i64 0), (.int .i64 0), (.int .i64 0), (.int .i64 0), (.int .i64 0)])), [], (some 3), none⟩,
  ⟨(.prim (.store (some 12))), [.tmp 3, .tmp 6], none, none⟩] none)
 (.seq (.seq (.region [⟨(.prim (.fieldAddr 0 none)), [.tmp 1], (some 7), none⟩,
  ⟨(.prim (.load none)), [.tmp 7], (some 8), none⟩] none)
 (.block 0
  (.seq (.region [⟨(.prim (.bin .eql .none)), [.tmp 8, .const (.int .i8 1)], (some 10), none⟩,
   ⟨(.prim .id), [.tmp 10], (some 9), none⟩] none)
  (.cond (.tmp 9)
   (.seq (.region [⟨(.prim (.fieldAddr 1 (some 3))), [.tmp 1], (some 11), none⟩,
    ⟨(.prim (.load (some 3))), [.tmp 11], (some 12), none⟩,
    ⟨(.prim (.fieldAddr 1 (some 3))), [.tmp 3], (some 13), none⟩,
    ⟨(.prim (.store (some 3))), [.tmp 13, .tmp 12], none, none⟩] none)
   (.region [⟨(.prim (.fieldAddr 5 none)), [.tmp 1], (some 14), none⟩,
    ⟨(.prim (.load none)), [.tmp 14], (some 15), none⟩,
    ⟨(.prim (.fieldAddr 5 none)), [.tmp 3], (some 16), none⟩,
    ⟨(.prim (.store none)), [.tmp 16, .tmp 15], none, none⟩] none))
   (.seq (.region [⟨(.prim (.bin .eql .none)), [.tmp 8, .const (.int .i8 2)], (some 18), none⟩,
    ⟨(.prim .id), [.tmp 18], (some 17), none⟩] none)
   (.cond (.tmp 17)
    (.seq (.region [⟨(.prim (.fieldAddr 1 (some 3))), [.tmp 1], (some 19), none⟩,
     ⟨(.prim (.load (some 3))), [.tmp 19], (some 20), none⟩,
     ⟨(.prim (.fieldAddr 1 (some 3))), [.tmp 3], (some 21), none⟩,
     ⟨(.prim (.store (some 3))), [.tmp 21, .tmp 20], none, none⟩] none)
    (.seq (.region [⟨(.prim (.fieldAddr 5 none)), [.tmp 1], (some 22), none⟩,
     ⟨(.prim (.load none)), [.tmp 22], (some 23), none⟩,
     ⟨(.prim (.fieldAddr 5 none)), [.tmp 3], (some 24), none⟩,
     ⟨(.prim (.store none)), [.tmp 24, .tmp 23], none, none⟩] none)
    (.seq (.region [⟨(.prim (.fieldAddr 6 none)), [.tmp 1], (some 25), none⟩,
     ⟨(.prim (.load none)), [.tmp 25], (some 26), none⟩,
     ⟨(.prim (.fieldAddr 6 none)), [.tmp 3], (some 27), none⟩,
     ⟨(.prim (.store none)), [.tmp 27, .tmp 26], none, none⟩] none)
    (.region [⟨(.prim (.fieldAddr 7 none)), [.tmp 1], (some 28), none⟩,
     ⟨(.prim (.load none)), [.tmp 28], (some 29), none⟩,
     ⟨(.prim (.fieldAddr 7 none)), [.tmp 3], (some 30), none⟩,
     ⟨(.prim (.store none)), [.tmp 30, .tmp 29], none, none⟩] none))))
    (.seq (.region [⟨(.prim (.bin .eql .none)), [.tmp 8, .const (.int .i8 3)], (some 32), none⟩,
     ⟨(.prim .id), [.tmp 32], (some 31), none⟩] none)
    (.cond (.tmp 31)
     (.seq (.region [⟨(.prim (.fieldAddr 1 (some 3))), [.tmp 1], (some 33), none⟩,
      ⟨(.prim (.load (some 3))), [.tmp 33], (some 34), none⟩,
      ⟨(.prim (.fieldAddr 1 (some 3))), [.tmp 3], (some 35), none⟩,
      ⟨(.prim (.store (some 3))), [.tmp 35, .tmp 34], none, none⟩] none)
     (.region [⟨(.prim (.fieldAddr 4 none)), [.tmp 1], (some 36), none⟩,
      ⟨(.prim (.load none)), [.tmp 36], (some 37), none⟩,
      ⟨(.prim (.fieldAddr 4 none)), [.tmp 3], (some 38), none⟩,
      ⟨(.prim (.store none)), [.tmp 38, .tmp 37], none, none⟩] none))
     (.seq (.region [⟨(.prim (.bin .eql .none)), [.tmp 8, .const (.int .i8 4)], (some 40), none⟩,
      ⟨(.prim .id), [.tmp 40], (some 39), none⟩] none)
     (.cond (.tmp 39)
      (.seq (.region [⟨(.prim (.fieldAddr 1 (some 3))), [.tmp 1], (some 41), none⟩,
       ⟨(.prim (.load (some 3))), [.tmp 41], (some 42), none⟩,
       ⟨(.prim (.fieldAddr 1 (some 3))), [.tmp 3], (some 43), none⟩,
       ⟨(.prim (.store (some 3))), [.tmp 43, .tmp 42], none, none⟩] none)
      (.seq (.region [⟨(.prim (.fieldAddr 8 none)), [.tmp 1], (some 44), none⟩,
       ⟨(.prim (.load none)), [.tmp 44], (some 45), none⟩,
       ⟨(.prim (.fieldAddr 8 none)), [.tmp 3], (some 46), none⟩,
       ⟨(.prim (.store none)), [.tmp 46, .tmp 45], none, none⟩] none)
      (.region [⟨(.prim (.fieldAddr 9 (some 2))), [.tmp 1], (some 47), none⟩,
       ⟨(.prim (.load (some 2))), [.tmp 47], (some 48), none⟩,
       ⟨(.prim (.fieldAddr 9 (some 2))), [.tmp 3], (some 49), none⟩,
       ⟨(.prim (.store (some 2))), [.tmp 49, .tmp 48], none, none⟩] none)))
      (.seq (.region [⟨(.prim (.bin .eql .none)), [.tmp 8, .const (.int .i8 5)], (some 51), none⟩,
       ⟨(.prim .id), [.tmp 51], (some 50), none⟩] none)
      (.cond (.tmp 50)
       (.region [⟨(.prim (.fieldAddr 1 (some 3))), [.tmp 1], (some 52), none⟩,
        ⟨(.prim (.load (some 3))), [.tmp 52], (some 53), none⟩,
        ⟨(.prim (.fieldAddr 1 (some 3))), [.tmp 3], (some 54), none⟩,
        ⟨(.prim (.store (some 3))), [.tmp 54, .tmp 53], none, none⟩] none)
       (.seq (.seq (.region [⟨(.prim (.bin .eql .none)), [.tmp 8, .const (.int .i8 6)], (some 56), none⟩,
        ⟨(.prim .id), [.tmp 56], (some 55), none⟩] none)
       (.cond (.tmp 55)
        .skip
        (.region [⟨(.prim (.bin .eql .none)), [.tmp 8, .const (.int .i8 7)], (some 57), none⟩,
         ⟨(.prim .id), [.tmp 57], (some 55), none⟩] none)))
       (.cond (.tmp 55)
        (.region [⟨(.prim (.fieldAddr 11 none)), [.tmp 1], (some 58), none⟩,
         ⟨(.prim (.load none)), [.tmp 58], (some 59), none⟩,
         ⟨(.prim (.fieldAddr 11 none)), [.tmp 3], (some 60), none⟩,
         ⟨(.prim (.store none)), [.tmp 60, .tmp 59], none, none⟩] none)
        .skip))))))))))))))
 (.seq (.region [⟨(.prim (.load (some 12))), [.tmp 3], (some 61), none⟩,
  ⟨(.prim (.store (some 12))), [.tmp 2, .tmp 61], none, none⟩] none)
 .ret))))
theorem F40 : IsFun Try.prog 40 1 62 c40 [.cell 2 (some 12)] := ⟨by decide, Try.f40, _, [1], Try.func40, rfl, by decide, rfl, by kernel_rfl, by kernel_rfl⟩

/-- cashbox/cashboxref07.Given -/
def c41 : ACode :=
 (.seq (.region [⟨(.prim .id), [.const (.bool false)], (some 4), none⟩] none)
 (.seq (.region [⟨(.prim .id), [.tmp 0], (some 5), none⟩,
  ⟨(.prim (.bin .geq .none)), [.tmp 5, .const (.int .i64 0)], (some 6), none⟩,
  ⟨(.prim .id), [.tmp 6], (some 7), none⟩,
  ⟨(.prim .id), [.tmp 0], (some 8), (some (7, true))⟩,
  ⟨(.prim (.bin .leq .none)), [.tmp 8, .const (.int .i64 255)], (some 9), (some (7, true))⟩,
  ⟨(.prim .pick), [.tmp 7, .tmp 9, .const (.bool false)], (some 10), none⟩,
  ⟨(.prim .id), [.tmp 10], (some 11), none⟩,
  ⟨(.prim .id), [.tmp 1], (some 12), (some (11, true))⟩,
  ⟨(.prim (.bin .geq .none)), [.tmp 12, .const (.int .i64 0)], (some 13), (some (11, true))⟩,
  ⟨(.prim .pick), [.tmp 11, .tmp 13, .const (.bool false)], (some 14), none⟩,
  ⟨(.prim .id), [.tmp 14], (some 15), none⟩,
  ⟨(.prim .id), [.tmp 1], (some 16), (some (15, true))⟩,
  ⟨(.prim (.bin .leq .none)), [.tmp 16, .const (.int .i64 255)], (some 17), (some (15, true))⟩,
  ⟨(.prim .pick), [.tmp 15, .tmp 17, .const (.bool false)], (some 18), none⟩,
  ⟨(.prim .id), [.tmp 18], (some 19), none⟩,
  ⟨(.prim .id), [.tmp 0], (some 20), (some (19, true))⟩,
  ⟨(.prim .id), [.tmp 1], (some 21), (some (19, true))⟩,
  ⟨(.prim (.bin .and .none)), [.tmp 20, .tmp 21], (some 22), (some (19, true))⟩,
  ⟨(.prim (.bin .eql .none)), [.tmp 22, .const (.int .i64 0)], (some 23), (some (19, true))⟩,
  ⟨(.prim .pick), [.tmp 19, .tmp 23, .const (.bool false)], (some 24), none⟩,
  ⟨(.prim .id), [.tmp 24], (some 4), none⟩] none)
 .ret))
theorem F41 : IsFun Try.prog 41 2 25 c41 [.tmp 4] := ⟨by decide, Try.f41, _, [], Try.func41, rfl, by decide, rfl, by kernel_rfl, by kernel_rfl⟩

/-- cashbox/cashboxref07.Shards -/
def c42 : ACode :=
 (.seq (.region [⟨(.prim .id), [.const (.bool false)], (some 2), none⟩] none)
 (.seq (.region [⟨(.prim .id), [.tmp 0], (some 3), none⟩,
  ⟨(.prim (.bin .gtr .none)), [.tmp 3, .const (.int .i64 0)], (some 4), none⟩,
  ⟨(.prim .id), [.tmp 4], (some 5), none⟩,
  ⟨(.prim .id), [.tmp 0], (some 6), (some (5, true))⟩,
  ⟨(.prim (.bin .and .none)), [.tmp 6, .const (.int .i64 1)], (some 7), (some (5, true))⟩,
  ⟨(.prim (.bin .eql .none)), [.tmp 7, .const (.int .i64 0)], (some 8), (some (5, true))⟩,
  ⟨(.prim .pick), [.tmp 5, .tmp 8, .const (.bool false)], (some 9), none⟩,
  ⟨(.prim .id), [.tmp 9], (some 10), none⟩,
  ⟨(.prim .id), [.tmp 0], (some 11), (some (10, true))⟩,
  ⟨(.prim (.bin .lss .none)), [.tmp 11, .const (.int .i64 32)], (some 12), (some (10, true))⟩,
  ⟨(.prim .pick), [.tmp 10, .tmp 12, .const (.bool false)], (some 13), none⟩,
  ⟨(.prim .id), [.tmp 13], (some 2), none⟩] none)
 .ret))
theorem F42 : IsFun Try.prog 42 1 14 c42 [.tmp 2] := ⟨by decide, Try.f42, _, [], Try.func42, rfl, by decide, rfl, by kernel_rfl, by kernel_rfl⟩

/-- cashbox/cashboxref07.Changed -/
def c43 : ACode :=
 (.seq (.region [⟨(.prim (.boxR (some 2))), [.tmp 0], (some 1), none⟩,
  ⟨(.prim .id), [.const (.bool false)], (some 2), none⟩] none)
 (.seq (.seq (.region [⟨(.prim (.fieldAddr 0 none)), [.tmp 1], (some 3), none⟩,
  ⟨(.prim (.load none)), [.tmp 3], (some 4), none⟩,
  ⟨(.prim (.bin .eql .none)), [.tmp 4, .const (.int .i64 (-1))], (some 5), none⟩] none)
 (.cond (.tmp 5)
  (.seq (.region [⟨(.prim (.fieldAddr 1 none)), [.tmp 1], (some 6), none⟩,
   ⟨(.prim (.load none)), [.tmp 6], (some 7), none⟩,
   ⟨(.prim (.bin .eql .none)), [.tmp 7, .const (.int .i64 0)], (some 8), none⟩,
   ⟨(.prim .id), [.tmp 8], (some 2), none⟩] none)
  .ret)
  .skip))
 (.seq (.region [⟨(.prim (.fieldAddr 0 none)), [.tmp 1], (some 9), none⟩,
  ⟨(.prim (.load none)), [.tmp 9], (some 10), none⟩,
  ⟨(.prim (.bin .geq .none)), [.tmp 10, .const (.int .i64 0)], (some 11), none⟩,
  ⟨(.prim .id), [.tmp 11], (some 12), none⟩,
  ⟨(.prim (.fieldAddr 0 none)), [.tmp 1], (some 13), (some (12, true))⟩,
  ⟨(.prim (.load none)), [.tmp 13], (some 14), (some (12, true))⟩,
  ⟨(.prim (.bin .lss .none)), [.tmp 14, .const (.int .i64 8)], (some 15), (some (12, true))⟩,
  ⟨(.prim .pick), [.tmp 12, .tmp 15, .const (.bool false)], (some 16), none⟩,
  ⟨(.prim .id), [.tmp 16], (some 17), none⟩,
  ⟨(.prim (.fieldAddr 1 none)), [.tmp 1], (some 18), (some (17, true))⟩,
  ⟨(.prim (.load none)), [.tmp 18], (some 19), (some (17, true))⟩,
  ⟨(.prim (.bin .geq .none)), [.tmp 19, .const (.int .i64 1)], (some 20), (some (17, true))⟩,
  ⟨(.prim .pick), [.tmp 17, .tmp 20, .const (.bool false)], (some 21), none⟩,
  ⟨(.prim .id), [.tmp 21], (some 22), none⟩,
  ⟨(.prim (.fieldAddr 1 none)), [.tmp 1], (some 23), (some (22, true))⟩,
  ⟨(.prim (.load none)), [.tmp 23], (some 24), (some (22, true))⟩,
  ⟨(.prim (.bin .leq .none)), [.tmp 24, .const (.int .i64 4)], (some 25), (some (22, true))⟩,
  ⟨(.prim .pick), [.tmp 22, .tmp 25, .const (.bool false)], (some 26), none⟩,
  ⟨(.prim .id), [.tmp 26], (some 2), none⟩] none)
 .ret)))
theorem F43 : IsFun Try.prog 43 1 27 c43 [.tmp 2] := ⟨by decide, Try.f43, _, [1], Try.func43, rfl, by decide, rfl, by kernel_rfl, by kernel_rfl⟩

/-- cashbox/record.within -/
def c44 : ACode :=
 (.seq (.region [⟨(.prim .id), [.const (.bool false)], (some 6), none⟩] none)
 (.seq (.region [⟨(.prim .id), [.tmp 0], (some 7), none⟩,
  ⟨(.prim .id), [.tmp 1], (some 8), none⟩,
  ⟨(.prim (.bin .geq .none)), [.tmp 7, .tmp 8], (some 9), none⟩,
  ⟨(.prim .id), [.tmp 9], (some 10), none⟩,
  ⟨(.prim .id), [.tmp 0], (some 11), (some (10, true))⟩,
  ⟨(.prim .id), [.tmp 2], (some 12), (some (10, true))⟩,
  ⟨(.prim (.bin .leq .none)), [.tmp 11, .tmp 12], (some 13), (some (10, true))⟩,
  ⟨(.prim .pick), [.tmp 10, .tmp 13, .const (.bool false)], (some 14), none⟩,
  ⟨(.prim .id), [.tmp 14], (some 6), none⟩] none)
 .ret))
theorem F44 : IsFun Try.prog 44 3 15 c44 [.tmp 6] := ⟨by decide, Try.f44, _, [], Try.func44, rfl, by decide, rfl, by kernel_rfl, by kernel_rfl⟩

-- loop: 0:a, 1:b, 5:i
/-- cashbox/cashboxref07.SameWrites -/
def c45 : ACode :=
 (.seq (.region [⟨(.prim .id), [.const (.bool false)], (some 4), none⟩] none)
 (.seq (.seq (.region [⟨(.prim .id), [.tmp 0], (some 6), none⟩,
  ⟨(.prim .len), [.tmp 6], (some 7), none⟩,
  ⟨(.prim .id), [.tmp 1], (some 8), none⟩,
  ⟨(.prim .len), [.tmp 8], (some 9), none⟩,
  ⟨(.prim (.bin .neq .none)), [.tmp 7, .tmp 9], (some 10), none⟩] none)
 (.cond (.tmp 10)
  (.seq (.region [⟨(.prim .id), [.const (.bool false)], (some 4), none⟩] none)
  .ret)
  .skip))
 (.seq (.seq (.region [⟨(.prim .id), [.const (.int .i64 0)], (some 5), none⟩] none)
 (.block 0
  (.loop
   (.seq (.seq (.region [⟨(.prim .id), [.tmp 5], (some 11), none⟩,
    ⟨(.prim .id), [.tmp 0], (some 12), none⟩,
    ⟨(.prim .len), [.tmp 12], (some 13), none⟩,
    ⟨(.prim (.bin .lss .none)), [.tmp 11, .tmp 13], (some 14), none⟩] none)
   (.cond (.tmp 14)
    .skip
    (.exit 0)))
   (.seq (.block 1
    (.seq (.region [⟨(.prim .id), [.tmp 0], (some 17), none⟩,
     ⟨(.prim .id), [.tmp 5], (some 18), none⟩,
     ⟨(.prim (.idxSl (some 9))), [.tmp 17, .tmp 18], (some 19), none⟩,
     ⟨(.prim (.load (some 9))), [.tmp 19], (some 20), none⟩,
     ⟨(.prim .id), [.tmp 1], (some 21), none⟩,
     ⟨(.prim .id), [.tmp 5], (some 22), none⟩,
     ⟨(.prim (.idxSl (some 9))), [.tmp 21, .tmp 22], (some 23), none⟩,
     ⟨(.prim (.load (some 9))), [.tmp 23], (some 24), none⟩,
     ⟨(.prim (.bin .neq (.flat [0, 0, 0, 0, 0, 0, 0, 0, 0]))), [.tmp 20, .tmp 24], (some 25), none⟩] (some [[], [], [0, 1], [2], [], [], [4, 5], [6], [3, 7]]))
    (.cond (.tmp 25)
     (.seq (.region [⟨(.prim .id), [.const (.bool false)], (some 4), none⟩] none)
     .ret)
     .skip)))
   (.region [⟨(.prim .id), [.tmp 5], (some 15), none⟩,
    ⟨(.prim (.bin .add .none)), [.tmp 15, .const (.int .i64 1)], (some 16), none⟩,
    ⟨(.prim .id), [.tmp 16], (some 5), none⟩] none))))))
 (.seq (.region [⟨(.prim .id), [.const (.bool true)], (some 4), none⟩] none)
 .ret))))
theorem F45 : IsFun Try.prog 45 2 26 c45 [.tmp 4] := ⟨by decide, Try.f45, _, [], Try.func45, rfl, by decide, rfl, by kernel_rfl, by kernel_rfl⟩

/-- cashbox/record.forms -/
def c46 : ACode :=
 (.seq (.region [⟨(.prim (.alloc [.nilfn, .nilfn, .nilfn, .nilfn, .nilfn, .nilfn, .nilfn, .nilfn, .nilfn, .nilfn, .nilfn, .nilfn, .nilfn, .nilfn, .nilfn, .nilfn, .nilfn, .nilfn, .nilfn, .nilfn, .nilfn, .nilfn, .nilfn, .nilfn])), [], (some 0), none⟩] none)
 (.seq (.region [⟨(.prim .id), [.const (.fn (.func 49) [] [])], (some 1), none⟩] none)
 (.seq (.region [⟨(.prim .id), [.const (.fn (.func 50) [] [])], (some 2), none⟩] none)
 (.seq (.region [⟨(.prim .id), [.const (.fn (.func 56) [] [])], (some 3), none⟩] none)
 (.seq (.region [⟨(.prim .id), [.tmp 3], (some 4), none⟩,
  ⟨.callV, [.tmp 4, .const (.fn (.func 62) [] []), .const (.fn (.func 64) [] []), .const (.fn (.func 66) [] [])], (some 5), none⟩,
  ⟨(.prim .id), [.tmp 3], (some 6), none⟩,
  ⟨.callV, [.tmp 6, .const (.fn (.func 67) [] []), .const (.fn (.func 69) [] []), .const (.fn (.func 71) [] [])], (some 7), none⟩,
  ⟨(.prim .id), [.tmp 3], (some 8), none⟩,
  ⟨(.prim .id), [.tmp 1], (some 9), none⟩,
  ⟨.callV, [.tmp 8, .const (.fn (.func 72) [] []), .const (.fn (.func 74) [] []), .tmp 9], (some 10), none⟩,
  ⟨(.prim .id), [.tmp 3], (some 11), none⟩,
  ⟨.callV, [.tmp 11, .const (.fn (.func 76) [] []), .const (.fn (.func 77) [] []), .const (.fn (.func 78) [] [])], (some 12), none⟩,
  ⟨(.prim .id), [.tmp 3], (some 13), none⟩,
  ⟨(.prim .id), [.tmp 1], (some 14), none⟩,
  ⟨.callV, [.tmp 13, .const (.fn (.func 79) [] []), .const (.fn (.func 80) [] []), .tmp 14], (some 15), none⟩,
  ⟨(.prim .id), [.tmp 2], (some 16), none⟩,
  ⟨.callV, [.tmp 16, .const (.int .i64 1048577)], (some 17), none⟩,
  ⟨(.prim .id), [.tmp 2], (some 18), none⟩,
  ⟨.callV, [.tmp 18, .const (.int .i64 1048576)], (some 19), none⟩,
  ⟨(.prim (.build [.nilfn, .nilfn, .nilfn, .nilfn, .nilfn, .nilfn, .nilfn, .nilfn, .nilfn, .nilfn, .nilfn, .nilfn, .nilfn, .nilfn, .nilfn, .nilfn, .nilfn, .nilfn, .nilfn, .nilfn, .nilfn, .nilfn, .nilfn, .nilfn] [(3, 3), (6, 3), (9, 3), (12, 3), (15, 3), (18, 3), (21, 3)])), [.tmp 5, .tmp 7, .tmp 10, .tmp 12, .tmp 15, .tmp 17, .tmp 19], (some 20), none⟩,
  ⟨(.prim (.store (some 24))), [.tmp 0, .tmp 20], none, none⟩] none)
 .ret)))))
theorem F46 : IsFun Try.prog 46 0 21 c46 [.cell 0 (some 24)] := ⟨by decide, Try.f46, _, [], Try.func46, rfl, by decide, rfl, by kernel_rfl, by kernel_rfl⟩

-- loop: 0:r, 2:, 3:v, 4:i
/-- (*cashbox/cashboxref07.Reader).Value -/
def c47 : ACode :=
 (.seq (.region [⟨(.prim (.alloc [(.int .u8 0), (.int .u8 0), (.int .u8 0), (.int .u8 0), (.int .u8 0), (.int .u8 0), (.int .u8 0), (.int .u8 0)])), [], (some 2), none⟩] none)
 (.seq (.region [⟨(.prim (.alloc [(.int .u8 0), (.int .u8 0), (.int .u8 0), (.int .u8 0), (.int .u8 0), (.int .u8 0), (.int .u8 0), (.int .u8 0)])), [], (some 3), none⟩] none)
 (.seq (.seq (.region [⟨(.prim .id), [.const (.int .i64 0)], (some 4), none⟩] none)
 (.block 0
  (.loop
   (.seq (.seq (.region [⟨(.prim .id), [.tmp 4], (some 5), none⟩,
    ⟨(.prim (.bin .lss .none)), [.tmp 5, .const (.int .i64 8)], (some 6), none⟩] none)
   (.cond (.tmp 6)
    .skip
    (.exit 0)))
   (.seq (.block 1
    (.region [⟨(.prim .id), [.tmp 4], (some 9), none⟩,
     ⟨(.prim .id), [.tmp 0], (some 10), none⟩,
     ⟨(.call 27), [.tmp 10], (some 11), none⟩,
     ⟨(.prim (.conv .u8)), [.tmp 11], (some 12), none⟩,
     ⟨(.prim (.idxArr 8 none)), [.tmp 3, .tmp 9], (some 13), none⟩,
     ⟨(.prim (.store none)), [.tmp 13, .tmp 12], none, none⟩] none))
   (.region [⟨(.prim .id), [.tmp 4], (some 7), none⟩,
    ⟨(.prim (.bin .add .none)), [.tmp 7, .const (.int .i64 1)], (some 8), none⟩,
    ⟨(.prim .id), [.tmp 8], (some 4), none⟩] none))))))
 (.seq (.region [⟨(.prim (.load (some 8))), [.tmp 3], (some 14), none⟩,
  ⟨(.prim (.store (some 8))), [.tmp 2, .tmp 14], none, none⟩] none)
 .ret))))
theorem F47 : IsFun Try.prog 47 1 15 c47 [.cell 2 (some 8)] := ⟨by decide, Try.f47, _, [], Try.func47, rfl, by decide, rfl, by kernel_rfl, by kernel_rfl⟩

/-- cmp.isNaN[int] -/
def c48 : ACode :=
 (.seq (.region [⟨(.prim .id), [.const (.bool false)], (some 2), none⟩] none)
 (.seq (.region [⟨(.prim .id), [.tmp 0], (some 3), none⟩,
  ⟨(.prim .id), [.tmp 0], (some 4), none⟩,
  ⟨(.prim (.bin .neq .none)), [.tmp 3, .tmp 4], (some 5), none⟩,
  ⟨(.prim .id), [.tmp 5], (some 2), none⟩] none)
 .ret))
theorem F48 : IsFun Try.prog 48 1 6 c48 [.tmp 2] := ⟨by decide, Try.f48, _, [], Try.func48, rfl, by decide, rfl, by kernel_rfl, by kernel_rfl⟩

/-- cashbox/record.forms$1 -/
def c49 : ACode :=
 (.seq (.region [⟨(.prim .id), [.const (.bool false)], (some 2), none⟩] none)
 (.seq (.region [⟨(.prim .id), [.const (.bool true)], (some 2), none⟩] none)
 .ret))
theorem F49 : IsFun Try.prog 49 1 3 c49 [.tmp 2] := ⟨by decide, Try.f49, _, [], Try.func49, rfl, by decide, rfl, by kernel_rfl, by kernel_rfl⟩

/-- cashbox/record.forms$2 -/
def c50 : ACode :=
 (.seq (.region [⟨(.prim (.boxR none)), [.tmp 0], (some 1), none⟩,
  ⟨(.prim (.alloc [.nilfn, .nilfn, .nilfn])), [], (some 2), none⟩] none)
 (.seq (.region [⟨(.prim (.mkfn (.func 55) 0)), [.tmp 1], (some 3), none⟩,
  ⟨(.prim (.build [.nilfn, .nilfn, .nilfn] [(0, 1), (1, 1), (2, 1)])), [.const (.fn (.func 51) [] []), .const (.fn (.func 53) [] []), .tmp 3], (some 4), none⟩,
  ⟨(.prim (.store (some 3))), [.tmp 2, .tmp 4], none, none⟩] none)
 .ret))
theorem F50 : IsFun Try.prog 50 1 5 c50 [.cell 2 (some 3)] := ⟨by decide, Try.f50, _, [1], Try.func50, rfl, by decide, rfl, by kernel_rfl, by kernel_rfl⟩

/-- cashbox/record.forms$2$1 -/
def c51 : ACode :=
 (.region [⟨(.prim .id), [.tmp 0], (some 4), none⟩,
  ⟨(.prim .id), [.tmp 1], (some 5), none⟩,
  ⟨(.prim .nilc), [.tmp 5], (some 6), none⟩,
  ⟨(.prim (.fieldAddr 11 none)), [.tmp 6], (some 7), none⟩,
  ⟨(.prim (.load none)), [.tmp 7], (some 8), none⟩,
  ⟨(.call 52), [.tmp 4, .tmp 8], (some 9), none⟩] none)
theorem F51 : IsFun Try.prog 51 2 10 c51 [] := ⟨by decide, Try.f51, _, [], Try.func51, rfl, by decide, rfl, by kernel_rfl, by kernel_rfl⟩

/-- (*cashbox/record.writer).three -/
def c52 : ACode :=
 (.region [⟨(.prim .id), [.tmp 0], (some 4), none⟩,
  ⟨(.prim .id), [.tmp 1], (some 5), none⟩,
  ⟨(.prim .id), [.tmp 1], (some 6), none⟩,
  ⟨(.prim (.bin .shr .none)), [.tmp 6, .const (.int .u64 8)], (some 7), none⟩,
  ⟨(.prim .id), [.tmp 1], (some 8), none⟩,
  ⟨(.prim (.bin .shr .none)), [.tmp 8, .const (.int .u64 16)], (some 9), none⟩,
  ⟨(.prim (.buildSl none)), [.tmp 5, .tmp 7, .tmp 9], (some 10), none⟩,
  ⟨(.call 68), [.tmp 4, .tmp 10], (some 11), none⟩] none)
theorem F52 : IsFun Try.prog 52 2 12 c52 [] := ⟨by decide, Try.f52, _, [], Try.func52, rfl, by decide, rfl, by kernel_rfl, by kernel_rfl⟩

/-- cashbox/record.forms$2$2 -/
def c53 : ACode :=
 (.region [⟨(.prim .id), [.tmp 1], (some 4), none⟩,
  ⟨(.prim .id), [.tmp 0], (some 5), none⟩,
  ⟨(.call 54), [.tmp 5], (some 6), none⟩,
  ⟨(.prim .nilc), [.tmp 4], (some 7), none⟩,
  ⟨(.prim (.fieldAddr 11 none)), [.tmp 7], (some 8), none⟩,
  ⟨(.prim (.store none)), [.tmp 8, .tmp 6], none, none⟩] none)
theorem F53 : IsFun Try.prog 53 2 9 c53 [] := ⟨by decide, Try.f53, _, [], Try.func53, rfl, by decide, rfl, by kernel_rfl, by kernel_rfl⟩

-- loop: 0:g, 3:n, 5:
/-- (*cashbox/record.reader).three -/
def c54 : ACode :=
 (.seq (.region [⟨(.prim .id), [.const (.int .i64 0)], (some 2), none⟩] none)
 (.seq (.region [⟨(.prim .id), [.const (.int .i64 0)], (some 3), none⟩] none)
 (.seq (.seq (.region [⟨(.prim .id), [.const (.int .i64 0)], (some 5), none⟩] none)
 (.block 0
  (.loop
   (.seq (.region [⟨(.prim (.bin .lss .none)), [.tmp 5, .const (.int .i64 3)], (some 6), none⟩] none)
   (.seq (.cond (.tmp 6)
    .skip
    (.exit 0))
   (.seq (.block 1
    (.seq (.region [⟨(.prim .id), [.tmp 5], (some 7), none⟩,
     ⟨(.prim .id), [.tmp 7], (some 4), none⟩] none)
    (.region [⟨(.prim .id), [.tmp 3], (some 8), none⟩,
     ⟨(.prim .id), [.tmp 0], (some 9), none⟩,
     ⟨(.call 70), [.tmp 9], (some 10), none⟩,
     ⟨(.prim .id), [.tmp 4], (some 11), none⟩,
     ⟨(.prim (.bin .mul .none)), [.const (.int .i64 8), .tmp 11], (some 12), none⟩,
     ⟨(.prim (.bin .shl .none)), [.tmp 10, .tmp 12], (some 13), none⟩,
     ⟨(.prim (.bin .or .none)), [.tmp 8, .tmp 13], (some 14), none⟩,
     ⟨(.prim .id), [.tmp 14], (some 3), none⟩] none)))
   (.region [⟨(.prim (.bin .add .none)), [.tmp 5, .const (.int .i64 1)], (some 15), none⟩,
    ⟨(.prim .id), [.tmp 15], (some 5), none⟩] none)))))))
 (.seq (.region [⟨(.prim .id), [.tmp 3], (some 16), none⟩,
  ⟨(.prim .id), [.tmp 16], (some 2), none⟩] none)
 .ret))))
theorem F54 : IsFun Try.prog 54 1 17 c54 [.tmp 2] := ⟨by decide, Try.f54, _, [], Try.func54, rfl, by decide, rfl, by kernel_rfl, by kernel_rfl⟩

/-- cashbox/record.forms$2$3 -/
def c55 : ACode :=
 (.seq (.region [⟨(.prim .id), [.const (.bool false)], (some 3), none⟩] none)
 (.seq (.region [⟨(.prim .id), [.tmp 0], (some 4), none⟩,
  ⟨(.prim .nilc), [.tmp 4], (some 5), none⟩,
  ⟨(.prim (.fieldAddr 11 none)), [.tmp 5], (some 6), none⟩,
  ⟨(.prim (.load none)), [.tmp 6], (some 7), none⟩,
  ⟨(.prim (.load none)), [.tmp 1], (some 8), none⟩,
  ⟨(.call 44), [.tmp 7, .const (.int .i64 1), .tmp 8], (some 9), none⟩,
  ⟨(.prim .id), [.tmp 9], (some 3), none⟩] (some [[], [0], [1], [2], [], [3, 4], [5, 5, 0, 1, 2, 3, 4, 5]]))
 .ret))
theorem F55 : IsFun Try.prog 55 2 10 c55 [.tmp 3] := ⟨by decide, Try.f55, _, [], Try.func55, rfl, by decide, rfl, by kernel_rfl, by kernel_rfl⟩

/-- cashbox/record.forms$3 -/
def c56 : ACode :=
 (.seq (.region [⟨(.prim (.boxR none)), [.tmp 0], (some 3), none⟩,
  ⟨(.prim (.boxR none)), [.tmp 1], (some 4), none⟩,
  ⟨(.prim (.boxR none)), [.tmp 2], (some 5), none⟩,
  ⟨(.prim (.alloc [.nilfn, .nilfn, .nilfn])), [], (some 6), none⟩] none)
 (.seq (.region [⟨(.prim (.mkfn (.func 57) 0)), [.tmp 3], (some 7), none⟩,
  ⟨(.prim (.mkfn (.func 59) 0)), [.tmp 4], (some 8), none⟩,
  ⟨(.prim (.mkfn (.func 61) 0)), [.tmp 5], (some 9), none⟩,
  ⟨(.prim (.build [.nilfn, .nilfn, .nilfn] [(0, 1), (1, 1), (2, 1)])), [.tmp 7, .tmp 8, .tmp 9], (some 10), none⟩,
  ⟨(.prim (.store (some 3))), [.tmp 6, .tmp 10], none, none⟩] none)
 .ret))
theorem F56 : IsFun Try.prog 56 3 11 c56 [.cell 6 (some 3)] := ⟨by decide, Try.f56, _, [3, 4, 5], Try.func56, rfl, by decide, rfl, by kernel_rfl, by kernel_rfl⟩

/-- cashbox/record.forms$3$1 -/
def c57 : ACode :=
 (.seq (.region [⟨(.prim .id), [.tmp 0], (some 5), none⟩,
  ⟨(.prim .id), [.tmp 1], (some 6), none⟩,
  ⟨(.prim .nilc), [.tmp 6], (some 7), none⟩,
  ⟨(.prim (.fieldAddr 1 (some 3))), [.tmp 7], (some 8), none⟩,
  ⟨(.prim (.load (some 3))), [.tmp 8], (some 9), none⟩,
  ⟨(.call 58), [.tmp 5, .tmp 9], (some 10), none⟩] none)
 (.region [⟨(.prim (.load none)), [.tmp 2], (some 11), none⟩,
  ⟨(.prim .id), [.tmp 0], (some 12), none⟩,
  ⟨(.prim .id), [.tmp 1], (some 13), none⟩,
  ⟨.callV, [.tmp 11, .tmp 12, .tmp 13], (some 14), none⟩] none))
theorem F57 : IsFun Try.prog 57 3 15 c57 [] := ⟨by decide, Try.f57, _, [], Try.func57, rfl, by decide, rfl, by kernel_rfl, by kernel_rfl⟩

-- loop: 0:w, 12:, 13:
/-- (*cashbox/record.writer).name -/
def c58 : ACode :=
 (.seq (.region [⟨(.prim (.boxR (some 3))), [.tmp 1], (some 3), none⟩] none)
 (.seq (.region [⟨(.prim (.fieldAddr 0 none)), [.tmp 3], (some 6), none⟩,
  ⟨(.prim (.load none)), [.tmp 6], (some 7), none⟩,
  ⟨(.prim (.fieldAddr 1 none)), [.tmp 3], (some 8), none⟩,
  ⟨(.prim (.load none)), [.tmp 8], (some 9), none⟩,
  ⟨(.prim (.fieldAddr 2 none)), [.tmp 3], (some 10), none⟩,
  ⟨(.prim (.load none)), [.tmp 10], (some 11), none⟩,
  ⟨(.prim (.build [(.int .i64 0), (.int .i64 0), (.int .i64 0)] [(0, 1), (1, 1), (2, 1)])), [.tmp 7, .tmp 9, .tmp 11], (some 12), none⟩,
  ⟨(.prim .id), [.const (.int .i64 0)], (some 13), none⟩] none)
 (.block 0
  (.loop
   (.seq (.region [⟨(.prim (.bin .lss .none)), [.tmp 13, .const (.int .i64 3)], (some 14), none⟩] none)
   (.seq (.cond (.tmp 14)
    .skip
    (.exit 0))
   (.seq (.block 1
    (.seq (.region [⟨(.prim (.idxArrV 3 none)), [.tmp 12, .tmp 13], (some 15), none⟩,
     ⟨(.prim .id), [.tmp 15], (some 5), none⟩] none)
    (.region [⟨(.prim .id), [.tmp 0], (some 16), none⟩,
     ⟨(.prim .id), [.tmp 5], (some 17), none⟩,
     ⟨(.call 52), [.tmp 16, .tmp 17], (some 18), none⟩] none)))
   (.region [⟨(.prim (.bin .add .none)), [.tmp 13, .const (.int .i64 1)], (some 19), none⟩,
    ⟨(.prim .id), [.tmp 19], (some 13), none⟩] none))))))))
theorem F58 : IsFun Try.prog 58 2 20 c58 [] := ⟨by decide, Try.f58, _, [3], Try.func58, rfl, by decide, rfl, by kernel_rfl, by kernel_rfl⟩

/-- cashbox/record.forms$3$2 -/
def c59 : ACode :=
 (.seq (.region [⟨(.prim .id), [.tmp 1], (some 5), none⟩,
  ⟨(.prim .id), [.tmp 0], (some 6), none⟩,
  ⟨(.call 60), [.tmp 6], (some 7), none⟩,
  ⟨(.prim .nilc), [.tmp 5], (some 8), none⟩,
  ⟨(.prim (.fieldAddr 1 (some 3))), [.tmp 8], (some 9), none⟩,
  ⟨(.prim (.store (some 3))), [.tmp 9, .tmp 7], none, none⟩] none)
 (.region [⟨(.prim (.load none)), [.tmp 2], (some 10), none⟩,
  ⟨(.prim .id), [.tmp 0], (some 11), none⟩,
  ⟨(.prim .id), [.tmp 1], (some 12), none⟩,
  ⟨.callV, [.tmp 10, .tmp 11, .tmp 12], (some 13), none⟩] none))
theorem F59 : IsFun Try.prog 59 3 14 c59 [] := ⟨by decide, Try.f59, _, [], Try.func59, rfl, by decide, rfl, by kernel_rfl, by kernel_rfl⟩

-- loop: 0:g, 2:, 3:n, 9:, 10:
/-- (*cashbox/record.reader).name -/
def c60 : ACode :=
 (.seq (.region [⟨(.prim (.alloc [(.int .i64 0), (.int .i64 0), (.int .i64 0)])), [], (some 2), none⟩] none)
 (.seq (.region [⟨(.prim (.alloc [(.int .i64 0), (.int .i64 0), (.int .i64 0)])), [], (some 3), none⟩] none)
 (.seq (.seq (.region [⟨(.prim (.fieldAddr 0 none)), [.tmp 3], (some 6), none⟩,
  ⟨(.prim (.fieldAddr 1 none)), [.tmp 3], (some 7), none⟩,
  ⟨(.prim (.fieldAddr 2 none)), [.tmp 3], (some 8), none⟩,
  ⟨(.prim (.build [.nilp, .nilp, .nilp] [(0, 1), (1, 1), (2, 1)])), [.tmp 6, .tmp 7, .tmp 8], (some 9), none⟩,
  ⟨(.prim .id), [.const (.int .i64 0)], (some 10), none⟩] none)
 (.block 0
  (.loop
   (.seq (.region [⟨(.prim (.bin .lss .none)), [.tmp 10, .const (.int .i64 3)], (some 11), none⟩] none)
   (.seq (.cond (.tmp 11)
    .skip
    (.exit 0))
   (.seq (.block 1
    (.seq (.region [⟨(.prim (.idxArrV 3 none)), [.tmp 9, .tmp 10], (some 12), none⟩,
     ⟨(.prim .id), [.tmp 12], (some 5), none⟩] none)
    (.region [⟨(.prim .id), [.tmp 5], (some 13), none⟩,
     ⟨(.prim .id), [.tmp 0], (some 14), none⟩,
     ⟨(.call 54), [.tmp 14], (some 15), none⟩,
     ⟨(.prim .nilc), [.tmp 13], (some 16), none⟩,
     ⟨(.prim (.store none)), [.tmp 16, .tmp 15], none, none⟩] none)))
   (.region [⟨(.prim (.bin .add .none)), [.tmp 10, .const (.int .i64 1)], (some 17), none⟩,
    ⟨(.prim .id), [.tmp 17], (some 10), none⟩] none)))))))
 (.seq (.region [⟨(.prim (.load (some 3))), [.tmp 3], (some 18), none⟩,
  ⟨(.prim (.store (some 3))), [.tmp 2, .tmp 18], none, none⟩] none)
 .ret))))
theorem F60 : IsFun Try.prog 60 1 19 c60 [.cell 2 (some 3)] := ⟨by decide, Try.f60, _, [], Try.func60, rfl, by decide, rfl, by kernel_rfl, by kernel_rfl⟩

/-- cashbox/record.forms$3$3 -/
def c61 : ACode :=
 (.seq (.region [⟨(.prim .id), [.const (.bool false)], (some 3), none⟩] none)
 (.seq (.region [⟨(.prim .id), [.tmp 0], (some 4), none⟩,
  ⟨(.prim .nilc), [.tmp 4], (some 5), none⟩,
  ⟨(.prim (.fieldAddr 1 (some 3))), [.tmp 5], (some 6), none⟩,
  ⟨(.prim (.load (some 3))), [.tmp 6], (some 7), none⟩,
  ⟨(.call 20), [.tmp 7], (some 8), none⟩,
  ⟨(.prim .id), [.tmp 8], (some 9), none⟩,
  ⟨(.prim (.load none)), [.tmp 1], (some 10), (some (9, true))⟩,
  ⟨(.prim .id), [.tmp 0], (some 11), (some (9, true))⟩,
  ⟨.callV, [.tmp 10, .tmp 11], (some 12), (some (9, true))⟩,
  ⟨(.prim .pick), [.tmp 9, .tmp 12, .const (.bool false)], (some 13), none⟩,
  ⟨(.prim .id), [.tmp 13], (some 3), none⟩] none)
 .ret))
theorem F61 : IsFun Try.prog 61 2 14 c61 [.tmp 3] := ⟨by decide, Try.f61, _, [], Try.func61, rfl, by decide, rfl, by kernel_rfl, by kernel_rfl⟩

/-- cashbox/record.forms$4 -/
def c62 : ACode :=
 (.region [⟨(.prim .id), [.tmp 0], (some 4), none⟩,
  ⟨(.prim .id), [.tmp 1], (some 5), none⟩,
  ⟨(.prim .nilc), [.tmp 5], (some 6), none⟩,
  ⟨(.prim (.fieldAddr 5 none)), [.tmp 6], (some 7), none⟩,
  ⟨(.prim (.load none)), [.tmp 7], (some 8), none⟩,
  ⟨(.call 63), [.tmp 4, .tmp 8], (some 9), none⟩] none)
theorem F62 : IsFun Try.prog 62 2 10 c62 [] := ⟨by decide, Try.f62, _, [], Try.func62, rfl, by decide, rfl, by kernel_rfl, by kernel_rfl⟩

-- loop: 0:w, 11:, 12:, 13:
/-- (*cashbox/record.writer).writes -/
def c63 : ACode :=
 (.seq (.region [⟨(.prim .id), [.tmp 0], (some 6), none⟩,
  ⟨(.prim .id), [.tmp 1], (some 7), none⟩,
  ⟨(.prim .len), [.tmp 7], (some 8), none⟩,
  ⟨(.prim (.buildSl none)), [.tmp 8], (some 9), none⟩,
  ⟨(.call 68), [.tmp 6, .tmp 9], (some 10), none⟩] none)
 (.seq (.region [⟨(.prim .id), [.tmp 1], (some 11), none⟩,
  ⟨(.prim .len), [.tmp 11], (some 12), none⟩,
  ⟨(.prim .id), [.const (.int .i64 0)], (some 13), none⟩] none)
 (.block 0
  (.loop
   (.seq (.region [⟨(.prim (.bin .lss .none)), [.tmp 13, .tmp 12], (some 14), none⟩] none)
   (.seq (.cond (.tmp 14)
    .skip
    (.exit 0))
   (.seq (.block 1
    (.seq (.region [⟨(.prim (.idxSl (some 9))), [.tmp 11, .tmp 13], (some 15), none⟩,
     ⟨(.prim (.load (some 9))), [.tmp 15], (some 16), none⟩,
     ⟨(.prim (.alloc [(.int .i64 0), (.int .u8 0), (.int .u8 0), (.int .u8 0), (.int .u8 0), (.int .u8 0), (.int .u8 0), (.int .u8 0), (.int .u8 0)])), [], (some 5), none⟩,
     ⟨(.prim (.store (some 9))), [.tmp 5, .tmp 16], none, none⟩] none)
    (.seq (.region [⟨(.prim .id), [.tmp 0], (some 17), none⟩,
     ⟨(.prim (.fieldAddr 0 none)), [.tmp 5], (some 18), none⟩,
     ⟨(.prim (.load none)), [.tmp 18], (some 19), none⟩,
     ⟨(.prim (.buildSl none)), [.tmp 19], (some 20), none⟩,
     ⟨(.call 68), [.tmp 17, .tmp 20], (some 21), none⟩] none)
    (.region [⟨(.prim .id), [.tmp 0], (some 22), none⟩,
     ⟨(.prim .id), [.tmp 0], (some 23), none⟩,
     ⟨(.prim .nilc), [.tmp 23], (some 24), none⟩,
     ⟨(.prim (.fieldAddr 0 none)), [.tmp 24], (some 25), none⟩,
     ⟨(.prim (.load none)), [.tmp 25], (some 26), none⟩,
     ⟨(.prim (.fieldAddr 1 (some 8))), [.tmp 5], (some 27), none⟩,
     ⟨(.prim (.slcArr 8 none false false)), [.tmp 27], (some 28), none⟩,
     ⟨(.prim (.append none)), [.tmp 26, .tmp 28], (some 29), none⟩,
     ⟨(.prim .nilc), [.tmp 22], (some 30), none⟩,
     ⟨(.prim (.fieldAddr 0 none)), [.tmp 30], (some 31), none⟩,
     ⟨(.prim (.store none)), [.tmp 31, .tmp 29], none, none⟩] (some [[], [], [1], [2], [3], [], [5], [4, 6], [0, 0, 1, 2, 3, 4, 5, 6, 7], [8, 0, 1, 2, 3, 4, 5, 6, 7], [9, 7, 7, 0, 1, 2, 3, 4, 5, 6, 7]])))))
   (.region [⟨(.prim (.bin .add .none)), [.tmp 13, .const (.int .i64 1)], (some 32), none⟩,
    ⟨(.prim .id), [.tmp 32], (some 13), none⟩] none))))))))
theorem F63 : IsFun Try.prog 63 2 33 c63 [] := ⟨by decide, Try.f63, _, [], Try.func63, rfl, by decide, rfl, by kernel_rfl, by kernel_rfl⟩

/-- cashbox/record.forms$5 -/
def c64 : ACode :=
 (.region [⟨(.prim .id), [.tmp 1], (some 4), none⟩,
  ⟨(.prim .id), [.tmp 0], (some 5), none⟩,
  ⟨(.call 65), [.tmp 5], (some 6), none⟩,
  ⟨(.prim .nilc), [.tmp 4], (some 7), none⟩,
  ⟨(.prim (.fieldAddr 5 none)), [.tmp 7], (some 8), none⟩,
  ⟨(.prim (.store none)), [.tmp 8, .tmp 6], none, none⟩] none)
theorem F64 : IsFun Try.prog 64 2 9 c64 [] := ⟨by decide, Try.f64, _, [], Try.func64, rfl, by decide, rfl, by kernel_rfl, by kernel_rfl⟩

/-- (*cashbox/record.reader).writes -/
def c65 : ACode :=
 (.seq (.region [⟨(.prim .id), [.const (.sl .clip [])], (some 2), none⟩] none)
 (.seq (.region [⟨(.prim .id), [.tmp 0], (some 3), none⟩,
  ⟨(.call 70), [.tmp 3], (some 4), none⟩,
  ⟨(.prim .id), [.tmp 0], (some 5), none⟩,
  ⟨(.prim (.mkfn (.func 82) 1)), [.tmp 5], (some 6), none⟩,
  ⟨(.prim .id), [.tmp 0], (some 7), none⟩,
  ⟨(.prim .nilc), [.tmp 7], (some 8), none⟩,
  ⟨(.prim (.fieldAddr 1 none)), [.tmp 8], (some 9), none⟩,
  ⟨(.call 81), [.tmp 4, .tmp 6, .tmp 9], (some 10), none⟩,
  ⟨(.prim .id), [.tmp 10], (some 2), none⟩] (some [[], [0], [], [2], [], [4], [5], [1, 3, 6, 1], [7, 7, 0, 1, 2, 3, 4, 5, 6, 7]]))
 .ret))
theorem F65 : IsFun Try.prog 65 1 11 c65 [.tmp 2] := ⟨by decide, Try.f65, _, [], Try.func65, rfl, by decide, rfl, by kernel_rfl, by kernel_rfl⟩

/-- cashbox/record.forms$6 -/
def c66 : ACode :=
 (.seq (.region [⟨(.prim .id), [.const (.bool false)], (some 2), none⟩] none)
 (.seq (.region [⟨(.prim .id), [.tmp 0], (some 3), none⟩,
  ⟨(.prim .nilc), [.tmp 3], (some 4), none⟩,
  ⟨(.prim (.fieldAddr 5 none)), [.tmp 4], (some 5), none⟩,
  ⟨(.prim (.load none)), [.tmp 5], (some 6), none⟩,
  ⟨(.call 22), [.tmp 6], (some 7), none⟩,
  ⟨(.prim .id), [.tmp 7], (some 2), none⟩] none)
 .ret))
theorem F66 : IsFun Try.prog 66 1 8 c66 [.tmp 2] := ⟨by decide, Try.f66, _, [], Try.func66, rfl, by decide, rfl, by kernel_rfl, by kernel_rfl⟩

/-- cashbox/record.forms$7 -/
def c67 : ACode :=
 (.seq (.region [⟨(.prim .id), [.tmp 0], (some 4), none⟩,
  ⟨(.prim .id), [.tmp 1], (some 5), none⟩,
  ⟨(.prim .nilc), [.tmp 5], (some 6), none⟩,
  ⟨(.prim (.fieldAddr 5 none)), [.tmp 6], (some 7), none⟩,
  ⟨(.prim (.load none)), [.tmp 7], (some 8), none⟩,
  ⟨(.call 63), [.tmp 4, .tmp 8], (some 9), none⟩] none)
 (.region [⟨(.prim .id), [.tmp 0], (some 10), none⟩,
  ⟨(.prim .id), [.tmp 1], (some 11), none⟩,
  ⟨(.prim .nilc), [.tmp 11], (some 12), none⟩,
  ⟨(.prim (.fieldAddr 6 none)), [.tmp 12], (some 13), none⟩,
  ⟨(.prim (.load none)), [.tmp 13], (some 14), none⟩,
  ⟨(.prim .id), [.tmp 1], (some 15), none⟩,
  ⟨(.prim .nilc), [.tmp 15], (some 16), none⟩,
  ⟨(.prim (.fieldAddr 7 none)), [.tmp 16], (some 17), none⟩,
  ⟨(.prim (.load none)), [.tmp 17], (some 18), none⟩,
  ⟨(.prim (.buildSl none)), [.tmp 14, .tmp 18], (some 19), none⟩,
  ⟨(.call 68), [.tmp 10, .tmp 19], (some 20), none⟩] (some [[], [], [1], [2], [3], [], [5], [6], [7], [4, 8], [0, 9]])))
theorem F67 : IsFun Try.prog 67 2 21 c67 [] := ⟨by decide, Try.f67, _, [], Try.func67, rfl, by decide, rfl, by kernel_rfl, by kernel_rfl⟩

-- loop: 0:w, 6:, 7:, 8:
/-- (*cashbox/record.writer).bytes -/
def c68 : ACode :=
 (.seq (.region [⟨(.prim .id), [.tmp 1], (some 6), none⟩,
  ⟨(.prim .len), [.tmp 6], (some 7), none⟩,
  ⟨(.prim .id), [.const (.int .i64 0)], (some 8), none⟩] none)
 (.block 0
  (.loop
   (.seq (.region [⟨(.prim (.bin .lss .none)), [.tmp 8, .tmp 7], (some 9), none⟩] none)
   (.seq (.cond (.tmp 9)
    .skip
    (.exit 0))
   (.seq (.block 1
    (.seq (.region [⟨(.prim (.idxSl none)), [.tmp 6, .tmp 8], (some 10), none⟩,
     ⟨(.prim (.load none)), [.tmp 10], (some 11), none⟩,
     ⟨(.prim .id), [.tmp 11], (some 5), none⟩] none)
    (.region [⟨(.prim .id), [.tmp 0], (some 12), none⟩,
     ⟨(.prim .id), [.tmp 0], (some 13), none⟩,
     ⟨(.prim .nilc), [.tmp 13], (some 14), none⟩,
     ⟨(.prim (.fieldAddr 0 none)), [.tmp 14], (some 15), none⟩,
     ⟨(.prim (.load none)), [.tmp 15], (some 16), none⟩,
     ⟨(.prim .id), [.tmp 5], (some 17), none⟩,
     ⟨(.prim (.conv .u8)), [.tmp 17], (some 18), none⟩,
     ⟨(.prim (.buildSl none)), [.tmp 18], (some 19), none⟩,
     ⟨(.prim (.append none)), [.tmp 16, .tmp 19], (some 20), none⟩,
     ⟨(.prim .nilc), [.tmp 12], (some 21), none⟩,
     ⟨(.prim (.fieldAddr 0 none)), [.tmp 21], (some 22), none⟩,
     ⟨(.prim (.store none)), [.tmp 22, .tmp 20], none, none⟩] none)))
   (.region [⟨(.prim (.bin .add .none)), [.tmp 8, .const (.int .i64 1)], (some 23), none⟩,
    ⟨(.prim .id), [.tmp 23], (some 8), none⟩] none)))))))
theorem F68 : IsFun Try.prog 68 2 24 c68 [] := ⟨by decide, Try.f68, _, [], Try.func68, rfl, by decide, rfl, by kernel_rfl, by kernel_rfl⟩

/-- cashbox/record.forms$8 -/
def c69 : ACode :=
 (.seq (.region [⟨(.prim .id), [.tmp 1], (some 4), none⟩,
  ⟨(.prim .id), [.tmp 0], (some 5), none⟩,
  ⟨(.call 65), [.tmp 5], (some 6), none⟩,
  ⟨(.prim .nilc), [.tmp 4], (some 7), none⟩,
  ⟨(.prim (.fieldAddr 5 none)), [.tmp 7], (some 8), none⟩,
  ⟨(.prim (.store none)), [.tmp 8, .tmp 6], none, none⟩] none)
 (.seq (.region [⟨(.prim .id), [.tmp 1], (some 9), none⟩,
  ⟨(.prim .id), [.tmp 0], (some 10), none⟩,
  ⟨(.call 70), [.tmp 10], (some 11), none⟩,
  ⟨(.prim .nilc), [.tmp 9], (some 12), none⟩,
  ⟨(.prim (.fieldAddr 6 none)), [.tmp 12], (some 13), none⟩,
  ⟨(.prim (.store none)), [.tmp 13, .tmp 11], none, none⟩] none)
 (.region [⟨(.prim .id), [.tmp 1], (some 14), none⟩,
  ⟨(.prim .id), [.tmp 0], (some 15), none⟩,
  ⟨(.call 70), [.tmp 15], (some 16), none⟩,
  ⟨(.prim .nilc), [.tmp 14], (some 17), none⟩,
  ⟨(.prim (.fieldAddr 7 none)), [.tmp 17], (some 18), none⟩,
  ⟨(.prim (.store none)), [.tmp 18, .tmp 16], none, none⟩] none)))
theorem F69 : IsFun Try.prog 69 2 19 c69 [] := ⟨by decide, Try.f69, _, [], Try.func69, rfl, by decide, rfl, by kernel_rfl, by kernel_rfl⟩

/-- (*cashbox/record.reader).byte -/
def c70 : ACode :=
 (.seq (.region [⟨(.prim .id), [.const (.int .i64 0)], (some 2), none⟩] none)
 (.seq (.seq (.region [⟨(.prim .id), [.tmp 0], (some 4), none⟩,
  ⟨(.prim .nilc), [.tmp 4], (some 5), none⟩,
  ⟨(.prim (.fieldAddr 0 none)), [.tmp 5], (some 6), none⟩,
  ⟨(.prim (.load none)), [.tmp 6], (some 7), none⟩,
  ⟨(.prim .len), [.tmp 7], (some 8), none⟩,
  ⟨(.prim (.bin .eql .none)), [.tmp 8, .const (.int .i64 0)], (some 9), none⟩] none)
 (.cond (.tmp 9)
  (.seq (.region [⟨(.prim .id), [.tmp 0], (some 10), none⟩,
   ⟨(.prim .nilc), [.tmp 10], (some 11), none⟩,
   ⟨(.prim (.fieldAddr 1 none)), [.tmp 11], (some 12), none⟩,
   ⟨(.prim (.store none)), [.tmp 12, .const (.bool true)], none, none⟩] none)
  (.seq (.region [⟨(.prim .id), [.const (.int .i64 0)], (some 2), none⟩] none)
  .ret))
  .skip))
 (.seq (.region [⟨(.prim .id), [.tmp 0], (some 13), none⟩,
  ⟨(.prim .nilc), [.tmp 13], (some 14), none⟩,
  ⟨(.prim (.fieldAddr 0 none)), [.tmp 14], (some 15), none⟩,
  ⟨(.prim (.load none)), [.tmp 15], (some 16), none⟩,
  ⟨(.prim (.idxSl none)), [.tmp 16, .const (.int .i64 0)], (some 17), none⟩,
  ⟨(.prim (.load none)), [.tmp 17], (some 18), none⟩,
  ⟨(.prim .id), [.tmp 18], (some 3), none⟩] none)
 (.seq (.region [⟨(.prim .id), [.tmp 0], (some 19), none⟩,
  ⟨(.prim .id), [.tmp 0], (some 20), none⟩,
  ⟨(.prim .nilc), [.tmp 20], (some 21), none⟩,
  ⟨(.prim (.fieldAddr 0 none)), [.tmp 21], (some 22), none⟩,
  ⟨(.prim (.load none)), [.tmp 22], (some 23), none⟩,
  ⟨(.prim (.slcSl none true false false)), [.tmp 23, .const (.int .i64 1)], (some 24), none⟩,
  ⟨(.prim .nilc), [.tmp 19], (some 25), none⟩,
  ⟨(.prim (.fieldAddr 0 none)), [.tmp 25], (some 26), none⟩,
  ⟨(.prim (.store none)), [.tmp 26, .tmp 24], none, none⟩] none)
 (.seq (.region [⟨(.prim .id), [.tmp 3], (some 27), none⟩,
  ⟨(.prim (.conv .i64)), [.tmp 27], (some 28), none⟩,
  ⟨(.prim .id), [.tmp 28], (some 2), none⟩] none)
 .ret)))))
theorem F70 : IsFun Try.prog 70 1 29 c70 [.tmp 2] := ⟨by decide, Try.f70, _, [], Try.func70, rfl, by decide, rfl, by kernel_rfl, by kernel_rfl⟩

/-- cashbox/record.forms$9 -/
def c71 : ACode :=
 (.seq (.region [⟨(.prim .id), [.const (.bool false)], (some 2), none⟩] none)
 (.seq (.region [⟨(.prim .id), [.tmp 0], (some 3), none⟩,
  ⟨(.prim .nilc), [.tmp 3], (some 4), none⟩,
  ⟨(.prim (.fieldAddr 5 none)), [.tmp 4], (some 5), none⟩,
  ⟨(.prim (.load none)), [.tmp 5], (some 6), none⟩,
  ⟨(.call 22), [.tmp 6], (some 7), none⟩,
  ⟨(.prim .id), [.tmp 7], (some 8), none⟩,
  ⟨(.prim .id), [.tmp 0], (some 9), (some (8, true))⟩,
  ⟨(.prim .nilc), [.tmp 9], (some 10), (some (8, true))⟩,
  ⟨(.prim (.fieldAddr 6 none)), [.tmp 10], (some 11), (some (8, true))⟩,
  ⟨(.prim (.load none)), [.tmp 11], (some 12), (some (8, true))⟩,
  ⟨(.call 44), [.tmp 12, .const (.int .i64 0), .const (.int .i64 255)], (some 13), (some (8, true))⟩,
  ⟨(.prim .pick), [.tmp 8, .tmp 13, .const (.bool false)], (some 14), none⟩,
  ⟨(.prim .id), [.tmp 14], (some 15), none⟩,
  ⟨(.prim .id), [.tmp 0], (some 16), (some (15, true))⟩,
  ⟨(.prim .nilc), [.tmp 16], (some 17), (some (15, true))⟩,
  ⟨(.prim (.fieldAddr 7 none)), [.tmp 17], (some 18), (some (15, true))⟩,
  ⟨(.prim (.load none)), [.tmp 18], (some 19), (some (15, true))⟩,
  ⟨(.call 44), [.tmp 19, .const (.int .i64 0), .const (.int .i64 255)], (some 20), (some (15, true))⟩,
  ⟨(.prim .pick), [.tmp 15, .tmp 20, .const (.bool false)], (some 21), none⟩,
  ⟨(.prim .id), [.tmp 21], (some 22), none⟩,
  ⟨(.prim .id), [.tmp 0], (some 23), (some (22, true))⟩,
  ⟨(.prim .nilc), [.tmp 23], (some 24), (some (22, true))⟩,
  ⟨(.prim (.fieldAddr 6 none)), [.tmp 24], (some 25), (some (22, true))⟩,
  ⟨(.prim (.load none)), [.tmp 25], (some 26), (some (22, true))⟩,
  ⟨(.prim .id), [.tmp 0], (some 27), (some (22, true))⟩,
  ⟨(.prim .nilc), [.tmp 27], (some 28), (some (22, true))⟩,
  ⟨(.prim (.fieldAddr 7 none)), [.tmp 28], (some 29), (some (22, true))⟩,
  ⟨(.prim (.load none)), [.tmp 29], (some 30), (some (22, true))⟩,
  ⟨(.prim (.bin .and .none)), [.tmp 26, .tmp 30], (some 31), (some (22, true))⟩,
  ⟨(.prim (.bin .eql .none)), [.tmp 31, .const (.int .i64 0)], (some 32), (some (22, true))⟩,
  ⟨(.prim .pick), [.tmp 22, .tmp 32, .const (.bool false)], (some 33), none⟩,
  ⟨(.prim .id), [.tmp 33], (some 2), none⟩] (some [[], [0], [1], [2], [3], [4, 4], [5], [6, 5], [7, 5], [8, 5], [9, 5, 5], [5, 10], [11, 10], [12], [13, 12], [14, 12], [15, 12], [16, 12, 12], [12, 17], [18, 17], [19], [20, 19], [21, 19], [22, 19], [19], [24, 19], [25, 19], [26, 19], [23, 27, 19], [28, 19], [19, 29], [30, 19, 0, 1, 2, 3, 4, 5, 6, 7, 8, 9, 10, 11, 12, 13, 14, 15, 16, 17, 18, 19, 20, 21, 22, 23, 24, 25, 26, 27, 28, 29, 30]]))
 .ret))
theorem F71 : IsFun Try.prog 71 1 34 c71 [.tmp 2] := ⟨by decide, Try.f71, _, [], Try.func71, rfl, by decide, rfl, by kernel_rfl, by kernel_rfl⟩

/-- cashbox/record.forms$10 -/
def c72 : ACode :=
 (.region [⟨(.prim .id), [.tmp 0], (some 4), none⟩,
  ⟨(.prim .id), [.tmp 1], (some 5), none⟩,
  ⟨(.prim .nilc), [.tmp 5], (some 6), none⟩,
  ⟨(.prim (.fieldAddr 4 none)), [.tmp 6], (some 7), none⟩,
  ⟨(.prim (.load none)), [.tmp 7], (some 8), none⟩,
  ⟨(.call 73), [.tmp 4, .tmp 8], (some 9), none⟩] none)
theorem F72 : IsFun Try.prog 72 2 10 c72 [] := ⟨by decide, Try.f72, _, [], Try.func72, rfl, by decide, rfl, by kernel_rfl, by kernel_rfl⟩

/-- (*cashbox/record.writer).flag -/
def c73 : ACode :=
 (.seq (.region [⟨(.prim .id), [.tmp 1], (some 4), none⟩] none)
 (.cond (.tmp 4)
  (.region [⟨(.prim .id), [.tmp 0], (some 5), none⟩,
   ⟨(.prim (.buildSl none)), [.const (.int .i64 1)], (some 6), none⟩,
   ⟨(.call 68), [.tmp 5, .tmp 6], (some 7), none⟩] none)
  (.region [⟨(.prim .id), [.tmp 0], (some 8), none⟩,
   ⟨(.prim (.buildSl none)), [.const (.int .i64 0)], (some 9), none⟩,
   ⟨(.call 68), [.tmp 8, .tmp 9], (some 10), none⟩] none)))
theorem F73 : IsFun Try.prog 73 2 11 c73 [] := ⟨by decide, Try.f73, _, [], Try.func73, rfl, by decide, rfl, by kernel_rfl, by kernel_rfl⟩

/-- cashbox/record.forms$11 -/
def c74 : ACode :=
 (.region [⟨(.prim .id), [.tmp 1], (some 4), none⟩,
  ⟨(.prim .id), [.tmp 0], (some 5), none⟩,
  ⟨(.call 75), [.tmp 5], (some 6), none⟩,
  ⟨(.prim .nilc), [.tmp 4], (some 7), none⟩,
  ⟨(.prim (.fieldAddr 4 none)), [.tmp 7], (some 8), none⟩,
  ⟨(.prim (.store none)), [.tmp 8, .tmp 6], none, none⟩] none)
theorem F74 : IsFun Try.prog 74 2 9 c74 [] := ⟨by decide, Try.f74, _, [], Try.func74, rfl, by decide, rfl, by kernel_rfl, by kernel_rfl⟩

/-- (*cashbox/record.reader).flag -/
def c75 : ACode :=
 (.seq (.region [⟨(.prim .id), [.const (.bool false)], (some 2), none⟩] none)
 (.seq (.region [⟨(.prim .id), [.tmp 0], (some 4), none⟩,
  ⟨(.call 70), [.tmp 4], (some 5), none⟩,
  ⟨(.prim .id), [.tmp 5], (some 3), none⟩] none)
 (.seq (.region [⟨(.prim .id), [.tmp 0], (some 6), none⟩,
  ⟨(.prim .id), [.tmp 0], (some 7), none⟩,
  ⟨(.prim .nilc), [.tmp 7], (some 8), none⟩,
  ⟨(.prim (.fieldAddr 1 none)), [.tmp 8], (some 9), none⟩,
  ⟨(.prim (.load none)), [.tmp 9], (some 10), none⟩,
  ⟨(.prim .id), [.tmp 10], (some 11), none⟩,
  ⟨(.prim .id), [.tmp 3], (some 12), (some (11, false))⟩,
  ⟨(.prim (.bin .gtr .none)), [.tmp 12, .const (.int .i64 1)], (some 13), (some (11, false))⟩,
  ⟨(.prim .pick), [.tmp 11, .const (.bool true), .tmp 13], (some 14), none⟩,
  ⟨(.prim .nilc), [.tmp 6], (some 15), none⟩,
  ⟨(.prim (.fieldAddr 1 none)), [.tmp 15], (some 16), none⟩,
  ⟨(.prim (.store none)), [.tmp 16, .tmp 14], none, none⟩] none)
 (.seq (.region [⟨(.prim .id), [.tmp 3], (some 17), none⟩,
  ⟨(.prim (.bin .eql .none)), [.tmp 17, .const (.int .i64 1)], (some 18), none⟩,
  ⟨(.prim .id), [.tmp 18], (some 2), none⟩] none)
 .ret))))
theorem F75 : IsFun Try.prog 75 1 19 c75 [.tmp 2] := ⟨by decide, Try.f75, _, [], Try.func75, rfl, by decide, rfl, by kernel_rfl, by kernel_rfl⟩

/-- cashbox/record.forms$12 -/
def c76 : ACode :=
 (.region [⟨(.prim .id), [.tmp 0], (some 4), none⟩,
  ⟨(.prim .id), [.tmp 1], (some 5), none⟩,
  ⟨(.prim .nilc), [.tmp 5], (some 6), none⟩,
  ⟨(.prim (.fieldAddr 8 none)), [.tmp 6], (some 7), none⟩,
  ⟨(.prim (.load none)), [.tmp 7], (some 8), none⟩,
  ⟨(.prim .id), [.tmp 1], (some 9), none⟩,
  ⟨(.prim .nilc), [.tmp 9], (some 10), none⟩,
  ⟨(.prim (.fieldAddr 9 (some 2))), [.tmp 10], (some 11), none⟩,
  ⟨(.prim (.fieldAddr 0 none)), [.tmp 11], (some 12), none⟩,
  ⟨(.prim (.load none)), [.tmp 12], (some 13), none⟩,
  ⟨(.prim (.bin .add .none)), [.tmp 13, .const (.int .i64 1)], (some 14), none⟩,
  ⟨(.prim .id), [.tmp 1], (some 15), none⟩,
  ⟨(.prim .nilc), [.tmp 15], (some 16), none⟩,
  ⟨(.prim (.fieldAddr 9 (some 2))), [.tmp 16], (some 17), none⟩,
  ⟨(.prim (.fieldAddr 1 none)), [.tmp 17], (some 18), none⟩,
  ⟨(.prim (.load none)), [.tmp 18], (some 19), none⟩,
  ⟨(.prim (.buildSl none)), [.tmp 8, .tmp 14, .tmp 19], (some 20), none⟩,
  ⟨(.call 68), [.tmp 4, .tmp 20], (some 21), none⟩] (some [[], [], [1], [2], [3], [], [5], [6], [7], [8], [9], [], [11], [12], [13], [14], [4, 10, 15], [0, 16]]))
theorem F76 : IsFun Try.prog 76 2 22 c76 [] := ⟨by decide, Try.f76, _, [], Try.func76, rfl, by decide, rfl, by kernel_rfl, by kernel_rfl⟩

/-- cashbox/record.forms$13 -/
def c77 : ACode :=
 (.seq (.region [⟨(.prim .id), [.tmp 1], (some 4), none⟩,
  ⟨(.prim .id), [.tmp 0], (some 5), none⟩,
  ⟨(.call 70), [.tmp 5], (some 6), none⟩,
  ⟨(.prim .nilc), [.tmp 4], (some 7), none⟩,
  ⟨(.prim (.fieldAddr 8 none)), [.tmp 7], (some 8), none⟩,
  ⟨(.prim (.store none)), [.tmp 8, .tmp 6], none, none⟩] none)
 (.seq (.region [⟨(.prim .id), [.tmp 1], (some 9), none⟩,
  ⟨(.prim .id), [.tmp 0], (some 10), none⟩,
  ⟨(.call 70), [.tmp 10], (some 11), none⟩,
  ⟨(.prim (.bin .sub .none)), [.tmp 11, .const (.int .i64 1)], (some 12), none⟩,
  ⟨(.prim .nilc), [.tmp 9], (some 13), none⟩,
  ⟨(.prim (.fieldAddr 9 (some 2))), [.tmp 13], (some 14), none⟩,
  ⟨(.prim (.fieldAddr 0 none)), [.tmp 14], (some 15), none⟩,
  ⟨(.prim (.store none)), [.tmp 15, .tmp 12], none, none⟩] none)
 (.region [⟨(.prim .id), [.tmp 1], (some 16), none⟩,
  ⟨(.prim .id), [.tmp 0], (some 17), none⟩,
  ⟨(.call 70), [.tmp 17], (some 18), none⟩,
  ⟨(.prim .nilc), [.tmp 16], (some 19), none⟩,
  ⟨(.prim (.fieldAddr 9 (some 2))), [.tmp 19], (some 20), none⟩,
  ⟨(.prim (.fieldAddr 1 none)), [.tmp 20], (some 21), none⟩,
  ⟨(.prim (.store none)), [.tmp 21, .tmp 18], none, none⟩] none)))
theorem F77 : IsFun Try.prog 77 2 22 c77 [] := ⟨by decide, Try.f77, _, [], Try.func77, rfl, by decide, rfl, by kernel_rfl, by kernel_rfl⟩

/-- cashbox/record.forms$14 -/
def c78 : ACode :=
 (.seq (.region [⟨(.prim .id), [.const (.bool false)], (some 2), none⟩] none)
 (.seq (.region [⟨(.prim .id), [.tmp 0], (some 4), none⟩,
  ⟨(.prim .nilc), [.tmp 4], (some 5), none⟩,
  ⟨(.prim (.fieldAddr 9 (some 2))), [.tmp 5], (some 6), none⟩,
  ⟨(.prim (.load (some 2))), [.tmp 6], (some 7), none⟩,
  ⟨(.prim (.alloc [(.int .i64 0), (.int .i64 0)])), [], (some 3), none⟩,
  ⟨(.prim (.store (some 2))), [.tmp 3, .tmp 7], none, none⟩] none)
 (.seq (.region [⟨(.prim .id), [.tmp 0], (some 8), none⟩,
  ⟨(.prim .nilc), [.tmp 8], (some 9), none⟩,
  ⟨(.prim (.fieldAddr 8 none)), [.tmp 9], (some 10), none⟩,
  ⟨(.prim (.load none)), [.tmp 10], (some 11), none⟩,
  ⟨(.prim (.bin .gtr .none)), [.tmp 11, .const (.int .i64 0)], (some 12), none⟩,
  ⟨(.prim .id), [.tmp 12], (some 13), none⟩,
  ⟨(.prim .id), [.tmp 0], (some 14), (some (13, true))⟩,
  ⟨(.prim .nilc), [.tmp 14], (some 15), (some (13, true))⟩,
  ⟨(.prim (.fieldAddr 8 none)), [.tmp 15], (some 16), (some (13, true))⟩,
  ⟨(.prim (.load none)), [.tmp 16], (some 17), (some (13, true))⟩,
  ⟨(.prim (.bin .and .none)), [.tmp 17, .const (.int .i64 1)], (some 18), (some (13, true))⟩,
  ⟨(.prim (.bin .eql .none)), [.tmp 18, .const (.int .i64 0)], (some 19), (some (13, true))⟩,
  ⟨(.prim .pick), [.tmp 13, .tmp 19, .const (.bool false)], (some 20), none⟩,
  ⟨(.prim .id), [.tmp 20], (some 21), none⟩,
  ⟨(.prim .id), [.tmp 0], (some 22), (some (21, true))⟩,
  ⟨(.prim .nilc), [.tmp 22], (some 23), (some (21, true))⟩,
  ⟨(.prim (.fieldAddr 8 none)), [.tmp 23], (some 24), (some (21, true))⟩,
  ⟨(.prim (.load none)), [.tmp 24], (some 25), (some (21, true))⟩,
  ⟨(.prim (.bin .lss .none)), [.tmp 25, .const (.int .i64 32)], (some 26), (some (21, true))⟩,
  ⟨(.prim .pick), [.tmp 21, .tmp 26, .const (.bool false)], (some 27), none⟩,
  ⟨(.prim .id), [.tmp 27], (some 28), none⟩,
  ⟨(.prim (.load (some 2))), [.tmp 3], (some 29), (some (28, true))⟩,
  ⟨(.prim (.build [(.int .i64 0), (.int .i64 0)] [(0, 1)])), [.const (.int .i64 (-1))], (some 30), (some (28, true))⟩,
  ⟨(.prim (.bin .eql (.flat [0, 0]))), [.tmp 29, .tmp 30], (some 31), (some (28, true))⟩,
  ⟨(.prim .id), [.tmp 31], (some 32), (some (28, true))⟩,
  ⟨(.prim (.fieldAddr 0 none)), [.tmp 3], (some 33), (some (32, false))⟩,
  ⟨(.prim (.load none)), [.tmp 33], (some 34), (some (32, false))⟩,
  ⟨(.call 44), [.tmp 34, .const (.int .i64 0), .const (.int .i64 7)], (some 35), (some (32, false))⟩,
  ⟨(.prim .id), [.tmp 35], (some 36), (some (32, false))⟩,
  ⟨(.prim (.fieldAddr 1 none)), [.tmp 3], (some 37), (some (36, true))⟩,
  ⟨(.prim (.load none)), [.tmp 37], (some 38), (some (36, true))⟩,
  ⟨(.call 44), [.tmp 38, .const (.int .i64 1), .const (.int .i64 4)], (some 39), (some (36, true))⟩,
  ⟨(.prim .pick), [.tmp 36, .tmp 39, .const (.bool false)], (some 40), (some (32, false))⟩,
  ⟨(.prim .pick), [.tmp 32, .const (.bool true), .tmp 40], (some 41), (some (28, true))⟩,
  ⟨(.prim .pick), [.tmp 28, .tmp 41, .const (.bool false)], (some 42), none⟩,
  ⟨(.prim .id), [.tmp 42], (some 2), none⟩] none)
 .ret)))
theorem F78 : IsFun Try.prog 78 1 43 c78 [.tmp 2] := ⟨by decide, Try.f78, _, [], Try.func78, rfl, by decide, rfl, by kernel_rfl, by kernel_rfl⟩

/-- cashbox/record.forms$15 -/
def c79 : ACode :=
 .skip
theorem F79 : IsFun Try.prog 79 2 4 c79 [] := ⟨by decide, Try.f79, _, [], Try.func79, rfl, by decide, rfl, by kernel_rfl, by kernel_rfl⟩

/-- cashbox/record.forms$16 -/
def c80 : ACode :=
 .skip
theorem F80 : IsFun Try.prog 80 2 4 c80 [] := ⟨by decide, Try.f80, _, [], Try.func80, rfl, by decide, rfl, by kernel_rfl, by kernel_rfl⟩

-- loop: 0:n, 1:one, 2:bad, 7:out
/-- cashbox/record.some[cashbox/api.Write] -/
def c81 : ACode :=
 (.seq (.region [⟨(.prim .id), [.const (.sl .clip [])], (some 6), none⟩] none)
 (.seq (.region [⟨(.prim .id), [.const (.sl .clip [])], (some 7), none⟩] none)
 (.seq (.block 0
  (.loop
   (.seq (.seq (.region [⟨(.prim .id), [.tmp 7], (some 8), none⟩,
    ⟨(.prim .len), [.tmp 8], (some 9), none⟩,
    ⟨(.prim .id), [.tmp 0], (some 10), none⟩,
    ⟨(.prim (.bin .lss .none)), [.tmp 9, .tmp 10], (some 11), none⟩,
    ⟨(.prim .id), [.tmp 11], (some 12), none⟩,
    ⟨(.prim .id), [.tmp 2], (some 13), (some (12, true))⟩,
    ⟨(.prim .nilc), [.tmp 13], (some 14), (some (12, true))⟩,
    ⟨(.prim (.load none)), [.tmp 14], (some 15), (some (12, true))⟩,
    ⟨(.prim (.un .not)), [.tmp 15], (some 16), (some (12, true))⟩,
    ⟨(.prim .pick), [.tmp 12, .tmp 16, .const (.bool false)], (some 17), none⟩] none)
   (.cond (.tmp 17)
    .skip
    (.exit 0)))
   (.block 1
    (.region [⟨(.prim .id), [.tmp 7], (some 18), none⟩,
     ⟨(.prim .id), [.tmp 1], (some 19), none⟩,
     ⟨.callV, [.tmp 19], (some 20), none⟩,
     ⟨(.prim (.buildSl (some 9))), [.tmp 20], (some 21), none⟩,
     ⟨(.prim (.append (some 9))), [.tmp 18, .tmp 21], (some 22), none⟩,
     ⟨(.prim .id), [.tmp 22], (some 7), none⟩] none)))))
 (.seq (.region [⟨(.prim .id), [.tmp 7], (some 23), none⟩,
  ⟨(.prim .id), [.tmp 23], (some 6), none⟩] none)
 .ret))))
theorem F81 : IsFun Try.prog 81 3 24 c81 [.tmp 6] := ⟨by decide, Try.f81, _, [], Try.func81, rfl, by decide, rfl, by kernel_rfl, by kernel_rfl⟩

-- loop: 0:g, 2:, 3:w, 8:
/-- (*cashbox/record.reader).write -/
def c82 : ACode :=
 (.seq (.region [⟨(.prim (.alloc [(.int .i64 0), (.int .u8 0), (.int .u8 0), (.int .u8 0), (.int .u8 0), (.int .u8 0), (.int .u8 0), (.int .u8 0), (.int .u8 0)])), [], (some 2), none⟩] none)
 (.seq (.region [⟨(.prim .id), [.tmp 0], (some 5), none⟩,
  ⟨(.call 70), [.tmp 5], (some 6), none⟩,
  ⟨(.prim (.build [(.int .i64 0), (.int .u8 0), (.int .u8 0), (.int .u8 0), (.int .u8 0), (.int .u8 0), (.int .u8 0), (.int .u8 0), (.int .u8 0)] [(0, 1)])), [.tmp 6], (some 7), none⟩,
  ⟨(.prim (.alloc [(.int .i64 0), (.int .u8 0), (.int .u8 0), (.int .u8 0), (.int .u8 0), (.int .u8 0), (.int .u8 0), (.int .u8 0), (.int .u8 0)])), [], (some 3), none⟩,
  ⟨(.prim (.store (some 9))), [.tmp 3, .tmp 7], none, none⟩] none)
 (.seq (.seq (.region [⟨(.prim .id), [.const (.int .i64 0)], (some 8), none⟩] none)
 (.block 0
  (.loop
   (.seq (.region [⟨(.prim (.bin .lss .none)), [.tmp 8, .const (.int .i64 8)], (some 9), none⟩] none)
   (.seq (.cond (.tmp 9)
    .skip
    (.exit 0))
   (.seq (.block 1
    (.seq (.region [⟨(.prim .id), [.tmp 8], (some 10), none⟩,
     ⟨(.prim .id), [.tmp 10], (some 4), none⟩] none)
    (.region [⟨(.prim .id), [.tmp 4], (some 11), none⟩,
     ⟨(.prim .id), [.tmp 0], (some 12), none⟩,
     ⟨(.call 70), [.tmp 12], (some 13), none⟩,
     ⟨(.prim (.conv .u8)), [.tmp 13], (some 14), none⟩,
     ⟨(.prim (.fieldAddr 1 (some 8))), [.tmp 3], (some 15), none⟩,
     ⟨(.prim (.idxArr 8 none)), [.tmp 15, .tmp 11], (some 16), none⟩,
     ⟨(.prim (.store none)), [.tmp 16, .tmp 14], none, none⟩] none)))
   (.region [⟨(.prim (.bin .add .none)), [.tmp 8, .const (.int .i64 1)], (some 17), none⟩,
    ⟨(.prim .id), [.tmp 17], (some 8), none⟩] none)))))))
 (.seq (.region [⟨(.prim (.load (some 9))), [.tmp 3], (some 18), none⟩,
  ⟨(.prim (.store (some 9))), [.tmp 2, .tmp 18], none, none⟩] none)
 .ret))))
theorem F82 : IsFun Try.prog 82 1 19 c82 [.cell 2 (some 9)] := ⟨by decide, Try.f82, _, [], Try.func82, rfl, by decide, rfl, by kernel_rfl, by kernel_rfl⟩

end Go.Proofs.Ytchaakjbedkndaa
