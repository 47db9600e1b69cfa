/- The functions' code for the abstract machine, printed by wip/tools/Gen.lean. -/
import Derived.Test.YtjceilhmgbdgiaaProg
import Derived.Test.YtjceilhmgbdgiaaZAmEval
import Derived.KernelRfl
set_option linter.all false
namespace Go.Proofs.Ytjceilhmgbdgiaa
open Go.Am

/-- cashbox/cashboxlaw16.FabricBytes -/
def c8 : ACode :=
 (.seq (.region [⟨(.prim (.boxR (some 1))), [.tmp 0], (some 2), none⟩,
  ⟨(.prim .id), [.const (.bool false)], (some 4), none⟩] none)
 (.seq (.seq (.region [⟨(.prim (.load (some 1))), [.tmp 2], (some 13), none⟩,
  ⟨(.call 34), [.tmp 13], (some 14), none⟩,
  ⟨(.prim .id), [.tmp 14], (some 15), none⟩,
  ⟨(.prim .id), [.tmp 1], (some 16), (some (15, false))⟩,
  ⟨(.prim .len), [.tmp 16], (some 17), (some (15, false))⟩,
  ⟨(.prim (.bin .gtr .none)), [.tmp 17, .const (.int .i64 20000)], (some 18), (some (15, false))⟩,
  ⟨(.prim .pick), [.tmp 15, .const (.bool true), .tmp 18], (some 19), none⟩] none)
 (.cond (.tmp 19)
  (.seq (.region [⟨(.call 35), [], (some 20), none⟩,
   ⟨(.prim .id), [.tmp 20], (some 4), none⟩] none)
  .ret)
  .skip))
 (.seq (.region [⟨(.prim (.load (some 1))), [.tmp 2], (some 22), none⟩,
  ⟨(.call 36), [.tmp 22], (some 23), none⟩,
  ⟨(.prim .id), [.tmp 23], (some 21), none⟩,
  ⟨(.prim (.extract 0)), [.tmp 21], (some 24), none⟩,
  ⟨(.prim (.extract 1)), [.tmp 21], (some 25), none⟩,
  ⟨(.prim .id), [.tmp 24], (some 5), none⟩,
  ⟨(.prim .id), [.tmp 25], (some 6), none⟩] none)
 (.seq (.region [⟨(.prim (.load (some 1))), [.tmp 2], (some 27), none⟩,
  ⟨(.call 37), [.tmp 27], (some 28), none⟩,
  ⟨(.prim .id), [.tmp 28], (some 26), none⟩,
  ⟨(.prim (.extract 0)), [.tmp 26], (some 29), none⟩,
  ⟨(.prim (.extract 1)), [.tmp 26], (some 30), none⟩,
  ⟨(.prim .id), [.tmp 29], (some 7), none⟩,
  ⟨(.prim .id), [.tmp 30], (some 8), none⟩] none)
 (.seq (.region [⟨(.prim .id), [.tmp 1], (some 32), none⟩,
  ⟨(.call 38), [.tmp 32], (some 33), none⟩,
  ⟨(.prim .id), [.tmp 33], (some 31), none⟩,
  ⟨(.prim (.extract 0)), [.tmp 31], (some 34), none⟩,
  ⟨(.prim (.extract 1)), [.tmp 31], (some 35), none⟩,
  ⟨(.prim (.alloc [(.sl .clip [])])), [], (some 9), none⟩,
  ⟨(.prim (.store (some 1))), [.tmp 9, .tmp 34], none, none⟩,
  ⟨(.prim .id), [.tmp 35], (some 10), none⟩] none)
 (.seq (.region [⟨(.prim .id), [.tmp 1], (some 37), none⟩,
  ⟨(.call 39), [.tmp 37], (some 38), none⟩,
  ⟨(.prim .id), [.tmp 38], (some 36), none⟩,
  ⟨(.prim (.extract 0)), [.tmp 36], (some 39), none⟩,
  ⟨(.prim (.extract 1)), [.tmp 36], (some 40), none⟩,
  ⟨(.prim (.alloc [(.sl .clip [])])), [], (some 11), none⟩,
  ⟨(.prim (.store (some 1))), [.tmp 11, .tmp 39], none, none⟩,
  ⟨(.prim .id), [.tmp 40], (some 12), none⟩] none)
 (.seq (.region [⟨(.prim .id), [.tmp 5], (some 41), none⟩,
  ⟨(.prim .strOf), [.tmp 41], (some 42), none⟩,
  ⟨(.prim .id), [.tmp 7], (some 43), none⟩,
  ⟨(.prim .strOf), [.tmp 43], (some 44), none⟩,
  ⟨(.prim (.bin .eql .none)), [.tmp 42, .tmp 44], (some 45), none⟩,
  ⟨(.prim .id), [.tmp 45], (some 46), none⟩,
  ⟨(.prim .id), [.tmp 6], (some 47), (some (46, true))⟩,
  ⟨(.prim .id), [.tmp 8], (some 48), (some (46, true))⟩,
  ⟨(.prim (.bin .eql .none)), [.tmp 47, .tmp 48], (some 49), (some (46, true))⟩,
  ⟨(.prim .pick), [.tmp 46, .tmp 49, .const (.bool false)], (some 50), none⟩,
  ⟨(.prim .id), [.tmp 50], (some 51), none⟩,
  ⟨(.prim (.load (some 1))), [.tmp 9], (some 52), (some (51, true))⟩,
  ⟨(.prim (.load (some 1))), [.tmp 11], (some 53), (some (51, true))⟩,
  ⟨(.call 40), [.tmp 52, .tmp 53], (some 54), (some (51, true))⟩,
  ⟨(.prim .pick), [.tmp 51, .tmp 54, .const (.bool false)], (some 55), none⟩,
  ⟨(.prim .id), [.tmp 55], (some 56), none⟩,
  ⟨(.prim .id), [.tmp 10], (some 57), (some (56, true))⟩,
  ⟨(.prim .id), [.tmp 12], (some 58), (some (56, true))⟩,
  ⟨(.prim (.bin .eql .none)), [.tmp 57, .tmp 58], (some 59), (some (56, true))⟩,
  ⟨(.prim .pick), [.tmp 56, .tmp 59, .const (.bool false)], (some 60), none⟩,
  ⟨(.prim .id), [.tmp 60], (some 61), none⟩,
  ⟨(.call 35), [], (some 62), (some (61, true))⟩,
  ⟨(.prim .pick), [.tmp 61, .tmp 62, .const (.bool false)], (some 63), none⟩,
  ⟨(.prim .id), [.tmp 63], (some 4), none⟩] none)
 .ret)))))))
theorem F8 : IsFun Try.prog 8 2 64 c8 [.tmp 4] := ⟨by decide, Try.f8, _, [2], Try.func8, rfl, by decide, rfl, by kernel_rfl, by kernel_rfl⟩

-- loop: 1:f, 4:out, 5:i
/-- cashbox/cashboxref16.Bytes -/
def c37 : ACode :=
 (.seq (.region [⟨(.prim (.boxR (some 1))), [.tmp 0], (some 1), none⟩,
  ⟨(.prim .id), [.const (.sl .clip [])], (some 2), none⟩,
  ⟨(.prim .id), [.const (.int .i64 0)], (some 3), none⟩] none)
 (.seq (.seq (.region [⟨(.prim (.load (some 1))), [.tmp 1], (some 8), none⟩,
  ⟨(.call 93), [.tmp 8], (some 9), none⟩,
  ⟨(.prim (.bin .neq .none)), [.tmp 9, .const (.int .i64 0)], (some 10), none⟩] none)
 (.cond (.tmp 10)
  (.seq (.region [⟨(.prim .id), [.const (.sl .clip [])], (some 2), none⟩,
   ⟨(.prim .id), [.const (.int .i64 2)], (some 3), none⟩] none)
  .ret)
  .skip))
 (.seq (.region [⟨(.prim .id), [.const (.sl .clip [])], (some 4), none⟩] none)
 (.seq (.seq (.region [⟨(.prim .id), [.const (.int .i64 0)], (some 5), none⟩] none)
 (.block 0
  (.loop
   (.seq (.seq (.region [⟨(.prim .id), [.tmp 5], (some 11), none⟩,
    ⟨(.prim (.fieldAddr 0 none)), [.tmp 1], (some 12), none⟩,
    ⟨(.prim (.load none)), [.tmp 12], (some 13), none⟩,
    ⟨(.prim .len), [.tmp 13], (some 14), none⟩,
    ⟨(.prim (.bin .lss .none)), [.tmp 11, .tmp 14], (some 15), none⟩] none)
   (.cond (.tmp 15)
    .skip
    (.exit 0)))
   (.seq (.block 1
    (.seq (.region [⟨(.prim (.fieldAddr 0 none)), [.tmp 1], (some 19), none⟩,
     ⟨(.prim (.load none)), [.tmp 19], (some 20), none⟩,
     ⟨(.prim .id), [.tmp 5], (some 21), none⟩,
     ⟨(.prim (.idxSl (some 24))), [.tmp 20, .tmp 21], (some 22), none⟩,
     ⟨(.prim (.load (some 24))), [.tmp 22], (some 23), none⟩,
     ⟨(.call 94), [.tmp 23], (some 24), none⟩,
     ⟨(.prim .id), [.tmp 24], (some 18), none⟩,
     ⟨(.prim (.extract 0)), [.tmp 18], (some 25), none⟩,
     ⟨(.prim (.extract 1)), [.tmp 18], (some 26), none⟩,
     ⟨(.prim .id), [.tmp 25], (some 6), none⟩,
     ⟨(.prim .id), [.tmp 26], (some 7), none⟩] none)
    (.seq (.seq (.region [⟨(.prim .id), [.tmp 7], (some 27), none⟩,
     ⟨(.prim (.bin .neq .none)), [.tmp 27, .const (.int .i64 0)], (some 28), none⟩] none)
    (.cond (.tmp 28)
     (.seq (.region [⟨(.prim .id), [.tmp 7], (some 29), none⟩,
      ⟨(.prim .id), [.const (.sl .clip [])], (some 2), none⟩,
      ⟨(.prim .id), [.tmp 29], (some 3), none⟩] none)
     .ret)
     .skip))
    (.seq (.region [⟨(.prim .id), [.tmp 4], (some 30), none⟩,
     ⟨(.prim .id), [.tmp 6], (some 31), none⟩,
     ⟨(.prim .len), [.tmp 31], (some 32), none⟩,
     ⟨(.prim (.bin .and .none)), [.tmp 32, .const (.int .i64 255)], (some 33), none⟩,
     ⟨(.prim (.conv .u8)), [.tmp 33], (some 34), none⟩,
     ⟨(.prim .id), [.tmp 6], (some 35), none⟩,
     ⟨(.prim .len), [.tmp 35], (some 36), none⟩,
     ⟨(.prim (.bin .shr .none)), [.tmp 36, .const (.int .u64 8)], (some 37), none⟩,
     ⟨(.prim (.conv .u8)), [.tmp 37], (some 38), none⟩,
     ⟨(.prim (.buildSl none)), [.tmp 34, .tmp 38], (some 39), none⟩,
     ⟨(.prim (.append none)), [.tmp 30, .tmp 39], (some 40), none⟩,
     ⟨(.prim .id), [.tmp 40], (some 4), none⟩] none)
    (.region [⟨(.prim .id), [.tmp 4], (some 41), none⟩,
     ⟨(.prim .id), [.tmp 6], (some 42), none⟩,
     ⟨(.prim (.append none)), [.tmp 41, .tmp 42], (some 43), none⟩,
     ⟨(.prim .id), [.tmp 43], (some 4), none⟩] none)))))
   (.region [⟨(.prim .id), [.tmp 5], (some 16), none⟩,
    ⟨(.prim (.bin .add .none)), [.tmp 16, .const (.int .i64 1)], (some 17), none⟩,
    ⟨(.prim .id), [.tmp 17], (some 5), none⟩] none))))))
 (.seq (.region [⟨(.prim .id), [.tmp 4], (some 44), none⟩,
  ⟨(.prim .id), [.tmp 44], (some 2), none⟩,
  ⟨(.prim .id), [.const (.int .i64 0)], (some 3), none⟩] none)
 .ret)))))
theorem F37 : IsFun Try.prog 37 1 45 c37 [.tmp 2, .tmp 3] := ⟨by decide, Try.f37, _, [1], Try.func37, rfl, by decide, rfl, by kernel_rfl, by kernel_rfl⟩

-- loop: 0:b, 2:, 4:out, 5:at
/-- cashbox/cashboxref16.Read -/
def c39 : ACode :=
 (.seq (.region [⟨(.prim (.alloc [(.sl .clip [])])), [], (some 2), none⟩,
  ⟨(.prim .id), [.const (.int .i64 0)], (some 3), none⟩] none)
 (.seq (.region [⟨(.prim (.alloc [(.sl .clip [])])), [], (some 4), none⟩] none)
 (.seq (.seq (.region [⟨(.prim .id), [.const (.int .i64 0)], (some 5), none⟩] none)
 (.block 0
  (.loop
   (.seq (.seq (.region [⟨(.prim .id), [.tmp 5], (some 9), none⟩,
    ⟨(.prim .id), [.tmp 0], (some 10), none⟩,
    ⟨(.prim .len), [.tmp 10], (some 11), none⟩,
    ⟨(.prim (.bin .lss .none)), [.tmp 9, .tmp 11], (some 12), none⟩] none)
   (.cond (.tmp 12)
    .skip
    (.exit 0)))
   (.block 1
    (.seq (.seq (.region [⟨(.prim .id), [.tmp 0], (some 13), none⟩,
     ⟨(.prim .len), [.tmp 13], (some 14), none⟩,
     ⟨(.prim .id), [.tmp 5], (some 15), none⟩,
     ⟨(.prim (.bin .sub .none)), [.tmp 14, .tmp 15], (some 16), none⟩,
     ⟨(.prim (.bin .lss .none)), [.tmp 16, .const (.int .i64 2)], (some 17), none⟩,
     ⟨(.prim .id), [.tmp 17], (some 18), none⟩,
     ⟨(.prim (.fieldAddr 0 none)), [.tmp 4], (some 19), (some (18, false))⟩,
     ⟨(.prim (.load none)), [.tmp 19], (some 20), (some (18, false))⟩,
     ⟨(.prim .len), [.tmp 20], (some 21), (some (18, false))⟩,
     ⟨(.prim (.bin .geq .none)), [.tmp 21, .const (.int .i64 200)], (some 22), (some (18, false))⟩,
     ⟨(.prim .pick), [.tmp 18, .const (.bool true), .tmp 22], (some 23), none⟩] none)
    (.cond (.tmp 23)
     (.seq (.region [⟨(.prim (.build [(.sl .clip [])] [])), [], (some 24), none⟩,
      ⟨(.prim (.store (some 1))), [.tmp 2, .tmp 24], none, none⟩,
      ⟨(.prim .id), [.const (.int .i64 2)], (some 3), none⟩] none)
     .ret)
     .skip))
    (.seq (.region [⟨(.prim .id), [.tmp 0], (some 25), none⟩,
     ⟨(.prim .id), [.tmp 5], (some 26), none⟩,
     ⟨(.prim (.idxSl none)), [.tmp 25, .tmp 26], (some 27), none⟩,
     ⟨(.prim (.load none)), [.tmp 27], (some 28), none⟩,
     ⟨(.prim (.conv .i64)), [.tmp 28], (some 29), none⟩,
     ⟨(.prim .id), [.tmp 0], (some 30), none⟩,
     ⟨(.prim .id), [.tmp 5], (some 31), none⟩,
     ⟨(.prim (.bin .add .none)), [.tmp 31, .const (.int .i64 1)], (some 32), none⟩,
     ⟨(.prim (.idxSl none)), [.tmp 30, .tmp 32], (some 33), none⟩,
     ⟨(.prim (.load none)), [.tmp 33], (some 34), none⟩,
     ⟨(.prim (.conv .i64)), [.tmp 34], (some 35), none⟩,
     ⟨(.prim (.bin .shl .none)), [.tmp 35, .const (.int .u64 8)], (some 36), none⟩,
     ⟨(.prim (.bin .or .none)), [.tmp 29, .tmp 36], (some 37), none⟩,
     ⟨(.prim .id), [.tmp 37], (some 6), none⟩] (some [[], [], [0, 1], [2], [3], [], [], [6], [5, 7], [8], [9], [10], [4, 11], [12, 0, 1, 2, 3, 4, 5, 6, 7, 8, 9, 10, 11, 12]]))
    (.seq (.region [⟨(.prim .id), [.tmp 5], (some 38), none⟩,
     ⟨(.prim (.bin .add .none)), [.tmp 38, .const (.int .i64 2)], (some 39), none⟩,
     ⟨(.prim .id), [.tmp 39], (some 5), none⟩] none)
    (.seq (.seq (.region [⟨(.prim .id), [.tmp 0], (some 40), none⟩,
     ⟨(.prim .len), [.tmp 40], (some 41), none⟩,
     ⟨(.prim .id), [.tmp 5], (some 42), none⟩,
     ⟨(.prim (.bin .sub .none)), [.tmp 41, .tmp 42], (some 43), none⟩,
     ⟨(.prim .id), [.tmp 6], (some 44), none⟩,
     ⟨(.prim (.bin .lss .none)), [.tmp 43, .tmp 44], (some 45), none⟩] none)
    (.cond (.tmp 45)
     (.seq (.region [⟨(.prim (.build [(.sl .clip [])] [])), [], (some 46), none⟩,
      ⟨(.prim (.store (some 1))), [.tmp 2, .tmp 46], none, none⟩,
      ⟨(.prim .id), [.const (.int .i64 2)], (some 3), none⟩] none)
     .ret)
     .skip))
    (.seq (.region [⟨(.prim .id), [.tmp 0], (some 48), none⟩,
     ⟨(.prim .id), [.tmp 5], (some 49), none⟩,
     ⟨(.prim .id), [.tmp 5], (some 50), none⟩,
     ⟨(.prim .id), [.tmp 6], (some 51), none⟩,
     ⟨(.prim (.bin .add .none)), [.tmp 50, .tmp 51], (some 52), none⟩,
     ⟨(.prim (.slcSl none true true false)), [.tmp 48, .tmp 49, .tmp 52], (some 53), none⟩,
     ⟨(.call 96), [.tmp 53], (some 54), none⟩,
     ⟨(.prim .id), [.tmp 54], (some 47), none⟩,
     ⟨(.prim (.extract 0)), [.tmp 47], (some 55), none⟩,
     ⟨(.prim (.extract 1)), [.tmp 47], (some 56), none⟩,
     ⟨(.prim (.alloc [(.int .i8 0), (.int .i64 0), (.int .i64 0), (.int .i64 0), (.int .i64 0), (.int .i64 0), (.int .i64 0), (.int .i64 0), (.int .i64 0), (.int .i8 0), (.int .i64 0), (.int .u8 0), (.int .u8 0), (.int .u8 0), (.int .u8 0), (.int .u8 0), (.int .u8 0), (.int .u8 0), (.int .u8 0), (.int .i64 0), (.bool false), (.int .i64 0), (.int .i64 0), (.sl .clip [])])), [], (some 7), none⟩,
     ⟨(.prim (.store (some 24))), [.tmp 7, .tmp 55], none, none⟩,
     ⟨(.prim .id), [.tmp 56], (some 8), none⟩] none)
    (.seq (.seq (.region [⟨(.prim .id), [.tmp 8], (some 57), none⟩,
     ⟨(.prim (.bin .neq .none)), [.tmp 57, .const (.int .i64 0)], (some 58), none⟩] none)
    (.cond (.tmp 58)
     (.seq (.region [⟨(.prim (.build [(.sl .clip [])] [])), [], (some 59), none⟩,
      ⟨(.prim (.store (some 1))), [.tmp 2, .tmp 59], none, none⟩,
      ⟨(.prim .id), [.const (.int .i64 2)], (some 3), none⟩] none)
     .ret)
     .skip))
    (.seq (.region [⟨(.prim (.fieldAddr 0 none)), [.tmp 4], (some 60), none⟩,
     ⟨(.prim (.load none)), [.tmp 60], (some 61), none⟩,
     ⟨(.prim (.load (some 24))), [.tmp 7], (some 62), none⟩,
     ⟨(.prim (.buildSl (some 24))), [.tmp 62], (some 63), none⟩,
     ⟨(.prim (.append (some 24))), [.tmp 61, .tmp 63], (some 64), none⟩,
     ⟨(.prim (.fieldAddr 0 none)), [.tmp 4], (some 65), none⟩,
     ⟨(.prim (.store none)), [.tmp 65, .tmp 64], none, none⟩] none)
    (.region [⟨(.prim .id), [.tmp 5], (some 66), none⟩,
     ⟨(.prim .id), [.tmp 6], (some 67), none⟩,
     ⟨(.prim (.bin .add .none)), [.tmp 66, .tmp 67], (some 68), none⟩,
     ⟨(.prim .id), [.tmp 68], (some 5), none⟩] none)))))))))))))
 (.seq (.region [⟨(.prim (.load (some 1))), [.tmp 4], (some 69), none⟩,
  ⟨(.prim (.store (some 1))), [.tmp 2, .tmp 69], none, none⟩,
  ⟨(.prim .id), [.const (.int .i64 0)], (some 3), none⟩] none)
 .ret))))
theorem F39 : IsFun Try.prog 39 1 70 c39 [.cell 2 (some 1), .tmp 3] := ⟨by decide, Try.f39, _, [], Try.func39, rfl, by decide, rfl, by kernel_rfl, by kernel_rfl⟩

-- loop: 1:f, 3:i
/-- cashbox/cashboxref16.Check -/
def c93 : ACode :=
 (.seq (.region [⟨(.prim (.boxR (some 1))), [.tmp 0], (some 1), none⟩,
  ⟨(.prim .id), [.const (.int .i64 0)], (some 2), none⟩] none)
 (.seq (.seq (.region [⟨(.prim (.fieldAddr 0 none)), [.tmp 1], (some 4), none⟩,
  ⟨(.prim (.load none)), [.tmp 4], (some 5), none⟩,
  ⟨(.prim .len), [.tmp 5], (some 6), none⟩,
  ⟨(.prim (.bin .gtr .none)), [.tmp 6, .const (.int .i64 200)], (some 7), none⟩] none)
 (.cond (.tmp 7)
  (.seq (.region [⟨(.prim .id), [.const (.int .i64 2)], (some 2), none⟩] none)
  .ret)
  .skip))
 (.seq (.seq (.region [⟨(.prim .id), [.const (.int .i64 0)], (some 3), none⟩] none)
 (.block 0
  (.loop
   (.seq (.seq (.region [⟨(.prim .id), [.tmp 3], (some 8), none⟩,
    ⟨(.prim (.fieldAddr 0 none)), [.tmp 1], (some 9), none⟩,
    ⟨(.prim (.load none)), [.tmp 9], (some 10), none⟩,
    ⟨(.prim .len), [.tmp 10], (some 11), none⟩,
    ⟨(.prim (.bin .lss .none)), [.tmp 8, .tmp 11], (some 12), none⟩] none)
   (.cond (.tmp 12)
    .skip
    (.exit 0)))
   (.seq (.block 1
    (.seq (.region [⟨(.prim (.fieldAddr 0 none)), [.tmp 1], (some 15), none⟩,
     ⟨(.prim (.load none)), [.tmp 15], (some 16), none⟩,
     ⟨(.prim .id), [.tmp 3], (some 17), none⟩,
     ⟨(.prim (.idxSl (some 24))), [.tmp 16, .tmp 17], (some 18), none⟩,
     ⟨(.prim (.load (some 24))), [.tmp 18], (some 19), none⟩,
     ⟨(.call 25), [.tmp 19], (some 20), none⟩,
     ⟨(.prim (.un .not)), [.tmp 20], (some 21), none⟩] none)
    (.cond (.tmp 21)
     (.seq (.region [⟨(.prim .id), [.const (.int .i64 2)], (some 2), none⟩] none)
     .ret)
     .skip)))
   (.region [⟨(.prim .id), [.tmp 3], (some 13), none⟩,
    ⟨(.prim (.bin .add .none)), [.tmp 13, .const (.int .i64 1)], (some 14), none⟩,
    ⟨(.prim .id), [.tmp 14], (some 3), none⟩] none))))))
 (.seq (.region [⟨(.prim .id), [.const (.int .i64 0)], (some 2), none⟩] none)
 .ret))))
theorem F93 : IsFun Try.prog 93 1 22 c93 [.tmp 2] := ⟨by decide, Try.f93, _, [1], Try.func93, rfl, by decide, rfl, by kernel_rfl, by kernel_rfl⟩

/-- cashbox/cashboxref15.Bytes -/
def c94 : ACode :=
 (.seq (.region [⟨(.prim (.boxR (some 24))), [.tmp 0], (some 1), none⟩,
  ⟨(.prim .id), [.const (.sl .clip [])], (some 2), none⟩,
  ⟨(.prim .id), [.const (.int .i64 0)], (some 3), none⟩] none)
 (.seq (.seq (.region [⟨(.prim (.load (some 24))), [.tmp 1], (some 5), none⟩,
  ⟨(.call 25), [.tmp 5], (some 6), none⟩,
  ⟨(.prim (.un .not)), [.tmp 6], (some 7), none⟩] none)
 (.cond (.tmp 7)
  (.seq (.region [⟨(.prim .id), [.const (.sl .clip [])], (some 2), none⟩,
   ⟨(.prim .id), [.const (.int .i64 2)], (some 3), none⟩] none)
  .ret)
  .skip))
 (.seq (.region [⟨(.prim (.fieldAddr 0 none)), [.tmp 1], (some 8), none⟩,
  ⟨(.prim (.load none)), [.tmp 8], (some 9), none⟩,
  ⟨(.prim (.conv .u8)), [.tmp 9], (some 10), none⟩,
  ⟨(.prim (.fieldAddr 1 none)), [.tmp 1], (some 11), none⟩,
  ⟨(.prim (.load none)), [.tmp 11], (some 12), none⟩,
  ⟨(.prim (.conv .u8)), [.tmp 12], (some 13), none⟩,
  ⟨(.prim (.fieldAddr 2 none)), [.tmp 1], (some 14), none⟩,
  ⟨(.prim (.load none)), [.tmp 14], (some 15), none⟩,
  ⟨(.prim (.conv .u8)), [.tmp 15], (some 16), none⟩,
  ⟨(.prim (.buildSl none)), [.tmp 10, .tmp 13, .tmp 16], (some 17), none⟩,
  ⟨(.prim .id), [.tmp 17], (some 4), none⟩] none)
 (.seq (.region [⟨(.prim .id), [.tmp 4], (some 18), none⟩,
  ⟨(.prim (.fieldAddr 3 none)), [.tmp 1], (some 19), none⟩,
  ⟨(.prim (.load none)), [.tmp 19], (some 20), none⟩,
  ⟨(.call 140), [.tmp 18, .tmp 20], (some 21), none⟩,
  ⟨(.prim .id), [.tmp 21], (some 4), none⟩] none)
 (.seq (.region [⟨(.prim .id), [.tmp 4], (some 22), none⟩,
  ⟨(.prim (.fieldAddr 4 none)), [.tmp 1], (some 23), none⟩,
  ⟨(.prim (.load none)), [.tmp 23], (some 24), none⟩,
  ⟨(.call 140), [.tmp 22, .tmp 24], (some 25), none⟩,
  ⟨(.prim .id), [.tmp 25], (some 4), none⟩] none)
 (.seq (.seq (.region [⟨(.prim (.fieldAddr 0 none)), [.tmp 1], (some 26), none⟩,
  ⟨(.prim (.load none)), [.tmp 26], (some 27), none⟩,
  ⟨(.prim (.bin .neq .none)), [.tmp 27, .const (.int .i8 1)], (some 28), none⟩,
  ⟨(.prim .id), [.tmp 28], (some 29), none⟩,
  ⟨(.prim (.fieldAddr 0 none)), [.tmp 1], (some 30), (some (29, true))⟩,
  ⟨(.prim (.load none)), [.tmp 30], (some 31), (some (29, true))⟩,
  ⟨(.prim (.bin .neq .none)), [.tmp 31, .const (.int .i8 11)], (some 32), (some (29, true))⟩,
  ⟨(.prim .pick), [.tmp 29, .tmp 32, .const (.bool false)], (some 33), none⟩] none)
 (.cond (.tmp 33)
  (.seq (.region [⟨(.prim .id), [.tmp 4], (some 34), none⟩,
   ⟨(.prim (.fieldAddr 5 (some 3))), [.tmp 1], (some 35), none⟩,
   ⟨(.prim (.fieldAddr 0 none)), [.tmp 35], (some 36), none⟩,
   ⟨(.prim (.load none)), [.tmp 36], (some 37), none⟩,
   ⟨(.call 140), [.tmp 34, .tmp 37], (some 38), none⟩,
   ⟨(.prim .id), [.tmp 38], (some 4), none⟩] none)
  (.seq (.region [⟨(.prim .id), [.tmp 4], (some 39), none⟩,
   ⟨(.prim (.fieldAddr 5 (some 3))), [.tmp 1], (some 40), none⟩,
   ⟨(.prim (.fieldAddr 1 none)), [.tmp 40], (some 41), none⟩,
   ⟨(.prim (.load none)), [.tmp 41], (some 42), none⟩,
   ⟨(.call 140), [.tmp 39, .tmp 42], (some 43), none⟩,
   ⟨(.prim .id), [.tmp 43], (some 4), none⟩] none)
  (.region [⟨(.prim .id), [.tmp 4], (some 44), none⟩,
   ⟨(.prim (.fieldAddr 5 (some 3))), [.tmp 1], (some 45), none⟩,
   ⟨(.prim (.fieldAddr 2 none)), [.tmp 45], (some 46), none⟩,
   ⟨(.prim (.load none)), [.tmp 46], (some 47), none⟩,
   ⟨(.call 140), [.tmp 44, .tmp 47], (some 48), none⟩,
   ⟨(.prim .id), [.tmp 48], (some 4), none⟩] none)))
  .skip))
 (.seq (.seq (.region [⟨(.prim (.fieldAddr 0 none)), [.tmp 1], (some 49), none⟩,
  ⟨(.prim (.load none)), [.tmp 49], (some 50), none⟩] none)
 (.block 0
  (.seq (.region [⟨(.prim (.bin .eql .none)), [.tmp 50, .const (.int .i8 2)], (some 52), none⟩,
   ⟨(.prim .id), [.tmp 52], (some 51), none⟩] none)
  (.cond (.tmp 51)
   (.seq (.region [⟨(.prim .id), [.tmp 4], (some 53), none⟩,
    ⟨(.prim (.fieldAddr 8 none)), [.tmp 1], (some 54), none⟩,
    ⟨(.prim (.load none)), [.tmp 54], (some 55), none⟩,
    ⟨(.call 140), [.tmp 53, .tmp 55], (some 56), none⟩,
    ⟨(.prim .id), [.tmp 56], (some 4), none⟩] none)
   (.seq (.region [⟨(.prim .id), [.tmp 4], (some 57), none⟩,
    ⟨(.prim (.fieldAddr 9 none)), [.tmp 1], (some 58), none⟩,
    ⟨(.prim (.load none)), [.tmp 58], (some 59), none⟩,
    ⟨(.prim (.conv .u8)), [.tmp 59], (some 60), none⟩,
    ⟨(.prim (.fieldAddr 10 none)), [.tmp 1], (some 61), none⟩,
    ⟨(.prim (.load none)), [.tmp 61], (some 62), none⟩,
    ⟨(.prim (.conv .u8)), [.tmp 62], (some 63), none⟩,
    ⟨(.prim (.buildSl none)), [.tmp 60, .tmp 63], (some 64), none⟩,
    ⟨(.prim (.append none)), [.tmp 57, .tmp 64], (some 65), none⟩,
    ⟨(.prim .id), [.tmp 65], (some 4), none⟩] none)
   (.region [⟨(.prim .id), [.tmp 4], (some 66), none⟩,
    ⟨(.prim (.fieldAddr 11 (some 8))), [.tmp 1], (some 67), none⟩,
    ⟨(.prim (.load (some 8))), [.tmp 67], (some 68), none⟩,
    ⟨(.call 141), [.tmp 66, .tmp 68], (some 69), none⟩,
    ⟨(.prim .id), [.tmp 69], (some 4), none⟩] none)))
   (.seq (.region [⟨(.prim (.bin .eql .none)), [.tmp 50, .const (.int .i8 3)], (some 71), none⟩,
    ⟨(.prim .id), [.tmp 71], (some 70), none⟩] none)
   (.cond (.tmp 70)
    (.seq (.region [⟨(.prim .id), [.tmp 4], (some 72), none⟩,
     ⟨(.prim (.fieldAddr 8 none)), [.tmp 1], (some 73), none⟩,
     ⟨(.prim (.load none)), [.tmp 73], (some 74), none⟩,
     ⟨(.call 140), [.tmp 72, .tmp 74], (some 75), none⟩,
     ⟨(.prim .id), [.tmp 75], (some 4), none⟩] none)
    (.seq (.region [⟨(.prim .id), [.tmp 4], (some 76), none⟩,
     ⟨(.prim (.fieldAddr 11 (some 8))), [.tmp 1], (some 77), none⟩,
     ⟨(.prim (.load (some 8))), [.tmp 77], (some 78), none⟩,
     ⟨(.call 141), [.tmp 76, .tmp 78], (some 79), none⟩,
     ⟨(.prim .id), [.tmp 79], (some 4), none⟩] none)
    (.region [⟨(.prim .id), [.tmp 4], (some 80), none⟩,
     ⟨(.prim (.fieldAddr 19 none)), [.tmp 1], (some 81), none⟩,
     ⟨(.prim (.load none)), [.tmp 81], (some 82), none⟩,
     ⟨(.prim (.conv .u8)), [.tmp 82], (some 83), none⟩,
     ⟨(.prim (.fieldAddr 19 none)), [.tmp 1], (some 84), none⟩,
     ⟨(.prim (.load none)), [.tmp 84], (some 85), none⟩,
     ⟨(.prim (.bin .shr .none)), [.tmp 85, .const (.int .u64 8)], (some 86), none⟩,
     ⟨(.prim (.conv .u8)), [.tmp 86], (some 87), none⟩,
     ⟨(.prim (.buildSl none)), [.tmp 83, .tmp 87], (some 88), none⟩,
     ⟨(.prim (.append none)), [.tmp 80, .tmp 88], (some 89), none⟩,
     ⟨(.prim .id), [.tmp 89], (some 4), none⟩] none)))
    (.seq (.region [⟨(.prim (.bin .eql .none)), [.tmp 50, .const (.int .i8 4)], (some 91), none⟩,
     ⟨(.prim .id), [.tmp 91], (some 90), none⟩] none)
    (.cond (.tmp 90)
     (.seq (.region [⟨(.prim .id), [.tmp 4], (some 92), none⟩,
      ⟨(.prim (.fieldAddr 21 none)), [.tmp 1], (some 93), none⟩,
      ⟨(.prim (.load none)), [.tmp 93], (some 94), none⟩,
      ⟨(.prim (.conv .u8)), [.tmp 94], (some 95), none⟩,
      ⟨(.prim (.fieldAddr 22 none)), [.tmp 1], (some 96), none⟩,
      ⟨(.prim (.load none)), [.tmp 96], (some 97), none⟩,
      ⟨(.prim (.conv .u8)), [.tmp 97], (some 98), none⟩,
      ⟨(.prim (.buildSl none)), [.tmp 95, .tmp 98], (some 99), none⟩,
      ⟨(.prim (.append none)), [.tmp 92, .tmp 99], (some 100), none⟩,
      ⟨(.prim .id), [.tmp 100], (some 4), none⟩] none)
     (.region [⟨(.prim .id), [.tmp 4], (some 101), none⟩,
      ⟨(.prim (.fieldAddr 23 none)), [.tmp 1], (some 102), none⟩,
      ⟨(.prim (.load none)), [.tmp 102], (some 103), none⟩,
      ⟨(.call 142), [.tmp 101, .tmp 103], (some 104), none⟩,
      ⟨(.prim .id), [.tmp 104], (some 4), none⟩] none))
     (.seq (.seq (.region [⟨(.prim (.bin .eql .none)), [.tmp 50, .const (.int .i8 5)], (some 106), none⟩,
      ⟨(.prim .id), [.tmp 106], (some 105), none⟩] none)
     (.cond (.tmp 105)
      .skip
      (.region [⟨(.prim (.bin .eql .none)), [.tmp 50, .const (.int .i8 6)], (some 107), none⟩,
       ⟨(.prim .id), [.tmp 107], (some 105), none⟩] none)))
     (.cond (.tmp 105)
      (.region [⟨(.prim .id), [.tmp 4], (some 108), none⟩,
       ⟨(.prim (.fieldAddr 20 none)), [.tmp 1], (some 109), none⟩,
       ⟨(.prim (.load none)), [.tmp 109], (some 110), none⟩,
       ⟨(.call 143), [.tmp 110], (some 111), none⟩,
       ⟨(.prim (.buildSl none)), [.tmp 111], (some 112), none⟩,
       ⟨(.prim (.append none)), [.tmp 108, .tmp 112], (some 113), none⟩,
       ⟨(.prim .id), [.tmp 113], (some 4), none⟩] none)
      (.seq (.region [⟨(.prim (.bin .eql .none)), [.tmp 50, .const (.int .i8 10)], (some 115), none⟩,
       ⟨(.prim .id), [.tmp 115], (some 114), none⟩] none)
      (.cond (.tmp 114)
       (.region [⟨(.prim .id), [.tmp 4], (some 116), none⟩,
        ⟨(.prim (.fieldAddr 19 none)), [.tmp 1], (some 117), none⟩,
        ⟨(.prim (.load none)), [.tmp 117], (some 118), none⟩,
        ⟨(.prim (.conv .u8)), [.tmp 118], (some 119), none⟩,
        ⟨(.prim (.fieldAddr 19 none)), [.tmp 1], (some 120), none⟩,
        ⟨(.prim (.load none)), [.tmp 120], (some 121), none⟩,
        ⟨(.prim (.bin .shr .none)), [.tmp 121, .const (.int .u64 8)], (some 122), none⟩,
        ⟨(.prim (.conv .u8)), [.tmp 122], (some 123), none⟩,
        ⟨(.prim (.buildSl none)), [.tmp 119, .tmp 123], (some 124), none⟩,
        ⟨(.prim (.append none)), [.tmp 116, .tmp 124], (some 125), none⟩,
        ⟨(.prim .id), [.tmp 125], (some 4), none⟩] none)
       .skip))))))))))))
 (.seq (.region [⟨(.prim .id), [.tmp 4], (some 126), none⟩,
  ⟨(.call 144), [.tmp 126], (some 127), none⟩,
  ⟨(.prim .id), [.tmp 127], (some 2), none⟩,
  ⟨(.prim .id), [.const (.int .i64 0)], (some 3), none⟩] none)
 .ret))))))))
theorem F94 : IsFun Try.prog 94 1 128 c94 [.tmp 2, .tmp 3] := ⟨by decide, Try.f94, _, [1], Try.func94, rfl, by decide, rfl, by kernel_rfl, by kernel_rfl⟩

/-- cashbox/cashboxref15.three -/
def c140 : ACode :=
 (.seq (.region [⟨(.prim .id), [.const (.sl .clip [])], (some 4), none⟩] none)
 (.seq (.region [⟨(.prim .id), [.tmp 0], (some 5), none⟩,
  ⟨(.prim .id), [.tmp 1], (some 6), none⟩,
  ⟨(.prim (.conv .u8)), [.tmp 6], (some 7), none⟩,
  ⟨(.prim .id), [.tmp 1], (some 8), none⟩,
  ⟨(.prim (.bin .shr .none)), [.tmp 8, .const (.int .u64 8)], (some 9), none⟩,
  ⟨(.prim (.conv .u8)), [.tmp 9], (some 10), none⟩,
  ⟨(.prim .id), [.tmp 1], (some 11), none⟩,
  ⟨(.prim (.bin .shr .none)), [.tmp 11, .const (.int .u64 16)], (some 12), none⟩,
  ⟨(.prim (.conv .u8)), [.tmp 12], (some 13), none⟩,
  ⟨(.prim (.buildSl none)), [.tmp 7, .tmp 10, .tmp 13], (some 14), none⟩,
  ⟨(.prim (.append none)), [.tmp 5, .tmp 14], (some 15), none⟩,
  ⟨(.prim .id), [.tmp 15], (some 4), none⟩] none)
 .ret))
theorem F140 : IsFun Try.prog 140 2 16 c140 [.tmp 4] := ⟨by decide, Try.f140, _, [], Try.func140, rfl, by decide, rfl, by kernel_rfl, by kernel_rfl⟩

-- loop: 0:b, 3:v, 5:i
/-- cashbox/cashboxref15.value -/
def c141 : ACode :=
 (.seq (.region [⟨(.prim (.boxR (some 8))), [.tmp 1], (some 3), none⟩,
  ⟨(.prim .id), [.const (.sl .clip [])], (some 4), none⟩] none)
 (.seq (.seq (.region [⟨(.prim .id), [.const (.int .i64 0)], (some 5), none⟩] none)
 (.block 0
  (.loop
   (.seq (.seq (.region [⟨(.prim .id), [.tmp 5], (some 6), none⟩,
    ⟨(.prim (.bin .lss .none)), [.tmp 6, .const (.int .i64 8)], (some 7), none⟩] none)
   (.cond (.tmp 7)
    .skip
    (.exit 0)))
   (.seq (.block 1
    (.region [⟨(.prim .id), [.tmp 0], (some 10), none⟩,
     ⟨(.prim .id), [.tmp 5], (some 11), none⟩,
     ⟨(.prim (.idxArr 8 none)), [.tmp 3, .tmp 11], (some 12), none⟩,
     ⟨(.prim (.load none)), [.tmp 12], (some 13), none⟩,
     ⟨(.prim (.buildSl none)), [.tmp 13], (some 14), none⟩,
     ⟨(.prim (.append none)), [.tmp 10, .tmp 14], (some 15), none⟩,
     ⟨(.prim .id), [.tmp 15], (some 0), none⟩] none))
   (.region [⟨(.prim .id), [.tmp 5], (some 8), none⟩,
    ⟨(.prim (.bin .add .none)), [.tmp 8, .const (.int .i64 1)], (some 9), none⟩,
    ⟨(.prim .id), [.tmp 9], (some 5), none⟩] none))))))
 (.seq (.region [⟨(.prim .id), [.tmp 0], (some 16), none⟩,
  ⟨(.prim .id), [.tmp 16], (some 4), none⟩] none)
 .ret)))
theorem F141 : IsFun Try.prog 141 2 17 c141 [.tmp 4] := ⟨by decide, Try.f141, _, [3], Try.func141, rfl, by decide, rfl, by kernel_rfl, by kernel_rfl⟩

-- loop: 0:b, 1:l, 5:i
-- loop: 0:b, 1:l, 5:i, 6:k
/-- cashbox/cashboxref07.Writes -/
def c142 : ACode :=
 (.seq (.region [⟨(.prim .id), [.const (.sl .clip [])], (some 4), none⟩] none)
 (.seq (.region [⟨(.prim .id), [.tmp 0], (some 7), none⟩,
  ⟨(.prim .id), [.tmp 1], (some 8), none⟩,
  ⟨(.prim .len), [.tmp 8], (some 9), none⟩,
  ⟨(.prim (.conv .u8)), [.tmp 9], (some 10), none⟩,
  ⟨(.prim (.buildSl none)), [.tmp 10], (some 11), none⟩,
  ⟨(.prim (.append none)), [.tmp 7, .tmp 11], (some 12), none⟩,
  ⟨(.prim .id), [.tmp 12], (some 0), none⟩] none)
 (.seq (.seq (.region [⟨(.prim .id), [.const (.int .i64 0)], (some 5), none⟩] none)
 (.block 0
  (.loop
   (.seq (.seq (.region [⟨(.prim .id), [.tmp 5], (some 13), none⟩,
    ⟨(.prim .id), [.tmp 1], (some 14), none⟩,
    ⟨(.prim .len), [.tmp 14], (some 15), none⟩,
    ⟨(.prim (.bin .lss .none)), [.tmp 13, .tmp 15], (some 16), none⟩] none)
   (.cond (.tmp 16)
    .skip
    (.exit 0)))
   (.seq (.block 1
    (.seq (.region [⟨(.prim .id), [.tmp 0], (some 19), none⟩,
     ⟨(.prim .id), [.tmp 1], (some 20), none⟩,
     ⟨(.prim .id), [.tmp 5], (some 21), none⟩,
     ⟨(.prim (.idxSl (some 9))), [.tmp 20, .tmp 21], (some 22), none⟩,
     ⟨(.prim (.fieldAddr 0 none)), [.tmp 22], (some 23), none⟩,
     ⟨(.prim (.load none)), [.tmp 23], (some 24), none⟩,
     ⟨(.prim (.conv .u8)), [.tmp 24], (some 25), none⟩,
     ⟨(.prim (.buildSl none)), [.tmp 25], (some 26), none⟩,
     ⟨(.prim (.append none)), [.tmp 19, .tmp 26], (some 27), none⟩,
     ⟨(.prim .id), [.tmp 27], (some 0), none⟩] none)
    (.seq (.region [⟨(.prim .id), [.const (.int .i64 0)], (some 6), none⟩] none)
    (.block 2
     (.loop
      (.seq (.seq (.region [⟨(.prim .id), [.tmp 6], (some 28), none⟩,
       ⟨(.prim (.bin .lss .none)), [.tmp 28, .const (.int .i64 8)], (some 29), none⟩] none)
      (.cond (.tmp 29)
       .skip
       (.exit 2)))
      (.seq (.block 3
       (.region [⟨(.prim .id), [.tmp 0], (some 32), none⟩,
        ⟨(.prim .id), [.tmp 1], (some 33), none⟩,
        ⟨(.prim .id), [.tmp 5], (some 34), none⟩,
        ⟨(.prim .id), [.tmp 6], (some 35), none⟩,
        ⟨(.prim (.idxSl (some 9))), [.tmp 33, .tmp 34], (some 36), none⟩,
        ⟨(.prim (.fieldAddr 1 (some 8))), [.tmp 36], (some 37), none⟩,
        ⟨(.prim (.idxArr 8 none)), [.tmp 37, .tmp 35], (some 38), none⟩,
        ⟨(.prim (.load none)), [.tmp 38], (some 39), none⟩,
        ⟨(.prim (.buildSl none)), [.tmp 39], (some 40), none⟩,
        ⟨(.prim (.append none)), [.tmp 32, .tmp 40], (some 41), none⟩,
        ⟨(.prim .id), [.tmp 41], (some 0), none⟩] none))
      (.region [⟨(.prim .id), [.tmp 6], (some 30), none⟩,
       ⟨(.prim (.bin .add .none)), [.tmp 30, .const (.int .i64 1)], (some 31), none⟩,
       ⟨(.prim .id), [.tmp 31], (some 6), none⟩] none))))))))
   (.region [⟨(.prim .id), [.tmp 5], (some 17), none⟩,
    ⟨(.prim (.bin .add .none)), [.tmp 17, .const (.int .i64 1)], (some 18), none⟩,
    ⟨(.prim .id), [.tmp 18], (some 5), none⟩] none))))))
 (.seq (.region [⟨(.prim .id), [.tmp 0], (some 42), none⟩,
  ⟨(.prim .id), [.tmp 42], (some 4), none⟩] none)
 .ret))))
theorem F142 : IsFun Try.prog 142 2 43 c142 [.tmp 4] := ⟨by decide, Try.f142, _, [], Try.func142, rfl, by decide, rfl, by kernel_rfl, by kernel_rfl⟩

/-- cashbox/cashboxref15.flag -/
def c143 : ACode :=
 (.seq (.region [⟨(.prim .id), [.const (.int .u8 0)], (some 2), none⟩] none)
 (.seq (.seq (.region [⟨(.prim .id), [.tmp 0], (some 3), none⟩] none)
 (.cond (.tmp 3)
  (.seq (.region [⟨(.prim .id), [.const (.int .u8 1)], (some 2), none⟩] none)
  .ret)
  .skip))
 (.seq (.region [⟨(.prim .id), [.const (.int .u8 0)], (some 2), none⟩] none)
 .ret)))
theorem F143 : IsFun Try.prog 143 1 4 c143 [.tmp 2] := ⟨by decide, Try.f143, _, [], Try.func143, rfl, by decide, rfl, by kernel_rfl, by kernel_rfl⟩

/-- cashbox/cashboxref01.Seal -/
def c144 : ACode :=
 (.seq (.region [⟨(.prim .id), [.const (.sl .clip [])], (some 2), none⟩] none)
 (.seq (.region [⟨(.prim .id), [.tmp 0], (some 5), none⟩,
  ⟨(.call 181), [.tmp 5], (some 6), none⟩,
  ⟨(.prim .id), [.tmp 6], (some 3), none⟩] none)
 (.seq (.region [⟨(.prim .id), [.const (.sl .clip [])], (some 4), none⟩] none)
 (.seq (.region [⟨(.prim .id), [.tmp 4], (some 7), none⟩,
  ⟨(.prim .id), [.tmp 0], (some 8), none⟩,
  ⟨(.prim (.append none)), [.tmp 7, .tmp 8], (some 9), none⟩,
  ⟨(.prim .id), [.tmp 9], (some 4), none⟩] none)
 (.seq (.region [⟨(.prim .id), [.tmp 4], (some 10), none⟩,
  ⟨(.prim .id), [.tmp 3], (some 11), none⟩,
  ⟨(.prim (.conv .u8)), [.tmp 11], (some 12), none⟩,
  ⟨(.prim .id), [.tmp 3], (some 13), none⟩,
  ⟨(.prim (.bin .shr .none)), [.tmp 13, .const (.int .u64 8)], (some 14), none⟩,
  ⟨(.prim (.conv .u8)), [.tmp 14], (some 15), none⟩,
  ⟨(.prim .id), [.tmp 3], (some 16), none⟩,
  ⟨(.prim (.bin .shr .none)), [.tmp 16, .const (.int .u64 16)], (some 17), none⟩,
  ⟨(.prim (.conv .u8)), [.tmp 17], (some 18), none⟩,
  ⟨(.prim .id), [.tmp 3], (some 19), none⟩,
  ⟨(.prim (.bin .shr .none)), [.tmp 19, .const (.int .u64 24)], (some 20), none⟩,
  ⟨(.prim (.conv .u8)), [.tmp 20], (some 21), none⟩,
  ⟨(.prim (.buildSl none)), [.tmp 12, .tmp 15, .tmp 18, .tmp 21], (some 22), none⟩,
  ⟨(.prim (.append none)), [.tmp 10, .tmp 22], (some 23), none⟩,
  ⟨(.prim .id), [.tmp 23], (some 2), none⟩] none)
 .ret)))))
theorem F144 : IsFun Try.prog 144 1 24 c144 [.tmp 2] := ⟨by decide, Try.f144, _, [], Try.func144, rfl, by decide, rfl, by kernel_rfl, by kernel_rfl⟩

end Go.Proofs.Ytjceilhmgbdgiaa
