/- The functions of the program, each as a plain statement, with the proof that it suffices for a call: printed by sh.py out of the loaded code. -/
import Derived.Test.YtjlmaamhnkhokaaDoorEng5
import Derived.Test.YtjlmaamhnkhokaaDoorProg
set_option maxRecDepth 100000
set_option linter.unusedVariables false
namespace Go.Proofs.YtjlmaamhnkhokaaDoor
open Go Go.Eng

/-- sallyport/longsum.New -/
def f9  (K : (Option Addr) → World → Prop) (w : World) : Prop :=
  semS Tryd.prog (Instr.loadAt 35 (.pointer (some (⟨0, 0, none⟩)))) (.agg [(.int .u64), (.int .u64), (.int .u64), (.int .u64), (.int .u64), (.int .u64), (.int .u64), (.int .u64)]) (fun x1 x2 x3 x4 x5 x6 x7 x8 w =>
  semS Tryd.prog (Instr.box 37 (.agg #[(.int .u64 x1), (.int .u64 x2), (.int .u64 x3), (.int .u64 x4), (.int .u64 x5), (.int .u64 x6), (.int .u64 x7), (.int .u64 x8), (.slice none 0 0), (.int .u64 0)])) (.one .adr) (fun x9 w =>
  K (some x9) w) w) w
theorem f9_ok  {K : (Option Addr) → World → Prop} {w : World} (h : f9  K w) : callS Tryd.prog 9 #[] [(.one .ptr)] K w :=
  calls_of_fn (args := []) Tryd.f9 [] [] [] .nil (by kernel_rfl) (by kernel_rfl)
    (Eq.mp (by kernel_rfl : f9  K w = evFn Tryd.prog Tryd.f9 [] [] [] .nil [] [(.one .ptr)] K w) h)

/-- math/bits.RotateLeft64 -/
def f25 (p0 : Int) (p1 : Int) (K : Int → World → Prop) (w : World) : Prop :=
  semS Tryd.prog (binS .shl 34 (.tmp 9) (.tmp 10) (.int .u64 p0) (.int .u64 (andI .u64 (IntKind.wrap .u64 p1) 63))) (.one (.int .u64)) (fun x1 w =>
  semS Tryd.prog (binS .shr 34 (.tmp 12) (.tmp 14) (.int .u64 p0) (.int .u64 (IntKind.wrap .u64 (64 - (andI .u64 (IntKind.wrap .u64 p1) 63))))) (.one (.int .u64)) (fun x2 w =>
  K (orI .u64 x1 x2) w) w) w
theorem f25_ok {p0 : Int} {p1 : Int} {K : Int → World → Prop} {w : World} (h : f25 p0 p1 K w) : callS Tryd.prog 25 #[(.int .u64 p0), (.int .i64 p1)] [(.one (.int .u64))] K w :=
  calls_of_fn (args := [(.int .u64 p0), (.int .i64 p1)]) Tryd.f25 [] [] [] .nil (by kernel_rfl) (by kernel_rfl)
    (Eq.mp (by kernel_rfl : f25 p0 p1 K w = evFn Tryd.prog Tryd.f25 [] [] [] .nil [(.int .u64 p0), (.int .i64 p1)] [(.one (.int .u64))] K w) h)

/-- sallyport/longsum.turn -/
def f20 (p0 : Int) (p1 : Int) (K : Int → World → Prop) (w : World) : Prop :=
  callS Tryd.prog 25 #[(.int .u64 p0), (.int .i64 (IntKind.wrap .i64 (0 - p1)))] [(.one (.int .u64))] (fun r1 w =>
  K r1 w) w
theorem f20_ok {p0 : Int} {p1 : Int} {K : Int → World → Prop} {w : World} (h : f20 p0 p1 K w) : callS Tryd.prog 20 #[(.int .u64 p0), (.int .i64 p1)] [(.one (.int .u64))] K w :=
  calls_of_fn (args := [(.int .u64 p0), (.int .i64 p1)]) Tryd.f20 [] [] [] .nil (by kernel_rfl) (by kernel_rfl)
    (Eq.mp (by kernel_rfl : f20 p0 p1 K w = evFn Tryd.prog Tryd.f20 [] [] [] .nil [(.int .u64 p0), (.int .i64 p1)] [(.one (.int .u64))] K w) h)

/-- sallyport/longsum.schedule -/
def f19 (p0 : Sl) (K : (List Int) → World → Prop) (w : World) : Prop :=
  semS Tryd.prog (Instr.alloc 43 true (.tuple #[])) (.one .adr) (fun x1 w =>
  loopS (σ := Int) (fun x2 w again3 =>
    cond (decide (x2 < 16))
      (semS Tryd.prog (Instr.sliceAt 24 (.slice p0.a p0.len p0.cap) (some (.int .i64 (IntKind.wrap .i64 (8 * x2)))) (some (.int .i64 (IntKind.wrap .i64 ((IntKind.wrap .i64 (8 * x2)) + 8)))) none) (.one .slc) (fun x4 w =>
      loopS (σ := Int) (fun x5 w again6 =>
        cond (decide (x5 < (x4.len : Int)))
          (semS Tryd.prog (Instr.indexAt 24 (.slice x4.a x4.len x4.cap) (.int .i64 x5)) (.one .adr) (fun x7 w =>
          semS Tryd.prog (Instr.loadAt 5 (.pointer (some x7))) (.one (.int .u8)) (fun x8 w =>
          semS Tryd.prog (Instr.indexAt 43 (.pointer (some x1)) (.int .i64 x2)) (.one .adr) (fun x9 w =>
          semS Tryd.prog (Instr.loadAt 34 (.pointer (some x9))) (.one (.int .u64)) (fun x10 w =>
          semS Tryd.prog (Instr.indexAt 43 (.pointer (some x1)) (.int .i64 x2)) (.one .adr) (fun x11 w =>
          semU Tryd.prog (Instr.storeAt 34 (.pointer (some x11)) (.int .u64 (orI .u64 (shlI .u64 x10 8) (IntKind.wrap .u64 x8)))) (fun w =>
          again6 (IntKind.wrap .i64 (x5 + 1)) w) w) w) w) w) w) w)
          (again3 (IntKind.wrap .i64 (x2 + 1)) w)) 0 w) w)
      (loopS (σ := Int) (fun x12 w again13 =>
        cond (decide (x12 < 80))
          (drawS w fun C w =>
          semQ Tryd.prog C (Instr.indexAt 43 (.pointer (some x1)) (.int .i64 (IntKind.wrap .i64 (x12 - 15)))) (.one .adr) (fun x14 =>
          semQ Tryd.prog C (Instr.loadAt 34 (.pointer (some x14))) (.one (.int .u64)) (fun x15 =>
          semQ Tryd.prog C (Instr.indexAt 43 (.pointer (some x1)) (.int .i64 (IntKind.wrap .i64 (x12 - 2)))) (.one .adr) (fun x16 =>
          semQ Tryd.prog C (Instr.loadAt 34 (.pointer (some x16))) (.one (.int .u64)) (fun x17 =>
          drawS w fun C w =>
          semQ Tryd.prog C (Instr.indexAt 43 (.pointer (some x1)) (.int .i64 (IntKind.wrap .i64 (x12 - 16)))) (.one .adr) (fun x18 =>
          semQ Tryd.prog C (Instr.loadAt 34 (.pointer (some x18))) (.one (.int .u64)) (fun x19 =>
          semQ Tryd.prog C (Instr.indexAt 43 (.pointer (some x1)) (.int .i64 (IntKind.wrap .i64 (x12 - 7)))) (.one .adr) (fun x20 =>
          semQ Tryd.prog C (Instr.loadAt 34 (.pointer (some x20))) (.one (.int .u64)) (fun x21 =>
          callS Tryd.prog 20 #[(.int .u64 x15), (.int .i64 1)] [(.one (.int .u64))] (fun r22 w =>
          moreS C w (fun C =>
          callS Tryd.prog 20 #[(.int .u64 x15), (.int .i64 8)] [(.one (.int .u64))] (fun r23 w =>
          moreS C w (fun C =>
          callS Tryd.prog 20 #[(.int .u64 x17), (.int .i64 19)] [(.one (.int .u64))] (fun r24 w =>
          moreS C w (fun C =>
          callS Tryd.prog 20 #[(.int .u64 x17), (.int .i64 61)] [(.one (.int .u64))] (fun r25 w =>
          moreS C w (fun C =>
          semQ Tryd.prog C (Instr.indexAt 43 (.pointer (some x1)) (.int .i64 x12)) (.one .adr) (fun x26 =>
          semU Tryd.prog (Instr.storeAt 34 (.pointer (some x26)) (.int .u64 (IntKind.wrap .u64 ((IntKind.wrap .u64 ((IntKind.wrap .u64 (x19 + (xorI .u64 (xorI .u64 r22 r23) (shrI .u64 x15 7)))) + x21)) + (xorI .u64 (xorI .u64 r24 r25) (shrI .u64 x17 6)))))) (fun w =>
          again13 (IntKind.wrap .i64 (x12 + 1)) w) w))) w)) w)) w)) w)))))))))
          (semS Tryd.prog (Instr.loadAt 43 (.pointer (some x1))) (.one (.arr .u64)) (fun x27 w =>
          semU Tryd.prog (Instr.storeAt 43 (.pointer (some x1)) (.agg (List.map (Value.int .u64) x27).toArray)) (fun w =>
          ∃ v28, (loadVar 43 x1).run Tryd.prog w = .ok v28 w ∧ decR [(.one (.arr .u64))] v28 K fun r => r w) w) w)) 16 w)) 0 w) w
theorem f19_ok {p0 : Sl} {K : (List Int) → World → Prop} {w : World} (h : f19 p0 K w) : callS Tryd.prog 19 #[(.slice p0.a p0.len p0.cap)] [(.one (.arr .u64))] K w :=
  calls_of_fn (args := [(.slice p0.a p0.len p0.cap)]) Tryd.f19 [] [] [] (.two .nil (.two (.two .nil (.one (.loop [(9, (.int .i64))] (.two .nil (.two .nil (.two (.one (.two .nil (.two .nil (.one (.loop [(20, (.int .i64))] .nil))))) .nil)))))) (.two (.two .nil (.one (.loop [(6, (.int .i64))] (.two .nil (.two (.one (.two (.draw [0, 1, 3, 7, 0, 16, 48, 112, 15, 511]) (.draw [0, 0, 2, 6, 14, 0, 32, 0, 224, 480, 0, 1024, 4064, 8190, 0, 16384, 49152, 114688, 262142, 0, 524768, 0, 3670496, 7864800, 0, 16777216, 66585056, 134217726, 268435455, 536870911]))) .nil))))) .nil))) (by kernel_rfl) (by kernel_rfl)
    (Eq.mp (by kernel_rfl : f19 p0 K w = evFn Tryd.prog Tryd.f19 [] [] [] (.two .nil (.two (.two .nil (.one (.loop [(9, (.int .i64))] (.two .nil (.two .nil (.two (.one (.two .nil (.two .nil (.one (.loop [(20, (.int .i64))] .nil))))) .nil)))))) (.two (.two .nil (.one (.loop [(6, (.int .i64))] (.two .nil (.two (.one (.two (.draw [0, 1, 3, 7, 0, 16, 48, 112, 15, 511]) (.draw [0, 0, 2, 6, 14, 0, 32, 0, 224, 480, 0, 1024, 4064, 8190, 0, 16384, 49152, 114688, 262142, 0, 524768, 0, 3670496, 7864800, 0, 16777216, 66585056, 134217726, 268435455, 536870911]))) .nil))))) .nil))) [(.slice p0.a p0.len p0.cap)] [(.one (.arr .u64))] K w) h)

/-- (*sallyport/longsum.Hash).take -/
def f14 (p0 : Option Addr) (p1 : Sl) (K : World → Prop) (w : World) : Prop :=
  callS Tryd.prog 19 #[(.slice p1.a p1.len p1.cap)] [(.one (.arr .u64))] (fun r1 w =>
  semS Tryd.prog (Instr.alloc 43 true (.tuple #[])) (.one .adr) (fun x2 w =>
  semU Tryd.prog (Instr.storeAt 43 (.pointer (some x2)) (.agg (List.map (Value.int .u64) r1).toArray)) (fun w =>
  nilS p0 fun a3 =>
  semS Tryd.prog (Instr.loadAt 35 (.pointer (some (a3.add 0)))) (.agg [(.int .u64), (.int .u64), (.int .u64), (.int .u64), (.int .u64), (.int .u64), (.int .u64), (.int .u64)]) (fun x4 x5 x6 x7 x8 x9 x10 x11 w =>
  semS Tryd.prog (Instr.alloc 35 true (.tuple #[])) (.one .adr) (fun x12 w =>
  semU Tryd.prog (Instr.storeAt 35 (.pointer (some x12)) (.agg #[(.int .u64 x4), (.int .u64 x5), (.int .u64 x6), (.int .u64 x7), (.int .u64 x8), (.int .u64 x9), (.int .u64 x10), (.int .u64 x11)])) (fun w =>
  semS Tryd.prog (Instr.loadAt 43 (.pointer (some (⟨1, 0, none⟩)))) (.one (.arr .u64)) (fun x13 w =>
  loopS (σ := Int) (fun x14 w again15 =>
    cond (decide (x14 < 80))
      (semS Tryd.prog (Instr.index 43 (.agg (List.map (Value.int .u64) x13).toArray) (.int .i64 x14)) (.one (.int .u64)) (fun x16 w =>
      drawS w fun C w =>
      semQ Tryd.prog C (Instr.indexAt 35 (.pointer (some x12)) (.int .i64 0)) (.one .adr) (fun x17 =>
      semQ Tryd.prog C (Instr.loadAt 34 (.pointer (some x17))) (.one (.int .u64)) (fun x18 =>
      semQ Tryd.prog C (Instr.indexAt 35 (.pointer (some x12)) (.int .i64 4)) (.one .adr) (fun x19 =>
      semQ Tryd.prog C (Instr.loadAt 34 (.pointer (some x19))) (.one (.int .u64)) (fun x20 =>
      drawS w fun C w =>
      semQ Tryd.prog C (Instr.indexAt 35 (.pointer (some x12)) (.int .i64 7)) (.one .adr) (fun x21 =>
      semQ Tryd.prog C (Instr.loadAt 34 (.pointer (some x21))) (.one (.int .u64)) (fun x22 =>
      semQ Tryd.prog C (Instr.indexAt 35 (.pointer (some x12)) (.int .i64 5)) (.one .adr) (fun x23 =>
      semQ Tryd.prog C (Instr.loadAt 34 (.pointer (some x23))) (.one (.int .u64)) (fun x24 =>
      semQ Tryd.prog C (Instr.indexAt 35 (.pointer (some x12)) (.int .i64 6)) (.one .adr) (fun x25 =>
      semQ Tryd.prog C (Instr.loadAt 34 (.pointer (some x25))) (.one (.int .u64)) (fun x26 =>
      semQ Tryd.prog C (Instr.indexAt 43 (.pointer (some x2)) (.int .i64 x14)) (.one .adr) (fun x27 =>
      semQ Tryd.prog C (Instr.loadAt 34 (.pointer (some x27))) (.one (.int .u64)) (fun x28 =>
      callS Tryd.prog 20 #[(.int .u64 x20), (.int .i64 14)] [(.one (.int .u64))] (fun r29 w =>
      moreS C w (fun C =>
      callS Tryd.prog 20 #[(.int .u64 x20), (.int .i64 18)] [(.one (.int .u64))] (fun r30 w =>
      moreS C w (fun C =>
      callS Tryd.prog 20 #[(.int .u64 x20), (.int .i64 41)] [(.one (.int .u64))] (fun r31 w =>
      moreS C w (fun C =>
      drawS w fun C w =>
      semQ Tryd.prog C (Instr.indexAt 35 (.pointer (some x12)) (.int .i64 1)) (.one .adr) (fun x32 =>
      semQ Tryd.prog C (Instr.loadAt 34 (.pointer (some x32))) (.one (.int .u64)) (fun x33 =>
      semQ Tryd.prog C (Instr.indexAt 35 (.pointer (some x12)) (.int .i64 2)) (.one .adr) (fun x34 =>
      semQ Tryd.prog C (Instr.loadAt 34 (.pointer (some x34))) (.one (.int .u64)) (fun x35 =>
      semQ Tryd.prog C (Instr.indexAt 35 (.pointer (some x12)) (.int .i64 1)) (.one .adr) (fun x36 =>
      semQ Tryd.prog C (Instr.loadAt 34 (.pointer (some x36))) (.one (.int .u64)) (fun x37 =>
      semQ Tryd.prog C (Instr.indexAt 35 (.pointer (some x12)) (.int .i64 2)) (.one .adr) (fun x38 =>
      semQ Tryd.prog C (Instr.loadAt 34 (.pointer (some x38))) (.one (.int .u64)) (fun x39 =>
      callS Tryd.prog 20 #[(.int .u64 x18), (.int .i64 28)] [(.one (.int .u64))] (fun r40 w =>
      moreS C w (fun C =>
      callS Tryd.prog 20 #[(.int .u64 x18), (.int .i64 34)] [(.one (.int .u64))] (fun r41 w =>
      moreS C w (fun C =>
      callS Tryd.prog 20 #[(.int .u64 x18), (.int .i64 39)] [(.one (.int .u64))] (fun r42 w =>
      moreS C w (fun C =>
      semS Tryd.prog (Instr.indexAt 35 (.pointer (some x12)) (.int .i64 1)) (.one .adr) (fun x43 w =>
      semS Tryd.prog (Instr.loadAt 34 (.pointer (some x43))) (.one (.int .u64)) (fun x44 w =>
      semS Tryd.prog (Instr.indexAt 35 (.pointer (some x12)) (.int .i64 2)) (.one .adr) (fun x45 w =>
      semS Tryd.prog (Instr.loadAt 34 (.pointer (some x45))) (.one (.int .u64)) (fun x46 w =>
      semS Tryd.prog (Instr.indexAt 35 (.pointer (some x12)) (.int .i64 3)) (.one .adr) (fun x47 w =>
      semS Tryd.prog (Instr.loadAt 34 (.pointer (some x47))) (.one (.int .u64)) (fun x48 w =>
      semS Tryd.prog (Instr.indexAt 35 (.pointer (some x12)) (.int .i64 5)) (.one .adr) (fun x49 w =>
      semS Tryd.prog (Instr.loadAt 34 (.pointer (some x49))) (.one (.int .u64)) (fun x50 w =>
      semS Tryd.prog (Instr.indexAt 35 (.pointer (some x12)) (.int .i64 6)) (.one .adr) (fun x51 w =>
      semS Tryd.prog (Instr.loadAt 34 (.pointer (some x51))) (.one (.int .u64)) (fun x52 w =>
      semU Tryd.prog (Instr.storeAt 35 (.pointer (some x12)) (.agg #[(.int .u64 (IntKind.wrap .u64 ((IntKind.wrap .u64 ((IntKind.wrap .u64 ((IntKind.wrap .u64 ((IntKind.wrap .u64 (x22 + (xorI .u64 (xorI .u64 r29 r30) r31))) + (xorI .u64 (andI .u64 x20 x24) (andI .u64 (xorI .u64 (IntKind.max .u64) x20) x26)))) + x16)) + x28)) + (IntKind.wrap .u64 ((xorI .u64 (xorI .u64 r40 r41) r42) + (xorI .u64 (xorI .u64 (andI .u64 x18 x33) (andI .u64 x18 x35)) (andI .u64 x37 x39))))))), (.int .u64 x18), (.int .u64 x44), (.int .u64 x46), (.int .u64 (IntKind.wrap .u64 (x48 + (IntKind.wrap .u64 ((IntKind.wrap .u64 ((IntKind.wrap .u64 ((IntKind.wrap .u64 (x22 + (xorI .u64 (xorI .u64 r29 r30) r31))) + (xorI .u64 (andI .u64 x20 x24) (andI .u64 (xorI .u64 (IntKind.max .u64) x20) x26)))) + x16)) + x28))))), (.int .u64 x20), (.int .u64 x50), (.int .u64 x52)])) (fun w =>
      again15 (IntKind.wrap .i64 (x14 + 1)) w) w) w) w) w) w) w) w) w) w) w) w)) w)) w)) w)))))))))) w)) w)) w))))))))))))) w)
      (semS Tryd.prog (Instr.loadAt 35 (.pointer (some x12))) (.agg [(.int .u64), (.int .u64), (.int .u64), (.int .u64), (.int .u64), (.int .u64), (.int .u64), (.int .u64)]) (fun x53 x54 x55 x56 x57 x58 x59 x60 w =>
      loopS (σ := Int) (fun x61 w again62 =>
        cond (decide (x61 < 8))
          (semS Tryd.prog (Instr.index 35 (.agg #[(.int .u64 x53), (.int .u64 x54), (.int .u64 x55), (.int .u64 x56), (.int .u64 x57), (.int .u64 x58), (.int .u64 x59), (.int .u64 x60)]) (.int .i64 x61)) (.one (.int .u64)) (fun x63 w =>
          drawS w fun C w =>
          nilS p0 fun a64 =>
          semQ Tryd.prog C (Instr.indexAt 35 (.pointer (some (a64.add 0))) (.int .i64 x61)) (.one .adr) (fun x65 =>
          semQ Tryd.prog C (Instr.loadAt 34 (.pointer (some x65))) (.one (.int .u64)) (fun x66 =>
          nilS p0 fun a67 =>
          semQ Tryd.prog C (Instr.indexAt 35 (.pointer (some (a67.add 0))) (.int .i64 x61)) (.one .adr) (fun x68 =>
          semU Tryd.prog (Instr.storeAt 34 (.pointer (some x68)) (.int .u64 (IntKind.wrap .u64 (x66 + x63)))) (fun w =>
          again62 (IntKind.wrap .i64 (x61 + 1)) w) w)))) w)
          (K w)) 0 w) w)) 0 w) w) w) w) w) w) w) w
theorem f14_ok {p0 : Option Addr} {p1 : Sl} {K : World → Prop} {w : World} (h : f14 p0 p1 K w) : callS Tryd.prog 14 #[(.pointer p0), (.slice p1.a p1.len p1.cap)] [] K w :=
  calls_of_fn (args := [(.pointer p0), (.slice p1.a p1.len p1.cap)]) Tryd.f14 [] [] [] (.two .nil (.two .nil (.two (.two .nil (.one (.loop [(21, (.int .i64))] (.two .nil (.two .nil (.two (.one (.two .nil (.two (.draw [0, 1, 0, 4, 3, 31]) (.two (.draw [0, 1, 0, 4, 0, 28, 60, 0, 188, 508, 1023, 0, 0, 4096, 14336, 0, 32768, 0, 131072, 491520, 1046528, 2097151, 0, 8388607, 0, 16777216, 50331648, 134217727, 268435455]) (.two (.draw [0, 1, 0, 7, 15, 0, 47, 127, 0, 0, 512, 1792, 0, 0, 8192, 28672, 65280, 0, 131072, 0, 524288, 1966080, 4194048, 8388607, 16777215]) .nil))))) .nil)))))) (.two .nil (.one (.loop [(101, (.int .i64))] (.two .nil (.two .nil (.two (.one (.two .nil (.draw [0, 0, 1, 5, 15, 31, 0, 127, 1, 257, 1023, 2047]))) .nil))))))))) (by kernel_rfl) (by kernel_rfl)
    (Eq.mp (by kernel_rfl : f14 p0 p1 K w = evFn Tryd.prog Tryd.f14 [] [] [] (.two .nil (.two .nil (.two (.two .nil (.one (.loop [(21, (.int .i64))] (.two .nil (.two .nil (.two (.one (.two .nil (.two (.draw [0, 1, 0, 4, 3, 31]) (.two (.draw [0, 1, 0, 4, 0, 28, 60, 0, 188, 508, 1023, 0, 0, 4096, 14336, 0, 32768, 0, 131072, 491520, 1046528, 2097151, 0, 8388607, 0, 16777216, 50331648, 134217727, 268435455]) (.two (.draw [0, 1, 0, 7, 15, 0, 47, 127, 0, 0, 512, 1792, 0, 0, 8192, 28672, 65280, 0, 131072, 0, 524288, 1966080, 4194048, 8388607, 16777215]) .nil))))) .nil)))))) (.two .nil (.one (.loop [(101, (.int .i64))] (.two .nil (.two .nil (.two (.one (.two .nil (.draw [0, 0, 1, 5, 15, 31, 0, 127, 1, 257, 1023, 2047]))) .nil))))))))) [(.pointer p0), (.slice p1.a p1.len p1.cap)] [] K w) h)

/-- slices.Clone[[]byte,byte] -/
def f15 (p0 : Sl) (K : Sl → World → Prop) (w : World) : Prop :=
  semS Tryd.prog (binS .eql 24 (.tmp 3) (.const (Go.Value.slice none 0 0)) (.slice p0.a p0.len p0.cap) (.slice none 0 0)) (.one .bool) (fun x1 w =>
  cond x1
    (K (⟨none, 0, 0⟩) w)
    (semS Tryd.prog (Instr.buildSlice 24 0 #[]) (.one .slc) (fun x2 w =>
    semS Tryd.prog (Builtin.append_ #[24, 24] 24 #[(.slice x2.a x2.len x2.cap), (.slice p0.a p0.len p0.cap)]) (.one .slc) (fun r3 w =>
    K r3 w) w) w)) w
theorem f15_ok {p0 : Sl} {K : Sl → World → Prop} {w : World} (h : f15 p0 K w) : callS Tryd.prog 15 #[(.slice p0.a p0.len p0.cap)] [(.one .slc)] K w :=
  calls_of_fn (args := [(.slice p0.a p0.len p0.cap)]) Tryd.f15 [] [] [] .nil (by kernel_rfl) (by kernel_rfl)
    (Eq.mp (by kernel_rfl : f15 p0 K w = evFn Tryd.prog Tryd.f15 [] [] [] .nil [(.slice p0.a p0.len p0.cap)] [(.one .slc)] K w) h)

/-- (*sallyport/longsum.Hash).Write -/
def f10 (p0 : Option Addr) (p1 : Sl) (K : World → Prop) (w : World) : Prop :=
  nilS p0 fun a1 =>
  semS Tryd.prog (Instr.loadAt 34 (.pointer (some (a1.add 9)))) (.one (.int .u64)) (fun x2 w =>
  nilS p0 fun a3 =>
  semU Tryd.prog (Instr.storeAt 34 (.pointer (some (a3.add 9))) (.int .u64 (IntKind.wrap .u64 (x2 + (IntKind.wrap .u64 (p1.len : Int)))))) (fun w =>
  nilS p0 fun a4 =>
  semS Tryd.prog (Instr.loadAt 24 (.pointer (some (a4.add 8)))) (.one .slc) (fun x5 w =>
  semS Tryd.prog (Builtin.append_ #[24, 24] 24 #[(.slice x5.a x5.len x5.cap), (.slice p1.a p1.len p1.cap)]) (.one .slc) (fun r6 w =>
  nilS p0 fun a7 =>
  semU Tryd.prog (Instr.storeAt 24 (.pointer (some (a7.add 8))) (.slice r6.a r6.len r6.cap)) (fun w =>
  loopS (σ := Unit) (fun _ w again8 =>
    nilS p0 fun a9 =>
    semS Tryd.prog (Instr.loadAt 24 (.pointer (some (a9.add 8)))) (.one .slc) (fun x10 w =>
    cond (decide ((x10.len : Int) ≥ 128))
      (nilS p0 fun a11 =>
      semS Tryd.prog (Instr.loadAt 24 (.pointer (some (a11.add 8)))) (.one .slc) (fun x12 w =>
      semS Tryd.prog (Instr.sliceAt 24 (.slice x12.a x12.len x12.cap) none (some (.int .i64 128)) none) (.one .slc) (fun x13 w =>
      callS Tryd.prog 14 #[(.pointer p0), (.slice x13.a x13.len x13.cap)] [] (fun w =>
      nilS p0 fun a14 =>
      semS Tryd.prog (Instr.loadAt 24 (.pointer (some (a14.add 8)))) (.one .slc) (fun x15 w =>
      semS Tryd.prog (Instr.sliceAt 24 (.slice x15.a x15.len x15.cap) (some (.int .i64 128)) none none) (.one .slc) (fun x16 w =>
      nilS p0 fun a17 =>
      semU Tryd.prog (Instr.storeAt 24 (.pointer (some (a17.add 8))) (.slice x16.a x16.len x16.cap)) (fun w =>
      again8 () w) w) w) w) w) w) w)
      (nilS p0 fun a18 =>
      semS Tryd.prog (Instr.loadAt 24 (.pointer (some (a18.add 8)))) (.one .slc) (fun x19 w =>
      callS Tryd.prog 15 #[(.slice x19.a x19.len x19.cap)] [(.one .slc)] (fun r20 w =>
      nilS p0 fun a21 =>
      semU Tryd.prog (Instr.storeAt 24 (.pointer (some (a21.add 8))) (.slice r20.a r20.len r20.cap)) (fun w =>
      K w) w) w) w)) w) () w) w) w) w) w) w
theorem f10_ok {p0 : Option Addr} {p1 : Sl} {K : World → Prop} {w : World} (h : f10 p0 p1 K w) : callS Tryd.prog 10 #[(.pointer p0), (.slice p1.a p1.len p1.cap)] [] K w :=
  calls_of_fn (args := [(.pointer p0), (.slice p1.a p1.len p1.cap)]) Tryd.f10 [] [] [.nil, .nil] .nil (by kernel_rfl) (by kernel_rfl)
    (Eq.mp (by kernel_rfl : f10 p0 p1 K w = evFn Tryd.prog Tryd.f10 [] [] [.nil, .nil] .nil [(.pointer p0), (.slice p1.a p1.len p1.cap)] [] K w) h)

/-- slices.Chunk[[]byte,byte]$1 -/
def f24 (p0 : Value) (c0 : Addr) (c1 : Addr) (K : World → Prop) (w : World) : Prop :=
  loopS (σ := Int) (fun x1 w again2 =>
    semS Tryd.prog (Instr.loadAt 24 (.pointer (some c0))) (.one .slc) (fun x3 w =>
    cond (decide (x1 < (x3.len : Int)))
      (drawS w fun C w =>
      semQ Tryd.prog C (Instr.loadAt 3 (.pointer (some c1))) (.one (.int .i64)) (fun x4 =>
      semQ Tryd.prog C (Instr.loadAt 24 (.pointer (some c0))) (.one .slc) (fun x5 =>
      semQ Tryd.prog C (Instr.sliceAt 24 (.slice x5.a x5.len x5.cap) (some (.int .i64 x1)) none none) (.one .slc) (fun x6 =>
      semS Tryd.prog (Instr.loadAt 24 (.pointer (some c0))) (.one .slc) (fun x7 w =>
      semS Tryd.prog (Instr.sliceAt 24 (.slice x7.a x7.len x7.cap) (some (.int .i64 x1)) (some (.int .i64 (IntKind.wrap .i64 (x1 + (if (x6.len : Int) < x4 then (x6.len : Int) else x4))))) (some (.int .i64 (IntKind.wrap .i64 (x1 + (if (x6.len : Int) < x4 then (x6.len : Int) else x4)))))) (.one .slc) (fun x8 w =>
      callY Tryd.prog (callSem p0 #[(.slice x8.a x8.len x8.cap)]) [(.one .bool)] (fun r9 w =>
      cond (!r9)
        (K w)
        (semS Tryd.prog (Instr.loadAt 3 (.pointer (some c1))) (.one (.int .i64)) (fun x10 w =>
        again2 (IntKind.wrap .i64 (x1 + x10)) w) w)) w) w) w))))
      (K w)) w) 0 w
theorem f24_ok {p0 : Value} {c0 : Addr} {c1 : Addr} {K : World → Prop} {w : World} (h : f24 p0 c0 c1 K w) : callS Tryd.prog 24 #[p0, (.pointer (some c0)), (.pointer (some c1))] [] K w :=
  calls_of_fn (args := [p0, (.pointer (some c0)), (.pointer (some c1))]) Tryd.f24 [0, 19] [] [] (.two .nil (.one (.loop [(4, (.int .i64))] (.two .nil (.two (.one (.two (.draw [0, 0, 0, 6, 14, 31, 63]) .nil)) .nil))))) (by kernel_rfl) (by kernel_rfl)
    (Eq.mp (by kernel_rfl : f24 p0 c0 c1 K w = evFn Tryd.prog Tryd.f24 [0, 19] [] [] (.two .nil (.one (.loop [(4, (.int .i64))] (.two .nil (.two (.one (.two (.draw [0, 0, 0, 6, 14, 31, 63]) .nil)) .nil))))) [p0, (.pointer (some c0)), (.pointer (some c1))] [] K w) h)

/-- slices.Chunk[[]byte,byte] -/
def f18 (p0 : Sl) (p1 : Int) (K : Value → World → Prop) (w : World) : Prop :=
  semS Tryd.prog (Instr.box 24 (.slice p0.a p0.len p0.cap)) (.one .adr) (fun x1 w =>
  semS Tryd.prog (Instr.box 3 (.int .i64 p1)) (.one .adr) (fun x2 w =>
  semS Tryd.prog (Instr.loadAt 3 (.pointer (some x2))) (.one (.int .i64)) (fun x3 w =>
  cond (decide (x3 < 1))
    (False)
    (K (.func (.func 24) #[] #[(.pointer (some x1)), (.pointer (some x2))]) w)) w) w) w
theorem f18_ok {p0 : Sl} {p1 : Int} {K : Value → World → Prop} {w : World} (h : f18 p0 p1 K w) : callS Tryd.prog 18 #[(.slice p0.a p0.len p0.cap), (.int .i64 p1)] [(.one .any)] K w :=
  calls_of_fn (args := [(.slice p0.a p0.len p0.cap), (.int .i64 p1)]) Tryd.f18 [] [] [] .nil (by kernel_rfl) (by kernel_rfl)
    (Eq.mp (by kernel_rfl : f18 p0 p1 K w = evFn Tryd.prog Tryd.f18 [] [] [] .nil [(.slice p0.a p0.len p0.cap), (.int .i64 p1)] [(.one .any)] K w) h)

def f13_t1 (z37 : Addr) (p0 : Option Addr) (K : Sl → World → Prop) (w : World) : Prop :=
  loopS (σ := Unit) (fun _ w again38 =>
    semS Tryd.prog (Instr.loadAt 24 (.pointer (some (z37.add 8)))) (.one .slc) (fun x39 w =>
    cond ((Int.tmod (x39.len : Int) 128) != 112)
      (semS Tryd.prog (Instr.loadAt 24 (.pointer (some (z37.add 8)))) (.one .slc) (fun x40 w =>
      semS Tryd.prog (Instr.buildSlice 24 1 #[(0, (.int .u8 0))]) (.one .slc) (fun x41 w =>
      semS Tryd.prog (Builtin.append_ #[24, 24] 24 #[(.slice x40.a x40.len x40.cap), (.slice x41.a x41.len x41.cap)]) (.one .slc) (fun r42 w =>
      semU Tryd.prog (Instr.storeAt 24 (.pointer (some (z37.add 8))) (.slice r42.a r42.len r42.cap)) (fun w =>
      again38 () w) w) w) w) w)
      (semS Tryd.prog (Instr.loadAt 24 (.pointer (some (z37.add 8)))) (.one .slc) (fun x43 w =>
      semS Tryd.prog (Builtin.append_ #[24, 3] 24 #[(.slice x43.a x43.len x43.cap), (.int .i64 8)]) (.one .slc) (fun r44 w =>
      semU Tryd.prog (Instr.storeAt 24 (.pointer (some (z37.add 8))) (.slice r44.a r44.len r44.cap)) (fun w =>
      loopS (σ := Int) (fun x45 w again46 =>
        cond (decide (x45 ≥ 0))
          (drawS w fun C w =>
          semQ Tryd.prog C (Instr.loadAt 24 (.pointer (some (z37.add 8)))) (.one .slc) (fun x47 =>
          nilS p0 fun a48 =>
          semQ Tryd.prog C (Instr.loadAt 34 (.pointer (some (a48.add 9)))) (.one (.int .u64)) (fun x49 =>
          semQ Tryd.prog C (binS .shr 34 (.tmp 46) (.tmp 47) (.int .u64 (IntKind.wrap .u64 (8 * x49))) (.int .i64 x45)) (.one (.int .u64)) (fun x50 =>
          semS Tryd.prog (Instr.buildSlice 24 1 #[(0, (.int .u8 (IntKind.wrap .u8 x50)))]) (.one .slc) (fun x51 w =>
          moreS C w (fun C =>
          semS Tryd.prog (Builtin.append_ #[24, 24] 24 #[(.slice x47.a x47.len x47.cap), (.slice x51.a x51.len x51.cap)]) (.one .slc) (fun r52 w =>
          semU Tryd.prog (Instr.storeAt 24 (.pointer (some (z37.add 8))) (.slice r52.a r52.len r52.cap)) (fun w =>
          again46 (IntKind.wrap .i64 (x45 - 8)) w) w) w)) w))))
          (semS Tryd.prog (Instr.loadAt 24 (.pointer (some (z37.add 8)))) (.one .slc) (fun x53 w =>
          callS Tryd.prog 18 #[(.slice x53.a x53.len x53.cap), (.int .i64 128)] [(.one .any)] (fun r54 w =>
          rangeS Tryd.prog r54 w (fun l55 oR56 oB57 xs58 w R59 =>
            decL (R := Prop) [.slc] xs58 (fun x61 =>
            w.heap[l55]? = some oR56 ∧ ((fun w =>
              callS Tryd.prog 14 #[(.pointer (some z37)), (.slice x61.a x61.len x61.cap)] [] (fun w =>
              w.heap[l55]? = some oB57 ∧ R59 (w.putObj l55 oR56)) w) (w.putObj l55 oB57))) (fun r => r)) (fun D60 w =>
          semS Tryd.prog (Instr.loadAt 35 (.pointer (some (z37.add 0)))) (.agg [(.int .u64), (.int .u64), (.int .u64), (.int .u64), (.int .u64), (.int .u64), (.int .u64), (.int .u64)]) (fun x62 x63 x64 x65 x66 x67 x68 x69 w =>
          loopS (σ := Sl × Int) (fun s70 w again71 =>
            cond (decide (s70.2 < 8))
              (semS Tryd.prog (Instr.index 35 (.agg #[(.int .u64 x62), (.int .u64 x63), (.int .u64 x64), (.int .u64 x65), (.int .u64 x66), (.int .u64 x67), (.int .u64 x68), (.int .u64 x69)]) (.int .i64 s70.2)) (.one (.int .u64)) (fun x72 w =>
              loopS (σ := Sl × Int) (fun s73 w again74 =>
                cond (decide (s73.2 ≥ 0))
                  (semS Tryd.prog (binS .shr 34 (.tmp 69) (.tmp 70) (.int .u64 x72) (.int .i64 s73.2)) (.one (.int .u64)) (fun x75 w =>
                  semS Tryd.prog (Instr.buildSlice 24 1 #[(0, (.int .u8 (IntKind.wrap .u8 x75)))]) (.one .slc) (fun x76 w =>
                  semS Tryd.prog (Builtin.append_ #[24, 24] 24 #[(.slice s73.1.a s73.1.len s73.1.cap), (.slice x76.a x76.len x76.cap)]) (.one .slc) (fun r77 w =>
                  again74 (r77, IntKind.wrap .i64 (s73.2 - 8)) w) w) w) w)
                  (again71 (s73.1, IntKind.wrap .i64 (s70.2 + 1)) w)) (s70.1, 56) w) w)
              (w.heap[D60]? = some (.deferred (some [])) ∧ ((fun w => K s70.1 w) (w.putObj D60 (.deferred none))))) (⟨none, 0, 0⟩, 0) w) w)) w) w)) 56 w) w) w) w)) w) () w

/-- (*sallyport/longsum.Hash).Sum -/
def f13 (p0 : Option Addr) (K : Sl → World → Prop) (w : World) : Prop :=
  drawS w fun C w =>
  nilS p0 fun a1 =>
  semQ Tryd.prog C (Instr.loadAt 35 (.pointer (some (a1.add 0)))) (.agg [(.int .u64), (.int .u64), (.int .u64), (.int .u64), (.int .u64), (.int .u64), (.int .u64), (.int .u64)]) (fun x2 x3 x4 x5 x6 x7 x8 x9 =>
  nilS p0 fun a10 =>
  semQ Tryd.prog C (Instr.loadAt 24 (.pointer (some (a10.add 8)))) (.one .slc) (fun x11 =>
  (callS Tryd.prog 15 #[(.slice x11.a x11.len x11.cap)] [(.one .slc)] (fun r12 w =>
  moreS C w (fun C =>
  (semS Tryd.prog (Instr.buildSlice 24 1 #[(0, (.int .u8 128))]) (.one .slc) (fun x13 w =>
    moreS C w (fun C =>
    (semS Tryd.prog (Builtin.append_ #[24, 24] 24 #[(.slice r12.a r12.len r12.cap), (.slice x13.a x13.len x13.cap)]) (.one .slc) (fun r14 w =>
      moreS C w (fun C =>
      semS Tryd.prog (Instr.alloc 37 true (.tuple #[])) (.one .adr) (fun x15 w =>
        moreS C w (fun C =>
        semU Tryd.prog (Instr.storeAt 37 (.pointer (some x15)) (.agg #[(.int .u64 x2), (.int .u64 x3), (.int .u64 x4), (.int .u64 x5), (.int .u64 x6), (.int .u64 x7), (.int .u64 x8), (.int .u64 x9), (.slice r14.a r14.len r14.cap), (.int .u64 0)])) (fun w =>
        f13_t1 x15 p0 K w) w)) w)) w) ∧
      (semS Tryd.prog (Instr.alloc 37 true (.tuple #[])) (.one .adr) (fun x16 w =>
      moreS C w (fun C =>
      semS Tryd.prog (Builtin.append_ #[24, 24] 24 #[(.slice r12.a r12.len r12.cap), (.slice x13.a x13.len x13.cap)]) (.one .slc) (fun r17 w =>
        moreS C w (fun C =>
        semU Tryd.prog (Instr.storeAt 37 (.pointer (some x16)) (.agg #[(.int .u64 x2), (.int .u64 x3), (.int .u64 x4), (.int .u64 x5), (.int .u64 x6), (.int .u64 x7), (.int .u64 x8), (.int .u64 x9), (.slice r17.a r17.len r17.cap), (.int .u64 0)])) (fun w =>
        f13_t1 x16 p0 K w) w)) w)) w))) w) ∧
    (semS Tryd.prog (Instr.alloc 37 true (.tuple #[])) (.one .adr) (fun x18 w =>
    moreS C w (fun C =>
    semS Tryd.prog (Instr.buildSlice 24 1 #[(0, (.int .u8 128))]) (.one .slc) (fun x19 w =>
      moreS C w (fun C =>
      semS Tryd.prog (Builtin.append_ #[24, 24] 24 #[(.slice r12.a r12.len r12.cap), (.slice x19.a x19.len x19.cap)]) (.one .slc) (fun r20 w =>
      moreS C w (fun C =>
      semU Tryd.prog (Instr.storeAt 37 (.pointer (some x18)) (.agg #[(.int .u64 x2), (.int .u64 x3), (.int .u64 x4), (.int .u64 x5), (.int .u64 x6), (.int .u64 x7), (.int .u64 x8), (.int .u64 x9), (.slice r20.a r20.len r20.cap), (.int .u64 0)])) (fun w =>
      f13_t1 x18 p0 K w) w)) w)) w)) w))) w) ∧
  ((semS Tryd.prog (Instr.buildSlice 24 1 #[(0, (.int .u8 128))]) (.one .slc) (fun x21 w =>
  moreS C w (fun C =>
  (callS Tryd.prog 15 #[(.slice x11.a x11.len x11.cap)] [(.one .slc)] (fun r22 w =>
    moreS C w (fun C =>
    (semS Tryd.prog (Builtin.append_ #[24, 24] 24 #[(.slice r22.a r22.len r22.cap), (.slice x21.a x21.len x21.cap)]) (.one .slc) (fun r23 w =>
      moreS C w (fun C =>
      semS Tryd.prog (Instr.alloc 37 true (.tuple #[])) (.one .adr) (fun x24 w =>
        moreS C w (fun C =>
        semU Tryd.prog (Instr.storeAt 37 (.pointer (some x24)) (.agg #[(.int .u64 x2), (.int .u64 x3), (.int .u64 x4), (.int .u64 x5), (.int .u64 x6), (.int .u64 x7), (.int .u64 x8), (.int .u64 x9), (.slice r23.a r23.len r23.cap), (.int .u64 0)])) (fun w =>
        f13_t1 x24 p0 K w) w)) w)) w) ∧
      (semS Tryd.prog (Instr.alloc 37 true (.tuple #[])) (.one .adr) (fun x25 w =>
      moreS C w (fun C =>
      semS Tryd.prog (Builtin.append_ #[24, 24] 24 #[(.slice r22.a r22.len r22.cap), (.slice x21.a x21.len x21.cap)]) (.one .slc) (fun r26 w =>
        moreS C w (fun C =>
        semU Tryd.prog (Instr.storeAt 37 (.pointer (some x25)) (.agg #[(.int .u64 x2), (.int .u64 x3), (.int .u64 x4), (.int .u64 x5), (.int .u64 x6), (.int .u64 x7), (.int .u64 x8), (.int .u64 x9), (.slice r26.a r26.len r26.cap), (.int .u64 0)])) (fun w =>
        f13_t1 x25 p0 K w) w)) w)) w))) w) ∧
    (semS Tryd.prog (Instr.alloc 37 true (.tuple #[])) (.one .adr) (fun x27 w =>
    moreS C w (fun C =>
    callS Tryd.prog 15 #[(.slice x11.a x11.len x11.cap)] [(.one .slc)] (fun r28 w =>
      moreS C w (fun C =>
      semS Tryd.prog (Builtin.append_ #[24, 24] 24 #[(.slice r28.a r28.len r28.cap), (.slice x21.a x21.len x21.cap)]) (.one .slc) (fun r29 w =>
      moreS C w (fun C =>
      semU Tryd.prog (Instr.storeAt 37 (.pointer (some x27)) (.agg #[(.int .u64 x2), (.int .u64 x3), (.int .u64 x4), (.int .u64 x5), (.int .u64 x6), (.int .u64 x7), (.int .u64 x8), (.int .u64 x9), (.slice r29.a r29.len r29.cap), (.int .u64 0)])) (fun w =>
      f13_t1 x27 p0 K w) w)) w)) w)) w))) w) ∧
  (semS Tryd.prog (Instr.alloc 37 true (.tuple #[])) (.one .adr) (fun x30 w =>
  moreS C w (fun C =>
  (callS Tryd.prog 15 #[(.slice x11.a x11.len x11.cap)] [(.one .slc)] (fun r31 w =>
    moreS C w (fun C =>
    semS Tryd.prog (Instr.buildSlice 24 1 #[(0, (.int .u8 128))]) (.one .slc) (fun x32 w =>
      moreS C w (fun C =>
      semS Tryd.prog (Builtin.append_ #[24, 24] 24 #[(.slice r31.a r31.len r31.cap), (.slice x32.a x32.len x32.cap)]) (.one .slc) (fun r33 w =>
      moreS C w (fun C =>
      semU Tryd.prog (Instr.storeAt 37 (.pointer (some x30)) (.agg #[(.int .u64 x2), (.int .u64 x3), (.int .u64 x4), (.int .u64 x5), (.int .u64 x6), (.int .u64 x7), (.int .u64 x8), (.int .u64 x9), (.slice r33.a r33.len r33.cap), (.int .u64 0)])) (fun w =>
      f13_t1 x30 p0 K w) w)) w)) w)) w) ∧
    (semS Tryd.prog (Instr.buildSlice 24 1 #[(0, (.int .u8 128))]) (.one .slc) (fun x34 w =>
    moreS C w (fun C =>
    callS Tryd.prog 15 #[(.slice x11.a x11.len x11.cap)] [(.one .slc)] (fun r35 w =>
      moreS C w (fun C =>
      semS Tryd.prog (Builtin.append_ #[24, 24] 24 #[(.slice r35.a r35.len r35.cap), (.slice x34.a x34.len x34.cap)]) (.one .slc) (fun r36 w =>
      moreS C w (fun C =>
      semU Tryd.prog (Instr.storeAt 37 (.pointer (some x30)) (.agg #[(.int .u64 x2), (.int .u64 x3), (.int .u64 x4), (.int .u64 x5), (.int .u64 x6), (.int .u64 x7), (.int .u64 x8), (.int .u64 x9), (.slice r36.a r36.len r36.cap), (.int .u64 0)])) (fun w =>
      f13_t1 x30 p0 K w) w)) w)) w)) w))) w))))
theorem f13_ok {p0 : Option Addr} {K : Sl → World → Prop} {w : World} (h : f13 p0 K w) : callS Tryd.prog 13 #[(.pointer p0)] [(.one .slc)] K w :=
  calls_of_fnR (args := [(.pointer p0)]) Tryd.f13 [] (.two .nil (.two (.draw [0, 1, 3, 7, 0, 16, 48, 112, 240, 0, 1008, 2047, 0, 8191]) (.two (.one (.loop [] .nil)) (.two .nil (.two (.two .nil (.one (.loop [(4, (.int .i64))] (.two .nil (.two (.one (.draw [0, 1, 0, 4, 12, 28, 60, 0, 252, 508, 1020, 2047, 4095, 8191])) .nil))))) (.two (.two .nil (.one (.join [(56, .slc)] .nil .nil))) (.two .nil (.two (.two .nil (.one (.loop [(6, .slc), (61, (.int .i64))] (.two .nil (.two .nil (.two (.one (.two .nil (.two .nil (.one (.loop [(6, .slc), (9, (.int .i64))] .nil))))) .nil)))))) .nil)))))))) (by kernel_rfl) (by kernel_rfl)
    (Eq.mp (by kernel_rfl : f13 p0 K w = evFnR Tryd.prog Tryd.f13 [] (.two .nil (.two (.draw [0, 1, 3, 7, 0, 16, 48, 112, 240, 0, 1008, 2047, 0, 8191]) (.two (.one (.loop [] .nil)) (.two .nil (.two (.two .nil (.one (.loop [(4, (.int .i64))] (.two .nil (.two (.one (.draw [0, 1, 0, 4, 12, 28, 60, 0, 252, 508, 1020, 2047, 4095, 8191])) .nil))))) (.two (.two .nil (.one (.join [(56, .slc)] .nil .nil))) (.two .nil (.two (.two .nil (.one (.loop [(6, .slc), (61, (.int .i64))] (.two .nil (.two .nil (.two (.one (.two .nil (.two .nil (.one (.loop [(6, .slc), (9, (.int .i64))] .nil))))) .nil)))))) .nil)))))))) [(.pointer p0)] [(.one .slc)] K w) h)

/-- sallyport/longsum.Of -/
def f12 (p0 : Sl) (K : Sl → World → Prop) (w : World) : Prop :=
  callS Tryd.prog 9 #[] [(.one .ptr)] (fun r1 w =>
  loopS (σ := Int) (fun x2 w again3 =>
    cond (decide (x2 < (p0.len : Int)))
      (semS Tryd.prog (Instr.indexAt 22 (.slice p0.a p0.len p0.cap) (.int .i64 x2)) (.one .adr) (fun x4 w =>
      semS Tryd.prog (Instr.loadAt 24 (.pointer (some x4))) (.one .slc) (fun x5 w =>
      callS Tryd.prog 10 #[(.pointer r1), (.slice x5.a x5.len x5.cap)] [] (fun w =>
      again3 (IntKind.wrap .i64 (x2 + 1)) w) w) w) w)
      (callS Tryd.prog 13 #[(.pointer r1)] [(.one .slc)] (fun r6 w =>
      K r6 w) w)) 0 w) w
theorem f12_ok {p0 : Sl} {K : Sl → World → Prop} {w : World} (h : f12 p0 K w) : callS Tryd.prog 12 #[(.slice p0.a p0.len p0.cap)] [(.one .slc)] K w :=
  calls_of_fn (args := [(.slice p0.a p0.len p0.cap)]) Tryd.f12 [] [] [] (.two .nil (.two .nil (.two (.two .nil (.one (.loop [(9, (.int .i64))] .nil))) .nil))) (by kernel_rfl) (by kernel_rfl)
    (Eq.mp (by kernel_rfl : f12 p0 K w = evFn Tryd.prog Tryd.f12 [] [] [] (.two .nil (.two .nil (.two (.two .nil (.one (.loop [(9, (.int .i64))] .nil))) .nil))) [(.slice p0.a p0.len p0.cap)] [(.one .slc)] K w) h)

/-- sallyport/sallyportlaw03.anchor -/
def f8  (K : Bool → World → Prop) (w : World) : Prop :=
  semS Tryd.prog (Instr.buildSlice 24 3 #[(0, (.int .u8 97)), (1, (.int .u8 98)), (2, (.int .u8 99))]) (.one .slc) (fun x1 w =>
  semS Tryd.prog (convert 24 24 (.slice x1.a x1.len x1.cap)) (.one .slc) (fun x2 w =>
  semS Tryd.prog (Instr.buildSlice 22 1 #[(0, (.slice x2.a x2.len x2.cap))]) (.one .slc) (fun x3 w =>
  callS Tryd.prog 12 #[(.slice x3.a x3.len x3.cap)] [(.one .slc)] (fun r4 w =>
  joinS (σ := Bool) (fun b5 w =>
    joinS (σ := Bool) (fun b7 w =>
      joinS (σ := Bool) (fun b9 w =>
        K b9 w) fun J10 =>
      cond b7
        (semS Tryd.prog (Instr.indexAt 24 (.slice r4.a r4.len r4.cap) (.int .i64 63)) (.one .adr) (fun x11 w =>
          semS Tryd.prog (Instr.loadAt 5 (.pointer (some x11))) (.one (.int .u8)) (fun x12 w =>
          J10 (x12 == 159) w) w) w)
        (J10 false w)) fun J8 =>
    cond b5
      (semS Tryd.prog (Instr.indexAt 24 (.slice r4.a r4.len r4.cap) (.int .i64 1)) (.one .adr) (fun x13 w =>
        semS Tryd.prog (Instr.loadAt 5 (.pointer (some x13))) (.one (.int .u8)) (fun x14 w =>
        J8 (x14 == 175) w) w) w)
      (J8 false w)) fun J6 =>
  cond ((r4.len : Int) == 64)
    (semS Tryd.prog (Instr.indexAt 24 (.slice r4.a r4.len r4.cap) (.int .i64 0)) (.one .adr) (fun x15 w =>
      semS Tryd.prog (Instr.loadAt 5 (.pointer (some x15))) (.one (.int .u8)) (fun x16 w =>
      J6 (x16 == 221) w) w) w)
    (J6 false w)) w) w) w) w
theorem f8_ok  {K : Bool → World → Prop} {w : World} (h : f8  K w) : callS Tryd.prog 8 #[] [(.one .bool)] K w :=
  calls_of_fn (args := []) Tryd.f8 [] [] [] .nil (by kernel_rfl) (by kernel_rfl)
    (Eq.mp (by kernel_rfl : f8  K w = evFn Tryd.prog Tryd.f8 [] [] [] .nil [] [(.one .bool)] K w) h)

/-- sallyport/sallyportref03.padded -/
def f16 (p0 : Sl) (K : Sl → World → Prop) (w : World) : Prop :=
  semS Tryd.prog (Instr.buildSlice 24 0 #[]) (.one .slc) (fun x1 w =>
  semS Tryd.prog (Builtin.append_ #[24, 24] 24 #[(.slice x1.a x1.len x1.cap), (.slice p0.a p0.len p0.cap)]) (.one .slc) (fun r2 w =>
  semS Tryd.prog (Instr.buildSlice 24 1 #[(0, (.int .u8 128))]) (.one .slc) (fun x3 w =>
  semS Tryd.prog (Builtin.append_ #[24, 24] 24 #[(.slice r2.a r2.len r2.cap), (.slice x3.a x3.len x3.cap)]) (.one .slc) (fun r4 w =>
  loopS (σ := Sl) (fun x5 w again6 =>
    cond ((Int.tmod (x5.len : Int) 128) != 112)
      (semS Tryd.prog (Instr.buildSlice 24 1 #[(0, (.int .u8 0))]) (.one .slc) (fun x7 w =>
      semS Tryd.prog (Builtin.append_ #[24, 24] 24 #[(.slice x5.a x5.len x5.cap), (.slice x7.a x7.len x7.cap)]) (.one .slc) (fun r8 w =>
      again6 r8 w) w) w)
      (loopS (σ := Sl × Int) (fun s9 w again10 =>
        cond (decide (s9.2 < 8))
          (semS Tryd.prog (Instr.buildSlice 24 1 #[(0, (.int .u8 0))]) (.one .slc) (fun x11 w =>
          semS Tryd.prog (Builtin.append_ #[24, 24] 24 #[(.slice s9.1.a s9.1.len s9.1.cap), (.slice x11.a x11.len x11.cap)]) (.one .slc) (fun r12 w =>
          again10 (r12, IntKind.wrap .i64 (s9.2 + 1)) w) w) w)
          (loopS (σ := Sl × Int) (fun s13 w again14 =>
            cond (decide (s13.2 ≥ 0))
              (semS Tryd.prog (binS .shr 34 (.tmp 36) (.tmp 38) (.int .u64 (IntKind.wrap .u64 ((IntKind.wrap .u64 (p0.len : Int)) * 8))) (.int .i64 (IntKind.wrap .i64 (8 * s13.2)))) (.one (.int .u64)) (fun x15 w =>
              semS Tryd.prog (Instr.buildSlice 24 1 #[(0, (.int .u8 (IntKind.wrap .u8 x15)))]) (.one .slc) (fun x16 w =>
              semS Tryd.prog (Builtin.append_ #[24, 24] 24 #[(.slice s13.1.a s13.1.len s13.1.cap), (.slice x16.a x16.len x16.cap)]) (.one .slc) (fun r17 w =>
              again14 (r17, IntKind.wrap .i64 (s13.2 - 1)) w) w) w) w)
              (K s13.1 w)) (s9.1, 7) w)) (x5, 0) w)) r4 w) w) w) w) w
theorem f16_ok {p0 : Sl} {K : Sl → World → Prop} {w : World} (h : f16 p0 K w) : callS Tryd.prog 16 #[(.slice p0.a p0.len p0.cap)] [(.one .slc)] K w :=
  calls_of_fn (args := [(.slice p0.a p0.len p0.cap)]) Tryd.f16 [] [] [] (.two .nil (.two .nil (.two .nil (.two (.one (.loop [(3, .slc)] .nil)) (.two (.two .nil (.one (.loop [(3, .slc), (4, (.int .i64))] .nil))) (.two .nil (.two (.two .nil (.one (.loop [(3, .slc), (6, (.int .i64))] .nil))) .nil))))))) (by kernel_rfl) (by kernel_rfl)
    (Eq.mp (by kernel_rfl : f16 p0 K w = evFn Tryd.prog Tryd.f16 [] [] [] (.two .nil (.two .nil (.two .nil (.two (.one (.loop [(3, .slc)] .nil)) (.two (.two .nil (.one (.loop [(3, .slc), (4, (.int .i64))] .nil))) (.two .nil (.two (.two .nil (.one (.loop [(3, .slc), (6, (.int .i64))] .nil))) .nil))))))) [(.slice p0.a p0.len p0.cap)] [(.one .slc)] K w) h)

/-- sallyport/sallyportref03.right -/
def f23 (p0 : Int) (p1 : Int) (K : Int → World → Prop) (w : World) : Prop :=
  drawS w fun C w =>
  semQ Tryd.prog C (binS .shr 34 (.tmp 5) (.tmp 6) (.int .u64 p0) (.int .i64 p1)) (.one (.int .u64)) (fun x1 =>
  semQ Tryd.prog C (binS .shl 34 (.tmp 8) (.tmp 10) (.int .u64 p0) (.int .i64 (IntKind.wrap .i64 (64 - p1)))) (.one (.int .u64)) (fun x2 =>
  K (orI .u64 x1 x2) w))
theorem f23_ok {p0 : Int} {p1 : Int} {K : Int → World → Prop} {w : World} (h : f23 p0 p1 K w) : callS Tryd.prog 23 #[(.int .u64 p0), (.int .i64 p1)] [(.one (.int .u64))] K w :=
  calls_of_fn (args := [(.int .u64 p0), (.int .i64 p1)]) Tryd.f23 [] [] [] (.two .nil (.two (.draw [0, 0, 3, 0, 0, 16, 56, 127, 255]) .nil)) (by kernel_rfl) (by kernel_rfl)
    (Eq.mp (by kernel_rfl : f23 p0 p1 K w = evFn Tryd.prog Tryd.f23 [] [] [] (.two .nil (.two (.draw [0, 0, 3, 0, 0, 16, 56, 127, 255]) .nil)) [(.int .u64 p0), (.int .i64 p1)] [(.one (.int .u64))] K w) h)

/-- sallyport/sallyportref03.words -/
def f21 (p0 : Sl) (K : Sl → World → Prop) (w : World) : Prop :=
  loopS (σ := Sl × Int) (fun s1 w again2 =>
    cond (decide (s1.2 < 16))
      (loopS (σ := Int × Int) (fun s3 w again4 =>
        cond (decide (s3.2 < 8))
          (semS Tryd.prog (Instr.indexAt 24 (.slice p0.a p0.len p0.cap) (.int .i64 (IntKind.wrap .i64 ((IntKind.wrap .i64 (8 * s1.2)) + s3.2)))) (.one .adr) (fun x5 w =>
          semS Tryd.prog (Instr.loadAt 5 (.pointer (some x5))) (.one (.int .u8)) (fun x6 w =>
          again4 (IntKind.wrap .u64 ((IntKind.wrap .u64 (s3.1 * 256)) + (IntKind.wrap .u64 x6)), IntKind.wrap .i64 (s3.2 + 1)) w) w) w)
          (semS Tryd.prog (Instr.buildSlice 38 1 #[(0, (.int .u64 s3.1))]) (.one .slc) (fun x7 w =>
          semS Tryd.prog (Builtin.append_ #[38, 38] 38 #[(.slice s1.1.a s1.1.len s1.1.cap), (.slice x7.a x7.len x7.cap)]) (.one .slc) (fun r8 w =>
          again2 (r8, IntKind.wrap .i64 (s1.2 + 1)) w) w) w)) (0, 0) w)
      (loopS (σ := Sl × Int) (fun s9 w again10 =>
        cond (decide (s9.2 < 80))
          (drawS w fun C w =>
          semQ Tryd.prog C (Instr.indexAt 38 (.slice s9.1.a s9.1.len s9.1.cap) (.int .i64 (IntKind.wrap .i64 (s9.2 - 15)))) (.one .adr) (fun x11 =>
          semQ Tryd.prog C (Instr.loadAt 34 (.pointer (some x11))) (.one (.int .u64)) (fun x12 =>
          semQ Tryd.prog C (Instr.indexAt 38 (.slice s9.1.a s9.1.len s9.1.cap) (.int .i64 (IntKind.wrap .i64 (s9.2 - 15)))) (.one .adr) (fun x13 =>
          semQ Tryd.prog C (Instr.loadAt 34 (.pointer (some x13))) (.one (.int .u64)) (fun x14 =>
          semQ Tryd.prog C (Instr.indexAt 38 (.slice s9.1.a s9.1.len s9.1.cap) (.int .i64 (IntKind.wrap .i64 (s9.2 - 15)))) (.one .adr) (fun x15 =>
          semQ Tryd.prog C (Instr.loadAt 34 (.pointer (some x15))) (.one (.int .u64)) (fun x16 =>
          callS Tryd.prog 23 #[(.int .u64 x12), (.int .i64 1)] [(.one (.int .u64))] (fun r17 w =>
          moreS C w (fun C =>
          callS Tryd.prog 23 #[(.int .u64 x14), (.int .i64 8)] [(.one (.int .u64))] (fun r18 w =>
          moreS C w (fun C =>
          drawS w fun C w =>
          semQ Tryd.prog C (Instr.indexAt 38 (.slice s9.1.a s9.1.len s9.1.cap) (.int .i64 (IntKind.wrap .i64 (s9.2 - 2)))) (.one .adr) (fun x19 =>
          semQ Tryd.prog C (Instr.loadAt 34 (.pointer (some x19))) (.one (.int .u64)) (fun x20 =>
          semQ Tryd.prog C (Instr.indexAt 38 (.slice s9.1.a s9.1.len s9.1.cap) (.int .i64 (IntKind.wrap .i64 (s9.2 - 2)))) (.one .adr) (fun x21 =>
          semQ Tryd.prog C (Instr.loadAt 34 (.pointer (some x21))) (.one (.int .u64)) (fun x22 =>
          semQ Tryd.prog C (Instr.indexAt 38 (.slice s9.1.a s9.1.len s9.1.cap) (.int .i64 (IntKind.wrap .i64 (s9.2 - 2)))) (.one .adr) (fun x23 =>
          semQ Tryd.prog C (Instr.loadAt 34 (.pointer (some x23))) (.one (.int .u64)) (fun x24 =>
          callS Tryd.prog 23 #[(.int .u64 x20), (.int .i64 19)] [(.one (.int .u64))] (fun r25 w =>
          moreS C w (fun C =>
          callS Tryd.prog 23 #[(.int .u64 x22), (.int .i64 61)] [(.one (.int .u64))] (fun r26 w =>
          moreS C w (fun C =>
          drawS w fun C w =>
          semQ Tryd.prog C (Instr.indexAt 38 (.slice s9.1.a s9.1.len s9.1.cap) (.int .i64 (IntKind.wrap .i64 (s9.2 - 16)))) (.one .adr) (fun x27 =>
          semQ Tryd.prog C (Instr.loadAt 34 (.pointer (some x27))) (.one (.int .u64)) (fun x28 =>
          semQ Tryd.prog C (Instr.indexAt 38 (.slice s9.1.a s9.1.len s9.1.cap) (.int .i64 (IntKind.wrap .i64 (s9.2 - 7)))) (.one .adr) (fun x29 =>
          semQ Tryd.prog C (Instr.loadAt 34 (.pointer (some x29))) (.one (.int .u64)) (fun x30 =>
          semS Tryd.prog (Instr.buildSlice 38 1 #[(0, (.int .u64 (IntKind.wrap .u64 ((IntKind.wrap .u64 ((IntKind.wrap .u64 (x28 + (xorI .u64 (xorI .u64 r17 r18) (shrI .u64 x16 7)))) + x30)) + (xorI .u64 (xorI .u64 r25 r26) (shrI .u64 x24 6))))))]) (.one .slc) (fun x31 w =>
          semS Tryd.prog (Builtin.append_ #[38, 38] 38 #[(.slice s9.1.a s9.1.len s9.1.cap), (.slice x31.a x31.len x31.cap)]) (.one .slc) (fun r32 w =>
          again10 (r32, IntKind.wrap .i64 (s9.2 + 1)) w) w) w)))))) w)) w)))))))) w)) w)))))))
          (K s9.1 w)) (s1.1, 16) w)) (⟨none, 0, 0⟩, 0) w
theorem f21_ok {p0 : Sl} {K : Sl → World → Prop} {w : World} (h : f21 p0 K w) : callS Tryd.prog 21 #[(.slice p0.a p0.len p0.cap)] [(.one .slc)] K w :=
  calls_of_fn (args := [(.slice p0.a p0.len p0.cap)]) Tryd.f21 [] [] [] (.two .nil (.two .nil (.two (.two .nil (.one (.loop [(3, .slc), (4, (.int .i64))] (.two .nil (.two (.one (.two .nil (.two (.two .nil (.one (.loop [(5, (.int .u64)), (6, (.int .i64))] .nil))) .nil))) .nil))))) (.two (.two .nil (.one (.loop [(3, .slc), (7, (.int .i64))] (.two .nil (.two (.one (.two (.draw [0, 0, 2, 7, 15, 31, 0, 0, 128, 448, 960, 2047, 4095, 0, 0, 16384, 57344, 122880, 253952, 524287, 1048575]) (.two (.draw [0, 0, 2, 7, 15, 31, 0, 0, 128, 448, 960, 2047, 4095, 0, 0, 16384, 57344, 122880, 253952, 524287, 1048575]) (.draw [0, 0, 0, 4, 14, 30, 0, 126, 0, 0, 512, 1792, 3840, 8190, 0, 32766, 65534, 131071, 262143])))) .nil))))) .nil)))) (by kernel_rfl) (by kernel_rfl)
    (Eq.mp (by kernel_rfl : f21 p0 K w = evFn Tryd.prog Tryd.f21 [] [] [] (.two .nil (.two .nil (.two (.two .nil (.one (.loop [(3, .slc), (4, (.int .i64))] (.two .nil (.two (.one (.two .nil (.two (.two .nil (.one (.loop [(5, (.int .u64)), (6, (.int .i64))] .nil))) .nil))) .nil))))) (.two (.two .nil (.one (.loop [(3, .slc), (7, (.int .i64))] (.two .nil (.two (.one (.two (.draw [0, 0, 2, 7, 15, 31, 0, 0, 128, 448, 960, 2047, 4095, 0, 0, 16384, 57344, 122880, 253952, 524287, 1048575]) (.two (.draw [0, 0, 2, 7, 15, 31, 0, 0, 128, 448, 960, 2047, 4095, 0, 0, 16384, 57344, 122880, 253952, 524287, 1048575]) (.draw [0, 0, 0, 4, 14, 30, 0, 126, 0, 0, 512, 1792, 3840, 8190, 0, 32766, 65534, 131071, 262143])))) .nil))))) .nil)))) [(.slice p0.a p0.len p0.cap)] [(.one .slc)] K w) h)

/-- sallyport/sallyportref03.constants -/
def f22  (K : Sl → World → Prop) (w : World) : Prop :=
  semS Tryd.prog (Instr.buildSlice 38 80 #[(0, (.int .u64 4794697086780616226)), (1, (.int .u64 8158064640168781261)), (2, (.int .u64 13096744586834688815)), (3, (.int .u64 16840607885511220156)), (4, (.int .u64 4131703408338449720)), (5, (.int .u64 6480981068601479193)), (6, (.int .u64 10538285296894168987)), (7, (.int .u64 12329834152419229976)), (8, (.int .u64 15566598209576043074)), (9, (.int .u64 1334009975649890238)), (10, (.int .u64 2608012711638119052)), (11, (.int .u64 6128411473006802146)), (12, (.int .u64 8268148722764581231)), (13, (.int .u64 9286055187155687089)), (14, (.int .u64 11230858885718282805)), (15, (.int .u64 13951009754708518548)), (16, (.int .u64 16472876342353939154)), (17, (.int .u64 17275323862435702243)), (18, (.int .u64 1135362057144423861)), (19, (.int .u64 2597628984639134821)), (20, (.int .u64 3308224258029322869)), (21, (.int .u64 5365058923640841347)), (22, (.int .u64 6679025012923562964)), (23, (.int .u64 8573033837759648693)), (24, (.int .u64 10970295158949994411)), (25, (.int .u64 12119686244451234320)), (26, (.int .u64 12683024718118986047)), (27, (.int .u64 13788192230050041572)), (28, (.int .u64 14330467153632333762)), (29, (.int .u64 15395433587784984357)), (30, (.int .u64 489312712824947311)), (31, (.int .u64 1452737877330783856)), (32, (.int .u64 2861767655752347644)), (33, (.int .u64 3322285676063803686)), (34, (.int .u64 5560940570517711597)), (35, (.int .u64 5996557281743188959)), (36, (.int .u64 7280758554555802590)), (37, (.int .u64 8532644243296465576)), (38, (.int .u64 9350256976987008742)), (39, (.int .u64 10552545826968843579)), (40, (.int .u64 11727347734174303076)), (41, (.int .u64 12113106623233404929)), (42, (.int .u64 14000437183269869457)), (43, (.int .u64 14369950271660146224)), (44, (.int .u64 15101387698204529176)), (45, (.int .u64 15463397548674623760)), (46, (.int .u64 17586052441742319658)), (47, (.int .u64 1182934255886127544)), (48, (.int .u64 1847814050463011016)), (49, (.int .u64 2177327727835720531)), (50, (.int .u64 2830643537854262169)), (51, (.int .u64 3796741975233480872)), (52, (.int .u64 4115178125766777443)), (53, (.int .u64 5681478168544905931)), (54, (.int .u64 6601373596472566643)), (55, (.int .u64 7507060721942968483)), (56, (.int .u64 8399075790359081724)), (57, (.int .u64 8693463985226723168)), (58, (.int .u64 9568029438360202098)), (59, (.int .u64 10144078919501101548)), (60, (.int .u64 10430055236837252648)), (61, (.int .u64 11840083180663258601)), (62, (.int .u64 13761210420658862357)), (63, (.int .u64 14299343276471374635)), (64, (.int .u64 14566680578165727644)), (65, (.int .u64 15097957966210449927)), (66, (.int .u64 16922976911328602910)), (67, (.int .u64 17689382322260857208)), (68, (.int .u64 500013540394364858)), (69, (.int .u64 748580250866718886)), (70, (.int .u64 1242879168328830382)), (71, (.int .u64 1977374033974150939)), (72, (.int .u64 2944078676154940804)), (73, (.int .u64 3659926193048069267)), (74, (.int .u64 4368137639120453308)), (75, (.int .u64 4836135668995329356)), (76, (.int .u64 5532061633213252278)), (77, (.int .u64 6448918945643986474)), (78, (.int .u64 6902733635092675308)), (79, (.int .u64 7801388544844847127))]) (.one .slc) (fun x1 w =>
  K x1 w) w
theorem f22_ok  {K : Sl → World → Prop} {w : World} (h : f22  K w) : callS Tryd.prog 22 #[] [(.one .slc)] K w :=
  calls_of_fn (args := []) Tryd.f22 [] [] [] .nil (by kernel_rfl) (by kernel_rfl)
    (Eq.mp (by kernel_rfl : f22  K w = evFn Tryd.prog Tryd.f22 [] [] [] .nil [] [(.one .slc)] K w) h)

/-- sallyport/sallyportref03.block -/
def f17 (p0 : Sl) (p1 : Sl) (K : Sl → World → Prop) (w : World) : Prop :=
  callS Tryd.prog 21 #[(.slice p1.a p1.len p1.cap)] [(.one .slc)] (fun r1 w =>
  callS Tryd.prog 22 #[] [(.one .slc)] (fun r2 w =>
  semS Tryd.prog (Instr.buildSlice 38 0 #[]) (.one .slc) (fun x3 w =>
  semS Tryd.prog (Builtin.append_ #[38, 38] 38 #[(.slice x3.a x3.len x3.cap), (.slice p0.a p0.len p0.cap)]) (.one .slc) (fun r4 w =>
  loopS (σ := Sl × Int) (fun s5 w again6 =>
    cond (decide (s5.2 < 80))
      (drawS w fun C w =>
      semQ Tryd.prog C (Instr.indexAt 38 (.slice s5.1.a s5.1.len s5.1.cap) (.int .i64 4)) (.one .adr) (fun x7 =>
      semQ Tryd.prog C (Instr.loadAt 34 (.pointer (some x7))) (.one (.int .u64)) (fun x8 =>
      semQ Tryd.prog C (Instr.indexAt 38 (.slice s5.1.a s5.1.len s5.1.cap) (.int .i64 4)) (.one .adr) (fun x9 =>
      semQ Tryd.prog C (Instr.loadAt 34 (.pointer (some x9))) (.one (.int .u64)) (fun x10 =>
      semQ Tryd.prog C (Instr.indexAt 38 (.slice s5.1.a s5.1.len s5.1.cap) (.int .i64 4)) (.one .adr) (fun x11 =>
      semQ Tryd.prog C (Instr.loadAt 34 (.pointer (some x11))) (.one (.int .u64)) (fun x12 =>
      callS Tryd.prog 23 #[(.int .u64 x8), (.int .i64 14)] [(.one (.int .u64))] (fun r13 w =>
      moreS C w (fun C =>
      callS Tryd.prog 23 #[(.int .u64 x10), (.int .i64 18)] [(.one (.int .u64))] (fun r14 w =>
      moreS C w (fun C =>
      callS Tryd.prog 23 #[(.int .u64 x12), (.int .i64 41)] [(.one (.int .u64))] (fun r15 w =>
      drawS w fun C w =>
      semQ Tryd.prog C (Instr.indexAt 38 (.slice s5.1.a s5.1.len s5.1.cap) (.int .i64 4)) (.one .adr) (fun x16 =>
      semQ Tryd.prog C (Instr.loadAt 34 (.pointer (some x16))) (.one (.int .u64)) (fun x17 =>
      semQ Tryd.prog C (Instr.indexAt 38 (.slice s5.1.a s5.1.len s5.1.cap) (.int .i64 5)) (.one .adr) (fun x18 =>
      semQ Tryd.prog C (Instr.loadAt 34 (.pointer (some x18))) (.one (.int .u64)) (fun x19 =>
      semQ Tryd.prog C (Instr.indexAt 38 (.slice s5.1.a s5.1.len s5.1.cap) (.int .i64 4)) (.one .adr) (fun x20 =>
      semQ Tryd.prog C (Instr.loadAt 34 (.pointer (some x20))) (.one (.int .u64)) (fun x21 =>
      semQ Tryd.prog C (Instr.indexAt 38 (.slice s5.1.a s5.1.len s5.1.cap) (.int .i64 6)) (.one .adr) (fun x22 =>
      semQ Tryd.prog C (Instr.loadAt 34 (.pointer (some x22))) (.one (.int .u64)) (fun x23 =>
      drawS w fun C w =>
      semQ Tryd.prog C (Instr.indexAt 38 (.slice s5.1.a s5.1.len s5.1.cap) (.int .i64 7)) (.one .adr) (fun x24 =>
      semQ Tryd.prog C (Instr.loadAt 34 (.pointer (some x24))) (.one (.int .u64)) (fun x25 =>
      semQ Tryd.prog C (Instr.indexAt 38 (.slice r2.a r2.len r2.cap) (.int .i64 s5.2)) (.one .adr) (fun x26 =>
      semQ Tryd.prog C (Instr.loadAt 34 (.pointer (some x26))) (.one (.int .u64)) (fun x27 =>
      semQ Tryd.prog C (Instr.indexAt 38 (.slice r1.a r1.len r1.cap) (.int .i64 s5.2)) (.one .adr) (fun x28 =>
      semQ Tryd.prog C (Instr.loadAt 34 (.pointer (some x28))) (.one (.int .u64)) (fun x29 =>
      drawS w fun C w =>
      semQ Tryd.prog C (Instr.indexAt 38 (.slice s5.1.a s5.1.len s5.1.cap) (.int .i64 0)) (.one .adr) (fun x30 =>
      semQ Tryd.prog C (Instr.loadAt 34 (.pointer (some x30))) (.one (.int .u64)) (fun x31 =>
      semQ Tryd.prog C (Instr.indexAt 38 (.slice s5.1.a s5.1.len s5.1.cap) (.int .i64 0)) (.one .adr) (fun x32 =>
      semQ Tryd.prog C (Instr.loadAt 34 (.pointer (some x32))) (.one (.int .u64)) (fun x33 =>
      semQ Tryd.prog C (Instr.indexAt 38 (.slice s5.1.a s5.1.len s5.1.cap) (.int .i64 0)) (.one .adr) (fun x34 =>
      semQ Tryd.prog C (Instr.loadAt 34 (.pointer (some x34))) (.one (.int .u64)) (fun x35 =>
      callS Tryd.prog 23 #[(.int .u64 x31), (.int .i64 28)] [(.one (.int .u64))] (fun r36 w =>
      moreS C w (fun C =>
      callS Tryd.prog 23 #[(.int .u64 x33), (.int .i64 34)] [(.one (.int .u64))] (fun r37 w =>
      moreS C w (fun C =>
      callS Tryd.prog 23 #[(.int .u64 x35), (.int .i64 39)] [(.one (.int .u64))] (fun r38 w =>
      drawS w fun C w =>
      semQ Tryd.prog C (Instr.indexAt 38 (.slice s5.1.a s5.1.len s5.1.cap) (.int .i64 0)) (.one .adr) (fun x39 =>
      semQ Tryd.prog C (Instr.loadAt 34 (.pointer (some x39))) (.one (.int .u64)) (fun x40 =>
      semQ Tryd.prog C (Instr.indexAt 38 (.slice s5.1.a s5.1.len s5.1.cap) (.int .i64 1)) (.one .adr) (fun x41 =>
      semQ Tryd.prog C (Instr.loadAt 34 (.pointer (some x41))) (.one (.int .u64)) (fun x42 =>
      semQ Tryd.prog C (Instr.indexAt 38 (.slice s5.1.a s5.1.len s5.1.cap) (.int .i64 0)) (.one .adr) (fun x43 =>
      semQ Tryd.prog C (Instr.loadAt 34 (.pointer (some x43))) (.one (.int .u64)) (fun x44 =>
      semQ Tryd.prog C (Instr.indexAt 38 (.slice s5.1.a s5.1.len s5.1.cap) (.int .i64 2)) (.one .adr) (fun x45 =>
      semQ Tryd.prog C (Instr.loadAt 34 (.pointer (some x45))) (.one (.int .u64)) (fun x46 =>
      semQ Tryd.prog C (Instr.indexAt 38 (.slice s5.1.a s5.1.len s5.1.cap) (.int .i64 1)) (.one .adr) (fun x47 =>
      semQ Tryd.prog C (Instr.loadAt 34 (.pointer (some x47))) (.one (.int .u64)) (fun x48 =>
      semQ Tryd.prog C (Instr.indexAt 38 (.slice s5.1.a s5.1.len s5.1.cap) (.int .i64 2)) (.one .adr) (fun x49 =>
      semQ Tryd.prog C (Instr.loadAt 34 (.pointer (some x49))) (.one (.int .u64)) (fun x50 =>
      drawS w fun C w =>
      semQ Tryd.prog C (Instr.indexAt 38 (.slice s5.1.a s5.1.len s5.1.cap) (.int .i64 0)) (.one .adr) (fun x51 =>
      semQ Tryd.prog C (Instr.loadAt 34 (.pointer (some x51))) (.one (.int .u64)) (fun x52 =>
      semQ Tryd.prog C (Instr.indexAt 38 (.slice s5.1.a s5.1.len s5.1.cap) (.int .i64 1)) (.one .adr) (fun x53 =>
      semQ Tryd.prog C (Instr.loadAt 34 (.pointer (some x53))) (.one (.int .u64)) (fun x54 =>
      semQ Tryd.prog C (Instr.indexAt 38 (.slice s5.1.a s5.1.len s5.1.cap) (.int .i64 2)) (.one .adr) (fun x55 =>
      semQ Tryd.prog C (Instr.loadAt 34 (.pointer (some x55))) (.one (.int .u64)) (fun x56 =>
      semQ Tryd.prog C (Instr.indexAt 38 (.slice s5.1.a s5.1.len s5.1.cap) (.int .i64 3)) (.one .adr) (fun x57 =>
      semQ Tryd.prog C (Instr.loadAt 34 (.pointer (some x57))) (.one (.int .u64)) (fun x58 =>
      semQ Tryd.prog C (Instr.indexAt 38 (.slice s5.1.a s5.1.len s5.1.cap) (.int .i64 4)) (.one .adr) (fun x59 =>
      semQ Tryd.prog C (Instr.loadAt 34 (.pointer (some x59))) (.one (.int .u64)) (fun x60 =>
      semQ Tryd.prog C (Instr.indexAt 38 (.slice s5.1.a s5.1.len s5.1.cap) (.int .i64 5)) (.one .adr) (fun x61 =>
      semQ Tryd.prog C (Instr.loadAt 34 (.pointer (some x61))) (.one (.int .u64)) (fun x62 =>
      semQ Tryd.prog C (Instr.indexAt 38 (.slice s5.1.a s5.1.len s5.1.cap) (.int .i64 6)) (.one .adr) (fun x63 =>
      semQ Tryd.prog C (Instr.loadAt 34 (.pointer (some x63))) (.one (.int .u64)) (fun x64 =>
      semS Tryd.prog (Instr.buildSlice 38 8 #[(0, (.int .u64 (IntKind.wrap .u64 ((IntKind.wrap .u64 ((IntKind.wrap .u64 ((IntKind.wrap .u64 ((IntKind.wrap .u64 ((IntKind.wrap .u64 (x25 + (xorI .u64 (xorI .u64 r13 r14) r15))) + (xorI .u64 (andI .u64 x17 x19) (andI .u64 (xorI .u64 (IntKind.max .u64) x21) x23)))) + x27)) + x29)) + (xorI .u64 (xorI .u64 r36 r37) r38))) + (xorI .u64 (xorI .u64 (andI .u64 x40 x42) (andI .u64 x44 x46)) (andI .u64 x48 x50)))))), (1, (.int .u64 x52)), (2, (.int .u64 x54)), (3, (.int .u64 x56)), (4, (.int .u64 (IntKind.wrap .u64 (x58 + (IntKind.wrap .u64 ((IntKind.wrap .u64 ((IntKind.wrap .u64 ((IntKind.wrap .u64 (x25 + (xorI .u64 (xorI .u64 r13 r14) r15))) + (xorI .u64 (andI .u64 x17 x19) (andI .u64 (xorI .u64 (IntKind.max .u64) x21) x23)))) + x27)) + x29)))))), (5, (.int .u64 x60)), (6, (.int .u64 x62)), (7, (.int .u64 x64))]) (.one .slc) (fun x65 w =>
      again6 (x65, IntKind.wrap .i64 (s5.2 + 1)) w) w))))))))))))))))))))))))))) w)) w)) w))))))))))))))))))))) w)) w)) w)))))))
      (loopS (σ := Sl × Int) (fun s66 w again67 =>
        cond (decide (s66.2 < 8))
          (drawS w fun C w =>
          semQ Tryd.prog C (Instr.indexAt 38 (.slice p0.a p0.len p0.cap) (.int .i64 s66.2)) (.one .adr) (fun x68 =>
          semQ Tryd.prog C (Instr.loadAt 34 (.pointer (some x68))) (.one (.int .u64)) (fun x69 =>
          semQ Tryd.prog C (Instr.indexAt 38 (.slice s5.1.a s5.1.len s5.1.cap) (.int .i64 s66.2)) (.one .adr) (fun x70 =>
          semQ Tryd.prog C (Instr.loadAt 34 (.pointer (some x70))) (.one (.int .u64)) (fun x71 =>
          semS Tryd.prog (Instr.buildSlice 38 1 #[(0, (.int .u64 (IntKind.wrap .u64 (x69 + x71))))]) (.one .slc) (fun x72 w =>
          semS Tryd.prog (Builtin.append_ #[38, 38] 38 #[(.slice s66.1.a s66.1.len s66.1.cap), (.slice x72.a x72.len x72.cap)]) (.one .slc) (fun r73 w =>
          again67 (r73, IntKind.wrap .i64 (s66.2 + 1)) w) w) w)))))
          (K s66.1 w)) (⟨none, 0, 0⟩, 0) w)) (r4, 0) w) w) w) w) w
theorem f17_ok {p0 : Sl} {p1 : Sl} {K : Sl → World → Prop} {w : World} (h : f17 p0 p1 K w) : callS Tryd.prog 17 #[(.slice p0.a p0.len p0.cap), (.slice p1.a p1.len p1.cap)] [(.one .slc)] K w :=
  calls_of_fn (args := [(.slice p0.a p0.len p0.cap), (.slice p1.a p1.len p1.cap)]) Tryd.f17 [] [] [] (.two .nil (.two .nil (.two .nil (.two .nil (.two (.two .nil (.one (.loop [(7, .slc), (8, (.int .i64))] (.two .nil (.two (.one (.two (.draw [0, 1, 3, 7, 0, 16, 48, 127, 255, 0, 512, 1536, 3839, 8191, 16383]) (.two (.draw [0, 1, 3, 0, 8, 24, 63, 0, 128, 384, 896, 0, 2048, 6144, 16256, 32767, 65535]) (.two (.draw [0, 1, 3, 0, 15, 0, 63, 0, 0, 384, 896, 2047, 0, 0, 12288, 28672, 65535, 131071]) (.two (.draw [0, 1, 3, 7, 0, 16, 48, 127, 255, 0, 512, 1536, 3839, 8191, 16383]) (.two (.draw [0, 1, 3, 0, 8, 24, 63, 0, 128, 384, 0, 1024, 3072, 8064, 16383, 0, 32768, 98304, 0, 262144, 786432, 2064384, 4194303, 8388607]) (.draw [0, 0, 3, 0, 15, 0, 32, 96, 0, 256, 768, 0, 2048, 6144, 0, 16384, 49152, 0, 245760, 0, 524288, 1572864, 0, 4194304, 12582912, 0, 33554432, 100663296, 268435455, 536870911]))))))) .nil))))) (.two .nil (.two (.two .nil (.one (.loop [(14, .slc), (15, (.int .i64))] (.two .nil (.two (.one (.draw [0, 0, 0, 6, 14, 0, 0, 96, 224, 510, 1022, 2047, 4095])) .nil))))) .nil))))))) (by kernel_rfl) (by kernel_rfl)
    (Eq.mp (by kernel_rfl : f17 p0 p1 K w = evFn Tryd.prog Tryd.f17 [] [] [] (.two .nil (.two .nil (.two .nil (.two .nil (.two (.two .nil (.one (.loop [(7, .slc), (8, (.int .i64))] (.two .nil (.two (.one (.two (.draw [0, 1, 3, 7, 0, 16, 48, 127, 255, 0, 512, 1536, 3839, 8191, 16383]) (.two (.draw [0, 1, 3, 0, 8, 24, 63, 0, 128, 384, 896, 0, 2048, 6144, 16256, 32767, 65535]) (.two (.draw [0, 1, 3, 0, 15, 0, 63, 0, 0, 384, 896, 2047, 0, 0, 12288, 28672, 65535, 131071]) (.two (.draw [0, 1, 3, 7, 0, 16, 48, 127, 255, 0, 512, 1536, 3839, 8191, 16383]) (.two (.draw [0, 1, 3, 0, 8, 24, 63, 0, 128, 384, 0, 1024, 3072, 8064, 16383, 0, 32768, 98304, 0, 262144, 786432, 2064384, 4194303, 8388607]) (.draw [0, 0, 3, 0, 15, 0, 32, 96, 0, 256, 768, 0, 2048, 6144, 0, 16384, 49152, 0, 245760, 0, 524288, 1572864, 0, 4194304, 12582912, 0, 33554432, 100663296, 268435455, 536870911]))))))) .nil))))) (.two .nil (.two (.two .nil (.one (.loop [(14, .slc), (15, (.int .i64))] (.two .nil (.two (.one (.draw [0, 0, 0, 6, 14, 0, 0, 96, 224, 510, 1022, 2047, 4095])) .nil))))) .nil))))))) [(.slice p0.a p0.len p0.cap), (.slice p1.a p1.len p1.cap)] [(.one .slc)] K w) h)

/-- sallyport/sallyportref03.Sum -/
def f11 (p0 : Sl) (K : Sl → World → Prop) (w : World) : Prop :=
  semS Tryd.prog (Instr.buildSlice 38 8 #[(0, (.int .u64 7640891576956012808)), (1, (.int .u64 13503953896175478587)), (2, (.int .u64 4354685564936845355)), (3, (.int .u64 11912009170470909681)), (4, (.int .u64 5840696475078001361)), (5, (.int .u64 11170449401992604703)), (6, (.int .u64 2270897969802886507)), (7, (.int .u64 6620516959819538809))]) (.one .slc) (fun x1 w =>
  callS Tryd.prog 16 #[(.slice p0.a p0.len p0.cap)] [(.one .slc)] (fun r2 w =>
  loopS (σ := Sl × Int) (fun s3 w again4 =>
    cond (decide (s3.2 < (r2.len : Int)))
      (semS Tryd.prog (Instr.sliceAt 24 (.slice r2.a r2.len r2.cap) (some (.int .i64 s3.2)) (some (.int .i64 (IntKind.wrap .i64 (s3.2 + 128)))) none) (.one .slc) (fun x5 w =>
      callS Tryd.prog 17 #[(.slice s3.1.a s3.1.len s3.1.cap), (.slice x5.a x5.len x5.cap)] [(.one .slc)] (fun r6 w =>
      again4 (r6, IntKind.wrap .i64 (s3.2 + 128)) w) w) w)
      (loopS (σ := Sl × Int) (fun s7 w again8 =>
        cond (decide (s7.2 < 8))
          (loopS (σ := Sl × Int) (fun s9 w again10 =>
            cond (decide (s9.2 ≥ 0))
              (semS Tryd.prog (Instr.indexAt 38 (.slice s3.1.a s3.1.len s3.1.cap) (.int .i64 s7.2)) (.one .adr) (fun x11 w =>
              semS Tryd.prog (Instr.loadAt 34 (.pointer (some x11))) (.one (.int .u64)) (fun x12 w =>
              semS Tryd.prog (binS .shr 34 (.tmp 37) (.tmp 39) (.int .u64 x12) (.int .i64 (IntKind.wrap .i64 (8 * s9.2)))) (.one (.int .u64)) (fun x13 w =>
              semS Tryd.prog (Instr.buildSlice 24 1 #[(0, (.int .u8 (IntKind.wrap .u8 x13)))]) (.one .slc) (fun x14 w =>
              semS Tryd.prog (Builtin.append_ #[24, 24] 24 #[(.slice s9.1.a s9.1.len s9.1.cap), (.slice x14.a x14.len x14.cap)]) (.one .slc) (fun r15 w =>
              again10 (r15, IntKind.wrap .i64 (s9.2 - 1)) w) w) w) w) w) w)
              (again8 (s9.1, IntKind.wrap .i64 (s7.2 + 1)) w)) (s7.1, 7) w)
          (K s7.1 w)) (⟨none, 0, 0⟩, 0) w)) (x1, 0) w) w) w
theorem f11_ok {p0 : Sl} {K : Sl → World → Prop} {w : World} (h : f11 p0 K w) : callS Tryd.prog 11 #[(.slice p0.a p0.len p0.cap)] [(.one .slc)] K w :=
  calls_of_fn (args := [(.slice p0.a p0.len p0.cap)]) Tryd.f11 [] [] [] (.two .nil (.two .nil (.two .nil (.two (.two .nil (.one (.loop [(3, .slc), (5, (.int .i64))] .nil))) (.two .nil (.two (.two .nil (.one (.loop [(6, .slc), (7, (.int .i64))] (.two .nil (.two (.one (.two .nil (.one (.loop [(6, .slc), (8, (.int .i64))] .nil)))) .nil))))) .nil)))))) (by kernel_rfl) (by kernel_rfl)
    (Eq.mp (by kernel_rfl : f11 p0 K w = evFn Tryd.prog Tryd.f11 [] [] [] (.two .nil (.two .nil (.two .nil (.two (.two .nil (.one (.loop [(3, .slc), (5, (.int .i64))] .nil))) (.two .nil (.two (.two .nil (.one (.loop [(6, .slc), (7, (.int .i64))] (.two .nil (.two (.one (.two .nil (.one (.loop [(6, .slc), (8, (.int .i64))] .nil)))) .nil))))) .nil)))))) [(.slice p0.a p0.len p0.cap)] [(.one .slc)] K w) h)

/-- sallyport/sallyportlaw03.LongSums -/
def f3 (p0 : Sl) (K : Bool → World → Prop) (w : World) : Prop :=
  callS Tryd.prog 8 #[] [(.one .bool)] (fun r1 w =>
  cond (!r1)
    (K false w)
    (cond (decide ((p0.len : Int) > 40))
      (K true w)
      (callS Tryd.prog 9 #[] [(.one .ptr)] (fun r2 w =>
      loopS (σ := Sl × Int) (fun s3 w again4 =>
        cond (decide (s3.2 < (p0.len : Int)))
          (semS Tryd.prog (Instr.indexAt 22 (.slice p0.a p0.len p0.cap) (.int .i64 s3.2)) (.one .adr) (fun x5 w =>
          semS Tryd.prog (Instr.loadAt 24 (.pointer (some x5))) (.one .slc) (fun x6 w =>
          cond (decide ((x6.len : Int) > 600))
            (K true w)
            (semS Tryd.prog (Builtin.append_ #[24, 24] 24 #[(.slice s3.1.a s3.1.len s3.1.cap), (.slice x6.a x6.len x6.cap)]) (.one .slc) (fun r7 w =>
            callS Tryd.prog 10 #[(.pointer r2), (.slice x6.a x6.len x6.cap)] [] (fun w =>
            again4 (r7, IntKind.wrap .i64 (s3.2 + 1)) w) w) w)) w) w)
          (callS Tryd.prog 11 #[(.slice s3.1.a s3.1.len s3.1.cap)] [(.one .slc)] (fun r8 w =>
          semS Tryd.prog (convert 24 9 (.slice r8.a r8.len r8.cap)) (.one .str) (fun x9 w =>
          callS Tryd.prog 12 #[(.slice p0.a p0.len p0.cap)] [(.one .slc)] (fun r10 w =>
          semS Tryd.prog (convert 24 9 (.slice r10.a r10.len r10.cap)) (.one .str) (fun x11 w =>
          joinS (σ := Bool) (fun b12 w =>
            joinS (σ := Bool) (fun b14 w =>
              K b14 w) fun J15 =>
            cond b12
              (semS Tryd.prog (Instr.buildSlice 22 1 #[(0, (.slice s3.1.a s3.1.len s3.1.cap))]) (.one .slc) (fun x16 w =>
                callS Tryd.prog 12 #[(.slice x16.a x16.len x16.cap)] [(.one .slc)] (fun r17 w =>
                semS Tryd.prog (convert 24 9 (.slice r17.a r17.len r17.cap)) (.one .str) (fun x18 w =>
                J15 (x18.toList == x9.toList) w) w) w) w)
              (J15 false w)) fun J13 =>
          cond (x11.toList == x9.toList)
            (callS Tryd.prog 13 #[(.pointer r2)] [(.one .slc)] (fun r19 w =>
              semS Tryd.prog (convert 24 9 (.slice r19.a r19.len r19.cap)) (.one .str) (fun x20 w =>
              J13 (x20.toList == x9.toList) w) w) w)
            (J13 false w)) w) w) w) w)) (⟨none, 0, 0⟩, 0) w) w))) w
theorem f3_ok {p0 : Sl} {K : Bool → World → Prop} {w : World} (h : f3 p0 K w) : callS Tryd.prog 3 #[(.slice p0.a p0.len p0.cap)] [(.one .bool)] K w :=
  calls_of_fn (args := [(.slice p0.a p0.len p0.cap)]) Tryd.f3 [] [] [] (.two .nil (.two .nil (.two .nil (.two .nil (.two .nil (.two (.two .nil (.one (.loop [(3, .slc), (16, (.int .i64))] .nil))) .nil)))))) (by kernel_rfl) (by kernel_rfl)
    (Eq.mp (by kernel_rfl : f3 p0 K w = evFn Tryd.prog Tryd.f3 [] [] [] (.two .nil (.two .nil (.two .nil (.two .nil (.two .nil (.two (.two .nil (.one (.loop [(3, .slc), (16, (.int .i64))] .nil))) .nil)))))) [(.slice p0.a p0.len p0.cap)] [(.one .bool)] K w) h)

/-- sallyport/sallyportlaw03.LongGoes -/
def f4 (p0 : Sl) (K : Bool → World → Prop) (w : World) : Prop :=
  callS Tryd.prog 8 #[] [(.one .bool)] (fun r1 w =>
  cond (!r1)
    (K false w)
    (cond (decide ((p0.len : Int) > 20))
      (K true w)
      (callS Tryd.prog 9 #[] [(.one .ptr)] (fun r2 w =>
      loopS (σ := Sl × Int) (fun s3 w again4 =>
        cond (decide (s3.2 < (p0.len : Int)))
          (semS Tryd.prog (Instr.indexAt 22 (.slice p0.a p0.len p0.cap) (.int .i64 s3.2)) (.one .adr) (fun x5 w =>
          semS Tryd.prog (Instr.loadAt 24 (.pointer (some x5))) (.one .slc) (fun x6 w =>
          cond (decide ((x6.len : Int) > 300))
            (K true w)
            (semS Tryd.prog (Builtin.append_ #[24, 24] 24 #[(.slice s3.1.a s3.1.len s3.1.cap), (.slice x6.a x6.len x6.cap)]) (.one .slc) (fun r7 w =>
            callS Tryd.prog 10 #[(.pointer r2), (.slice x6.a x6.len x6.cap)] [] (fun w =>
            callS Tryd.prog 13 #[(.pointer r2)] [(.one .slc)] (fun r8 w =>
            drawS w fun C w =>
            semQ Tryd.prog C (convert 24 9 (.slice r8.a r8.len r8.cap)) (.one .str) (fun x9 =>
            semS Tryd.prog (Instr.buildSlice 22 1 #[(0, (.slice r7.a r7.len r7.cap))]) (.one .slc) (fun x10 w =>
            moreS C w (fun C =>
            callS Tryd.prog 12 #[(.slice x10.a x10.len x10.cap)] [(.one .slc)] (fun r11 w =>
            moreS C w (fun C =>
            semQ Tryd.prog C (convert 24 9 (.slice r11.a r11.len r11.cap)) (.one .str) (fun x12 =>
            cond (!(x9.toList == x12.toList))
              (K false w)
              (loopS (σ := Int) (fun x13 w again14 =>
                cond (decide (x13 < (r8.len : Int)))
                  (semS Tryd.prog (Instr.indexAt 24 (.slice r8.a r8.len r8.cap) (.int .i64 x13)) (.one .adr) (fun x15 w =>
                  semU Tryd.prog (Instr.storeAt 5 (.pointer (some x15)) (.int .u8 0)) (fun w =>
                  again14 (IntKind.wrap .i64 (x13 + 1)) w) w) w)
                  (again4 (r7, IntKind.wrap .i64 (s3.2 + 1)) w)) 0 w)))) w)) w)) w) w) w)) w) w)
          (drawS w fun C w =>
          callS Tryd.prog 13 #[(.pointer r2)] [(.one .slc)] (fun r16 w =>
          moreS C w (fun C =>
          semQ Tryd.prog C (convert 24 9 (.slice r16.a r16.len r16.cap)) (.one .str) (fun x17 =>
          callS Tryd.prog 11 #[(.slice s3.1.a s3.1.len s3.1.cap)] [(.one .slc)] (fun r18 w =>
          moreS C w (fun C =>
          semQ Tryd.prog C (convert 24 9 (.slice r18.a r18.len r18.cap)) (.one .str) (fun x19 =>
          K (x17.toList == x19.toList) w))) w))) w)) (⟨none, 0, 0⟩, 0) w) w))) w
theorem f4_ok {p0 : Sl} {K : Bool → World → Prop} {w : World} (h : f4 p0 K w) : callS Tryd.prog 4 #[(.slice p0.a p0.len p0.cap)] [(.one .bool)] K w :=
  calls_of_fn (args := [(.slice p0.a p0.len p0.cap)]) Tryd.f4 [] [] [] (.two .nil (.two .nil (.two .nil (.two .nil (.two .nil (.two (.two .nil (.one (.loop [(3, .slc), (17, (.int .i64))] (.two .nil (.two .nil (.two (.one (.two .nil (.two .nil (.two .nil (.two .nil (.two .nil (.two (.two (.draw [0, 1, 0, 4, 12, 28, 63]) .nil) (.two .nil (.one (.loop [(41, (.int .i64))] .nil)))))))))) .nil)))))) (.two (.draw [0, 1, 3, 0, 11, 27, 63, 127]) .nil))))))) (by kernel_rfl) (by kernel_rfl)
    (Eq.mp (by kernel_rfl : f4 p0 K w = evFn Tryd.prog Tryd.f4 [] [] [] (.two .nil (.two .nil (.two .nil (.two .nil (.two .nil (.two (.two .nil (.one (.loop [(3, .slc), (17, (.int .i64))] (.two .nil (.two .nil (.two (.one (.two .nil (.two .nil (.two .nil (.two .nil (.two .nil (.two (.two (.draw [0, 1, 0, 4, 12, 28, 63]) .nil) (.two .nil (.one (.loop [(41, (.int .i64))] .nil)))))))))) .nil)))))) (.two (.draw [0, 1, 3, 0, 11, 27, 63, 127]) .nil))))))) [(.slice p0.a p0.len p0.cap)] [(.one .bool)] K w) h)

/-- sallyport/sallyportlaw03.LongEdges -/
def f5 (p0 : Int) (p1 : Int) (p2 : Int) (K : Bool → World → Prop) (w : World) : Prop :=
  callS Tryd.prog 8 #[] [(.one .bool)] (fun r1 w =>
  cond (!r1)
    (K false w)
    (cond (((((((decide (p0 < 0)) || (decide (p0 > 6))) || (decide (p1 < (-18)))) || (decide (p1 > 18))) || (decide (p2 < 0))) || (decide (p2 > 255))) || (decide ((IntKind.wrap .i64 ((IntKind.wrap .i64 (128 * p0)) + p1)) < 0)))
      (K true w)
      (semS Tryd.prog (Instr.makeSlice 24 (.int .i64 (IntKind.wrap .i64 ((IntKind.wrap .i64 (128 * p0)) + p1))) (.int .i64 (IntKind.wrap .i64 ((IntKind.wrap .i64 (128 * p0)) + p1)))) (.one .slc) (fun x2 w =>
      loopS (σ := Int) (fun x3 w again4 =>
        cond (decide (x3 < (x2.len : Int)))
          (semS Tryd.prog (Instr.indexAt 24 (.slice x2.a x2.len x2.cap) (.int .i64 x3)) (.one .adr) (fun x5 w =>
          semU Tryd.prog (Instr.storeAt 5 (.pointer (some x5)) (.int .u8 (IntKind.wrap .u8 p2))) (fun w =>
          again4 (IntKind.wrap .i64 (x3 + 1)) w) w) w)
          (semS Tryd.prog (Instr.buildSlice 22 1 #[(0, (.slice x2.a x2.len x2.cap))]) (.one .slc) (fun x6 w =>
          callS Tryd.prog 12 #[(.slice x6.a x6.len x6.cap)] [(.one .slc)] (fun r7 w =>
          drawS w fun C w =>
          cond ((r7.len : Int) == 64)
            (semQ Tryd.prog C (convert 24 9 (.slice r7.a r7.len r7.cap)) (.one .str) (fun x8 =>
            callS Tryd.prog 11 #[(.slice x2.a x2.len x2.cap)] [(.one .slc)] (fun r9 w =>
            moreS C w (fun C =>
            semQ Tryd.prog C (convert 24 9 (.slice r9.a r9.len r9.cap)) (.one .str) (fun x10 =>
            K (x8.toList == x10.toList) w))) w))
            (K false w)) w) w)) 0 w) w))) w
theorem f5_ok {p0 : Int} {p1 : Int} {p2 : Int} {K : Bool → World → Prop} {w : World} (h : f5 p0 p1 p2 K w) : callS Tryd.prog 5 #[(.int .i64 p0), (.int .i64 p1), (.int .i64 p2)] [(.one .bool)] K w :=
  calls_of_fn (args := [(.int .i64 p0), (.int .i64 p1), (.int .i64 p2)]) Tryd.f5 [] [] [] (.two .nil (.two .nil (.two .nil (.two .nil (.two (.two .nil (.one (.loop [(48, (.int .i64))] .nil))) (.two .nil (.two (.draw [0, 1, 3, 7, 15, 31, 63, 127, 63, 319, 831, 2047, 4095, 8191]) .nil))))))) (by kernel_rfl) (by kernel_rfl)
    (Eq.mp (by kernel_rfl : f5 p0 p1 p2 K w = evFn Tryd.prog Tryd.f5 [] [] [] (.two .nil (.two .nil (.two .nil (.two .nil (.two (.two .nil (.one (.loop [(48, (.int .i64))] .nil))) (.two .nil (.two (.draw [0, 1, 3, 7, 15, 31, 63, 127, 63, 319, 831, 2047, 4095, 8191]) .nil))))))) [(.int .i64 p0), (.int .i64 p1), (.int .i64 p2)] [(.one .bool)] K w) h)

/-- sallyport/sallyportlaw03.LongOwn -/
def f6 (p0 : Sl) (p1 : Sl) (K : Bool → World → Prop) (w : World) : Prop :=
  callS Tryd.prog 8 #[] [(.one .bool)] (fun r1 w =>
  cond (!r1)
    (K false w)
    (cond ((decide ((p0.len : Int) > 1000)) || (decide ((p1.len : Int) > 1000)))
      (K true w)
      (callS Tryd.prog 9 #[] [(.one .ptr)] (fun r2 w =>
      callS Tryd.prog 9 #[] [(.one .ptr)] (fun r3 w =>
      semS Tryd.prog (Instr.buildSlice 24 0 #[]) (.one .slc) (fun x4 w =>
      semS Tryd.prog (Builtin.append_ #[24, 24] 24 #[(.slice x4.a x4.len x4.cap), (.slice p0.a p0.len p0.cap)]) (.one .slc) (fun r5 w =>
      callS Tryd.prog 10 #[(.pointer r2), (.slice r5.a r5.len r5.cap)] [] (fun w =>
      loopS (σ := Int) (fun x6 w again7 =>
        cond (decide (x6 < (r5.len : Int)))
          (semS Tryd.prog (Instr.indexAt 24 (.slice r5.a r5.len r5.cap) (.int .i64 x6)) (.one .adr) (fun x8 w =>
          semS Tryd.prog (Instr.loadAt 5 (.pointer (some x8))) (.one (.int .u8)) (fun x9 w =>
          semS Tryd.prog (Instr.indexAt 24 (.slice r5.a r5.len r5.cap) (.int .i64 x6)) (.one .adr) (fun x10 w =>
          semU Tryd.prog (Instr.storeAt 5 (.pointer (some x10)) (.int .u8 (xorI .u8 x9 255))) (fun w =>
          again7 (IntKind.wrap .i64 (x6 + 1)) w) w) w) w) w)
          (callS Tryd.prog 10 #[(.pointer r3), (.slice p1.a p1.len p1.cap)] [] (fun w =>
          callS Tryd.prog 10 #[(.pointer r2), (.slice p1.a p1.len p1.cap)] [] (fun w =>
          drawS w fun C w =>
          (callS Tryd.prog 13 #[(.pointer r2)] [(.one .slc)] (fun r11 w =>
          moreS C w (fun C =>
          semQ Tryd.prog C (convert 24 9 (.slice r11.a r11.len r11.cap)) (.one .str) (fun x12 =>
            semS Tryd.prog (Instr.buildSlice 22 2 #[(0, (.slice p0.a p0.len p0.cap)), (1, (.slice p1.a p1.len p1.cap))]) (.one .slc) (fun x13 w =>
            moreS C w (fun C =>
            callS Tryd.prog 12 #[(.slice x13.a x13.len x13.cap)] [(.one .slc)] (fun r14 w =>
            moreS C w (fun C =>
            semQ Tryd.prog C (convert 24 9 (.slice r14.a r14.len r14.cap)) (.one .str) (fun x15 =>
            cond (x12.toList == x15.toList)
              ((callS Tryd.prog 13 #[(.pointer r3)] [(.one .slc)] (fun r16 w =>
              moreS C w (fun C =>
              semQ Tryd.prog C (convert 24 9 (.slice r16.a r16.len r16.cap)) (.one .str) (fun x17 =>
                semS Tryd.prog (Instr.buildSlice 22 1 #[(0, (.slice p1.a p1.len p1.cap))]) (.one .slc) (fun x18 w =>
                moreS C w (fun C =>
                callS Tryd.prog 12 #[(.slice x18.a x18.len x18.cap)] [(.one .slc)] (fun r19 w =>
                moreS C w (fun C =>
                semQ Tryd.prog C (convert 24 9 (.slice r19.a r19.len r19.cap)) (.one .str) (fun x20 =>
                K (x17.toList == x20.toList) w))) w)) w))) w) ∧
              (semS Tryd.prog (Instr.buildSlice 22 1 #[(0, (.slice p1.a p1.len p1.cap))]) (.one .slc) (fun x21 w =>
              moreS C w (fun C =>
              callS Tryd.prog 13 #[(.pointer r3)] [(.one .slc)] (fun r22 w =>
                moreS C w (fun C =>
                semQ Tryd.prog C (convert 24 9 (.slice r22.a r22.len r22.cap)) (.one .str) (fun x23 =>
                callS Tryd.prog 12 #[(.slice x21.a x21.len x21.cap)] [(.one .slc)] (fun r24 w =>
                moreS C w (fun C =>
                semQ Tryd.prog C (convert 24 9 (.slice r24.a r24.len r24.cap)) (.one .str) (fun x25 =>
                K (x23.toList == x25.toList) w))) w))) w)) w))
              ((K false w) ∧
              (K false w))))) w)) w))) w) ∧
          (semS Tryd.prog (Instr.buildSlice 22 2 #[(0, (.slice p0.a p0.len p0.cap)), (1, (.slice p1.a p1.len p1.cap))]) (.one .slc) (fun x26 w =>
          moreS C w (fun C =>
          callS Tryd.prog 13 #[(.pointer r2)] [(.one .slc)] (fun r27 w =>
            moreS C w (fun C =>
            semQ Tryd.prog C (convert 24 9 (.slice r27.a r27.len r27.cap)) (.one .str) (fun x28 =>
            callS Tryd.prog 12 #[(.slice x26.a x26.len x26.cap)] [(.one .slc)] (fun r29 w =>
            moreS C w (fun C =>
            semQ Tryd.prog C (convert 24 9 (.slice r29.a r29.len r29.cap)) (.one .str) (fun x30 =>
            cond (x28.toList == x30.toList)
              ((callS Tryd.prog 13 #[(.pointer r3)] [(.one .slc)] (fun r31 w =>
              moreS C w (fun C =>
              semQ Tryd.prog C (convert 24 9 (.slice r31.a r31.len r31.cap)) (.one .str) (fun x32 =>
                semS Tryd.prog (Instr.buildSlice 22 1 #[(0, (.slice p1.a p1.len p1.cap))]) (.one .slc) (fun x33 w =>
                moreS C w (fun C =>
                callS Tryd.prog 12 #[(.slice x33.a x33.len x33.cap)] [(.one .slc)] (fun r34 w =>
                moreS C w (fun C =>
                semQ Tryd.prog C (convert 24 9 (.slice r34.a r34.len r34.cap)) (.one .str) (fun x35 =>
                K (x32.toList == x35.toList) w))) w)) w))) w) ∧
              (semS Tryd.prog (Instr.buildSlice 22 1 #[(0, (.slice p1.a p1.len p1.cap))]) (.one .slc) (fun x36 w =>
              moreS C w (fun C =>
              callS Tryd.prog 13 #[(.pointer r3)] [(.one .slc)] (fun r37 w =>
                moreS C w (fun C =>
                semQ Tryd.prog C (convert 24 9 (.slice r37.a r37.len r37.cap)) (.one .str) (fun x38 =>
                callS Tryd.prog 12 #[(.slice x36.a x36.len x36.cap)] [(.one .slc)] (fun r39 w =>
                moreS C w (fun C =>
                semQ Tryd.prog C (convert 24 9 (.slice r39.a r39.len r39.cap)) (.one .str) (fun x40 =>
                K (x38.toList == x40.toList) w))) w))) w)) w))
              ((K false w) ∧
              (K false w))))) w))) w)) w)) w) w)) 0 w) w) w) w) w) w))) w
theorem f6_ok {p0 : Sl} {p1 : Sl} {K : Bool → World → Prop} {w : World} (h : f6 p0 p1 K w) : callS Tryd.prog 6 #[(.slice p0.a p0.len p0.cap), (.slice p1.a p1.len p1.cap)] [(.one .bool)] K w :=
  calls_of_fn (args := [(.slice p0.a p0.len p0.cap), (.slice p1.a p1.len p1.cap)]) Tryd.f6 [] [] [] (.two .nil (.two .nil (.two .nil (.two .nil (.two .nil (.two .nil (.two (.two .nil (.one (.loop [(29, (.int .i64))] .nil))) (.two .nil (.two .nil (.two (.draw [0, 1, 3, 0, 0, 24, 59, 123, 255, 511, 1023, 2047, 4095, 1023, 9215, 28671, 61439, 131071, 262143, 524287]) .nil)))))))))) (by kernel_rfl) (by kernel_rfl)
    (Eq.mp (by kernel_rfl : f6 p0 p1 K w = evFn Tryd.prog Tryd.f6 [] [] [] (.two .nil (.two .nil (.two .nil (.two .nil (.two .nil (.two .nil (.two (.two .nil (.one (.loop [(29, (.int .i64))] .nil))) (.two .nil (.two .nil (.two (.draw [0, 1, 3, 0, 0, 24, 59, 123, 255, 511, 1023, 2047, 4095, 1023, 9215, 28671, 61439, 131071, 262143, 524287]) .nil)))))))))) [(.slice p0.a p0.len p0.cap), (.slice p1.a p1.len p1.cap)] [(.one .bool)] K w) h)

def f7_t1 (z23 : Bool) (K : Bool → World → Prop) (r2 : Option Addr) (p1 : Sl) (r3 : Option Addr) (p0 : Sl) (w : World) : Prop :=
  cond z23
    (K false w)
    (callS Tryd.prog 10 #[(.pointer r2), (.slice p1.a p1.len p1.cap)] [] (fun w =>
    callS Tryd.prog 10 #[(.pointer r3), (.slice p1.a p1.len p1.cap)] [] (fun w =>
    drawS w fun C w =>
    callS Tryd.prog 13 #[(.pointer r2)] [(.one .slc)] (fun r24 w =>
    moreS C w (fun C =>
    semQ Tryd.prog C (convert 24 9 (.slice r24.a r24.len r24.cap)) (.one .str) (fun x25 =>
    callS Tryd.prog 13 #[(.pointer r3)] [(.one .slc)] (fun r26 w =>
    moreS C w (fun C =>
    semQ Tryd.prog C (convert 24 9 (.slice r26.a r26.len r26.cap)) (.one .str) (fun x27 =>
    cond (x25.toList == x27.toList)
      ((callS Tryd.prog 13 #[(.pointer r3)] [(.one .slc)] (fun r28 w =>
      moreS C w (fun C =>
      semQ Tryd.prog C (convert 24 9 (.slice r28.a r28.len r28.cap)) (.one .str) (fun x29 =>
        semS Tryd.prog (Instr.buildSlice 22 3 #[(0, (.slice p0.a p0.len p0.cap)), (1, (.slice none 0 0)), (2, (.slice p1.a p1.len p1.cap))]) (.one .slc) (fun x30 w =>
        moreS C w (fun C =>
        callS Tryd.prog 12 #[(.slice x30.a x30.len x30.cap)] [(.one .slc)] (fun r31 w =>
        moreS C w (fun C =>
        semQ Tryd.prog C (convert 24 9 (.slice r31.a r31.len r31.cap)) (.one .str) (fun x32 =>
        K (x29.toList == x32.toList) w))) w)) w))) w) ∧
      (semS Tryd.prog (Instr.buildSlice 22 3 #[(0, (.slice p0.a p0.len p0.cap)), (1, (.slice none 0 0)), (2, (.slice p1.a p1.len p1.cap))]) (.one .slc) (fun x33 w =>
      moreS C w (fun C =>
      callS Tryd.prog 13 #[(.pointer r3)] [(.one .slc)] (fun r34 w =>
        moreS C w (fun C =>
        semQ Tryd.prog C (convert 24 9 (.slice r34.a r34.len r34.cap)) (.one .str) (fun x35 =>
        callS Tryd.prog 12 #[(.slice x33.a x33.len x33.cap)] [(.one .slc)] (fun r36 w =>
        moreS C w (fun C =>
        semQ Tryd.prog C (convert 24 9 (.slice r36.a r36.len r36.cap)) (.one .str) (fun x37 =>
        K (x35.toList == x37.toList) w))) w))) w)) w))
      ((K false w) ∧
      (K false w))))) w))) w) w) w)

/-- sallyport/sallyportlaw03.LongSingle -/
def f7 (p0 : Sl) (p1 : Sl) (K : Bool → World → Prop) (w : World) : Prop :=
  callS Tryd.prog 8 #[] [(.one .bool)] (fun r1 w =>
  cond (!r1)
    (K false w)
    (cond ((decide ((p0.len : Int) > 500)) || (decide ((p1.len : Int) > 500)))
      (K true w)
      (callS Tryd.prog 9 #[] [(.one .ptr)] (fun r2 w =>
      callS Tryd.prog 9 #[] [(.one .ptr)] (fun r3 w =>
      loopS (σ := Int) (fun x4 w again5 =>
        cond (decide (x4 < (p0.len : Int)))
          (semS Tryd.prog (Instr.indexAt 24 (.slice p0.a p0.len p0.cap) (.int .i64 x4)) (.one .adr) (fun x6 w =>
          semS Tryd.prog (Instr.loadAt 5 (.pointer (some x6))) (.one (.int .u8)) (fun x7 w =>
          semS Tryd.prog (Instr.buildSlice 24 1 #[(0, (.int .u8 x7))]) (.one .slc) (fun x8 w =>
          callS Tryd.prog 10 #[(.pointer r2), (.slice x8.a x8.len x8.cap)] [] (fun w =>
          cond ((Int.tmod x4 3) == 0)
            (callS Tryd.prog 10 #[(.pointer r2), (.slice none 0 0)] [] (fun w =>
            again5 (IntKind.wrap .i64 (x4 + 1)) w) w)
            (again5 (IntKind.wrap .i64 (x4 + 1)) w)) w) w) w) w)
          (callS Tryd.prog 10 #[(.pointer r3), (.slice p0.a p0.len p0.cap)] [] (fun w =>
          drawS w fun C w =>
          callS Tryd.prog 13 #[(.pointer r2)] [(.one .slc)] (fun r9 w =>
          moreS C w (fun C =>
          semQ Tryd.prog C (convert 24 9 (.slice r9.a r9.len r9.cap)) (.one .str) (fun x10 =>
          callS Tryd.prog 13 #[(.pointer r3)] [(.one .slc)] (fun r11 w =>
          moreS C w (fun C =>
          semQ Tryd.prog C (convert 24 9 (.slice r11.a r11.len r11.cap)) (.one .str) (fun x12 =>
          cond (!(x10.toList == x12.toList))
            ((f7_t1 true K r2 p1 r3 p0 w) ∧
            (f7_t1 true K r2 p1 r3 p0 w))
            ((callS Tryd.prog 13 #[(.pointer r2)] [(.one .slc)] (fun r13 w =>
            moreS C w (fun C =>
            semQ Tryd.prog C (convert 24 9 (.slice r13.a r13.len r13.cap)) (.one .str) (fun x14 =>
              semS Tryd.prog (Instr.buildSlice 22 1 #[(0, (.slice p0.a p0.len p0.cap))]) (.one .slc) (fun x15 w =>
              moreS C w (fun C =>
              callS Tryd.prog 12 #[(.slice x15.a x15.len x15.cap)] [(.one .slc)] (fun r16 w =>
              moreS C w (fun C =>
              semQ Tryd.prog C (convert 24 9 (.slice r16.a r16.len r16.cap)) (.one .str) (fun x17 =>
              f7_t1 (!(x14.toList == x17.toList)) K r2 p1 r3 p0 w))) w)) w))) w) ∧
            (semS Tryd.prog (Instr.buildSlice 22 1 #[(0, (.slice p0.a p0.len p0.cap))]) (.one .slc) (fun x18 w =>
            moreS C w (fun C =>
            callS Tryd.prog 13 #[(.pointer r2)] [(.one .slc)] (fun r19 w =>
              moreS C w (fun C =>
              semQ Tryd.prog C (convert 24 9 (.slice r19.a r19.len r19.cap)) (.one .str) (fun x20 =>
              callS Tryd.prog 12 #[(.slice x18.a x18.len x18.cap)] [(.one .slc)] (fun r21 w =>
              moreS C w (fun C =>
              semQ Tryd.prog C (convert 24 9 (.slice r21.a r21.len r21.cap)) (.one .str) (fun x22 =>
              f7_t1 (!(x20.toList == x22.toList)) K r2 p1 r3 p0 w))) w))) w)) w))))) w))) w) w)) 0 w) w) w))) w
theorem f7_ok {p0 : Sl} {p1 : Sl} {K : Bool → World → Prop} {w : World} (h : f7 p0 p1 K w) : callS Tryd.prog 7 #[(.slice p0.a p0.len p0.cap), (.slice p1.a p1.len p1.cap)] [(.one .bool)] K w :=
  calls_of_fn (args := [(.slice p0.a p0.len p0.cap), (.slice p1.a p1.len p1.cap)]) Tryd.f7 [] [] [] (.two .nil (.two .nil (.two .nil (.two .nil (.two (.two .nil (.one (.loop [(23, (.int .i64))] .nil))) (.two .nil (.two (.two (.draw [0, 1, 3, 0, 11, 27, 63, 127, 255, 511, 1023, 255, 2303, 7167, 15359, 32767, 65535]) .nil) (.two .nil (.two .nil (.two (.draw [0, 1, 3, 0, 11, 27, 63, 127, 255, 511, 1023, 255, 255, 6399, 15359, 31743, 65535, 131071, 262143]) .nil)))))))))) (by kernel_rfl) (by kernel_rfl)
    (Eq.mp (by kernel_rfl : f7 p0 p1 K w = evFn Tryd.prog Tryd.f7 [] [] [] (.two .nil (.two .nil (.two .nil (.two .nil (.two (.two .nil (.one (.loop [(23, (.int .i64))] .nil))) (.two .nil (.two (.two (.draw [0, 1, 3, 0, 11, 27, 63, 127, 255, 511, 1023, 255, 2303, 7167, 15359, 32767, 65535]) .nil) (.two .nil (.two .nil (.two (.draw [0, 1, 3, 0, 11, 27, 63, 127, 255, 511, 1023, 255, 255, 6399, 15359, 31743, 65535, 131071, 262143]) .nil)))))))))) [(.slice p0.a p0.len p0.cap), (.slice p1.a p1.len p1.cap)] [(.one .bool)] K w) h)

end Go.Proofs.YtjlmaamhnkhokaaDoor
