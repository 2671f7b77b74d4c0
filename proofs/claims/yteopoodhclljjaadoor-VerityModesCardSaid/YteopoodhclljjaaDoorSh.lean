/- The functions of the program, each as a plain statement, with the proof that it suffices for a call: printed by sh.py out of the loaded code. -/
import Derived.Test.YteopoodhclljjaaDoorEng6
import Derived.Test.YteopoodhclljjaaDoorProg
set_option maxRecDepth 100000
set_option linter.unusedVariables false
namespace Go.Proofs.YteopoodhclljjaaDoor
open Go Go.Eng

/-- sallyport/seal.Size -/
def f24 (p0 : Int) (K : Int → World → Prop) (w : World) : Prop :=
  cond (p0 == 1)
    (K 32 w)
    (cond (p0 == 2)
      (K 64 w)
      (K 0 w))
theorem f24_ok {p0 : Int} {K : Int → World → Prop} {w : World} (h : f24 p0 K w) : callS Tryd.prog 24 #[(.int .i64 p0)] [(.one (.int .i64))] K w :=
  calls_of_fn (args := [(.int .i64 p0)]) Tryd.f24 [] [] [] .nil (by kernel_rfl) (by kernel_rfl)
    (Eq.mp (by kernel_rfl : f24 p0 K w = evFn Tryd.prog Tryd.f24 [] [] [] .nil [(.int .i64 p0)] [(.one (.int .i64))] K w) h)

/-- math/bits.OnesCount32 -/
def f72 (p0 : Int) (K : Int → World → Prop) (w : World) : Prop :=
  drawS w fun C w =>
  semQ Tryd.prog C (Instr.index 9 (.string (ByteArray.mk #[0, 1, 1, 2, 1, 2, 2, 3, 1, 2, 2, 3, 2, 3, 3, 4, 1, 2, 2, 3, 2, 3, 3, 4, 2, 3, 3, 4, 3, 4, 4, 5, 1, 2, 2, 3, 2, 3, 3, 4, 2, 3, 3, 4, 3, 4, 4, 5, 2, 3, 3, 4, 3, 4, 4, 5, 3, 4, 4, 5, 4, 5, 5, 6, 1, 2, 2, 3, 2, 3, 3, 4, 2, 3, 3, 4, 3, 4, 4, 5, 2, 3, 3, 4, 3, 4, 4, 5, 3, 4, 4, 5, 4, 5, 5, 6, 2, 3, 3, 4, 3, 4, 4, 5, 3, 4, 4, 5, 4, 5, 5, 6, 3, 4, 4, 5, 4, 5, 5, 6, 4, 5, 5, 6, 5, 6, 6, 7, 1, 2, 2, 3, 2, 3, 3, 4, 2, 3, 3, 4, 3, 4, 4, 5, 2, 3, 3, 4, 3, 4, 4, 5, 3, 4, 4, 5, 4, 5, 5, 6, 2, 3, 3, 4, 3, 4, 4, 5, 3, 4, 4, 5, 4, 5, 5, 6, 3, 4, 4, 5, 4, 5, 5, 6, 4, 5, 5, 6, 5, 6, 6, 7, 2, 3, 3, 4, 3, 4, 4, 5, 3, 4, 4, 5, 4, 5, 5, 6, 3, 4, 4, 5, 4, 5, 5, 6, 4, 5, 5, 6, 5, 6, 6, 7, 3, 4, 4, 5, 4, 5, 5, 6, 4, 5, 5, 6, 5, 6, 6, 7, 4, 5, 5, 6, 5, 6, 6, 7, 5, 6, 6, 7, 6, 7, 7, 8])) (.int .u32 (shrI .u32 p0 24))) (.one (.int .u8)) (fun x1 =>
  semQ Tryd.prog C (Instr.index 9 (.string (ByteArray.mk #[0, 1, 1, 2, 1, 2, 2, 3, 1, 2, 2, 3, 2, 3, 3, 4, 1, 2, 2, 3, 2, 3, 3, 4, 2, 3, 3, 4, 3, 4, 4, 5, 1, 2, 2, 3, 2, 3, 3, 4, 2, 3, 3, 4, 3, 4, 4, 5, 2, 3, 3, 4, 3, 4, 4, 5, 3, 4, 4, 5, 4, 5, 5, 6, 1, 2, 2, 3, 2, 3, 3, 4, 2, 3, 3, 4, 3, 4, 4, 5, 2, 3, 3, 4, 3, 4, 4, 5, 3, 4, 4, 5, 4, 5, 5, 6, 2, 3, 3, 4, 3, 4, 4, 5, 3, 4, 4, 5, 4, 5, 5, 6, 3, 4, 4, 5, 4, 5, 5, 6, 4, 5, 5, 6, 5, 6, 6, 7, 1, 2, 2, 3, 2, 3, 3, 4, 2, 3, 3, 4, 3, 4, 4, 5, 2, 3, 3, 4, 3, 4, 4, 5, 3, 4, 4, 5, 4, 5, 5, 6, 2, 3, 3, 4, 3, 4, 4, 5, 3, 4, 4, 5, 4, 5, 5, 6, 3, 4, 4, 5, 4, 5, 5, 6, 4, 5, 5, 6, 5, 6, 6, 7, 2, 3, 3, 4, 3, 4, 4, 5, 3, 4, 4, 5, 4, 5, 5, 6, 3, 4, 4, 5, 4, 5, 5, 6, 4, 5, 5, 6, 5, 6, 6, 7, 3, 4, 4, 5, 4, 5, 5, 6, 4, 5, 5, 6, 5, 6, 6, 7, 4, 5, 5, 6, 5, 6, 6, 7, 5, 6, 6, 7, 6, 7, 7, 8])) (.int .u32 (andI .u32 (shrI .u32 p0 16) 255))) (.one (.int .u8)) (fun x2 =>
  semQ Tryd.prog C (Instr.index 9 (.string (ByteArray.mk #[0, 1, 1, 2, 1, 2, 2, 3, 1, 2, 2, 3, 2, 3, 3, 4, 1, 2, 2, 3, 2, 3, 3, 4, 2, 3, 3, 4, 3, 4, 4, 5, 1, 2, 2, 3, 2, 3, 3, 4, 2, 3, 3, 4, 3, 4, 4, 5, 2, 3, 3, 4, 3, 4, 4, 5, 3, 4, 4, 5, 4, 5, 5, 6, 1, 2, 2, 3, 2, 3, 3, 4, 2, 3, 3, 4, 3, 4, 4, 5, 2, 3, 3, 4, 3, 4, 4, 5, 3, 4, 4, 5, 4, 5, 5, 6, 2, 3, 3, 4, 3, 4, 4, 5, 3, 4, 4, 5, 4, 5, 5, 6, 3, 4, 4, 5, 4, 5, 5, 6, 4, 5, 5, 6, 5, 6, 6, 7, 1, 2, 2, 3, 2, 3, 3, 4, 2, 3, 3, 4, 3, 4, 4, 5, 2, 3, 3, 4, 3, 4, 4, 5, 3, 4, 4, 5, 4, 5, 5, 6, 2, 3, 3, 4, 3, 4, 4, 5, 3, 4, 4, 5, 4, 5, 5, 6, 3, 4, 4, 5, 4, 5, 5, 6, 4, 5, 5, 6, 5, 6, 6, 7, 2, 3, 3, 4, 3, 4, 4, 5, 3, 4, 4, 5, 4, 5, 5, 6, 3, 4, 4, 5, 4, 5, 5, 6, 4, 5, 5, 6, 5, 6, 6, 7, 3, 4, 4, 5, 4, 5, 5, 6, 4, 5, 5, 6, 5, 6, 6, 7, 4, 5, 5, 6, 5, 6, 6, 7, 5, 6, 6, 7, 6, 7, 7, 8])) (.int .u32 (andI .u32 (shrI .u32 p0 8) 255))) (.one (.int .u8)) (fun x3 =>
  semQ Tryd.prog C (Instr.index 9 (.string (ByteArray.mk #[0, 1, 1, 2, 1, 2, 2, 3, 1, 2, 2, 3, 2, 3, 3, 4, 1, 2, 2, 3, 2, 3, 3, 4, 2, 3, 3, 4, 3, 4, 4, 5, 1, 2, 2, 3, 2, 3, 3, 4, 2, 3, 3, 4, 3, 4, 4, 5, 2, 3, 3, 4, 3, 4, 4, 5, 3, 4, 4, 5, 4, 5, 5, 6, 1, 2, 2, 3, 2, 3, 3, 4, 2, 3, 3, 4, 3, 4, 4, 5, 2, 3, 3, 4, 3, 4, 4, 5, 3, 4, 4, 5, 4, 5, 5, 6, 2, 3, 3, 4, 3, 4, 4, 5, 3, 4, 4, 5, 4, 5, 5, 6, 3, 4, 4, 5, 4, 5, 5, 6, 4, 5, 5, 6, 5, 6, 6, 7, 1, 2, 2, 3, 2, 3, 3, 4, 2, 3, 3, 4, 3, 4, 4, 5, 2, 3, 3, 4, 3, 4, 4, 5, 3, 4, 4, 5, 4, 5, 5, 6, 2, 3, 3, 4, 3, 4, 4, 5, 3, 4, 4, 5, 4, 5, 5, 6, 3, 4, 4, 5, 4, 5, 5, 6, 4, 5, 5, 6, 5, 6, 6, 7, 2, 3, 3, 4, 3, 4, 4, 5, 3, 4, 4, 5, 4, 5, 5, 6, 3, 4, 4, 5, 4, 5, 5, 6, 4, 5, 5, 6, 5, 6, 6, 7, 3, 4, 4, 5, 4, 5, 5, 6, 4, 5, 5, 6, 5, 6, 6, 7, 4, 5, 5, 6, 5, 6, 6, 7, 5, 6, 6, 7, 6, 7, 7, 8])) (.int .u32 (andI .u32 p0 255))) (.one (.int .u8)) (fun x4 =>
  K (IntKind.wrap .i64 (IntKind.wrap .u8 ((IntKind.wrap .u8 ((IntKind.wrap .u8 (x1 + x2)) + x3)) + x4))) w))))
theorem f72_ok {p0 : Int} {K : Int → World → Prop} {w : World} (h : f72 p0 K w) : callS Tryd.prog 72 #[(.int .u32 p0)] [(.one (.int .i64))] K w :=
  calls_of_fn (args := [(.int .u32 p0)]) Tryd.f72 [] [] [] (.two .nil (.two (.draw [0, 1, 3, 0, 8, 24, 56, 127, 0, 256, 768, 1792, 4095, 0, 8192, 24576, 65535, 131071, 262143]) .nil)) (by kernel_rfl) (by kernel_rfl)
    (Eq.mp (by kernel_rfl : f72 p0 K w = evFn Tryd.prog Tryd.f72 [] [] [] (.two .nil (.two (.draw [0, 1, 3, 0, 8, 24, 56, 127, 0, 256, 768, 1792, 4095, 0, 8192, 24576, 65535, 131071, 262143]) .nil)) [(.int .u32 p0)] [(.one (.int .i64))] K w) h)

/-- math/bits.OnesCount64 -/
def f73 (p0 : Int) (K : Int → World → Prop) (w : World) : Prop :=
  K (andI .i64 (IntKind.wrap .i64 (IntKind.wrap .u64 ((IntKind.wrap .u64 ((IntKind.wrap .u64 ((andI .u64 (IntKind.wrap .u64 ((shrI .u64 (IntKind.wrap .u64 ((andI .u64 (shrI .u64 (IntKind.wrap .u64 ((andI .u64 (shrI .u64 p0 1) 6148914691236517205) + (andI .u64 p0 6148914691236517205))) 2) 3689348814741910323) + (andI .u64 (IntKind.wrap .u64 ((andI .u64 (shrI .u64 p0 1) 6148914691236517205) + (andI .u64 p0 6148914691236517205))) 3689348814741910323))) 4) + (IntKind.wrap .u64 ((andI .u64 (shrI .u64 (IntKind.wrap .u64 ((andI .u64 (shrI .u64 p0 1) 6148914691236517205) + (andI .u64 p0 6148914691236517205))) 2) 3689348814741910323) + (andI .u64 (IntKind.wrap .u64 ((andI .u64 (shrI .u64 p0 1) 6148914691236517205) + (andI .u64 p0 6148914691236517205))) 3689348814741910323))))) 1085102592571150095) + (shrI .u64 (andI .u64 (IntKind.wrap .u64 ((shrI .u64 (IntKind.wrap .u64 ((andI .u64 (shrI .u64 (IntKind.wrap .u64 ((andI .u64 (shrI .u64 p0 1) 6148914691236517205) + (andI .u64 p0 6148914691236517205))) 2) 3689348814741910323) + (andI .u64 (IntKind.wrap .u64 ((andI .u64 (shrI .u64 p0 1) 6148914691236517205) + (andI .u64 p0 6148914691236517205))) 3689348814741910323))) 4) + (IntKind.wrap .u64 ((andI .u64 (shrI .u64 (IntKind.wrap .u64 ((andI .u64 (shrI .u64 p0 1) 6148914691236517205) + (andI .u64 p0 6148914691236517205))) 2) 3689348814741910323) + (andI .u64 (IntKind.wrap .u64 ((andI .u64 (shrI .u64 p0 1) 6148914691236517205) + (andI .u64 p0 6148914691236517205))) 3689348814741910323))))) 1085102592571150095) 8))) + (shrI .u64 (IntKind.wrap .u64 ((andI .u64 (IntKind.wrap .u64 ((shrI .u64 (IntKind.wrap .u64 ((andI .u64 (shrI .u64 (IntKind.wrap .u64 ((andI .u64 (shrI .u64 p0 1) 6148914691236517205) + (andI .u64 p0 6148914691236517205))) 2) 3689348814741910323) + (andI .u64 (IntKind.wrap .u64 ((andI .u64 (shrI .u64 p0 1) 6148914691236517205) + (andI .u64 p0 6148914691236517205))) 3689348814741910323))) 4) + (IntKind.wrap .u64 ((andI .u64 (shrI .u64 (IntKind.wrap .u64 ((andI .u64 (shrI .u64 p0 1) 6148914691236517205) + (andI .u64 p0 6148914691236517205))) 2) 3689348814741910323) + (andI .u64 (IntKind.wrap .u64 ((andI .u64 (shrI .u64 p0 1) 6148914691236517205) + (andI .u64 p0 6148914691236517205))) 3689348814741910323))))) 1085102592571150095) + (shrI .u64 (andI .u64 (IntKind.wrap .u64 ((shrI .u64 (IntKind.wrap .u64 ((andI .u64 (shrI .u64 (IntKind.wrap .u64 ((andI .u64 (shrI .u64 p0 1) 6148914691236517205) + (andI .u64 p0 6148914691236517205))) 2) 3689348814741910323) + (andI .u64 (IntKind.wrap .u64 ((andI .u64 (shrI .u64 p0 1) 6148914691236517205) + (andI .u64 p0 6148914691236517205))) 3689348814741910323))) 4) + (IntKind.wrap .u64 ((andI .u64 (shrI .u64 (IntKind.wrap .u64 ((andI .u64 (shrI .u64 p0 1) 6148914691236517205) + (andI .u64 p0 6148914691236517205))) 2) 3689348814741910323) + (andI .u64 (IntKind.wrap .u64 ((andI .u64 (shrI .u64 p0 1) 6148914691236517205) + (andI .u64 p0 6148914691236517205))) 3689348814741910323))))) 1085102592571150095) 8))) 16))) + (shrI .u64 (IntKind.wrap .u64 ((IntKind.wrap .u64 ((andI .u64 (IntKind.wrap .u64 ((shrI .u64 (IntKind.wrap .u64 ((andI .u64 (shrI .u64 (IntKind.wrap .u64 ((andI .u64 (shrI .u64 p0 1) 6148914691236517205) + (andI .u64 p0 6148914691236517205))) 2) 3689348814741910323) + (andI .u64 (IntKind.wrap .u64 ((andI .u64 (shrI .u64 p0 1) 6148914691236517205) + (andI .u64 p0 6148914691236517205))) 3689348814741910323))) 4) + (IntKind.wrap .u64 ((andI .u64 (shrI .u64 (IntKind.wrap .u64 ((andI .u64 (shrI .u64 p0 1) 6148914691236517205) + (andI .u64 p0 6148914691236517205))) 2) 3689348814741910323) + (andI .u64 (IntKind.wrap .u64 ((andI .u64 (shrI .u64 p0 1) 6148914691236517205) + (andI .u64 p0 6148914691236517205))) 3689348814741910323))))) 1085102592571150095) + (shrI .u64 (andI .u64 (IntKind.wrap .u64 ((shrI .u64 (IntKind.wrap .u64 ((andI .u64 (shrI .u64 (IntKind.wrap .u64 ((andI .u64 (shrI .u64 p0 1) 6148914691236517205) + (andI .u64 p0 6148914691236517205))) 2) 3689348814741910323) + (andI .u64 (IntKind.wrap .u64 ((andI .u64 (shrI .u64 p0 1) 6148914691236517205) + (andI .u64 p0 6148914691236517205))) 3689348814741910323))) 4) + (IntKind.wrap .u64 ((andI .u64 (shrI .u64 (IntKind.wrap .u64 ((andI .u64 (shrI .u64 p0 1) 6148914691236517205) + (andI .u64 p0 6148914691236517205))) 2) 3689348814741910323) + (andI .u64 (IntKind.wrap .u64 ((andI .u64 (shrI .u64 p0 1) 6148914691236517205) + (andI .u64 p0 6148914691236517205))) 3689348814741910323))))) 1085102592571150095) 8))) + (shrI .u64 (IntKind.wrap .u64 ((andI .u64 (IntKind.wrap .u64 ((shrI .u64 (IntKind.wrap .u64 ((andI .u64 (shrI .u64 (IntKind.wrap .u64 ((andI .u64 (shrI .u64 p0 1) 6148914691236517205) + (andI .u64 p0 6148914691236517205))) 2) 3689348814741910323) + (andI .u64 (IntKind.wrap .u64 ((andI .u64 (shrI .u64 p0 1) 6148914691236517205) + (andI .u64 p0 6148914691236517205))) 3689348814741910323))) 4) + (IntKind.wrap .u64 ((andI .u64 (shrI .u64 (IntKind.wrap .u64 ((andI .u64 (shrI .u64 p0 1) 6148914691236517205) + (andI .u64 p0 6148914691236517205))) 2) 3689348814741910323) + (andI .u64 (IntKind.wrap .u64 ((andI .u64 (shrI .u64 p0 1) 6148914691236517205) + (andI .u64 p0 6148914691236517205))) 3689348814741910323))))) 1085102592571150095) + (shrI .u64 (andI .u64 (IntKind.wrap .u64 ((shrI .u64 (IntKind.wrap .u64 ((andI .u64 (shrI .u64 (IntKind.wrap .u64 ((andI .u64 (shrI .u64 p0 1) 6148914691236517205) + (andI .u64 p0 6148914691236517205))) 2) 3689348814741910323) + (andI .u64 (IntKind.wrap .u64 ((andI .u64 (shrI .u64 p0 1) 6148914691236517205) + (andI .u64 p0 6148914691236517205))) 3689348814741910323))) 4) + (IntKind.wrap .u64 ((andI .u64 (shrI .u64 (IntKind.wrap .u64 ((andI .u64 (shrI .u64 p0 1) 6148914691236517205) + (andI .u64 p0 6148914691236517205))) 2) 3689348814741910323) + (andI .u64 (IntKind.wrap .u64 ((andI .u64 (shrI .u64 p0 1) 6148914691236517205) + (andI .u64 p0 6148914691236517205))) 3689348814741910323))))) 1085102592571150095) 8))) 16))) 32)))) 127) w
theorem f73_ok {p0 : Int} {K : Int → World → Prop} {w : World} (h : f73 p0 K w) : callS Tryd.prog 73 #[(.int .u64 p0)] [(.one (.int .i64))] K w :=
  calls_of_fn (args := [(.int .u64 p0)]) Tryd.f73 [] [] [] .nil (by kernel_rfl) (by kernel_rfl)
    (Eq.mp (by kernel_rfl : f73 p0 K w = evFn Tryd.prog Tryd.f73 [] [] [] .nil [(.int .u64 p0)] [(.one (.int .i64))] K w) h)

/-- math/bits.OnesCount -/
def f58 (p0 : Int) (K : Int → World → Prop) (w : World) : Prop :=
  callS Tryd.prog 73 #[(.int .u64 p0)] [(.one (.int .i64))] (fun r1 w =>
  K r1 w) w
theorem f58_ok {p0 : Int} {K : Int → World → Prop} {w : World} (h : f58 p0 K w) : callS Tryd.prog 58 #[(.int .u64 p0)] [(.one (.int .i64))] K w :=
  calls_of_fn (args := [(.int .u64 p0)]) Tryd.f58 [] [] [] .nil (by kernel_rfl) (by kernel_rfl)
    (Eq.mp (by kernel_rfl : f58 p0 K w = evFn Tryd.prog Tryd.f58 [] [] [] .nil [(.int .u64 p0)] [(.one (.int .i64))] K w) h)

/-- (sallyport/place.Shape).Right -/
def f44 (p0_0 : Int) (p0_1 : Int) (p0_2 : Int) (K : Bool → World → Prop) (w : World) : Prop :=
  semS Tryd.prog (Instr.box 62 (.agg #[(.int .i64 p0_0), (.int .i64 p0_1), (.int .i64 p0_2)])) (.one .adr) (fun x1 w =>
  semS Tryd.prog (Instr.loadAt 3 (.pointer (some (x1.add 0)))) (.one (.int .i64)) (fun x2 w =>
  joinS (σ := Bool) (fun b3 w =>
    joinS (σ := Bool) (fun b5 w =>
      joinS (σ := Bool) (fun b7 w =>
        joinS (σ := Bool) (fun b9 w =>
          joinS (σ := Bool) (fun b11 w =>
            K b11 w) fun J12 =>
          cond b9
            (semS Tryd.prog (Instr.loadAt 3 (.pointer (some (x1.add 1)))) (.one (.int .i64)) (fun x13 w =>
              callS Tryd.prog 58 #[(.int .u64 (IntKind.wrap .u64 x13))] [(.one (.int .i64))] (fun r14 w =>
              J12 (r14 == 1) w) w) w)
            (J12 false w)) fun J10 =>
        cond b7
          (semS Tryd.prog (Instr.loadAt 3 (.pointer (some (x1.add 1)))) (.one (.int .i64)) (fun x15 w =>
            J10 (decide (x15 ≤ 4096)) w) w)
          (J10 false w)) fun J8 =>
      cond b5
        (semS Tryd.prog (Instr.loadAt 3 (.pointer (some (x1.add 1)))) (.one (.int .i64)) (fun x16 w =>
          semS Tryd.prog (Instr.loadAt 3 (.pointer (some (x1.add 2)))) (.one (.int .i64)) (fun x17 w =>
          J8 (decide (x16 ≥ (IntKind.wrap .i64 (2 * x17)))) w) w) w)
        (J8 false w)) fun J6 =>
    cond b3
      (semS Tryd.prog (Instr.loadAt 3 (.pointer (some (x1.add 2)))) (.one (.int .i64)) (fun x18 w =>
        joinS (σ := Bool) (fun b19 w =>
          J6 b19 w) fun J20 =>
        cond (x18 == 32)
          (J20 true w)
          (semS Tryd.prog (Instr.loadAt 3 (.pointer (some (x1.add 2)))) (.one (.int .i64)) (fun x21 w =>
            J20 (x21 == 64) w) w)) w)
      (J6 false w)) fun J4 =>
  cond (decide (x2 ≥ 1))
    (semS Tryd.prog (Instr.loadAt 3 (.pointer (some (x1.add 0)))) (.one (.int .i64)) (fun x22 w =>
      J4 (decide (x22 ≤ 1099511627776)) w) w)
    (J4 false w)) w) w
theorem f44_ok {p0_0 : Int} {p0_1 : Int} {p0_2 : Int} {K : Bool → World → Prop} {w : World} (h : f44 p0_0 p0_1 p0_2 K w) : callS Tryd.prog 44 #[(.agg #[(.int .i64 p0_0), (.int .i64 p0_1), (.int .i64 p0_2)])] [(.one .bool)] K w :=
  calls_of_fn (args := [(.agg #[(.int .i64 p0_0), (.int .i64 p0_1), (.int .i64 p0_2)])]) Tryd.f44 [] [] [] .nil (by kernel_rfl) (by kernel_rfl)
    (Eq.mp (by kernel_rfl : f44 p0_0 p0_1 p0_2 K w = evFn Tryd.prog Tryd.f44 [] [] [] .nil [(.agg #[(.int .i64 p0_0), (.int .i64 p0_1), (.int .i64 p0_2)])] [(.one .bool)] K w) h)

/-- sallyport/grove.asked -/
def f31 (p0 : Int) (p1 : Sl) (p2_0 : Int) (p2_1 : Int) (p2_2 : Int) (K : Int → World → Prop) (w : World) : Prop :=
  semS Tryd.prog (Instr.box 62 (.agg #[(.int .i64 p2_0), (.int .i64 p2_1), (.int .i64 p2_2)])) (.one .adr) (fun x1 w =>
  callS Tryd.prog 24 #[(.int .i64 p0)] [(.one (.int .i64))] (fun r2 w =>
  cond (r2 == 0)
    (K 20 w)
    (cond (decide ((p1.len : Int) > 64))
      (K 11 w)
      (drawS w fun C w =>
      semQ Tryd.prog C (Instr.loadAt 62 (.pointer (some x1))) (.agg [(.int .i64), (.int .i64), (.int .i64)]) (fun x3 x4 x5 =>
      callS Tryd.prog 44 #[(.agg #[(.int .i64 x3), (.int .i64 x4), (.int .i64 x5)])] [(.one .bool)] (fun r6 w =>
      moreS C w (fun C =>
      cond (!r6)
        (K 24 w)
        (semQ Tryd.prog C (Instr.loadAt 3 (.pointer (some (x1.add 2)))) (.one (.int .i64)) (fun x7 =>
        callS Tryd.prog 24 #[(.int .i64 p0)] [(.one (.int .i64))] (fun r8 w =>
        moreS C w (fun C =>
        cond (x7 != r8)
    (K 24 w)
    (K 0 w))) w)))) w)))) w) w
theorem f31_ok {p0 : Int} {p1 : Sl} {p2_0 : Int} {p2_1 : Int} {p2_2 : Int} {K : Int → World → Prop} {w : World} (h : f31 p0 p1 p2_0 p2_1 p2_2 K w) : callS Tryd.prog 31 #[(.int .i64 p0), (.slice p1.a p1.len p1.cap), (.agg #[(.int .i64 p2_0), (.int .i64 p2_1), (.int .i64 p2_2)])] [(.one (.int .i64))] K w :=
  calls_of_fn (args := [(.int .i64 p0), (.slice p1.a p1.len p1.cap), (.agg #[(.int .i64 p2_0), (.int .i64 p2_1), (.int .i64 p2_2)])]) Tryd.f31 [] [] [] (.two .nil (.two (.one (.two .nil (.two .nil (.two .nil (.two .nil (.two (.draw [0, 1, 3, 7, 15, 31, 15, 79, 255, 511, 1023]) .nil)))))) .nil)) (by kernel_rfl) (by kernel_rfl)
    (Eq.mp (by kernel_rfl : f31 p0 p1 p2_0 p2_1 p2_2 K w = evFn Tryd.prog Tryd.f31 [] [] [] (.two .nil (.two (.one (.two .nil (.two .nil (.two .nil (.two .nil (.two (.draw [0, 1, 3, 7, 15, 31, 15, 79, 255, 511, 1023]) .nil)))))) .nil)) [(.int .i64 p0), (.slice p1.a p1.len p1.cap), (.agg #[(.int .i64 p2_0), (.int .i64 p2_1), (.int .i64 p2_2)])] [(.one (.int .i64))] K w) h)

/-- slices.Clone[[]byte,byte] -/
def f23 (p0 : Sl) (K : Sl → World → Prop) (w : World) : Prop :=
  semS Tryd.prog (binS .eql 22 (.tmp 3) (.const (Go.Value.slice none 0 0)) (.slice p0.a p0.len p0.cap) (.slice none 0 0)) (.one .bool) (fun x1 w =>
  cond x1
    (K (⟨none, 0, 0⟩) w)
    (semS Tryd.prog (Instr.buildSlice 22 0 #[]) (.one .slc) (fun x2 w =>
    semS Tryd.prog (Builtin.append_ #[22, 22] 22 #[(.slice x2.a x2.len x2.cap), (.slice p0.a p0.len p0.cap)]) (.one .slc) (fun r3 w =>
    K r3 w) w) w)) w
theorem f23_ok {p0 : Sl} {K : Sl → World → Prop} {w : World} (h : f23 p0 K w) : callS Tryd.prog 23 #[(.slice p0.a p0.len p0.cap)] [(.one .slc)] K w :=
  calls_of_fn (args := [(.slice p0.a p0.len p0.cap)]) Tryd.f23 [] [] [] .nil (by kernel_rfl) (by kernel_rfl)
    (Eq.mp (by kernel_rfl : f23 p0 K w = evFn Tryd.prog Tryd.f23 [] [] [] .nil [(.slice p0.a p0.len p0.cap)] [(.one .slc)] K w) h)

/-- sallyport/span.Align -/
def f50 (p0 : Int) (p1 : Int) (K : Int → Int → World → Prop) (w : World) : Prop :=
  cond (((decide (p0 < 0)) || (decide (p1 < 1))) || (decide (p1 > 65536)))
    (K 0 12 w)
    (cond (decide (p0 > 4611686018427387904))
      (K 0 11 w)
      (semS Tryd.prog (binS .quo 3 (.tmp 24) (.tmp 25) (.int .i64 (IntKind.wrap .i64 ((IntKind.wrap .i64 (p0 + p1)) - 1))) (.int .i64 p1)) (.one (.int .i64)) (fun x1 w =>
      cond (decide ((IntKind.wrap .i64 (x1 * p1)) ≤ 4611686018427387904))
        (K (IntKind.wrap .i64 (x1 * p1)) 0 w)
        (K 0 11 w)) w))
theorem f50_ok {p0 : Int} {p1 : Int} {K : Int → Int → World → Prop} {w : World} (h : f50 p0 p1 K w) : callS Tryd.prog 50 #[(.int .i64 p0), (.int .i64 p1)] [(.one (.int .i64)), (.one (.int .i64))] K w :=
  calls_of_fn (args := [(.int .i64 p0), (.int .i64 p1)]) Tryd.f50 [] [] [] .nil (by kernel_rfl) (by kernel_rfl)
    (Eq.mp (by kernel_rfl : f50 p0 p1 K w = evFn Tryd.prog Tryd.f50 [] [] [] .nil [(.int .i64 p0), (.int .i64 p1)] [(.one (.int .i64)), (.one (.int .i64))] K w) h)

/-- sallyport/span.Pad -/
def f32 (p0 : Sl) (p1 : Int) (K : Sl → Int → World → Prop) (w : World) : Prop :=
  callS Tryd.prog 50 #[(.int .i64 (p0.len : Int)), (.int .i64 p1)] [(.one (.int .i64)), (.one (.int .i64))] (fun r1 r2 w =>
  cond (r2 != 0)
    (K (⟨none, 0, 0⟩) r2 w)
    (callS Tryd.prog 23 #[(.slice p0.a p0.len p0.cap)] [(.one .slc)] (fun r3 w =>
    semS Tryd.prog (Builtin.append_ #[22, 3] 22 #[(.slice r3.a r3.len r3.cap), (.int .i64 (IntKind.wrap .i64 (r1 - (p0.len : Int))))]) (.one .slc) (fun r4 w =>
    K r4 0 w) w) w)) w
theorem f32_ok {p0 : Sl} {p1 : Int} {K : Sl → Int → World → Prop} {w : World} (h : f32 p0 p1 K w) : callS Tryd.prog 32 #[(.slice p0.a p0.len p0.cap), (.int .i64 p1)] [(.one .slc), (.one (.int .i64))] K w :=
  calls_of_fn (args := [(.slice p0.a p0.len p0.cap), (.int .i64 p1)]) Tryd.f32 [] [] [] .nil (by kernel_rfl) (by kernel_rfl)
    (Eq.mp (by kernel_rfl : f32 p0 p1 K w = evFn Tryd.prog Tryd.f32 [] [] [] .nil [(.slice p0.a p0.len p0.cap), (.int .i64 p1)] [(.one .slc), (.one (.int .i64))] K w) h)

/-- slices.Chunk[[]byte,byte]$1 -/
def f51 (p0 : Value) (c0 : Addr) (c1 : Addr) (K : World → Prop) (w : World) : Prop :=
  loopS (σ := Int) (fun x1 w again2 =>
    semS Tryd.prog (Instr.loadAt 22 (.pointer (some c0))) (.one .slc) (fun x3 w =>
    cond (decide (x1 < (x3.len : Int)))
      (drawS w fun C w =>
      semQ Tryd.prog C (Instr.loadAt 3 (.pointer (some c1))) (.one (.int .i64)) (fun x4 =>
      semQ Tryd.prog C (Instr.loadAt 22 (.pointer (some c0))) (.one .slc) (fun x5 =>
      semQ Tryd.prog C (Instr.sliceAt 22 (.slice x5.a x5.len x5.cap) (some (.int .i64 x1)) none none) (.one .slc) (fun x6 =>
      semS Tryd.prog (Instr.loadAt 22 (.pointer (some c0))) (.one .slc) (fun x7 w =>
      semS Tryd.prog (Instr.sliceAt 22 (.slice x7.a x7.len x7.cap) (some (.int .i64 x1)) (some (.int .i64 (IntKind.wrap .i64 (x1 + (if (x6.len : Int) < x4 then (x6.len : Int) else x4))))) (some (.int .i64 (IntKind.wrap .i64 (x1 + (if (x6.len : Int) < x4 then (x6.len : Int) else x4)))))) (.one .slc) (fun x8 w =>
      callY Tryd.prog (callSem p0 #[(.slice x8.a x8.len x8.cap)]) [(.one .bool)] (fun r9 w =>
      cond (!r9)
        (K w)
        (semS Tryd.prog (Instr.loadAt 3 (.pointer (some c1))) (.one (.int .i64)) (fun x10 w =>
        again2 (IntKind.wrap .i64 (x1 + x10)) w) w)) w) w) w))))
      (K w)) w) 0 w
theorem f51_ok {p0 : Value} {c0 : Addr} {c1 : Addr} {K : World → Prop} {w : World} (h : f51 p0 c0 c1 K w) : callS Tryd.prog 51 #[p0, (.pointer (some c0)), (.pointer (some c1))] [] K w :=
  calls_of_fn (args := [p0, (.pointer (some c0)), (.pointer (some c1))]) Tryd.f51 [0, 19] [] [] (.two .nil (.one (.loop [(4, (.int .i64))] (.two .nil (.two (.one (.two (.draw [0, 0, 0, 6, 14, 31, 63]) .nil)) .nil))))) (by kernel_rfl) (by kernel_rfl)
    (Eq.mp (by kernel_rfl : f51 p0 c0 c1 K w = evFn Tryd.prog Tryd.f51 [0, 19] [] [] (.two .nil (.one (.loop [(4, (.int .i64))] (.two .nil (.two (.one (.two (.draw [0, 0, 0, 6, 14, 31, 63]) .nil)) .nil))))) [p0, (.pointer (some c0)), (.pointer (some c1))] [] K w) h)

/-- slices.Chunk[[]byte,byte] -/
def f33 (p0 : Sl) (p1 : Int) (K : Value → World → Prop) (w : World) : Prop :=
  semS Tryd.prog (Instr.box 22 (.slice p0.a p0.len p0.cap)) (.one .adr) (fun x1 w =>
  semS Tryd.prog (Instr.box 3 (.int .i64 p1)) (.one .adr) (fun x2 w =>
  semS Tryd.prog (Instr.loadAt 3 (.pointer (some x2))) (.one (.int .i64)) (fun x3 w =>
  cond (decide (x3 < 1))
    (False)
    (K (.func (.func 51) #[] #[(.pointer (some x1)), (.pointer (some x2))]) w)) w) w) w
theorem f33_ok {p0 : Sl} {p1 : Int} {K : Value → World → Prop} {w : World} (h : f33 p0 p1 K w) : callS Tryd.prog 33 #[(.slice p0.a p0.len p0.cap), (.int .i64 p1)] [(.one .any)] K w :=
  calls_of_fn (args := [(.slice p0.a p0.len p0.cap), (.int .i64 p1)]) Tryd.f33 [] [] [] .nil (by kernel_rfl) (by kernel_rfl)
    (Eq.mp (by kernel_rfl : f33 p0 p1 K w = evFn Tryd.prog Tryd.f33 [] [] [] .nil [(.slice p0.a p0.len p0.cap), (.int .i64 p1)] [(.one .any)] K w) h)

/-- sallyport/longsum.New -/
def f65  (K : (Option Addr) → World → Prop) (w : World) : Prop :=
  semS Tryd.prog (Instr.loadAt 127 (.pointer (some (⟨0, 0, none⟩)))) (.agg [(.int .u64), (.int .u64), (.int .u64), (.int .u64), (.int .u64), (.int .u64), (.int .u64), (.int .u64)]) (fun x1 x2 x3 x4 x5 x6 x7 x8 w =>
  semS Tryd.prog (Instr.box 129 (.agg #[(.int .u64 x1), (.int .u64 x2), (.int .u64 x3), (.int .u64 x4), (.int .u64 x5), (.int .u64 x6), (.int .u64 x7), (.int .u64 x8), (.slice none 0 0), (.int .u64 0)])) (.one .adr) (fun x9 w =>
  K (some x9) w) w) w
theorem f65_ok  {K : (Option Addr) → World → Prop} {w : World} (h : f65  K w) : callS Tryd.prog 65 #[] [(.one .ptr)] K w :=
  calls_of_fn (args := []) Tryd.f65 [] [] [] .nil (by kernel_rfl) (by kernel_rfl)
    (Eq.mp (by kernel_rfl : f65  K w = evFn Tryd.prog Tryd.f65 [] [] [] .nil [] [(.one .ptr)] K w) h)

/-- math/bits.RotateLeft64 -/
def f81 (p0 : Int) (p1 : Int) (K : Int → World → Prop) (w : World) : Prop :=
  semS Tryd.prog (binS .shl 126 (.tmp 9) (.tmp 10) (.int .u64 p0) (.int .u64 (andI .u64 (IntKind.wrap .u64 p1) 63))) (.one (.int .u64)) (fun x1 w =>
  semS Tryd.prog (binS .shr 126 (.tmp 12) (.tmp 14) (.int .u64 p0) (.int .u64 (IntKind.wrap .u64 (64 - (andI .u64 (IntKind.wrap .u64 p1) 63))))) (.one (.int .u64)) (fun x2 w =>
  K (orI .u64 x1 x2) w) w) w
theorem f81_ok {p0 : Int} {p1 : Int} {K : Int → World → Prop} {w : World} (h : f81 p0 p1 K w) : callS Tryd.prog 81 #[(.int .u64 p0), (.int .i64 p1)] [(.one (.int .u64))] K w :=
  calls_of_fn (args := [(.int .u64 p0), (.int .i64 p1)]) Tryd.f81 [] [] [] .nil (by kernel_rfl) (by kernel_rfl)
    (Eq.mp (by kernel_rfl : f81 p0 p1 K w = evFn Tryd.prog Tryd.f81 [] [] [] .nil [(.int .u64 p0), (.int .i64 p1)] [(.one (.int .u64))] K w) h)

/-- sallyport/longsum.turn -/
def f78 (p0 : Int) (p1 : Int) (K : Int → World → Prop) (w : World) : Prop :=
  callS Tryd.prog 81 #[(.int .u64 p0), (.int .i64 (IntKind.wrap .i64 (0 - p1)))] [(.one (.int .u64))] (fun r1 w =>
  K r1 w) w
theorem f78_ok {p0 : Int} {p1 : Int} {K : Int → World → Prop} {w : World} (h : f78 p0 p1 K w) : callS Tryd.prog 78 #[(.int .u64 p0), (.int .i64 p1)] [(.one (.int .u64))] K w :=
  calls_of_fn (args := [(.int .u64 p0), (.int .i64 p1)]) Tryd.f78 [] [] [] .nil (by kernel_rfl) (by kernel_rfl)
    (Eq.mp (by kernel_rfl : f78 p0 p1 K w = evFn Tryd.prog Tryd.f78 [] [] [] .nil [(.int .u64 p0), (.int .i64 p1)] [(.one (.int .u64))] K w) h)

/-- sallyport/longsum.schedule -/
def f77 (p0 : Sl) (K : (List Int) → World → Prop) (w : World) : Prop :=
  semS Tryd.prog (Instr.alloc 134 true (.tuple #[])) (.one .adr) (fun x1 w =>
  loopS (σ := Int) (fun x2 w again3 =>
    cond (decide (x2 < 16))
      (semS Tryd.prog (Instr.sliceAt 22 (.slice p0.a p0.len p0.cap) (some (.int .i64 (IntKind.wrap .i64 (8 * x2)))) (some (.int .i64 (IntKind.wrap .i64 ((IntKind.wrap .i64 (8 * x2)) + 8)))) none) (.one .slc) (fun x4 w =>
      loopS (σ := Int) (fun x5 w again6 =>
        cond (decide (x5 < (x4.len : Int)))
          (semS Tryd.prog (Instr.indexAt 22 (.slice x4.a x4.len x4.cap) (.int .i64 x5)) (.one .adr) (fun x7 w =>
          semS Tryd.prog (Instr.loadAt 5 (.pointer (some x7))) (.one (.int .u8)) (fun x8 w =>
          semS Tryd.prog (Instr.indexAt 134 (.pointer (some x1)) (.int .i64 x2)) (.one .adr) (fun x9 w =>
          semS Tryd.prog (Instr.loadAt 126 (.pointer (some x9))) (.one (.int .u64)) (fun x10 w =>
          semS Tryd.prog (Instr.indexAt 134 (.pointer (some x1)) (.int .i64 x2)) (.one .adr) (fun x11 w =>
          semU Tryd.prog (Instr.storeAt 126 (.pointer (some x11)) (.int .u64 (orI .u64 (shlI .u64 x10 8) (IntKind.wrap .u64 x8)))) (fun w =>
          again6 (IntKind.wrap .i64 (x5 + 1)) w) w) w) w) w) w) w)
          (again3 (IntKind.wrap .i64 (x2 + 1)) w)) 0 w) w)
      (loopS (σ := Int) (fun x12 w again13 =>
        cond (decide (x12 < 80))
          (drawS w fun C w =>
          semQ Tryd.prog C (Instr.indexAt 134 (.pointer (some x1)) (.int .i64 (IntKind.wrap .i64 (x12 - 15)))) (.one .adr) (fun x14 =>
          semQ Tryd.prog C (Instr.loadAt 126 (.pointer (some x14))) (.one (.int .u64)) (fun x15 =>
          semQ Tryd.prog C (Instr.indexAt 134 (.pointer (some x1)) (.int .i64 (IntKind.wrap .i64 (x12 - 2)))) (.one .adr) (fun x16 =>
          semQ Tryd.prog C (Instr.loadAt 126 (.pointer (some x16))) (.one (.int .u64)) (fun x17 =>
          drawS w fun C w =>
          semQ Tryd.prog C (Instr.indexAt 134 (.pointer (some x1)) (.int .i64 (IntKind.wrap .i64 (x12 - 16)))) (.one .adr) (fun x18 =>
          semQ Tryd.prog C (Instr.loadAt 126 (.pointer (some x18))) (.one (.int .u64)) (fun x19 =>
          semQ Tryd.prog C (Instr.indexAt 134 (.pointer (some x1)) (.int .i64 (IntKind.wrap .i64 (x12 - 7)))) (.one .adr) (fun x20 =>
          semQ Tryd.prog C (Instr.loadAt 126 (.pointer (some x20))) (.one (.int .u64)) (fun x21 =>
          callS Tryd.prog 78 #[(.int .u64 x15), (.int .i64 1)] [(.one (.int .u64))] (fun r22 w =>
          moreS C w (fun C =>
          callS Tryd.prog 78 #[(.int .u64 x15), (.int .i64 8)] [(.one (.int .u64))] (fun r23 w =>
          moreS C w (fun C =>
          callS Tryd.prog 78 #[(.int .u64 x17), (.int .i64 19)] [(.one (.int .u64))] (fun r24 w =>
          moreS C w (fun C =>
          callS Tryd.prog 78 #[(.int .u64 x17), (.int .i64 61)] [(.one (.int .u64))] (fun r25 w =>
          moreS C w (fun C =>
          semQ Tryd.prog C (Instr.indexAt 134 (.pointer (some x1)) (.int .i64 x12)) (.one .adr) (fun x26 =>
          semU Tryd.prog (Instr.storeAt 126 (.pointer (some x26)) (.int .u64 (IntKind.wrap .u64 ((IntKind.wrap .u64 ((IntKind.wrap .u64 (x19 + (xorI .u64 (xorI .u64 r22 r23) (shrI .u64 x15 7)))) + x21)) + (xorI .u64 (xorI .u64 r24 r25) (shrI .u64 x17 6)))))) (fun w =>
          again13 (IntKind.wrap .i64 (x12 + 1)) w) w))) w)) w)) w)) w)))))))))
          (semS Tryd.prog (Instr.loadAt 134 (.pointer (some x1))) (.one (.arr .u64)) (fun x27 w =>
          semU Tryd.prog (Instr.storeAt 134 (.pointer (some x1)) (.agg (List.map (Value.int .u64) x27).toArray)) (fun w =>
          ∃ v28, (loadVar 134 x1).run Tryd.prog w = .ok v28 w ∧ decR [(.one (.arr .u64))] v28 K fun r => r w) w) w)) 16 w)) 0 w) w
theorem f77_ok {p0 : Sl} {K : (List Int) → World → Prop} {w : World} (h : f77 p0 K w) : callS Tryd.prog 77 #[(.slice p0.a p0.len p0.cap)] [(.one (.arr .u64))] K w :=
  calls_of_fn (args := [(.slice p0.a p0.len p0.cap)]) Tryd.f77 [] [] [] (.two .nil (.two (.two .nil (.one (.loop [(9, (.int .i64))] (.two .nil (.two .nil (.two (.one (.two .nil (.two .nil (.one (.loop [(20, (.int .i64))] .nil))))) .nil)))))) (.two (.two .nil (.one (.loop [(6, (.int .i64))] (.two .nil (.two (.one (.two (.draw [0, 1, 3, 7, 0, 16, 48, 112, 15, 511]) (.draw [0, 0, 2, 6, 14, 0, 32, 0, 224, 480, 0, 1024, 4064, 8190, 0, 16384, 49152, 114688, 262142, 0, 524768, 0, 3670496, 7864800, 0, 16777216, 66585056, 134217726, 268435455, 536870911]))) .nil))))) .nil))) (by kernel_rfl) (by kernel_rfl)
    (Eq.mp (by kernel_rfl : f77 p0 K w = evFn Tryd.prog Tryd.f77 [] [] [] (.two .nil (.two (.two .nil (.one (.loop [(9, (.int .i64))] (.two .nil (.two .nil (.two (.one (.two .nil (.two .nil (.one (.loop [(20, (.int .i64))] .nil))))) .nil)))))) (.two (.two .nil (.one (.loop [(6, (.int .i64))] (.two .nil (.two (.one (.two (.draw [0, 1, 3, 7, 0, 16, 48, 112, 15, 511]) (.draw [0, 0, 2, 6, 14, 0, 32, 0, 224, 480, 0, 1024, 4064, 8190, 0, 16384, 49152, 114688, 262142, 0, 524768, 0, 3670496, 7864800, 0, 16777216, 66585056, 134217726, 268435455, 536870911]))) .nil))))) .nil))) [(.slice p0.a p0.len p0.cap)] [(.one (.arr .u64))] K w) h)

/-- (*sallyport/longsum.Hash).take -/
def f74 (p0 : Option Addr) (p1 : Sl) (K : World → Prop) (w : World) : Prop :=
  callS Tryd.prog 77 #[(.slice p1.a p1.len p1.cap)] [(.one (.arr .u64))] (fun r1 w =>
  semS Tryd.prog (Instr.alloc 134 true (.tuple #[])) (.one .adr) (fun x2 w =>
  semU Tryd.prog (Instr.storeAt 134 (.pointer (some x2)) (.agg (List.map (Value.int .u64) r1).toArray)) (fun w =>
  nilS p0 fun a3 =>
  semS Tryd.prog (Instr.loadAt 127 (.pointer (some (a3.add 0)))) (.agg [(.int .u64), (.int .u64), (.int .u64), (.int .u64), (.int .u64), (.int .u64), (.int .u64), (.int .u64)]) (fun x4 x5 x6 x7 x8 x9 x10 x11 w =>
  semS Tryd.prog (Instr.alloc 127 true (.tuple #[])) (.one .adr) (fun x12 w =>
  semU Tryd.prog (Instr.storeAt 127 (.pointer (some x12)) (.agg #[(.int .u64 x4), (.int .u64 x5), (.int .u64 x6), (.int .u64 x7), (.int .u64 x8), (.int .u64 x9), (.int .u64 x10), (.int .u64 x11)])) (fun w =>
  semS Tryd.prog (Instr.loadAt 134 (.pointer (some (⟨2, 0, none⟩)))) (.one (.arr .u64)) (fun x13 w =>
  loopS (σ := Int) (fun x14 w again15 =>
    cond (decide (x14 < 80))
      (semS Tryd.prog (Instr.index 134 (.agg (List.map (Value.int .u64) x13).toArray) (.int .i64 x14)) (.one (.int .u64)) (fun x16 w =>
      drawS w fun C w =>
      semQ Tryd.prog C (Instr.indexAt 127 (.pointer (some x12)) (.int .i64 0)) (.one .adr) (fun x17 =>
      semQ Tryd.prog C (Instr.loadAt 126 (.pointer (some x17))) (.one (.int .u64)) (fun x18 =>
      semQ Tryd.prog C (Instr.indexAt 127 (.pointer (some x12)) (.int .i64 4)) (.one .adr) (fun x19 =>
      semQ Tryd.prog C (Instr.loadAt 126 (.pointer (some x19))) (.one (.int .u64)) (fun x20 =>
      drawS w fun C w =>
      semQ Tryd.prog C (Instr.indexAt 127 (.pointer (some x12)) (.int .i64 7)) (.one .adr) (fun x21 =>
      semQ Tryd.prog C (Instr.loadAt 126 (.pointer (some x21))) (.one (.int .u64)) (fun x22 =>
      semQ Tryd.prog C (Instr.indexAt 127 (.pointer (some x12)) (.int .i64 5)) (.one .adr) (fun x23 =>
      semQ Tryd.prog C (Instr.loadAt 126 (.pointer (some x23))) (.one (.int .u64)) (fun x24 =>
      semQ Tryd.prog C (Instr.indexAt 127 (.pointer (some x12)) (.int .i64 6)) (.one .adr) (fun x25 =>
      semQ Tryd.prog C (Instr.loadAt 126 (.pointer (some x25))) (.one (.int .u64)) (fun x26 =>
      semQ Tryd.prog C (Instr.indexAt 134 (.pointer (some x2)) (.int .i64 x14)) (.one .adr) (fun x27 =>
      semQ Tryd.prog C (Instr.loadAt 126 (.pointer (some x27))) (.one (.int .u64)) (fun x28 =>
      callS Tryd.prog 78 #[(.int .u64 x20), (.int .i64 14)] [(.one (.int .u64))] (fun r29 w =>
      moreS C w (fun C =>
      callS Tryd.prog 78 #[(.int .u64 x20), (.int .i64 18)] [(.one (.int .u64))] (fun r30 w =>
      moreS C w (fun C =>
      callS Tryd.prog 78 #[(.int .u64 x20), (.int .i64 41)] [(.one (.int .u64))] (fun r31 w =>
      moreS C w (fun C =>
      drawS w fun C w =>
      semQ Tryd.prog C (Instr.indexAt 127 (.pointer (some x12)) (.int .i64 1)) (.one .adr) (fun x32 =>
      semQ Tryd.prog C (Instr.loadAt 126 (.pointer (some x32))) (.one (.int .u64)) (fun x33 =>
      semQ Tryd.prog C (Instr.indexAt 127 (.pointer (some x12)) (.int .i64 2)) (.one .adr) (fun x34 =>
      semQ Tryd.prog C (Instr.loadAt 126 (.pointer (some x34))) (.one (.int .u64)) (fun x35 =>
      semQ Tryd.prog C (Instr.indexAt 127 (.pointer (some x12)) (.int .i64 1)) (.one .adr) (fun x36 =>
      semQ Tryd.prog C (Instr.loadAt 126 (.pointer (some x36))) (.one (.int .u64)) (fun x37 =>
      semQ Tryd.prog C (Instr.indexAt 127 (.pointer (some x12)) (.int .i64 2)) (.one .adr) (fun x38 =>
      semQ Tryd.prog C (Instr.loadAt 126 (.pointer (some x38))) (.one (.int .u64)) (fun x39 =>
      callS Tryd.prog 78 #[(.int .u64 x18), (.int .i64 28)] [(.one (.int .u64))] (fun r40 w =>
      moreS C w (fun C =>
      callS Tryd.prog 78 #[(.int .u64 x18), (.int .i64 34)] [(.one (.int .u64))] (fun r41 w =>
      moreS C w (fun C =>
      callS Tryd.prog 78 #[(.int .u64 x18), (.int .i64 39)] [(.one (.int .u64))] (fun r42 w =>
      moreS C w (fun C =>
      semS Tryd.prog (Instr.indexAt 127 (.pointer (some x12)) (.int .i64 1)) (.one .adr) (fun x43 w =>
      semS Tryd.prog (Instr.loadAt 126 (.pointer (some x43))) (.one (.int .u64)) (fun x44 w =>
      semS Tryd.prog (Instr.indexAt 127 (.pointer (some x12)) (.int .i64 2)) (.one .adr) (fun x45 w =>
      semS Tryd.prog (Instr.loadAt 126 (.pointer (some x45))) (.one (.int .u64)) (fun x46 w =>
      semS Tryd.prog (Instr.indexAt 127 (.pointer (some x12)) (.int .i64 3)) (.one .adr) (fun x47 w =>
      semS Tryd.prog (Instr.loadAt 126 (.pointer (some x47))) (.one (.int .u64)) (fun x48 w =>
      semS Tryd.prog (Instr.indexAt 127 (.pointer (some x12)) (.int .i64 5)) (.one .adr) (fun x49 w =>
      semS Tryd.prog (Instr.loadAt 126 (.pointer (some x49))) (.one (.int .u64)) (fun x50 w =>
      semS Tryd.prog (Instr.indexAt 127 (.pointer (some x12)) (.int .i64 6)) (.one .adr) (fun x51 w =>
      semS Tryd.prog (Instr.loadAt 126 (.pointer (some x51))) (.one (.int .u64)) (fun x52 w =>
      semU Tryd.prog (Instr.storeAt 127 (.pointer (some x12)) (.agg #[(.int .u64 (IntKind.wrap .u64 ((IntKind.wrap .u64 ((IntKind.wrap .u64 ((IntKind.wrap .u64 ((IntKind.wrap .u64 (x22 + (xorI .u64 (xorI .u64 r29 r30) r31))) + (xorI .u64 (andI .u64 x20 x24) (andI .u64 (xorI .u64 (IntKind.max .u64) x20) x26)))) + x16)) + x28)) + (IntKind.wrap .u64 ((xorI .u64 (xorI .u64 r40 r41) r42) + (xorI .u64 (xorI .u64 (andI .u64 x18 x33) (andI .u64 x18 x35)) (andI .u64 x37 x39))))))), (.int .u64 x18), (.int .u64 x44), (.int .u64 x46), (.int .u64 (IntKind.wrap .u64 (x48 + (IntKind.wrap .u64 ((IntKind.wrap .u64 ((IntKind.wrap .u64 ((IntKind.wrap .u64 (x22 + (xorI .u64 (xorI .u64 r29 r30) r31))) + (xorI .u64 (andI .u64 x20 x24) (andI .u64 (xorI .u64 (IntKind.max .u64) x20) x26)))) + x16)) + x28))))), (.int .u64 x20), (.int .u64 x50), (.int .u64 x52)])) (fun w =>
      again15 (IntKind.wrap .i64 (x14 + 1)) w) w) w) w) w) w) w) w) w) w) w) w)) w)) w)) w)))))))))) w)) w)) w))))))))))))) w)
      (semS Tryd.prog (Instr.loadAt 127 (.pointer (some x12))) (.agg [(.int .u64), (.int .u64), (.int .u64), (.int .u64), (.int .u64), (.int .u64), (.int .u64), (.int .u64)]) (fun x53 x54 x55 x56 x57 x58 x59 x60 w =>
      loopS (σ := Int) (fun x61 w again62 =>
        cond (decide (x61 < 8))
          (semS Tryd.prog (Instr.index 127 (.agg #[(.int .u64 x53), (.int .u64 x54), (.int .u64 x55), (.int .u64 x56), (.int .u64 x57), (.int .u64 x58), (.int .u64 x59), (.int .u64 x60)]) (.int .i64 x61)) (.one (.int .u64)) (fun x63 w =>
          drawS w fun C w =>
          nilS p0 fun a64 =>
          semQ Tryd.prog C (Instr.indexAt 127 (.pointer (some (a64.add 0))) (.int .i64 x61)) (.one .adr) (fun x65 =>
          semQ Tryd.prog C (Instr.loadAt 126 (.pointer (some x65))) (.one (.int .u64)) (fun x66 =>
          nilS p0 fun a67 =>
          semQ Tryd.prog C (Instr.indexAt 127 (.pointer (some (a67.add 0))) (.int .i64 x61)) (.one .adr) (fun x68 =>
          semU Tryd.prog (Instr.storeAt 126 (.pointer (some x68)) (.int .u64 (IntKind.wrap .u64 (x66 + x63)))) (fun w =>
          again62 (IntKind.wrap .i64 (x61 + 1)) w) w)))) w)
          (K w)) 0 w) w)) 0 w) w) w) w) w) w) w) w
theorem f74_ok {p0 : Option Addr} {p1 : Sl} {K : World → Prop} {w : World} (h : f74 p0 p1 K w) : callS Tryd.prog 74 #[(.pointer p0), (.slice p1.a p1.len p1.cap)] [] K w :=
  calls_of_fn (args := [(.pointer p0), (.slice p1.a p1.len p1.cap)]) Tryd.f74 [] [] [] (.two .nil (.two .nil (.two (.two .nil (.one (.loop [(21, (.int .i64))] (.two .nil (.two .nil (.two (.one (.two .nil (.two (.draw [0, 1, 0, 4, 3, 31]) (.two (.draw [0, 1, 0, 4, 0, 28, 60, 0, 188, 508, 1023, 0, 0, 4096, 14336, 0, 32768, 0, 131072, 491520, 1046528, 2097151, 0, 8388607, 0, 16777216, 50331648, 134217727, 268435455]) (.two (.draw [0, 1, 0, 7, 15, 0, 47, 127, 0, 0, 512, 1792, 0, 0, 8192, 28672, 65280, 0, 131072, 0, 524288, 1966080, 4194048, 8388607, 16777215]) .nil))))) .nil)))))) (.two .nil (.one (.loop [(101, (.int .i64))] (.two .nil (.two .nil (.two (.one (.two .nil (.draw [0, 0, 1, 5, 15, 31, 0, 127, 1, 257, 1023, 2047]))) .nil))))))))) (by kernel_rfl) (by kernel_rfl)
    (Eq.mp (by kernel_rfl : f74 p0 p1 K w = evFn Tryd.prog Tryd.f74 [] [] [] (.two .nil (.two .nil (.two (.two .nil (.one (.loop [(21, (.int .i64))] (.two .nil (.two .nil (.two (.one (.two .nil (.two (.draw [0, 1, 0, 4, 3, 31]) (.two (.draw [0, 1, 0, 4, 0, 28, 60, 0, 188, 508, 1023, 0, 0, 4096, 14336, 0, 32768, 0, 131072, 491520, 1046528, 2097151, 0, 8388607, 0, 16777216, 50331648, 134217727, 268435455]) (.two (.draw [0, 1, 0, 7, 15, 0, 47, 127, 0, 0, 512, 1792, 0, 0, 8192, 28672, 65280, 0, 131072, 0, 524288, 1966080, 4194048, 8388607, 16777215]) .nil))))) .nil)))))) (.two .nil (.one (.loop [(101, (.int .i64))] (.two .nil (.two .nil (.two (.one (.two .nil (.draw [0, 0, 1, 5, 15, 31, 0, 127, 1, 257, 1023, 2047]))) .nil))))))))) [(.pointer p0), (.slice p1.a p1.len p1.cap)] [] K w) h)

/-- (*sallyport/longsum.Hash).Write -/
def f66 (p0 : Option Addr) (p1 : Sl) (K : World → Prop) (w : World) : Prop :=
  nilS p0 fun a1 =>
  semS Tryd.prog (Instr.loadAt 126 (.pointer (some (a1.add 9)))) (.one (.int .u64)) (fun x2 w =>
  nilS p0 fun a3 =>
  semU Tryd.prog (Instr.storeAt 126 (.pointer (some (a3.add 9))) (.int .u64 (IntKind.wrap .u64 (x2 + (IntKind.wrap .u64 (p1.len : Int)))))) (fun w =>
  nilS p0 fun a4 =>
  semS Tryd.prog (Instr.loadAt 22 (.pointer (some (a4.add 8)))) (.one .slc) (fun x5 w =>
  semS Tryd.prog (Builtin.append_ #[22, 22] 22 #[(.slice x5.a x5.len x5.cap), (.slice p1.a p1.len p1.cap)]) (.one .slc) (fun r6 w =>
  nilS p0 fun a7 =>
  semU Tryd.prog (Instr.storeAt 22 (.pointer (some (a7.add 8))) (.slice r6.a r6.len r6.cap)) (fun w =>
  loopS (σ := Unit) (fun _ w again8 =>
    nilS p0 fun a9 =>
    semS Tryd.prog (Instr.loadAt 22 (.pointer (some (a9.add 8)))) (.one .slc) (fun x10 w =>
    cond (decide ((x10.len : Int) ≥ 128))
      (nilS p0 fun a11 =>
      semS Tryd.prog (Instr.loadAt 22 (.pointer (some (a11.add 8)))) (.one .slc) (fun x12 w =>
      semS Tryd.prog (Instr.sliceAt 22 (.slice x12.a x12.len x12.cap) none (some (.int .i64 128)) none) (.one .slc) (fun x13 w =>
      callS Tryd.prog 74 #[(.pointer p0), (.slice x13.a x13.len x13.cap)] [] (fun w =>
      nilS p0 fun a14 =>
      semS Tryd.prog (Instr.loadAt 22 (.pointer (some (a14.add 8)))) (.one .slc) (fun x15 w =>
      semS Tryd.prog (Instr.sliceAt 22 (.slice x15.a x15.len x15.cap) (some (.int .i64 128)) none none) (.one .slc) (fun x16 w =>
      nilS p0 fun a17 =>
      semU Tryd.prog (Instr.storeAt 22 (.pointer (some (a17.add 8))) (.slice x16.a x16.len x16.cap)) (fun w =>
      again8 () w) w) w) w) w) w) w)
      (nilS p0 fun a18 =>
      semS Tryd.prog (Instr.loadAt 22 (.pointer (some (a18.add 8)))) (.one .slc) (fun x19 w =>
      callS Tryd.prog 23 #[(.slice x19.a x19.len x19.cap)] [(.one .slc)] (fun r20 w =>
      nilS p0 fun a21 =>
      semU Tryd.prog (Instr.storeAt 22 (.pointer (some (a21.add 8))) (.slice r20.a r20.len r20.cap)) (fun w =>
      K w) w) w) w)) w) () w) w) w) w) w) w
theorem f66_ok {p0 : Option Addr} {p1 : Sl} {K : World → Prop} {w : World} (h : f66 p0 p1 K w) : callS Tryd.prog 66 #[(.pointer p0), (.slice p1.a p1.len p1.cap)] [] K w :=
  calls_of_fn (args := [(.pointer p0), (.slice p1.a p1.len p1.cap)]) Tryd.f66 [] [] [.nil, .nil] .nil (by kernel_rfl) (by kernel_rfl)
    (Eq.mp (by kernel_rfl : f66 p0 p1 K w = evFn Tryd.prog Tryd.f66 [] [] [.nil, .nil] .nil [(.pointer p0), (.slice p1.a p1.len p1.cap)] [] K w) h)

def f67_t1 (z37 : Addr) (p0 : Option Addr) (K : Sl → World → Prop) (w : World) : Prop :=
  loopS (σ := Unit) (fun _ w again38 =>
    semS Tryd.prog (Instr.loadAt 22 (.pointer (some (z37.add 8)))) (.one .slc) (fun x39 w =>
    cond ((Int.tmod (x39.len : Int) 128) != 112)
      (semS Tryd.prog (Instr.loadAt 22 (.pointer (some (z37.add 8)))) (.one .slc) (fun x40 w =>
      semS Tryd.prog (Instr.buildSlice 22 1 #[(0, (.int .u8 0))]) (.one .slc) (fun x41 w =>
      semS Tryd.prog (Builtin.append_ #[22, 22] 22 #[(.slice x40.a x40.len x40.cap), (.slice x41.a x41.len x41.cap)]) (.one .slc) (fun r42 w =>
      semU Tryd.prog (Instr.storeAt 22 (.pointer (some (z37.add 8))) (.slice r42.a r42.len r42.cap)) (fun w =>
      again38 () w) w) w) w) w)
      (semS Tryd.prog (Instr.loadAt 22 (.pointer (some (z37.add 8)))) (.one .slc) (fun x43 w =>
      semS Tryd.prog (Builtin.append_ #[22, 3] 22 #[(.slice x43.a x43.len x43.cap), (.int .i64 8)]) (.one .slc) (fun r44 w =>
      semU Tryd.prog (Instr.storeAt 22 (.pointer (some (z37.add 8))) (.slice r44.a r44.len r44.cap)) (fun w =>
      loopS (σ := Int) (fun x45 w again46 =>
        cond (decide (x45 ≥ 0))
          (drawS w fun C w =>
          semQ Tryd.prog C (Instr.loadAt 22 (.pointer (some (z37.add 8)))) (.one .slc) (fun x47 =>
          nilS p0 fun a48 =>
          semQ Tryd.prog C (Instr.loadAt 126 (.pointer (some (a48.add 9)))) (.one (.int .u64)) (fun x49 =>
          semQ Tryd.prog C (binS .shr 126 (.tmp 46) (.tmp 47) (.int .u64 (IntKind.wrap .u64 (8 * x49))) (.int .i64 x45)) (.one (.int .u64)) (fun x50 =>
          semS Tryd.prog (Instr.buildSlice 22 1 #[(0, (.int .u8 (IntKind.wrap .u8 x50)))]) (.one .slc) (fun x51 w =>
          moreS C w (fun C =>
          semS Tryd.prog (Builtin.append_ #[22, 22] 22 #[(.slice x47.a x47.len x47.cap), (.slice x51.a x51.len x51.cap)]) (.one .slc) (fun r52 w =>
          semU Tryd.prog (Instr.storeAt 22 (.pointer (some (z37.add 8))) (.slice r52.a r52.len r52.cap)) (fun w =>
          again46 (IntKind.wrap .i64 (x45 - 8)) w) w) w)) w))))
          (semS Tryd.prog (Instr.loadAt 22 (.pointer (some (z37.add 8)))) (.one .slc) (fun x53 w =>
          callS Tryd.prog 33 #[(.slice x53.a x53.len x53.cap), (.int .i64 128)] [(.one .any)] (fun r54 w =>
          rangeS Tryd.prog r54 w (fun l55 oR56 oB57 xs58 w R59 =>
            decL (R := Prop) [.slc] xs58 (fun x61 =>
            w.heap[l55]? = some oR56 ∧ ((fun w =>
              callS Tryd.prog 74 #[(.pointer (some z37)), (.slice x61.a x61.len x61.cap)] [] (fun w =>
              w.heap[l55]? = some oB57 ∧ R59 (w.putObj l55 oR56)) w) (w.putObj l55 oB57))) (fun r => r)) (fun D60 w =>
          semS Tryd.prog (Instr.loadAt 127 (.pointer (some (z37.add 0)))) (.agg [(.int .u64), (.int .u64), (.int .u64), (.int .u64), (.int .u64), (.int .u64), (.int .u64), (.int .u64)]) (fun x62 x63 x64 x65 x66 x67 x68 x69 w =>
          loopS (σ := Sl × Int) (fun s70 w again71 =>
            cond (decide (s70.2 < 8))
              (semS Tryd.prog (Instr.index 127 (.agg #[(.int .u64 x62), (.int .u64 x63), (.int .u64 x64), (.int .u64 x65), (.int .u64 x66), (.int .u64 x67), (.int .u64 x68), (.int .u64 x69)]) (.int .i64 s70.2)) (.one (.int .u64)) (fun x72 w =>
              loopS (σ := Sl × Int) (fun s73 w again74 =>
                cond (decide (s73.2 ≥ 0))
                  (semS Tryd.prog (binS .shr 126 (.tmp 69) (.tmp 70) (.int .u64 x72) (.int .i64 s73.2)) (.one (.int .u64)) (fun x75 w =>
                  semS Tryd.prog (Instr.buildSlice 22 1 #[(0, (.int .u8 (IntKind.wrap .u8 x75)))]) (.one .slc) (fun x76 w =>
                  semS Tryd.prog (Builtin.append_ #[22, 22] 22 #[(.slice s73.1.a s73.1.len s73.1.cap), (.slice x76.a x76.len x76.cap)]) (.one .slc) (fun r77 w =>
                  again74 (r77, IntKind.wrap .i64 (s73.2 - 8)) w) w) w) w)
                  (again71 (s73.1, IntKind.wrap .i64 (s70.2 + 1)) w)) (s70.1, 56) w) w)
              (w.heap[D60]? = some (.deferred (some [])) ∧ ((fun w => K s70.1 w) (w.putObj D60 (.deferred none))))) (⟨none, 0, 0⟩, 0) w) w)) w) w)) 56 w) w) w) w)) w) () w

/-- (*sallyport/longsum.Hash).Sum -/
def f67 (p0 : Option Addr) (K : Sl → World → Prop) (w : World) : Prop :=
  drawS w fun C w =>
  nilS p0 fun a1 =>
  semQ Tryd.prog C (Instr.loadAt 127 (.pointer (some (a1.add 0)))) (.agg [(.int .u64), (.int .u64), (.int .u64), (.int .u64), (.int .u64), (.int .u64), (.int .u64), (.int .u64)]) (fun x2 x3 x4 x5 x6 x7 x8 x9 =>
  nilS p0 fun a10 =>
  semQ Tryd.prog C (Instr.loadAt 22 (.pointer (some (a10.add 8)))) (.one .slc) (fun x11 =>
  (callS Tryd.prog 23 #[(.slice x11.a x11.len x11.cap)] [(.one .slc)] (fun r12 w =>
  moreS C w (fun C =>
  (semS Tryd.prog (Instr.buildSlice 22 1 #[(0, (.int .u8 128))]) (.one .slc) (fun x13 w =>
    moreS C w (fun C =>
    (semS Tryd.prog (Builtin.append_ #[22, 22] 22 #[(.slice r12.a r12.len r12.cap), (.slice x13.a x13.len x13.cap)]) (.one .slc) (fun r14 w =>
      moreS C w (fun C =>
      semS Tryd.prog (Instr.alloc 129 true (.tuple #[])) (.one .adr) (fun x15 w =>
        moreS C w (fun C =>
        semU Tryd.prog (Instr.storeAt 129 (.pointer (some x15)) (.agg #[(.int .u64 x2), (.int .u64 x3), (.int .u64 x4), (.int .u64 x5), (.int .u64 x6), (.int .u64 x7), (.int .u64 x8), (.int .u64 x9), (.slice r14.a r14.len r14.cap), (.int .u64 0)])) (fun w =>
        f67_t1 x15 p0 K w) w)) w)) w) ∧
      (semS Tryd.prog (Instr.alloc 129 true (.tuple #[])) (.one .adr) (fun x16 w =>
      moreS C w (fun C =>
      semS Tryd.prog (Builtin.append_ #[22, 22] 22 #[(.slice r12.a r12.len r12.cap), (.slice x13.a x13.len x13.cap)]) (.one .slc) (fun r17 w =>
        moreS C w (fun C =>
        semU Tryd.prog (Instr.storeAt 129 (.pointer (some x16)) (.agg #[(.int .u64 x2), (.int .u64 x3), (.int .u64 x4), (.int .u64 x5), (.int .u64 x6), (.int .u64 x7), (.int .u64 x8), (.int .u64 x9), (.slice r17.a r17.len r17.cap), (.int .u64 0)])) (fun w =>
        f67_t1 x16 p0 K w) w)) w)) w))) w) ∧
    (semS Tryd.prog (Instr.alloc 129 true (.tuple #[])) (.one .adr) (fun x18 w =>
    moreS C w (fun C =>
    semS Tryd.prog (Instr.buildSlice 22 1 #[(0, (.int .u8 128))]) (.one .slc) (fun x19 w =>
      moreS C w (fun C =>
      semS Tryd.prog (Builtin.append_ #[22, 22] 22 #[(.slice r12.a r12.len r12.cap), (.slice x19.a x19.len x19.cap)]) (.one .slc) (fun r20 w =>
      moreS C w (fun C =>
      semU Tryd.prog (Instr.storeAt 129 (.pointer (some x18)) (.agg #[(.int .u64 x2), (.int .u64 x3), (.int .u64 x4), (.int .u64 x5), (.int .u64 x6), (.int .u64 x7), (.int .u64 x8), (.int .u64 x9), (.slice r20.a r20.len r20.cap), (.int .u64 0)])) (fun w =>
      f67_t1 x18 p0 K w) w)) w)) w)) w))) w) ∧
  ((semS Tryd.prog (Instr.buildSlice 22 1 #[(0, (.int .u8 128))]) (.one .slc) (fun x21 w =>
  moreS C w (fun C =>
  (callS Tryd.prog 23 #[(.slice x11.a x11.len x11.cap)] [(.one .slc)] (fun r22 w =>
    moreS C w (fun C =>
    (semS Tryd.prog (Builtin.append_ #[22, 22] 22 #[(.slice r22.a r22.len r22.cap), (.slice x21.a x21.len x21.cap)]) (.one .slc) (fun r23 w =>
      moreS C w (fun C =>
      semS Tryd.prog (Instr.alloc 129 true (.tuple #[])) (.one .adr) (fun x24 w =>
        moreS C w (fun C =>
        semU Tryd.prog (Instr.storeAt 129 (.pointer (some x24)) (.agg #[(.int .u64 x2), (.int .u64 x3), (.int .u64 x4), (.int .u64 x5), (.int .u64 x6), (.int .u64 x7), (.int .u64 x8), (.int .u64 x9), (.slice r23.a r23.len r23.cap), (.int .u64 0)])) (fun w =>
        f67_t1 x24 p0 K w) w)) w)) w) ∧
      (semS Tryd.prog (Instr.alloc 129 true (.tuple #[])) (.one .adr) (fun x25 w =>
      moreS C w (fun C =>
      semS Tryd.prog (Builtin.append_ #[22, 22] 22 #[(.slice r22.a r22.len r22.cap), (.slice x21.a x21.len x21.cap)]) (.one .slc) (fun r26 w =>
        moreS C w (fun C =>
        semU Tryd.prog (Instr.storeAt 129 (.pointer (some x25)) (.agg #[(.int .u64 x2), (.int .u64 x3), (.int .u64 x4), (.int .u64 x5), (.int .u64 x6), (.int .u64 x7), (.int .u64 x8), (.int .u64 x9), (.slice r26.a r26.len r26.cap), (.int .u64 0)])) (fun w =>
        f67_t1 x25 p0 K w) w)) w)) w))) w) ∧
    (semS Tryd.prog (Instr.alloc 129 true (.tuple #[])) (.one .adr) (fun x27 w =>
    moreS C w (fun C =>
    callS Tryd.prog 23 #[(.slice x11.a x11.len x11.cap)] [(.one .slc)] (fun r28 w =>
      moreS C w (fun C =>
      semS Tryd.prog (Builtin.append_ #[22, 22] 22 #[(.slice r28.a r28.len r28.cap), (.slice x21.a x21.len x21.cap)]) (.one .slc) (fun r29 w =>
      moreS C w (fun C =>
      semU Tryd.prog (Instr.storeAt 129 (.pointer (some x27)) (.agg #[(.int .u64 x2), (.int .u64 x3), (.int .u64 x4), (.int .u64 x5), (.int .u64 x6), (.int .u64 x7), (.int .u64 x8), (.int .u64 x9), (.slice r29.a r29.len r29.cap), (.int .u64 0)])) (fun w =>
      f67_t1 x27 p0 K w) w)) w)) w)) w))) w) ∧
  (semS Tryd.prog (Instr.alloc 129 true (.tuple #[])) (.one .adr) (fun x30 w =>
  moreS C w (fun C =>
  (callS Tryd.prog 23 #[(.slice x11.a x11.len x11.cap)] [(.one .slc)] (fun r31 w =>
    moreS C w (fun C =>
    semS Tryd.prog (Instr.buildSlice 22 1 #[(0, (.int .u8 128))]) (.one .slc) (fun x32 w =>
      moreS C w (fun C =>
      semS Tryd.prog (Builtin.append_ #[22, 22] 22 #[(.slice r31.a r31.len r31.cap), (.slice x32.a x32.len x32.cap)]) (.one .slc) (fun r33 w =>
      moreS C w (fun C =>
      semU Tryd.prog (Instr.storeAt 129 (.pointer (some x30)) (.agg #[(.int .u64 x2), (.int .u64 x3), (.int .u64 x4), (.int .u64 x5), (.int .u64 x6), (.int .u64 x7), (.int .u64 x8), (.int .u64 x9), (.slice r33.a r33.len r33.cap), (.int .u64 0)])) (fun w =>
      f67_t1 x30 p0 K w) w)) w)) w)) w) ∧
    (semS Tryd.prog (Instr.buildSlice 22 1 #[(0, (.int .u8 128))]) (.one .slc) (fun x34 w =>
    moreS C w (fun C =>
    callS Tryd.prog 23 #[(.slice x11.a x11.len x11.cap)] [(.one .slc)] (fun r35 w =>
      moreS C w (fun C =>
      semS Tryd.prog (Builtin.append_ #[22, 22] 22 #[(.slice r35.a r35.len r35.cap), (.slice x34.a x34.len x34.cap)]) (.one .slc) (fun r36 w =>
      moreS C w (fun C =>
      semU Tryd.prog (Instr.storeAt 129 (.pointer (some x30)) (.agg #[(.int .u64 x2), (.int .u64 x3), (.int .u64 x4), (.int .u64 x5), (.int .u64 x6), (.int .u64 x7), (.int .u64 x8), (.int .u64 x9), (.slice r36.a r36.len r36.cap), (.int .u64 0)])) (fun w =>
      f67_t1 x30 p0 K w) w)) w)) w)) w))) w))))
theorem f67_ok {p0 : Option Addr} {K : Sl → World → Prop} {w : World} (h : f67 p0 K w) : callS Tryd.prog 67 #[(.pointer p0)] [(.one .slc)] K w :=
  calls_of_fnR (args := [(.pointer p0)]) Tryd.f67 [] (.two .nil (.two (.draw [0, 1, 3, 7, 0, 16, 48, 112, 240, 0, 1008, 2047, 0, 8191]) (.two (.one (.loop [] .nil)) (.two .nil (.two (.two .nil (.one (.loop [(4, (.int .i64))] (.two .nil (.two (.one (.draw [0, 1, 0, 4, 12, 28, 60, 0, 252, 508, 1020, 2047, 4095, 8191])) .nil))))) (.two (.two .nil (.one (.join [(56, .slc)] .nil .nil))) (.two .nil (.two (.two .nil (.one (.loop [(6, .slc), (61, (.int .i64))] (.two .nil (.two .nil (.two (.one (.two .nil (.two .nil (.one (.loop [(6, .slc), (9, (.int .i64))] .nil))))) .nil)))))) .nil)))))))) (by kernel_rfl) (by kernel_rfl)
    (Eq.mp (by kernel_rfl : f67 p0 K w = evFnR Tryd.prog Tryd.f67 [] (.two .nil (.two (.draw [0, 1, 3, 7, 0, 16, 48, 112, 240, 0, 1008, 2047, 0, 8191]) (.two (.one (.loop [] .nil)) (.two .nil (.two (.two .nil (.one (.loop [(4, (.int .i64))] (.two .nil (.two (.one (.draw [0, 1, 0, 4, 12, 28, 60, 0, 252, 508, 1020, 2047, 4095, 8191])) .nil))))) (.two (.two .nil (.one (.join [(56, .slc)] .nil .nil))) (.two .nil (.two (.two .nil (.one (.loop [(6, .slc), (61, (.int .i64))] (.two .nil (.two .nil (.two (.one (.two .nil (.two .nil (.one (.loop [(6, .slc), (9, (.int .i64))] .nil))))) .nil)))))) .nil)))))))) [(.pointer p0)] [(.one .slc)] K w) h)

/-- sallyport/longsum.Of -/
def f52 (p0 : Sl) (K : Sl → World → Prop) (w : World) : Prop :=
  callS Tryd.prog 65 #[] [(.one .ptr)] (fun r1 w =>
  loopS (σ := Int) (fun x2 w again3 =>
    cond (decide (x2 < (p0.len : Int)))
      (semS Tryd.prog (Instr.indexAt 39 (.slice p0.a p0.len p0.cap) (.int .i64 x2)) (.one .adr) (fun x4 w =>
      semS Tryd.prog (Instr.loadAt 22 (.pointer (some x4))) (.one .slc) (fun x5 w =>
      callS Tryd.prog 66 #[(.pointer r1), (.slice x5.a x5.len x5.cap)] [] (fun w =>
      again3 (IntKind.wrap .i64 (x2 + 1)) w) w) w) w)
      (callS Tryd.prog 67 #[(.pointer r1)] [(.one .slc)] (fun r6 w =>
      K r6 w) w)) 0 w) w
theorem f52_ok {p0 : Sl} {K : Sl → World → Prop} {w : World} (h : f52 p0 K w) : callS Tryd.prog 52 #[(.slice p0.a p0.len p0.cap)] [(.one .slc)] K w :=
  calls_of_fn (args := [(.slice p0.a p0.len p0.cap)]) Tryd.f52 [] [] [] (.two .nil (.two .nil (.two (.two .nil (.one (.loop [(9, (.int .i64))] .nil))) .nil))) (by kernel_rfl) (by kernel_rfl)
    (Eq.mp (by kernel_rfl : f52 p0 K w = evFn Tryd.prog Tryd.f52 [] [] [] (.two .nil (.two .nil (.two (.two .nil (.one (.loop [(9, (.int .i64))] .nil))) .nil))) [(.slice p0.a p0.len p0.cap)] [(.one .slc)] K w) h)

/-- sallyport/shortsum.New -/
def f68  (K : (Option Addr) → World → Prop) (w : World) : Prop :=
  semS Tryd.prog (Instr.loadAt 130 (.pointer (some (⟨1, 0, none⟩)))) (.agg [(.int .u32), (.int .u32), (.int .u32), (.int .u32), (.int .u32), (.int .u32), (.int .u32), (.int .u32)]) (fun x1 x2 x3 x4 x5 x6 x7 x8 w =>
  semS Tryd.prog (Instr.box 132 (.agg #[(.int .u32 x1), (.int .u32 x2), (.int .u32 x3), (.int .u32 x4), (.int .u32 x5), (.int .u32 x6), (.int .u32 x7), (.int .u32 x8), (.slice none 0 0), (.int .u64 0)])) (.one .adr) (fun x9 w =>
  K (some x9) w) w) w
theorem f68_ok  {K : (Option Addr) → World → Prop} {w : World} (h : f68  K w) : callS Tryd.prog 68 #[] [(.one .ptr)] K w :=
  calls_of_fn (args := []) Tryd.f68 [] [] [] .nil (by kernel_rfl) (by kernel_rfl)
    (Eq.mp (by kernel_rfl : f68  K w = evFn Tryd.prog Tryd.f68 [] [] [] .nil [] [(.one .ptr)] K w) h)

/-- math/bits.RotateLeft32 -/
def f82 (p0 : Int) (p1 : Int) (K : Int → World → Prop) (w : World) : Prop :=
  semS Tryd.prog (binS .shl 124 (.tmp 9) (.tmp 10) (.int .u32 p0) (.int .u64 (andI .u64 (IntKind.wrap .u64 p1) 31))) (.one (.int .u32)) (fun x1 w =>
  semS Tryd.prog (binS .shr 124 (.tmp 12) (.tmp 14) (.int .u32 p0) (.int .u64 (IntKind.wrap .u64 (32 - (andI .u64 (IntKind.wrap .u64 p1) 31))))) (.one (.int .u32)) (fun x2 w =>
  K (orI .u32 x1 x2) w) w) w
theorem f82_ok {p0 : Int} {p1 : Int} {K : Int → World → Prop} {w : World} (h : f82 p0 p1 K w) : callS Tryd.prog 82 #[(.int .u32 p0), (.int .i64 p1)] [(.one (.int .u32))] K w :=
  calls_of_fn (args := [(.int .u32 p0), (.int .i64 p1)]) Tryd.f82 [] [] [] .nil (by kernel_rfl) (by kernel_rfl)
    (Eq.mp (by kernel_rfl : f82 p0 p1 K w = evFn Tryd.prog Tryd.f82 [] [] [] .nil [(.int .u32 p0), (.int .i64 p1)] [(.one (.int .u32))] K w) h)

/-- sallyport/shortsum.turn -/
def f80 (p0 : Int) (p1 : Int) (K : Int → World → Prop) (w : World) : Prop :=
  callS Tryd.prog 82 #[(.int .u32 p0), (.int .i64 (IntKind.wrap .i64 (0 - p1)))] [(.one (.int .u32))] (fun r1 w =>
  K r1 w) w
theorem f80_ok {p0 : Int} {p1 : Int} {K : Int → World → Prop} {w : World} (h : f80 p0 p1 K w) : callS Tryd.prog 80 #[(.int .u32 p0), (.int .i64 p1)] [(.one (.int .u32))] K w :=
  calls_of_fn (args := [(.int .u32 p0), (.int .i64 p1)]) Tryd.f80 [] [] [] .nil (by kernel_rfl) (by kernel_rfl)
    (Eq.mp (by kernel_rfl : f80 p0 p1 K w = evFn Tryd.prog Tryd.f80 [] [] [] .nil [(.int .u32 p0), (.int .i64 p1)] [(.one (.int .u32))] K w) h)

/-- sallyport/shortsum.schedule -/
def f79 (p0 : Sl) (K : (List Int) → World → Prop) (w : World) : Prop :=
  semS Tryd.prog (Instr.alloc 137 true (.tuple #[])) (.one .adr) (fun x1 w =>
  loopS (σ := Int) (fun x2 w again3 =>
    cond (decide (x2 < 16))
      (semS Tryd.prog (Instr.sliceAt 22 (.slice p0.a p0.len p0.cap) (some (.int .i64 (IntKind.wrap .i64 (4 * x2)))) (some (.int .i64 (IntKind.wrap .i64 ((IntKind.wrap .i64 (4 * x2)) + 4)))) none) (.one .slc) (fun x4 w =>
      loopS (σ := Int) (fun x5 w again6 =>
        cond (decide (x5 < (x4.len : Int)))
          (semS Tryd.prog (Instr.indexAt 22 (.slice x4.a x4.len x4.cap) (.int .i64 x5)) (.one .adr) (fun x7 w =>
          semS Tryd.prog (Instr.loadAt 5 (.pointer (some x7))) (.one (.int .u8)) (fun x8 w =>
          semS Tryd.prog (Instr.indexAt 137 (.pointer (some x1)) (.int .i64 x2)) (.one .adr) (fun x9 w =>
          semS Tryd.prog (Instr.loadAt 124 (.pointer (some x9))) (.one (.int .u32)) (fun x10 w =>
          semS Tryd.prog (Instr.indexAt 137 (.pointer (some x1)) (.int .i64 x2)) (.one .adr) (fun x11 w =>
          semU Tryd.prog (Instr.storeAt 124 (.pointer (some x11)) (.int .u32 (orI .u32 (shlI .u32 x10 8) (IntKind.wrap .u32 x8)))) (fun w =>
          again6 (IntKind.wrap .i64 (x5 + 1)) w) w) w) w) w) w) w)
          (again3 (IntKind.wrap .i64 (x2 + 1)) w)) 0 w) w)
      (loopS (σ := Int) (fun x12 w again13 =>
        cond (decide (x12 < 64))
          (drawS w fun C w =>
          semQ Tryd.prog C (Instr.indexAt 137 (.pointer (some x1)) (.int .i64 (IntKind.wrap .i64 (x12 - 15)))) (.one .adr) (fun x14 =>
          semQ Tryd.prog C (Instr.loadAt 124 (.pointer (some x14))) (.one (.int .u32)) (fun x15 =>
          semQ Tryd.prog C (Instr.indexAt 137 (.pointer (some x1)) (.int .i64 (IntKind.wrap .i64 (x12 - 2)))) (.one .adr) (fun x16 =>
          semQ Tryd.prog C (Instr.loadAt 124 (.pointer (some x16))) (.one (.int .u32)) (fun x17 =>
          drawS w fun C w =>
          semQ Tryd.prog C (Instr.indexAt 137 (.pointer (some x1)) (.int .i64 (IntKind.wrap .i64 (x12 - 16)))) (.one .adr) (fun x18 =>
          semQ Tryd.prog C (Instr.loadAt 124 (.pointer (some x18))) (.one (.int .u32)) (fun x19 =>
          semQ Tryd.prog C (Instr.indexAt 137 (.pointer (some x1)) (.int .i64 (IntKind.wrap .i64 (x12 - 7)))) (.one .adr) (fun x20 =>
          semQ Tryd.prog C (Instr.loadAt 124 (.pointer (some x20))) (.one (.int .u32)) (fun x21 =>
          callS Tryd.prog 80 #[(.int .u32 x15), (.int .i64 7)] [(.one (.int .u32))] (fun r22 w =>
          moreS C w (fun C =>
          callS Tryd.prog 80 #[(.int .u32 x15), (.int .i64 18)] [(.one (.int .u32))] (fun r23 w =>
          moreS C w (fun C =>
          callS Tryd.prog 80 #[(.int .u32 x17), (.int .i64 17)] [(.one (.int .u32))] (fun r24 w =>
          moreS C w (fun C =>
          callS Tryd.prog 80 #[(.int .u32 x17), (.int .i64 19)] [(.one (.int .u32))] (fun r25 w =>
          moreS C w (fun C =>
          semQ Tryd.prog C (Instr.indexAt 137 (.pointer (some x1)) (.int .i64 x12)) (.one .adr) (fun x26 =>
          semU Tryd.prog (Instr.storeAt 124 (.pointer (some x26)) (.int .u32 (IntKind.wrap .u32 ((IntKind.wrap .u32 ((IntKind.wrap .u32 (x19 + (xorI .u32 (xorI .u32 r22 r23) (shrI .u32 x15 3)))) + x21)) + (xorI .u32 (xorI .u32 r24 r25) (shrI .u32 x17 10)))))) (fun w =>
          again13 (IntKind.wrap .i64 (x12 + 1)) w) w))) w)) w)) w)) w)))))))))
          (semS Tryd.prog (Instr.loadAt 137 (.pointer (some x1))) (.one (.arr .u32)) (fun x27 w =>
          semU Tryd.prog (Instr.storeAt 137 (.pointer (some x1)) (.agg (List.map (Value.int .u32) x27).toArray)) (fun w =>
          ∃ v28, (loadVar 137 x1).run Tryd.prog w = .ok v28 w ∧ decR [(.one (.arr .u32))] v28 K fun r => r w) w) w)) 16 w)) 0 w) w
theorem f79_ok {p0 : Sl} {K : (List Int) → World → Prop} {w : World} (h : f79 p0 K w) : callS Tryd.prog 79 #[(.slice p0.a p0.len p0.cap)] [(.one (.arr .u32))] K w :=
  calls_of_fn (args := [(.slice p0.a p0.len p0.cap)]) Tryd.f79 [] [] [] (.two .nil (.two (.two .nil (.one (.loop [(9, (.int .i64))] (.two .nil (.two .nil (.two (.one (.two .nil (.two .nil (.one (.loop [(20, (.int .i64))] .nil))))) .nil)))))) (.two (.two .nil (.one (.loop [(6, (.int .i64))] (.two .nil (.two (.one (.two (.draw [0, 1, 3, 7, 0, 16, 48, 112, 15, 511]) (.draw [0, 0, 2, 6, 14, 0, 32, 0, 224, 480, 0, 1024, 4064, 8190, 0, 16384, 49152, 114688, 262142, 0, 524768, 0, 3670496, 7864800, 0, 16777216, 66585056, 134217726, 268435455, 536870911]))) .nil))))) .nil))) (by kernel_rfl) (by kernel_rfl)
    (Eq.mp (by kernel_rfl : f79 p0 K w = evFn Tryd.prog Tryd.f79 [] [] [] (.two .nil (.two (.two .nil (.one (.loop [(9, (.int .i64))] (.two .nil (.two .nil (.two (.one (.two .nil (.two .nil (.one (.loop [(20, (.int .i64))] .nil))))) .nil)))))) (.two (.two .nil (.one (.loop [(6, (.int .i64))] (.two .nil (.two (.one (.two (.draw [0, 1, 3, 7, 0, 16, 48, 112, 15, 511]) (.draw [0, 0, 2, 6, 14, 0, 32, 0, 224, 480, 0, 1024, 4064, 8190, 0, 16384, 49152, 114688, 262142, 0, 524768, 0, 3670496, 7864800, 0, 16777216, 66585056, 134217726, 268435455, 536870911]))) .nil))))) .nil))) [(.slice p0.a p0.len p0.cap)] [(.one (.arr .u32))] K w) h)

/-- (*sallyport/shortsum.Hash).take -/
def f75 (p0 : Option Addr) (p1 : Sl) (K : World → Prop) (w : World) : Prop :=
  callS Tryd.prog 79 #[(.slice p1.a p1.len p1.cap)] [(.one (.arr .u32))] (fun r1 w =>
  semS Tryd.prog (Instr.alloc 137 true (.tuple #[])) (.one .adr) (fun x2 w =>
  semU Tryd.prog (Instr.storeAt 137 (.pointer (some x2)) (.agg (List.map (Value.int .u32) r1).toArray)) (fun w =>
  nilS p0 fun a3 =>
  semS Tryd.prog (Instr.loadAt 130 (.pointer (some (a3.add 0)))) (.agg [(.int .u32), (.int .u32), (.int .u32), (.int .u32), (.int .u32), (.int .u32), (.int .u32), (.int .u32)]) (fun x4 x5 x6 x7 x8 x9 x10 x11 w =>
  semS Tryd.prog (Instr.alloc 130 true (.tuple #[])) (.one .adr) (fun x12 w =>
  semU Tryd.prog (Instr.storeAt 130 (.pointer (some x12)) (.agg #[(.int .u32 x4), (.int .u32 x5), (.int .u32 x6), (.int .u32 x7), (.int .u32 x8), (.int .u32 x9), (.int .u32 x10), (.int .u32 x11)])) (fun w =>
  semS Tryd.prog (Instr.loadAt 137 (.pointer (some (⟨3, 0, none⟩)))) (.one (.arr .u32)) (fun x13 w =>
  loopS (σ := Int) (fun x14 w again15 =>
    cond (decide (x14 < 64))
      (semS Tryd.prog (Instr.index 137 (.agg (List.map (Value.int .u32) x13).toArray) (.int .i64 x14)) (.one (.int .u32)) (fun x16 w =>
      drawS w fun C w =>
      semQ Tryd.prog C (Instr.indexAt 130 (.pointer (some x12)) (.int .i64 0)) (.one .adr) (fun x17 =>
      semQ Tryd.prog C (Instr.loadAt 124 (.pointer (some x17))) (.one (.int .u32)) (fun x18 =>
      semQ Tryd.prog C (Instr.indexAt 130 (.pointer (some x12)) (.int .i64 4)) (.one .adr) (fun x19 =>
      semQ Tryd.prog C (Instr.loadAt 124 (.pointer (some x19))) (.one (.int .u32)) (fun x20 =>
      drawS w fun C w =>
      semQ Tryd.prog C (Instr.indexAt 130 (.pointer (some x12)) (.int .i64 7)) (.one .adr) (fun x21 =>
      semQ Tryd.prog C (Instr.loadAt 124 (.pointer (some x21))) (.one (.int .u32)) (fun x22 =>
      semQ Tryd.prog C (Instr.indexAt 130 (.pointer (some x12)) (.int .i64 5)) (.one .adr) (fun x23 =>
      semQ Tryd.prog C (Instr.loadAt 124 (.pointer (some x23))) (.one (.int .u32)) (fun x24 =>
      semQ Tryd.prog C (Instr.indexAt 130 (.pointer (some x12)) (.int .i64 6)) (.one .adr) (fun x25 =>
      semQ Tryd.prog C (Instr.loadAt 124 (.pointer (some x25))) (.one (.int .u32)) (fun x26 =>
      semQ Tryd.prog C (Instr.indexAt 137 (.pointer (some x2)) (.int .i64 x14)) (.one .adr) (fun x27 =>
      semQ Tryd.prog C (Instr.loadAt 124 (.pointer (some x27))) (.one (.int .u32)) (fun x28 =>
      callS Tryd.prog 80 #[(.int .u32 x20), (.int .i64 6)] [(.one (.int .u32))] (fun r29 w =>
      moreS C w (fun C =>
      callS Tryd.prog 80 #[(.int .u32 x20), (.int .i64 11)] [(.one (.int .u32))] (fun r30 w =>
      moreS C w (fun C =>
      callS Tryd.prog 80 #[(.int .u32 x20), (.int .i64 25)] [(.one (.int .u32))] (fun r31 w =>
      moreS C w (fun C =>
      drawS w fun C w =>
      semQ Tryd.prog C (Instr.indexAt 130 (.pointer (some x12)) (.int .i64 1)) (.one .adr) (fun x32 =>
      semQ Tryd.prog C (Instr.loadAt 124 (.pointer (some x32))) (.one (.int .u32)) (fun x33 =>
      semQ Tryd.prog C (Instr.indexAt 130 (.pointer (some x12)) (.int .i64 2)) (.one .adr) (fun x34 =>
      semQ Tryd.prog C (Instr.loadAt 124 (.pointer (some x34))) (.one (.int .u32)) (fun x35 =>
      semQ Tryd.prog C (Instr.indexAt 130 (.pointer (some x12)) (.int .i64 1)) (.one .adr) (fun x36 =>
      semQ Tryd.prog C (Instr.loadAt 124 (.pointer (some x36))) (.one (.int .u32)) (fun x37 =>
      semQ Tryd.prog C (Instr.indexAt 130 (.pointer (some x12)) (.int .i64 2)) (.one .adr) (fun x38 =>
      semQ Tryd.prog C (Instr.loadAt 124 (.pointer (some x38))) (.one (.int .u32)) (fun x39 =>
      callS Tryd.prog 80 #[(.int .u32 x18), (.int .i64 2)] [(.one (.int .u32))] (fun r40 w =>
      moreS C w (fun C =>
      callS Tryd.prog 80 #[(.int .u32 x18), (.int .i64 13)] [(.one (.int .u32))] (fun r41 w =>
      moreS C w (fun C =>
      callS Tryd.prog 80 #[(.int .u32 x18), (.int .i64 22)] [(.one (.int .u32))] (fun r42 w =>
      moreS C w (fun C =>
      semS Tryd.prog (Instr.indexAt 130 (.pointer (some x12)) (.int .i64 1)) (.one .adr) (fun x43 w =>
      semS Tryd.prog (Instr.loadAt 124 (.pointer (some x43))) (.one (.int .u32)) (fun x44 w =>
      semS Tryd.prog (Instr.indexAt 130 (.pointer (some x12)) (.int .i64 2)) (.one .adr) (fun x45 w =>
      semS Tryd.prog (Instr.loadAt 124 (.pointer (some x45))) (.one (.int .u32)) (fun x46 w =>
      semS Tryd.prog (Instr.indexAt 130 (.pointer (some x12)) (.int .i64 3)) (.one .adr) (fun x47 w =>
      semS Tryd.prog (Instr.loadAt 124 (.pointer (some x47))) (.one (.int .u32)) (fun x48 w =>
      semS Tryd.prog (Instr.indexAt 130 (.pointer (some x12)) (.int .i64 5)) (.one .adr) (fun x49 w =>
      semS Tryd.prog (Instr.loadAt 124 (.pointer (some x49))) (.one (.int .u32)) (fun x50 w =>
      semS Tryd.prog (Instr.indexAt 130 (.pointer (some x12)) (.int .i64 6)) (.one .adr) (fun x51 w =>
      semS Tryd.prog (Instr.loadAt 124 (.pointer (some x51))) (.one (.int .u32)) (fun x52 w =>
      semU Tryd.prog (Instr.storeAt 130 (.pointer (some x12)) (.agg #[(.int .u32 (IntKind.wrap .u32 ((IntKind.wrap .u32 ((IntKind.wrap .u32 ((IntKind.wrap .u32 ((IntKind.wrap .u32 (x22 + (xorI .u32 (xorI .u32 r29 r30) r31))) + (xorI .u32 (andI .u32 x20 x24) (andI .u32 (xorI .u32 (IntKind.max .u32) x20) x26)))) + x16)) + x28)) + (IntKind.wrap .u32 ((xorI .u32 (xorI .u32 r40 r41) r42) + (xorI .u32 (xorI .u32 (andI .u32 x18 x33) (andI .u32 x18 x35)) (andI .u32 x37 x39))))))), (.int .u32 x18), (.int .u32 x44), (.int .u32 x46), (.int .u32 (IntKind.wrap .u32 (x48 + (IntKind.wrap .u32 ((IntKind.wrap .u32 ((IntKind.wrap .u32 ((IntKind.wrap .u32 (x22 + (xorI .u32 (xorI .u32 r29 r30) r31))) + (xorI .u32 (andI .u32 x20 x24) (andI .u32 (xorI .u32 (IntKind.max .u32) x20) x26)))) + x16)) + x28))))), (.int .u32 x20), (.int .u32 x50), (.int .u32 x52)])) (fun w =>
      again15 (IntKind.wrap .i64 (x14 + 1)) w) w) w) w) w) w) w) w) w) w) w) w)) w)) w)) w)))))))))) w)) w)) w))))))))))))) w)
      (semS Tryd.prog (Instr.loadAt 130 (.pointer (some x12))) (.agg [(.int .u32), (.int .u32), (.int .u32), (.int .u32), (.int .u32), (.int .u32), (.int .u32), (.int .u32)]) (fun x53 x54 x55 x56 x57 x58 x59 x60 w =>
      loopS (σ := Int) (fun x61 w again62 =>
        cond (decide (x61 < 8))
          (semS Tryd.prog (Instr.index 130 (.agg #[(.int .u32 x53), (.int .u32 x54), (.int .u32 x55), (.int .u32 x56), (.int .u32 x57), (.int .u32 x58), (.int .u32 x59), (.int .u32 x60)]) (.int .i64 x61)) (.one (.int .u32)) (fun x63 w =>
          drawS w fun C w =>
          nilS p0 fun a64 =>
          semQ Tryd.prog C (Instr.indexAt 130 (.pointer (some (a64.add 0))) (.int .i64 x61)) (.one .adr) (fun x65 =>
          semQ Tryd.prog C (Instr.loadAt 124 (.pointer (some x65))) (.one (.int .u32)) (fun x66 =>
          nilS p0 fun a67 =>
          semQ Tryd.prog C (Instr.indexAt 130 (.pointer (some (a67.add 0))) (.int .i64 x61)) (.one .adr) (fun x68 =>
          semU Tryd.prog (Instr.storeAt 124 (.pointer (some x68)) (.int .u32 (IntKind.wrap .u32 (x66 + x63)))) (fun w =>
          again62 (IntKind.wrap .i64 (x61 + 1)) w) w)))) w)
          (K w)) 0 w) w)) 0 w) w) w) w) w) w) w) w
theorem f75_ok {p0 : Option Addr} {p1 : Sl} {K : World → Prop} {w : World} (h : f75 p0 p1 K w) : callS Tryd.prog 75 #[(.pointer p0), (.slice p1.a p1.len p1.cap)] [] K w :=
  calls_of_fn (args := [(.pointer p0), (.slice p1.a p1.len p1.cap)]) Tryd.f75 [] [] [] (.two .nil (.two .nil (.two (.two .nil (.one (.loop [(21, (.int .i64))] (.two .nil (.two .nil (.two (.one (.two .nil (.two (.draw [0, 1, 0, 4, 3, 31]) (.two (.draw [0, 1, 0, 4, 0, 28, 60, 0, 188, 508, 1023, 0, 0, 4096, 14336, 0, 32768, 0, 131072, 491520, 1046528, 2097151, 0, 8388607, 0, 16777216, 50331648, 134217727, 268435455]) (.two (.draw [0, 1, 0, 7, 15, 0, 47, 127, 0, 0, 512, 1792, 0, 0, 8192, 28672, 65280, 0, 131072, 0, 524288, 1966080, 4194048, 8388607, 16777215]) .nil))))) .nil)))))) (.two .nil (.one (.loop [(101, (.int .i64))] (.two .nil (.two .nil (.two (.one (.two .nil (.draw [0, 0, 1, 5, 15, 31, 0, 127, 1, 257, 1023, 2047]))) .nil))))))))) (by kernel_rfl) (by kernel_rfl)
    (Eq.mp (by kernel_rfl : f75 p0 p1 K w = evFn Tryd.prog Tryd.f75 [] [] [] (.two .nil (.two .nil (.two (.two .nil (.one (.loop [(21, (.int .i64))] (.two .nil (.two .nil (.two (.one (.two .nil (.two (.draw [0, 1, 0, 4, 3, 31]) (.two (.draw [0, 1, 0, 4, 0, 28, 60, 0, 188, 508, 1023, 0, 0, 4096, 14336, 0, 32768, 0, 131072, 491520, 1046528, 2097151, 0, 8388607, 0, 16777216, 50331648, 134217727, 268435455]) (.two (.draw [0, 1, 0, 7, 15, 0, 47, 127, 0, 0, 512, 1792, 0, 0, 8192, 28672, 65280, 0, 131072, 0, 524288, 1966080, 4194048, 8388607, 16777215]) .nil))))) .nil)))))) (.two .nil (.one (.loop [(101, (.int .i64))] (.two .nil (.two .nil (.two (.one (.two .nil (.draw [0, 0, 1, 5, 15, 31, 0, 127, 1, 257, 1023, 2047]))) .nil))))))))) [(.pointer p0), (.slice p1.a p1.len p1.cap)] [] K w) h)

/-- (*sallyport/shortsum.Hash).Write -/
def f69 (p0 : Option Addr) (p1 : Sl) (K : World → Prop) (w : World) : Prop :=
  nilS p0 fun a1 =>
  semS Tryd.prog (Instr.loadAt 126 (.pointer (some (a1.add 9)))) (.one (.int .u64)) (fun x2 w =>
  nilS p0 fun a3 =>
  semU Tryd.prog (Instr.storeAt 126 (.pointer (some (a3.add 9))) (.int .u64 (IntKind.wrap .u64 (x2 + (IntKind.wrap .u64 (p1.len : Int)))))) (fun w =>
  nilS p0 fun a4 =>
  semS Tryd.prog (Instr.loadAt 22 (.pointer (some (a4.add 8)))) (.one .slc) (fun x5 w =>
  semS Tryd.prog (Builtin.append_ #[22, 22] 22 #[(.slice x5.a x5.len x5.cap), (.slice p1.a p1.len p1.cap)]) (.one .slc) (fun r6 w =>
  nilS p0 fun a7 =>
  semU Tryd.prog (Instr.storeAt 22 (.pointer (some (a7.add 8))) (.slice r6.a r6.len r6.cap)) (fun w =>
  loopS (σ := Unit) (fun _ w again8 =>
    nilS p0 fun a9 =>
    semS Tryd.prog (Instr.loadAt 22 (.pointer (some (a9.add 8)))) (.one .slc) (fun x10 w =>
    cond (decide ((x10.len : Int) ≥ 64))
      (nilS p0 fun a11 =>
      semS Tryd.prog (Instr.loadAt 22 (.pointer (some (a11.add 8)))) (.one .slc) (fun x12 w =>
      semS Tryd.prog (Instr.sliceAt 22 (.slice x12.a x12.len x12.cap) none (some (.int .i64 64)) none) (.one .slc) (fun x13 w =>
      callS Tryd.prog 75 #[(.pointer p0), (.slice x13.a x13.len x13.cap)] [] (fun w =>
      nilS p0 fun a14 =>
      semS Tryd.prog (Instr.loadAt 22 (.pointer (some (a14.add 8)))) (.one .slc) (fun x15 w =>
      semS Tryd.prog (Instr.sliceAt 22 (.slice x15.a x15.len x15.cap) (some (.int .i64 64)) none none) (.one .slc) (fun x16 w =>
      nilS p0 fun a17 =>
      semU Tryd.prog (Instr.storeAt 22 (.pointer (some (a17.add 8))) (.slice x16.a x16.len x16.cap)) (fun w =>
      again8 () w) w) w) w) w) w) w)
      (nilS p0 fun a18 =>
      semS Tryd.prog (Instr.loadAt 22 (.pointer (some (a18.add 8)))) (.one .slc) (fun x19 w =>
      callS Tryd.prog 23 #[(.slice x19.a x19.len x19.cap)] [(.one .slc)] (fun r20 w =>
      nilS p0 fun a21 =>
      semU Tryd.prog (Instr.storeAt 22 (.pointer (some (a21.add 8))) (.slice r20.a r20.len r20.cap)) (fun w =>
      K w) w) w) w)) w) () w) w) w) w) w) w
theorem f69_ok {p0 : Option Addr} {p1 : Sl} {K : World → Prop} {w : World} (h : f69 p0 p1 K w) : callS Tryd.prog 69 #[(.pointer p0), (.slice p1.a p1.len p1.cap)] [] K w :=
  calls_of_fn (args := [(.pointer p0), (.slice p1.a p1.len p1.cap)]) Tryd.f69 [] [] [.nil, .nil] .nil (by kernel_rfl) (by kernel_rfl)
    (Eq.mp (by kernel_rfl : f69 p0 p1 K w = evFn Tryd.prog Tryd.f69 [] [] [.nil, .nil] .nil [(.pointer p0), (.slice p1.a p1.len p1.cap)] [] K w) h)

def f70_t1 (z37 : Addr) (p0 : Option Addr) (K : Sl → World → Prop) (w : World) : Prop :=
  loopS (σ := Unit) (fun _ w again38 =>
    semS Tryd.prog (Instr.loadAt 22 (.pointer (some (z37.add 8)))) (.one .slc) (fun x39 w =>
    cond ((Int.tmod (x39.len : Int) 64) != 56)
      (semS Tryd.prog (Instr.loadAt 22 (.pointer (some (z37.add 8)))) (.one .slc) (fun x40 w =>
      semS Tryd.prog (Instr.buildSlice 22 1 #[(0, (.int .u8 0))]) (.one .slc) (fun x41 w =>
      semS Tryd.prog (Builtin.append_ #[22, 22] 22 #[(.slice x40.a x40.len x40.cap), (.slice x41.a x41.len x41.cap)]) (.one .slc) (fun r42 w =>
      semU Tryd.prog (Instr.storeAt 22 (.pointer (some (z37.add 8))) (.slice r42.a r42.len r42.cap)) (fun w =>
      again38 () w) w) w) w) w)
      (semS Tryd.prog (Instr.loadAt 22 (.pointer (some (z37.add 8)))) (.one .slc) (fun x43 w =>
      semS Tryd.prog (Builtin.append_ #[22, 3] 22 #[(.slice x43.a x43.len x43.cap), (.int .i64 0)]) (.one .slc) (fun r44 w =>
      semU Tryd.prog (Instr.storeAt 22 (.pointer (some (z37.add 8))) (.slice r44.a r44.len r44.cap)) (fun w =>
      loopS (σ := Int) (fun x45 w again46 =>
        cond (decide (x45 ≥ 0))
          (drawS w fun C w =>
          semQ Tryd.prog C (Instr.loadAt 22 (.pointer (some (z37.add 8)))) (.one .slc) (fun x47 =>
          nilS p0 fun a48 =>
          semQ Tryd.prog C (Instr.loadAt 126 (.pointer (some (a48.add 9)))) (.one (.int .u64)) (fun x49 =>
          semQ Tryd.prog C (binS .shr 126 (.tmp 46) (.tmp 47) (.int .u64 (IntKind.wrap .u64 (8 * x49))) (.int .i64 x45)) (.one (.int .u64)) (fun x50 =>
          semS Tryd.prog (Instr.buildSlice 22 1 #[(0, (.int .u8 (IntKind.wrap .u8 x50)))]) (.one .slc) (fun x51 w =>
          moreS C w (fun C =>
          semS Tryd.prog (Builtin.append_ #[22, 22] 22 #[(.slice x47.a x47.len x47.cap), (.slice x51.a x51.len x51.cap)]) (.one .slc) (fun r52 w =>
          semU Tryd.prog (Instr.storeAt 22 (.pointer (some (z37.add 8))) (.slice r52.a r52.len r52.cap)) (fun w =>
          again46 (IntKind.wrap .i64 (x45 - 8)) w) w) w)) w))))
          (semS Tryd.prog (Instr.loadAt 22 (.pointer (some (z37.add 8)))) (.one .slc) (fun x53 w =>
          callS Tryd.prog 33 #[(.slice x53.a x53.len x53.cap), (.int .i64 64)] [(.one .any)] (fun r54 w =>
          rangeS Tryd.prog r54 w (fun l55 oR56 oB57 xs58 w R59 =>
            decL (R := Prop) [.slc] xs58 (fun x61 =>
            w.heap[l55]? = some oR56 ∧ ((fun w =>
              callS Tryd.prog 75 #[(.pointer (some z37)), (.slice x61.a x61.len x61.cap)] [] (fun w =>
              w.heap[l55]? = some oB57 ∧ R59 (w.putObj l55 oR56)) w) (w.putObj l55 oB57))) (fun r => r)) (fun D60 w =>
          semS Tryd.prog (Instr.loadAt 130 (.pointer (some (z37.add 0)))) (.agg [(.int .u32), (.int .u32), (.int .u32), (.int .u32), (.int .u32), (.int .u32), (.int .u32), (.int .u32)]) (fun x62 x63 x64 x65 x66 x67 x68 x69 w =>
          loopS (σ := Sl × Int) (fun s70 w again71 =>
            cond (decide (s70.2 < 8))
              (semS Tryd.prog (Instr.index 130 (.agg #[(.int .u32 x62), (.int .u32 x63), (.int .u32 x64), (.int .u32 x65), (.int .u32 x66), (.int .u32 x67), (.int .u32 x68), (.int .u32 x69)]) (.int .i64 s70.2)) (.one (.int .u32)) (fun x72 w =>
              loopS (σ := Sl × Int) (fun s73 w again74 =>
                cond (decide (s73.2 ≥ 0))
                  (semS Tryd.prog (binS .shr 124 (.tmp 69) (.tmp 70) (.int .u32 x72) (.int .i64 s73.2)) (.one (.int .u32)) (fun x75 w =>
                  semS Tryd.prog (Instr.buildSlice 22 1 #[(0, (.int .u8 (IntKind.wrap .u8 x75)))]) (.one .slc) (fun x76 w =>
                  semS Tryd.prog (Builtin.append_ #[22, 22] 22 #[(.slice s73.1.a s73.1.len s73.1.cap), (.slice x76.a x76.len x76.cap)]) (.one .slc) (fun r77 w =>
                  again74 (r77, IntKind.wrap .i64 (s73.2 - 8)) w) w) w) w)
                  (again71 (s73.1, IntKind.wrap .i64 (s70.2 + 1)) w)) (s70.1, 24) w) w)
              (w.heap[D60]? = some (.deferred (some [])) ∧ ((fun w => K s70.1 w) (w.putObj D60 (.deferred none))))) (⟨none, 0, 0⟩, 0) w) w)) w) w)) 56 w) w) w) w)) w) () w

/-- (*sallyport/shortsum.Hash).Sum -/
def f70 (p0 : Option Addr) (K : Sl → World → Prop) (w : World) : Prop :=
  drawS w fun C w =>
  nilS p0 fun a1 =>
  semQ Tryd.prog C (Instr.loadAt 130 (.pointer (some (a1.add 0)))) (.agg [(.int .u32), (.int .u32), (.int .u32), (.int .u32), (.int .u32), (.int .u32), (.int .u32), (.int .u32)]) (fun x2 x3 x4 x5 x6 x7 x8 x9 =>
  nilS p0 fun a10 =>
  semQ Tryd.prog C (Instr.loadAt 22 (.pointer (some (a10.add 8)))) (.one .slc) (fun x11 =>
  (callS Tryd.prog 23 #[(.slice x11.a x11.len x11.cap)] [(.one .slc)] (fun r12 w =>
  moreS C w (fun C =>
  (semS Tryd.prog (Instr.buildSlice 22 1 #[(0, (.int .u8 128))]) (.one .slc) (fun x13 w =>
    moreS C w (fun C =>
    (semS Tryd.prog (Builtin.append_ #[22, 22] 22 #[(.slice r12.a r12.len r12.cap), (.slice x13.a x13.len x13.cap)]) (.one .slc) (fun r14 w =>
      moreS C w (fun C =>
      semS Tryd.prog (Instr.alloc 132 true (.tuple #[])) (.one .adr) (fun x15 w =>
        moreS C w (fun C =>
        semU Tryd.prog (Instr.storeAt 132 (.pointer (some x15)) (.agg #[(.int .u32 x2), (.int .u32 x3), (.int .u32 x4), (.int .u32 x5), (.int .u32 x6), (.int .u32 x7), (.int .u32 x8), (.int .u32 x9), (.slice r14.a r14.len r14.cap), (.int .u64 0)])) (fun w =>
        f70_t1 x15 p0 K w) w)) w)) w) ∧
      (semS Tryd.prog (Instr.alloc 132 true (.tuple #[])) (.one .adr) (fun x16 w =>
      moreS C w (fun C =>
      semS Tryd.prog (Builtin.append_ #[22, 22] 22 #[(.slice r12.a r12.len r12.cap), (.slice x13.a x13.len x13.cap)]) (.one .slc) (fun r17 w =>
        moreS C w (fun C =>
        semU Tryd.prog (Instr.storeAt 132 (.pointer (some x16)) (.agg #[(.int .u32 x2), (.int .u32 x3), (.int .u32 x4), (.int .u32 x5), (.int .u32 x6), (.int .u32 x7), (.int .u32 x8), (.int .u32 x9), (.slice r17.a r17.len r17.cap), (.int .u64 0)])) (fun w =>
        f70_t1 x16 p0 K w) w)) w)) w))) w) ∧
    (semS Tryd.prog (Instr.alloc 132 true (.tuple #[])) (.one .adr) (fun x18 w =>
    moreS C w (fun C =>
    semS Tryd.prog (Instr.buildSlice 22 1 #[(0, (.int .u8 128))]) (.one .slc) (fun x19 w =>
      moreS C w (fun C =>
      semS Tryd.prog (Builtin.append_ #[22, 22] 22 #[(.slice r12.a r12.len r12.cap), (.slice x19.a x19.len x19.cap)]) (.one .slc) (fun r20 w =>
      moreS C w (fun C =>
      semU Tryd.prog (Instr.storeAt 132 (.pointer (some x18)) (.agg #[(.int .u32 x2), (.int .u32 x3), (.int .u32 x4), (.int .u32 x5), (.int .u32 x6), (.int .u32 x7), (.int .u32 x8), (.int .u32 x9), (.slice r20.a r20.len r20.cap), (.int .u64 0)])) (fun w =>
      f70_t1 x18 p0 K w) w)) w)) w)) w))) w) ∧
  ((semS Tryd.prog (Instr.buildSlice 22 1 #[(0, (.int .u8 128))]) (.one .slc) (fun x21 w =>
  moreS C w (fun C =>
  (callS Tryd.prog 23 #[(.slice x11.a x11.len x11.cap)] [(.one .slc)] (fun r22 w =>
    moreS C w (fun C =>
    (semS Tryd.prog (Builtin.append_ #[22, 22] 22 #[(.slice r22.a r22.len r22.cap), (.slice x21.a x21.len x21.cap)]) (.one .slc) (fun r23 w =>
      moreS C w (fun C =>
      semS Tryd.prog (Instr.alloc 132 true (.tuple #[])) (.one .adr) (fun x24 w =>
        moreS C w (fun C =>
        semU Tryd.prog (Instr.storeAt 132 (.pointer (some x24)) (.agg #[(.int .u32 x2), (.int .u32 x3), (.int .u32 x4), (.int .u32 x5), (.int .u32 x6), (.int .u32 x7), (.int .u32 x8), (.int .u32 x9), (.slice r23.a r23.len r23.cap), (.int .u64 0)])) (fun w =>
        f70_t1 x24 p0 K w) w)) w)) w) ∧
      (semS Tryd.prog (Instr.alloc 132 true (.tuple #[])) (.one .adr) (fun x25 w =>
      moreS C w (fun C =>
      semS Tryd.prog (Builtin.append_ #[22, 22] 22 #[(.slice r22.a r22.len r22.cap), (.slice x21.a x21.len x21.cap)]) (.one .slc) (fun r26 w =>
        moreS C w (fun C =>
        semU Tryd.prog (Instr.storeAt 132 (.pointer (some x25)) (.agg #[(.int .u32 x2), (.int .u32 x3), (.int .u32 x4), (.int .u32 x5), (.int .u32 x6), (.int .u32 x7), (.int .u32 x8), (.int .u32 x9), (.slice r26.a r26.len r26.cap), (.int .u64 0)])) (fun w =>
        f70_t1 x25 p0 K w) w)) w)) w))) w) ∧
    (semS Tryd.prog (Instr.alloc 132 true (.tuple #[])) (.one .adr) (fun x27 w =>
    moreS C w (fun C =>
    callS Tryd.prog 23 #[(.slice x11.a x11.len x11.cap)] [(.one .slc)] (fun r28 w =>
      moreS C w (fun C =>
      semS Tryd.prog (Builtin.append_ #[22, 22] 22 #[(.slice r28.a r28.len r28.cap), (.slice x21.a x21.len x21.cap)]) (.one .slc) (fun r29 w =>
      moreS C w (fun C =>
      semU Tryd.prog (Instr.storeAt 132 (.pointer (some x27)) (.agg #[(.int .u32 x2), (.int .u32 x3), (.int .u32 x4), (.int .u32 x5), (.int .u32 x6), (.int .u32 x7), (.int .u32 x8), (.int .u32 x9), (.slice r29.a r29.len r29.cap), (.int .u64 0)])) (fun w =>
      f70_t1 x27 p0 K w) w)) w)) w)) w))) w) ∧
  (semS Tryd.prog (Instr.alloc 132 true (.tuple #[])) (.one .adr) (fun x30 w =>
  moreS C w (fun C =>
  (callS Tryd.prog 23 #[(.slice x11.a x11.len x11.cap)] [(.one .slc)] (fun r31 w =>
    moreS C w (fun C =>
    semS Tryd.prog (Instr.buildSlice 22 1 #[(0, (.int .u8 128))]) (.one .slc) (fun x32 w =>
      moreS C w (fun C =>
      semS Tryd.prog (Builtin.append_ #[22, 22] 22 #[(.slice r31.a r31.len r31.cap), (.slice x32.a x32.len x32.cap)]) (.one .slc) (fun r33 w =>
      moreS C w (fun C =>
      semU Tryd.prog (Instr.storeAt 132 (.pointer (some x30)) (.agg #[(.int .u32 x2), (.int .u32 x3), (.int .u32 x4), (.int .u32 x5), (.int .u32 x6), (.int .u32 x7), (.int .u32 x8), (.int .u32 x9), (.slice r33.a r33.len r33.cap), (.int .u64 0)])) (fun w =>
      f70_t1 x30 p0 K w) w)) w)) w)) w) ∧
    (semS Tryd.prog (Instr.buildSlice 22 1 #[(0, (.int .u8 128))]) (.one .slc) (fun x34 w =>
    moreS C w (fun C =>
    callS Tryd.prog 23 #[(.slice x11.a x11.len x11.cap)] [(.one .slc)] (fun r35 w =>
      moreS C w (fun C =>
      semS Tryd.prog (Builtin.append_ #[22, 22] 22 #[(.slice r35.a r35.len r35.cap), (.slice x34.a x34.len x34.cap)]) (.one .slc) (fun r36 w =>
      moreS C w (fun C =>
      semU Tryd.prog (Instr.storeAt 132 (.pointer (some x30)) (.agg #[(.int .u32 x2), (.int .u32 x3), (.int .u32 x4), (.int .u32 x5), (.int .u32 x6), (.int .u32 x7), (.int .u32 x8), (.int .u32 x9), (.slice r36.a r36.len r36.cap), (.int .u64 0)])) (fun w =>
      f70_t1 x30 p0 K w) w)) w)) w)) w))) w))))
theorem f70_ok {p0 : Option Addr} {K : Sl → World → Prop} {w : World} (h : f70 p0 K w) : callS Tryd.prog 70 #[(.pointer p0)] [(.one .slc)] K w :=
  calls_of_fnR (args := [(.pointer p0)]) Tryd.f70 [] (.two .nil (.two (.draw [0, 1, 3, 7, 0, 16, 48, 112, 240, 0, 1008, 2047, 0, 8191]) (.two (.one (.loop [] .nil)) (.two .nil (.two (.two .nil (.one (.loop [(4, (.int .i64))] (.two .nil (.two (.one (.draw [0, 1, 0, 4, 12, 28, 60, 0, 252, 508, 1020, 2047, 4095, 8191])) .nil))))) (.two (.two .nil (.one (.join [(56, .slc)] .nil .nil))) (.two .nil (.two (.two .nil (.one (.loop [(6, .slc), (61, (.int .i64))] (.two .nil (.two .nil (.two (.one (.two .nil (.two .nil (.one (.loop [(6, .slc), (9, (.int .i64))] .nil))))) .nil)))))) .nil)))))))) (by kernel_rfl) (by kernel_rfl)
    (Eq.mp (by kernel_rfl : f70 p0 K w = evFnR Tryd.prog Tryd.f70 [] (.two .nil (.two (.draw [0, 1, 3, 7, 0, 16, 48, 112, 240, 0, 1008, 2047, 0, 8191]) (.two (.one (.loop [] .nil)) (.two .nil (.two (.two .nil (.one (.loop [(4, (.int .i64))] (.two .nil (.two (.one (.draw [0, 1, 0, 4, 12, 28, 60, 0, 252, 508, 1020, 2047, 4095, 8191])) .nil))))) (.two (.two .nil (.one (.join [(56, .slc)] .nil .nil))) (.two .nil (.two (.two .nil (.one (.loop [(6, .slc), (61, (.int .i64))] (.two .nil (.two .nil (.two (.one (.two .nil (.two .nil (.one (.loop [(6, .slc), (9, (.int .i64))] .nil))))) .nil)))))) .nil)))))))) [(.pointer p0)] [(.one .slc)] K w) h)

/-- sallyport/shortsum.Of -/
def f53 (p0 : Sl) (K : Sl → World → Prop) (w : World) : Prop :=
  callS Tryd.prog 68 #[] [(.one .ptr)] (fun r1 w =>
  loopS (σ := Int) (fun x2 w again3 =>
    cond (decide (x2 < (p0.len : Int)))
      (semS Tryd.prog (Instr.indexAt 39 (.slice p0.a p0.len p0.cap) (.int .i64 x2)) (.one .adr) (fun x4 w =>
      semS Tryd.prog (Instr.loadAt 22 (.pointer (some x4))) (.one .slc) (fun x5 w =>
      callS Tryd.prog 69 #[(.pointer r1), (.slice x5.a x5.len x5.cap)] [] (fun w =>
      again3 (IntKind.wrap .i64 (x2 + 1)) w) w) w) w)
      (callS Tryd.prog 70 #[(.pointer r1)] [(.one .slc)] (fun r6 w =>
      K r6 w) w)) 0 w) w
theorem f53_ok {p0 : Sl} {K : Sl → World → Prop} {w : World} (h : f53 p0 K w) : callS Tryd.prog 53 #[(.slice p0.a p0.len p0.cap)] [(.one .slc)] K w :=
  calls_of_fn (args := [(.slice p0.a p0.len p0.cap)]) Tryd.f53 [] [] [] (.two .nil (.two .nil (.two (.two .nil (.one (.loop [(9, (.int .i64))] .nil))) .nil))) (by kernel_rfl) (by kernel_rfl)
    (Eq.mp (by kernel_rfl : f53 p0 K w = evFn Tryd.prog Tryd.f53 [] [] [] (.two .nil (.two .nil (.two (.two .nil (.one (.loop [(9, (.int .i64))] .nil))) .nil))) [(.slice p0.a p0.len p0.cap)] [(.one .slc)] K w) h)

/-- sallyport/seal.Digest -/
def f34 (p0 : Int) (p1 : Sl) (p2 : Sl) (K : Sl → Int → World → Prop) (w : World) : Prop :=
  callS Tryd.prog 24 #[(.int .i64 p0)] [(.one (.int .i64))] (fun r1 w =>
  cond (r1 == 0)
    (K (⟨none, 0, 0⟩) 20 w)
    (cond (decide ((p1.len : Int) > 64))
      (K (⟨none, 0, 0⟩) 11 w)
      (semS Tryd.prog (Instr.buildSlice 39 1 #[(0, (.slice p1.a p1.len p1.cap))]) (.one .slc) (fun x2 w =>
      semS Tryd.prog (Builtin.append_ #[39, 39] 39 #[(.slice x2.a x2.len x2.cap), (.slice p2.a p2.len p2.cap)]) (.one .slc) (fun r3 w =>
      cond (p0 == 2)
        (callS Tryd.prog 52 #[(.slice r3.a r3.len r3.cap)] [(.one .slc)] (fun r4 w =>
        K r4 0 w) w)
        (callS Tryd.prog 53 #[(.slice r3.a r3.len r3.cap)] [(.one .slc)] (fun r5 w =>
        K r5 0 w) w)) w) w))) w
theorem f34_ok {p0 : Int} {p1 : Sl} {p2 : Sl} {K : Sl → Int → World → Prop} {w : World} (h : f34 p0 p1 p2 K w) : callS Tryd.prog 34 #[(.int .i64 p0), (.slice p1.a p1.len p1.cap), (.slice p2.a p2.len p2.cap)] [(.one .slc), (.one (.int .i64))] K w :=
  calls_of_fn (args := [(.int .i64 p0), (.slice p1.a p1.len p1.cap), (.slice p2.a p2.len p2.cap)]) Tryd.f34 [] [] [] .nil (by kernel_rfl) (by kernel_rfl)
    (Eq.mp (by kernel_rfl : f34 p0 p1 p2 K w = evFn Tryd.prog Tryd.f34 [] [] [] .nil [(.int .i64 p0), (.slice p1.a p1.len p1.cap), (.slice p2.a p2.len p2.cap)] [(.one .slc), (.one (.int .i64))] K w) h)

/-- slices.Grow[[]byte,byte] -/
def f54 (p0 : Sl) (p1 : Int) (K : Sl → World → Prop) (w : World) : Prop :=
  joinS (σ := Unit) (fun _ w =>
    cond (decide ((IntKind.wrap .i64 (p1 - (IntKind.wrap .i64 ((p0.cap : Int) - (p0.len : Int))))) > 0))
      (semS Tryd.prog (Instr.sliceAt 22 (.slice p0.a p0.len p0.cap) none (some (.int .i64 (p0.cap : Int))) none) (.one .slc) (fun x2 w =>
      semS Tryd.prog (Builtin.append_ #[22, 3] 22 #[(.slice x2.a x2.len x2.cap), (.int .i64 (IntKind.wrap .i64 (p1 - (IntKind.wrap .i64 ((p0.cap : Int) - (p0.len : Int))))))]) (.one .slc) (fun r3 w =>
      semS Tryd.prog (Instr.sliceAt 22 (.slice r3.a r3.len r3.cap) none (some (.int .i64 (p0.len : Int))) none) (.one .slc) (fun x4 w =>
      K x4 w) w) w) w)
      (K p0 w)) fun J1 =>
  cond (decide (p1 < 0))
    (False)
    (J1 () w)
theorem f54_ok {p0 : Sl} {p1 : Int} {K : Sl → World → Prop} {w : World} (h : f54 p0 p1 K w) : callS Tryd.prog 54 #[(.slice p0.a p0.len p0.cap), (.int .i64 p1)] [(.one .slc)] K w :=
  calls_of_fn (args := [(.slice p0.a p0.len p0.cap), (.int .i64 p1)]) Tryd.f54 [] [] [] (.two .nil (.join [] .nil .nil)) (by kernel_rfl) (by kernel_rfl)
    (Eq.mp (by kernel_rfl : f54 p0 p1 K w = evFn Tryd.prog Tryd.f54 [] [] [] (.two .nil (.join [] .nil .nil)) [(.slice p0.a p0.len p0.cap), (.int .i64 p1)] [(.one .slc)] K w) h)

/-- slices.Concat[[]byte,byte] -/
def f35 (p0 : Sl) (K : Sl → World → Prop) (w : World) : Prop :=
  loopS (σ := Int × Int) (fun s1 w again2 =>
    cond (decide (s1.2 < (p0.len : Int)))
      (semS Tryd.prog (Instr.indexAt 39 (.slice p0.a p0.len p0.cap) (.int .i64 s1.2)) (.one .adr) (fun x3 w =>
      semS Tryd.prog (Instr.loadAt 22 (.pointer (some x3))) (.one .slc) (fun x4 w =>
      cond (decide ((IntKind.wrap .i64 (s1.1 + (x4.len : Int))) < 0))
        (False)
        (again2 (IntKind.wrap .i64 (s1.1 + (x4.len : Int)), IntKind.wrap .i64 (s1.2 + 1)) w)) w) w)
      (callS Tryd.prog 54 #[(.slice none 0 0), (.int .i64 s1.1)] [(.one .slc)] (fun r5 w =>
      loopS (σ := Sl × Int) (fun s6 w again7 =>
        cond (decide (s6.2 < (p0.len : Int)))
          (semS Tryd.prog (Instr.indexAt 39 (.slice p0.a p0.len p0.cap) (.int .i64 s6.2)) (.one .adr) (fun x8 w =>
          semS Tryd.prog (Instr.loadAt 22 (.pointer (some x8))) (.one .slc) (fun x9 w =>
          semS Tryd.prog (Builtin.append_ #[22, 22] 22 #[(.slice s6.1.a s6.1.len s6.1.cap), (.slice x9.a x9.len x9.cap)]) (.one .slc) (fun r10 w =>
          again7 (r10, IntKind.wrap .i64 (s6.2 + 1)) w) w) w) w)
          (K s6.1 w)) (r5, 0) w) w)) (0, 0) w
theorem f35_ok {p0 : Sl} {K : Sl → World → Prop} {w : World} (h : f35 p0 K w) : callS Tryd.prog 35 #[(.slice p0.a p0.len p0.cap)] [(.one .slc)] K w :=
  calls_of_fn (args := [(.slice p0.a p0.len p0.cap)]) Tryd.f35 [] [] [] (.two .nil (.two .nil (.two (.two .nil (.one (.loop [(3, (.int .i64)), (11, (.int .i64))] .nil))) (.two .nil (.two (.two .nil (.one (.loop [(6, .slc), (27, (.int .i64))] .nil))) .nil))))) (by kernel_rfl) (by kernel_rfl)
    (Eq.mp (by kernel_rfl : f35 p0 K w = evFn Tryd.prog Tryd.f35 [] [] [] (.two .nil (.two .nil (.two (.two .nil (.one (.loop [(3, (.int .i64)), (11, (.int .i64))] .nil))) (.two .nil (.two (.two .nil (.one (.loop [(6, .slc), (27, (.int .i64))] .nil))) .nil))))) [(.slice p0.a p0.len p0.cap)] [(.one .slc)] K w) h)

/-- sallyport/grove.Make -/
def f19 (p0 : Int) (p1 : Sl) (p2 : Int) (p3 : Sl) (K : Sl → Sl → Int → World → Prop) (w : World) : Prop :=
  semS Tryd.prog (Instr.box 3 (.int .i64 p0)) (.one .adr) (fun x1 w =>
  semS Tryd.prog (Instr.box 22 (.slice p1.a p1.len p1.cap)) (.one .adr) (fun x2 w =>
  semS Tryd.prog (Instr.loadAt 3 (.pointer (some x1))) (.one (.int .i64)) (fun x3 w =>
  callS Tryd.prog 24 #[(.int .i64 x3)] [(.one (.int .i64))] (fun r4 w =>
  semS Tryd.prog (Instr.alloc 62 true (.tuple #[])) (.one .adr) (fun x5 w =>
  semU Tryd.prog (Instr.storeAt 62 (.pointer (some x5)) (.agg #[(.int .i64 (p3.len : Int)), (.int .i64 p2), (.int .i64 r4)])) (fun w =>
  joinS (σ := Bool) (fun b6 w =>
    cond b6
      (K (⟨none, 0, 0⟩) (⟨none, 0, 0⟩) 11 w)
      (semS Tryd.prog (Instr.loadAt 3 (.pointer (some x1))) (.one (.int .i64)) (fun x8 w =>
      semS Tryd.prog (Instr.loadAt 22 (.pointer (some x2))) (.one .slc) (fun x9 w =>
      semS Tryd.prog (Instr.loadAt 62 (.pointer (some x5))) (.agg [(.int .i64), (.int .i64), (.int .i64)]) (fun x10 x11 x12 w =>
      callS Tryd.prog 31 #[(.int .i64 x8), (.slice x9.a x9.len x9.cap), (.agg #[(.int .i64 x10), (.int .i64 x11), (.int .i64 x12)])] [(.one (.int .i64))] (fun r13 w =>
      cond (r13 != 0)
        (K (⟨none, 0, 0⟩) (⟨none, 0, 0⟩) r13 w)
        (callS Tryd.prog 32 #[(.slice p3.a p3.len p3.cap), (.int .i64 p2)] [(.one .slc), (.one (.int .i64))] (fun r14 r15 w =>
        loopS (σ := (Sl × Sl) × List Nat) (fun s18 w again19 =>
          cond (decide ((s18.1.2.len : Int) > p2))
            (semS Tryd.prog (Instr.alloc 22 true (.tuple #[])) (.one .adr) (fun x20 w =>
            callS Tryd.prog 33 #[(.slice s18.1.2.a s18.1.2.len s18.1.2.cap), (.int .i64 p2)] [(.one .any)] (fun r21 w =>
            rangeS Tryd.prog r21 w (fun l22 oR23 oB24 xs25 w R26 =>
              decL (R := Prop) [.slc] xs25 (fun x28 =>
              w.heap[l22]? = some oR23 ∧ ((fun w =>
                semS Tryd.prog (Instr.loadAt 3 (.pointer (some x1))) (.one (.int .i64)) (fun x29 w =>
                semS Tryd.prog (Instr.loadAt 22 (.pointer (some x2))) (.one .slc) (fun x30 w =>
                semS Tryd.prog (Instr.buildSlice 39 1 #[(0, (.slice x28.a x28.len x28.cap))]) (.one .slc) (fun x31 w =>
                callS Tryd.prog 34 #[(.int .i64 x29), (.slice x30.a x30.len x30.cap), (.slice x31.a x31.len x31.cap)] [(.one .slc), (.one (.int .i64))] (fun r32 r33 w =>
                semS Tryd.prog (Instr.loadAt 22 (.pointer (some x20))) (.one .slc) (fun x34 w =>
                semS Tryd.prog (Builtin.append_ #[22, 22] 22 #[(.slice x34.a x34.len x34.cap), (.slice r32.a r32.len r32.cap)]) (.one .slc) (fun r35 w =>
                semU Tryd.prog (Instr.storeAt 22 (.pointer (some x20)) (.slice r35.a r35.len r35.cap)) (fun w =>
                w.heap[l22]? = some oB24 ∧ R26 (w.putObj l22 oR23)) w) w) w) w) w) w) w) (w.putObj l22 oB24))) (fun r => r)) (fun D27 w =>
            semS Tryd.prog (Instr.loadAt 22 (.pointer (some x20))) (.one .slc) (fun x36 w =>
            callS Tryd.prog 32 #[(.slice x36.a x36.len x36.cap), (.int .i64 p2)] [(.one .slc), (.one (.int .i64))] (fun r37 r38 w =>
            semS Tryd.prog (Instr.buildSlice 39 2 #[(0, (.slice r37.a r37.len r37.cap)), (1, (.slice s18.1.1.a s18.1.1.len s18.1.1.cap))]) (.one .slc) (fun x39 w =>
            callS Tryd.prog 35 #[(.slice x39.a x39.len x39.cap)] [(.one .slc)] (fun r40 w =>
            again19 ((r40, r37), (D27 :: s18.2)) w) w) w) w) w)) w) w)
            (semS Tryd.prog (Instr.loadAt 3 (.pointer (some x1))) (.one (.int .i64)) (fun x41 w =>
            semS Tryd.prog (Instr.loadAt 22 (.pointer (some x2))) (.one .slc) (fun x42 w =>
            semS Tryd.prog (Instr.buildSlice 39 1 #[(0, (.slice s18.1.2.a s18.1.2.len s18.1.2.cap))]) (.one .slc) (fun x43 w =>
            callS Tryd.prog 34 #[(.int .i64 x41), (.slice x42.a x42.len x42.cap), (.slice x43.a x43.len x43.cap)] [(.one .slc), (.one (.int .i64))] (fun r44 r45 w =>
            finD s18.2 (fun w => K s18.1.1 r44 r45 w) w) w) w) w) w)) ((⟨none, 0, 0⟩, r14), []) w) w)) w) w) w) w)) fun J7 =>
  cond (decide ((p3.len : Int) > 1048576))
    (semS Tryd.prog (Instr.loadAt 3 (.pointer (some x1))) (.one (.int .i64)) (fun x46 w =>
      callS Tryd.prog 24 #[(.int .i64 x46)] [(.one (.int .i64))] (fun r47 w =>
      J7 (r47 != 0) w) w) w)
    (J7 false w)) w) w) w) w) w) w
theorem f19_ok {p0 : Int} {p1 : Sl} {p2 : Int} {p3 : Sl} {K : Sl → Sl → Int → World → Prop} {w : World} (h : f19 p0 p1 p2 p3 K w) : callS Tryd.prog 19 #[(.int .i64 p0), (.slice p1.a p1.len p1.cap), (.int .i64 p2), (.slice p3.a p3.len p3.cap)] [(.one .slc), (.one .slc), (.one (.int .i64))] K w :=
  calls_of_fnR (args := [(.int .i64 p0), (.slice p1.a p1.len p1.cap), (.int .i64 p2), (.slice p3.a p3.len p3.cap)]) Tryd.f19 [] (.two .nil (.two .nil (.two .nil (.two .nil (.two .nil (.two (.one (.loop [(8, .slc), (13, .slc)] (.two .nil (.one (.two .nil (.two (.two .nil (.one (.join [(53, .slc)] .nil .nil))) .nil)))))) .nil)))))) (by kernel_rfl) (by kernel_rfl)
    (Eq.mp (by kernel_rfl : f19 p0 p1 p2 p3 K w = evFnR Tryd.prog Tryd.f19 [] (.two .nil (.two .nil (.two .nil (.two .nil (.two .nil (.two (.one (.loop [(8, .slc), (13, .slc)] (.two .nil (.one (.two .nil (.two (.two .nil (.one (.join [(53, .slc)] .nil .nil))) .nil)))))) .nil)))))) [(.int .i64 p0), (.slice p1.a p1.len p1.cap), (.int .i64 p2), (.slice p3.a p3.len p3.cap)] [(.one .slc), (.one .slc), (.one (.int .i64))] K w) h)

/-- slices.Clone[[]sallyport/drive.Part,sallyport/drive.Part] -/
def f36 (p0 : Sl) (K : Sl → World → Prop) (w : World) : Prop :=
  semS Tryd.prog (binS .eql 57 (.tmp 3) (.const (Go.Value.slice none 0 0)) (.slice p0.a p0.len p0.cap) (.slice none 0 0)) (.one .bool) (fun x1 w =>
  cond x1
    (K (⟨none, 0, 0⟩) w)
    (semS Tryd.prog (Instr.buildSlice 57 0 #[]) (.one .slc) (fun x2 w =>
    semS Tryd.prog (Builtin.append_ #[57, 57] 57 #[(.slice x2.a x2.len x2.cap), (.slice p0.a p0.len p0.cap)]) (.one .slc) (fun r3 w =>
    K r3 w) w) w)) w
theorem f36_ok {p0 : Sl} {K : Sl → World → Prop} {w : World} (h : f36 p0 K w) : callS Tryd.prog 36 #[(.slice p0.a p0.len p0.cap)] [(.one .slc)] K w :=
  calls_of_fn (args := [(.slice p0.a p0.len p0.cap)]) Tryd.f36 [] [] [] .nil (by kernel_rfl) (by kernel_rfl)
    (Eq.mp (by kernel_rfl : f36 p0 K w = evFn Tryd.prog Tryd.f36 [] [] [] .nil [(.slice p0.a p0.len p0.cap)] [(.one .slc)] K w) h)

/-- strings.indexFunc -/
def f76 (p0 : ByteArray) (p1 : Value) (p2 : Bool) (K : Int → World → Prop) (w : World) : Prop :=
  semS Tryd.prog (Instr.range 9 (.string p0)) (.one .adr) (fun x1 w =>
  loopS (σ := Unit) (fun _ w again2 =>
    semS Tryd.prog (Instr.next (.pointer (some x1)) true 0) .nxt ⟨fun w =>
    K (-1) w, fun i3 c4 w =>
    callY Tryd.prog (callSem p1 #[(.int .i32 c4)]) [(.one .bool)] (fun r5 w =>
    cond (r5 == p2)
      (K i3 w)
      (again2 () w)) w⟩ w) () w) w
theorem f76_ok {p0 : ByteArray} {p1 : Value} {p2 : Bool} {K : Int → World → Prop} {w : World} (h : f76 p0 p1 p2 K w) : callS Tryd.prog 76 #[(.string p0), p1, (.bool p2)] [(.one (.int .i64))] K w :=
  calls_of_fn (args := [(.string p0), p1, (.bool p2)]) Tryd.f76 [1, 15] [] [] (.two .nil (.two (.two .nil (.one (.loop [] .nil))) .nil)) (by kernel_rfl) (by kernel_rfl)
    (Eq.mp (by kernel_rfl : f76 p0 p1 p2 K w = evFn Tryd.prog Tryd.f76 [1, 15] [] [] (.two .nil (.two (.two .nil (.one (.loop [] .nil))) .nil)) [(.string p0), p1, (.bool p2)] [(.one (.int .i64))] K w) h)

/-- strings.IndexFunc -/
def f71 (p0 : ByteArray) (p1 : Value) (K : Int → World → Prop) (w : World) : Prop :=
  callS Tryd.prog 76 #[(.string p0), p1, (.bool true)] [(.one (.int .i64))] (fun r1 w =>
  K r1 w) w
theorem f71_ok {p0 : ByteArray} {p1 : Value} {K : Int → World → Prop} {w : World} (h : f71 p0 p1 K w) : callS Tryd.prog 71 #[(.string p0), p1] [(.one (.int .i64))] K w :=
  calls_of_fn (args := [(.string p0), p1]) Tryd.f71 [1, 6] [] [] .nil (by kernel_rfl) (by kernel_rfl)
    (Eq.mp (by kernel_rfl : f71 p0 p1 K w = evFn Tryd.prog Tryd.f71 [1, 6] [] [] .nil [(.string p0), p1] [(.one (.int .i64))] K w) h)

/-- strings.ContainsFunc -/
def f55 (p0 : ByteArray) (p1 : Value) (K : Bool → World → Prop) (w : World) : Prop :=
  callS Tryd.prog 71 #[(.string p0), p1] [(.one (.int .i64))] (fun r1 w =>
  K (decide (r1 ≥ 0)) w) w
theorem f55_ok {p0 : ByteArray} {p1 : Value} {K : Bool → World → Prop} {w : World} (h : f55 p0 p1 K w) : callS Tryd.prog 55 #[(.string p0), p1] [(.one .bool)] K w :=
  calls_of_fn (args := [(.string p0), p1]) Tryd.f55 [1, 6] [] [] .nil (by kernel_rfl) (by kernel_rfl)
    (Eq.mp (by kernel_rfl : f55 p0 p1 K w = evFn Tryd.prog Tryd.f55 [1, 6] [] [] .nil [(.string p0), p1] [(.one .bool)] K w) h)

/-- sallyport/drive.named$1 -/
def f56 (p0 : Int) (K : Bool → World → Prop) (w : World) : Prop :=
  K (!((((decide (p0 ≥ 97)) && (decide (p0 ≤ 122))) || ((decide (p0 ≥ 48)) && (decide (p0 ≤ 57)))) || (p0 == 95))) w
theorem f56_ok {p0 : Int} {K : Bool → World → Prop} {w : World} (h : f56 p0 K w) : callS Tryd.prog 56 #[(.int .i32 p0)] [(.one .bool)] K w :=
  calls_of_fn (args := [(.int .i32 p0)]) Tryd.f56 [] [] [] .nil (by kernel_rfl) (by kernel_rfl)
    (Eq.mp (by kernel_rfl : f56 p0 K w = evFn Tryd.prog Tryd.f56 [] [] [] .nil [(.int .i32 p0)] [(.one .bool)] K w) h)

/-- sallyport/drive.named -/
def f37 (p0 : ByteArray) (K : Bool → World → Prop) (w : World) : Prop :=
  joinS (σ := Bool) (fun b1 w =>
    K b1 w) fun J2 =>
  cond ((!(p0.toList == (ByteArray.mk #[]).toList)) && (decide ((p0.size : Int) ≤ 24)))
    (callS Tryd.prog 55 #[(.string p0), (.func (.func 56) #[] #[])] [(.one .bool)] (fun r3 w =>
      J2 (!r3) w) w)
    (J2 false w)
theorem f37_ok {p0 : ByteArray} {K : Bool → World → Prop} {w : World} (h : f37 p0 K w) : callS Tryd.prog 37 #[(.string p0)] [(.one .bool)] K w :=
  calls_of_fn (args := [(.string p0)]) Tryd.f37 [] [] [] .nil (by kernel_rfl) (by kernel_rfl)
    (Eq.mp (by kernel_rfl : f37 p0 K w = evFn Tryd.prog Tryd.f37 [] [] [] .nil [(.string p0)] [(.one .bool)] K w) h)

def f20_t1 (z19 : Bool) (K : (Option Addr) → Int → World → Prop) (x9 : Addr) (x3 : Addr) (again5 : (Int × Int) → World → Prop) (s4 : Int × Int) (w : World) : Prop :=
  cond z19
    (K none 40 w)
    (semS Tryd.prog (Instr.loadAt 3 (.pointer (some (x9.add 1)))) (.one (.int .i64)) (fun x20 w =>
    drawS w fun C w =>
    semQ Tryd.prog C (Instr.loadAt 75 (.pointer (some (x3.add 1)))) (.one .mp) (fun x21 =>
    semQ Tryd.prog C (Instr.loadAt 9 (.pointer (some (x9.add 0)))) (.one .str) (fun x22 =>
    semS Tryd.prog (Instr.makeMap 79 none) (.one .mp) (fun x23 w =>
    moreS C w (fun C =>
    semS Tryd.prog (Instr.box 81 (.agg #[(.slice none 0 0), (.map x23)])) (.one .adr) (fun x24 w =>
    moreS C w (fun C =>
    semU Tryd.prog (Instr.mapUpdate 75 (.map x21) (.string x22) (.pointer (some x24))) (fun w =>
    again5 (IntKind.wrap .i64 (s4.1 + x20), IntKind.wrap .i64 (s4.2 + 1)) w) w)) w)) w))) w)

/-- sallyport/drive.New -/
def f20 (p0 : Sl) (K : (Option Addr) → Int → World → Prop) (w : World) : Prop :=
  cond (decide ((p0.len : Int) > 16))
    (K none 40 w)
    (callS Tryd.prog 36 #[(.slice p0.a p0.len p0.cap)] [(.one .slc)] (fun r1 w =>
    semS Tryd.prog (Instr.makeMap 75 none) (.one .mp) (fun x2 w =>
    semS Tryd.prog (Instr.box 78 (.agg #[(.slice r1.a r1.len r1.cap), (.map x2), (.int .i64 (-1)), (.slice none 0 0), (.bool false), (.int .i64 0), (.int .i64 0)])) (.one .adr) (fun x3 w =>
    loopS (σ := Int × Int) (fun s4 w again5 =>
      cond (decide (s4.2 < (p0.len : Int)))
        (semS Tryd.prog (Instr.indexAt 57 (.slice p0.a p0.len p0.cap) (.int .i64 s4.2)) (.one .adr) (fun x6 w =>
        semS Tryd.prog (Instr.loadAt 56 (.pointer (some x6))) (.agg [.str, (.int .i64)]) (fun x7 x8 w =>
        semS Tryd.prog (Instr.alloc 56 true (.tuple #[])) (.one .adr) (fun x9 w =>
        semU Tryd.prog (Instr.storeAt 56 (.pointer (some x9)) (.agg #[(.string x7), (.int .i64 x8)])) (fun w =>
        drawS w fun C w =>
        semQ Tryd.prog C (Instr.loadAt 9 (.pointer (some (x9.add 0)))) (.one .str) (fun x10 =>
        callS Tryd.prog 37 #[(.string x10)] [(.one .bool)] (fun r11 w =>
        moreS C w (fun C =>
        cond (!r11)
          (f20_t1 true K x9 x3 again5 s4 w)
          (semQ Tryd.prog C (Instr.loadAt 75 (.pointer (some (x3.add 1)))) (.one .mp) (fun x12 =>
          semQ Tryd.prog C (Instr.loadAt 9 (.pointer (some (x9.add 0)))) (.one .str) (fun x13 =>
          semQ Tryd.prog C (Instr.lookup 75 (.map x12) (.string x13) false) (.one .ptr) (fun x14 =>
          semQ Tryd.prog C (binS .neq 74 (.tmp 35) (.const (Go.Value.pointer none)) (.pointer x14) (.pointer none)) (.one .bool) (fun x15 =>
          cond x15
            (f20_t1 true K x9 x3 again5 s4 w)
            (semQ Tryd.prog C (Instr.loadAt 3 (.pointer (some (x9.add 1)))) (.one (.int .i64)) (fun x16 =>
            cond (decide (x16 < 64))
              (f20_t1 true K x9 x3 again5 s4 w)
              (semQ Tryd.prog C (Instr.loadAt 3 (.pointer (some (x9.add 1)))) (.one (.int .i64)) (fun x17 =>
              cond (decide (x17 > 1048576))
                (f20_t1 true K x9 x3 again5 s4 w)
                (semQ Tryd.prog C (Instr.loadAt 3 (.pointer (some (x9.add 1)))) (.one (.int .i64)) (fun x18 =>
                f20_t1 ((Int.tmod x18 64) != 0) K x9 x3 again5 s4 w))))))))))))) w)) w) w) w) w)
        (cond (decide (s4.1 > 1048576))
          (K none 11 w)
          (loopS (σ := Int) (fun x25 w again26 =>
            cond (decide (x25 < (p0.len : Int)))
              (semS Tryd.prog (Instr.indexAt 57 (.slice p0.a p0.len p0.cap) (.int .i64 x25)) (.one .adr) (fun x27 w =>
              semS Tryd.prog (Instr.loadAt 56 (.pointer (some x27))) (.agg [.str, (.int .i64)]) (fun x28 x29 w =>
              semS Tryd.prog (Instr.alloc 56 true (.tuple #[])) (.one .adr) (fun x30 w =>
              semU Tryd.prog (Instr.storeAt 56 (.pointer (some x30)) (.agg #[(.string x28), (.int .i64 x29)])) (fun w =>
              drawS w fun C w =>
              semQ Tryd.prog C (Instr.loadAt 75 (.pointer (some (x3.add 1)))) (.one .mp) (fun x31 =>
              semQ Tryd.prog C (Instr.loadAt 9 (.pointer (some (x30.add 0)))) (.one .str) (fun x32 =>
              semQ Tryd.prog C (Instr.lookup 75 (.map x31) (.string x32) false) (.one .ptr) (fun x33 =>
              semQ Tryd.prog C (Instr.loadAt 3 (.pointer (some (x30.add 1)))) (.one (.int .i64)) (fun x34 =>
              semS Tryd.prog (Instr.makeSlice 22 (.int .i64 x34) (.int .i64 x34)) (.one .slc) (fun x35 w =>
              moreS C w (fun C =>
              nilS x33 fun a36 =>
              semU Tryd.prog (Instr.storeAt 22 (.pointer (some (a36.add 0))) (.slice x35.a x35.len x35.cap)) (fun w =>
              again26 (IntKind.wrap .i64 (x25 + 1)) w) w)) w))))) w) w) w) w)
              (K (some x3) 0 w)) 0 w))) (0, 0) w) w) w) w)
theorem f20_ok {p0 : Sl} {K : (Option Addr) → Int → World → Prop} {w : World} (h : f20 p0 K w) : callS Tryd.prog 20 #[(.slice p0.a p0.len p0.cap)] [(.one .ptr), (.one (.int .i64))] K w :=
  calls_of_fn (args := [(.slice p0.a p0.len p0.cap)]) Tryd.f20 [] [] [] (.two .nil (.two .nil (.two .nil (.two .nil (.two (.two .nil (.one (.loop [(5, (.int .i64)), (20, (.int .i64))] (.two .nil (.two .nil (.two (.one (.two .nil (.two (.two (.draw [0, 1, 3, 7, 15, 31, 63, 127, 255, 31, 543, 2047, 4095, 8191, 16383, 32767, 65535, 131071, 262143, 524287, 1048575, 2097151, 4194303, 8388607, 16777215, 33554431, 67108863, 134217727, 268435455, 536870911]) .nil) (.two .nil (.draw [0, 1, 3, 7, 0, 16, 0, 64, 192, 511]))))) .nil)))))) (.two .nil (.two (.two .nil (.one (.loop [(72, (.int .i64))] (.two .nil (.two .nil (.two (.one (.two .nil (.draw [0, 1, 3, 7, 0, 16, 63, 0, 128, 384, 1023, 2047, 4095]))) .nil)))))) .nil))))))) (by kernel_rfl) (by kernel_rfl)
    (Eq.mp (by kernel_rfl : f20 p0 K w = evFn Tryd.prog Tryd.f20 [] [] [] (.two .nil (.two .nil (.two .nil (.two .nil (.two (.two .nil (.one (.loop [(5, (.int .i64)), (20, (.int .i64))] (.two .nil (.two .nil (.two (.one (.two .nil (.two (.two (.draw [0, 1, 3, 7, 15, 31, 63, 127, 255, 31, 543, 2047, 4095, 8191, 16383, 32767, 65535, 131071, 262143, 524287, 1048575, 2097151, 4194303, 8388607, 16777215, 33554431, 67108863, 134217727, 268435455, 536870911]) .nil) (.two .nil (.draw [0, 1, 3, 7, 0, 16, 0, 64, 192, 511]))))) .nil)))))) (.two .nil (.two (.two .nil (.one (.loop [(72, (.int .i64))] (.two .nil (.two .nil (.two (.one (.two .nil (.draw [0, 1, 3, 7, 0, 16, 63, 0, 128, 384, 1023, 2047, 4095]))) .nil)))))) .nil))))))) [(.slice p0.a p0.len p0.cap)] [(.one .ptr), (.one (.int .i64))] K w) h)

/-- sallyport/span.Within -/
def f30 (p0 : Int) (p1 : Int) (p2 : Int) (K : Bool → World → Prop) (w : World) : Prop :=
  K (((((decide (p0 ≥ 0)) && (decide (p1 ≥ 0))) && (decide (p2 ≥ 0))) && (decide (p0 ≤ p2))) && (decide (p1 ≤ (IntKind.wrap .i64 (p2 - p0))))) w
theorem f30_ok {p0 : Int} {p1 : Int} {p2 : Int} {K : Bool → World → Prop} {w : World} (h : f30 p0 p1 p2 K w) : callS Tryd.prog 30 #[(.int .i64 p0), (.int .i64 p1), (.int .i64 p2)] [(.one .bool)] K w :=
  calls_of_fn (args := [(.int .i64 p0), (.int .i64 p1), (.int .i64 p2)]) Tryd.f30 [] [] [] .nil (by kernel_rfl) (by kernel_rfl)
    (Eq.mp (by kernel_rfl : f30 p0 p1 p2 K w = evFn Tryd.prog Tryd.f30 [] [] [] .nil [(.int .i64 p0), (.int .i64 p1), (.int .i64 p2)] [(.one .bool)] K w) h)

/-- (*sallyport/drive.Drive).find -/
def f38 (p0 : Option Addr) (p1 : ByteArray) (p2 : Int) (p3 : Int) (K : (Option Addr) → Int → World → Prop) (w : World) : Prop :=
  nilS p0 fun a1 =>
  semS Tryd.prog (Instr.loadAt 75 (.pointer (some (a1.add 1)))) (.one .mp) (fun x2 w =>
  semS Tryd.prog (Instr.lookup 75 (.map x2) (.string p1) false) (.one .ptr) (fun x3 w =>
  nilS p0 fun a4 =>
  semS Tryd.prog (Instr.loadAt 4 (.pointer (some (a4.add 4)))) (.one .bool) (fun x5 w =>
  cond x5
    (K none 42 w)
    (semS Tryd.prog (binS .eql 74 (.tmp 23) (.const (Go.Value.pointer none)) (.pointer x3) (.pointer none)) (.one .bool) (fun x6 w =>
    cond x6
      (K none 40 w)
      (nilS x3 fun a7 =>
      semS Tryd.prog (Instr.loadAt 22 (.pointer (some (a7.add 0)))) (.one .slc) (fun x8 w =>
      callS Tryd.prog 30 #[(.int .i64 p2), (.int .i64 p3), (.int .i64 (x8.len : Int))] [(.one .bool)] (fun r9 w =>
      cond (!r9)
        (K none 10 w)
        (K x3 0 w)) w) w)) w)) w) w) w
theorem f38_ok {p0 : Option Addr} {p1 : ByteArray} {p2 : Int} {p3 : Int} {K : (Option Addr) → Int → World → Prop} {w : World} (h : f38 p0 p1 p2 p3 K w) : callS Tryd.prog 38 #[(.pointer p0), (.string p1), (.int .i64 p2), (.int .i64 p3)] [(.one .ptr), (.one (.int .i64))] K w :=
  calls_of_fn (args := [(.pointer p0), (.string p1), (.int .i64 p2), (.int .i64 p3)]) Tryd.f38 [] [] [] .nil (by kernel_rfl) (by kernel_rfl)
    (Eq.mp (by kernel_rfl : f38 p0 p1 p2 p3 K w = evFn Tryd.prog Tryd.f38 [] [] [] .nil [(.pointer p0), (.string p1), (.int .i64 p2), (.int .i64 p3)] [(.one .ptr), (.one (.int .i64))] K w) h)

/-- sallyport/drive.sectors -/
def f39 (p0 : Int) (p1 : Int) (K : Int → Int → World → Prop) (w : World) : Prop :=
  cond (p1 == 0)
    (K (IntKind.wrap .i64 (Int.tdiv p0 64)) 0 w)
    (K (IntKind.wrap .i64 (Int.tdiv p0 64)) (IntKind.wrap .i64 ((IntKind.wrap .i64 ((IntKind.wrap .i64 (Int.tdiv (IntKind.wrap .i64 ((IntKind.wrap .i64 (p0 + p1)) - 1)) 64)) - (IntKind.wrap .i64 (Int.tdiv p0 64)))) + 1)) w)
theorem f39_ok {p0 : Int} {p1 : Int} {K : Int → Int → World → Prop} {w : World} (h : f39 p0 p1 K w) : callS Tryd.prog 39 #[(.int .i64 p0), (.int .i64 p1)] [(.one (.int .i64)), (.one (.int .i64))] K w :=
  calls_of_fn (args := [(.int .i64 p0), (.int .i64 p1)]) Tryd.f39 [] [] [] .nil (by kernel_rfl) (by kernel_rfl)
    (Eq.mp (by kernel_rfl : f39 p0 p1 K w = evFn Tryd.prog Tryd.f39 [] [] [] .nil [(.int .i64 p0), (.int .i64 p1)] [(.one (.int .i64)), (.one (.int .i64))] K w) h)

/-- (*sallyport/drive.Drive).Write -/
def f21 (p0 : Option Addr) (p1 : ByteArray) (p2 : Int) (p3 : Sl) (K : Int → World → Prop) (w : World) : Prop :=
  callS Tryd.prog 38 #[(.pointer p0), (.string p1), (.int .i64 p2), (.int .i64 (p3.len : Int))] [(.one .ptr), (.one (.int .i64))] (fun r1 r2 w =>
  cond (r2 != 0)
    (K r2 w)
    (nilS p0 fun a3 =>
    semS Tryd.prog (Instr.loadAt 3 (.pointer (some (a3.add 2)))) (.one (.int .i64)) (fun x4 w =>
    cond (x4 != 0)
      (nilS p0 fun a5 =>
      semS Tryd.prog (Instr.loadAt 3 (.pointer (some (a5.add 2)))) (.one (.int .i64)) (fun x6 w =>
      nilS p0 fun a7 =>
      semU Tryd.prog (Instr.storeAt 3 (.pointer (some (a7.add 2))) (.int .i64 (if (-1) > (IntKind.wrap .i64 (x6 - 1)) then -1 else IntKind.wrap .i64 (x6 - 1)))) (fun w =>
      nilS r1 fun a8 =>
      semS Tryd.prog (Instr.loadAt 22 (.pointer (some (a8.add 0)))) (.one .slc) (fun x9 w =>
      semS Tryd.prog (Instr.sliceAt 22 (.slice x9.a x9.len x9.cap) (some (.int .i64 p2)) none none) (.one .slc) (fun x10 w =>
      semS Tryd.prog (Builtin.copy_ #[22, 22] 3 #[(.slice x10.a x10.len x10.cap), (.slice p3.a p3.len p3.cap)]) (.one (.int .i64)) (fun r11 w =>
      K 0 w) w) w) w) w) w)
      (callS Tryd.prog 39 #[(.int .i64 p2), (.int .i64 (p3.len : Int))] [(.one (.int .i64)), (.one (.int .i64))] (fun r12 r13 w =>
      nilS p0 fun a14 =>
      semS Tryd.prog (Instr.loadAt 76 (.pointer (some (a14.add 3)))) (.one .slc) (fun x15 w =>
      loopS (σ := Int) (fun x16 w again17 =>
        cond (decide (x16 < (if (x15.len : Int) < r13 then (x15.len : Int) else r13)))
          (nilS p0 fun a18 =>
          semS Tryd.prog (Instr.loadAt 76 (.pointer (some (a18.add 3)))) (.one .slc) (fun x19 w =>
          semS Tryd.prog (Instr.indexAt 76 (.slice x19.a x19.len x19.cap) (.int .i64 x16)) (.one .adr) (fun x20 w =>
          semS Tryd.prog (Instr.loadAt 4 (.pointer (some x20))) (.one .bool) (fun x21 w =>
          cond x21
            (drawS w fun C w =>
            nilS r1 fun a22 =>
            semQ Tryd.prog C (Instr.loadAt 22 (.pointer (some (a22.add 0)))) (.one .slc) (fun x23 =>
            semQ Tryd.prog C (Instr.sliceAt 22 (.slice x23.a x23.len x23.cap) (some (.int .i64 (if (IntKind.wrap .i64 ((IntKind.wrap .i64 (r12 + x16)) * 64)) > p2 then IntKind.wrap .i64 ((IntKind.wrap .i64 (r12 + x16)) * 64) else p2))) (some (.int .i64 (if (IntKind.wrap .i64 ((IntKind.wrap .i64 ((IntKind.wrap .i64 (r12 + x16)) + 1)) * 64)) < (IntKind.wrap .i64 (p2 + (p3.len : Int))) then IntKind.wrap .i64 ((IntKind.wrap .i64 ((IntKind.wrap .i64 (r12 + x16)) + 1)) * 64) else IntKind.wrap .i64 (p2 + (p3.len : Int))))) none) (.one .slc) (fun x24 =>
            semQ Tryd.prog C (Instr.sliceAt 22 (.slice p3.a p3.len p3.cap) (some (.int .i64 (IntKind.wrap .i64 ((if (IntKind.wrap .i64 ((IntKind.wrap .i64 (r12 + x16)) * 64)) > p2 then IntKind.wrap .i64 ((IntKind.wrap .i64 (r12 + x16)) * 64) else p2) - p2)))) none none) (.one .slc) (fun x25 =>
            semS Tryd.prog (Builtin.copy_ #[22, 22] 3 #[(.slice x24.a x24.len x24.cap), (.slice x25.a x25.len x25.cap)]) (.one (.int .i64)) (fun r26 w =>
            again17 (IntKind.wrap .i64 (x16 + 1)) w) w))))
            (again17 (IntKind.wrap .i64 (x16 + 1)) w)) w) w) w)
          (nilS p0 fun a27 =>
          semU Tryd.prog (Instr.storeAt 4 (.pointer (some (a27.add 4))) (.bool true)) (fun w =>
          K 42 w) w)) 0 w) w) w)) w)) w
theorem f21_ok {p0 : Option Addr} {p1 : ByteArray} {p2 : Int} {p3 : Sl} {K : Int → World → Prop} {w : World} (h : f21 p0 p1 p2 p3 K w) : callS Tryd.prog 21 #[(.pointer p0), (.string p1), (.int .i64 p2), (.slice p3.a p3.len p3.cap)] [(.one (.int .i64))] K w :=
  calls_of_fn (args := [(.pointer p0), (.string p1), (.int .i64 p2), (.slice p3.a p3.len p3.cap)]) Tryd.f21 [] [] [] (.two .nil (.two .nil (.two .nil (.two .nil (.two .nil (.two (.two .nil (.one (.loop [(64, (.int .i64))] (.two .nil (.two .nil (.two (.one (.two .nil (.two .nil (.two (.two .nil (.draw [0, 1, 3, 7, 0, 0, 63, 0, 0, 0, 768, 1920, 4095])) .nil)))) .nil)))))) .nil)))))) (by kernel_rfl) (by kernel_rfl)
    (Eq.mp (by kernel_rfl : f21 p0 p1 p2 p3 K w = evFn Tryd.prog Tryd.f21 [] [] [] (.two .nil (.two .nil (.two .nil (.two .nil (.two .nil (.two (.two .nil (.one (.loop [(64, (.int .i64))] (.two .nil (.two .nil (.two (.one (.two .nil (.two .nil (.two (.two .nil (.draw [0, 1, 3, 7, 0, 0, 63, 0, 0, 0, 768, 1920, 4095])) .nil)))) .nil)))))) .nil)))))) [(.pointer p0), (.string p1), (.int .i64 p2), (.slice p3.a p3.len p3.cap)] [(.one (.int .i64))] K w) h)

/-- sallyport/sallyportlaw17.made -/
def f9 (p0_0 : Int) (p0_1 : Int) (p0_2 : Int) (p0_3 : Sl) (p0_4 : Sl) (K : (Option Addr) → Int → Int → Int → Int → Int → Int → ByteArray → Sl → Sl → Sl → Sl → World → Prop) (w : World) : Prop :=
  semS Tryd.prog (Instr.box 24 (.agg #[(.int .i64 p0_0), (.int .i64 p0_1), (.int .i64 p0_2), (.slice p0_3.a p0_3.len p0_3.cap), (.slice p0_4.a p0_4.len p0_4.cap)])) (.one .adr) (fun x1 w =>
  semS Tryd.prog (Instr.alloc 29 true (.tuple #[])) (.one .adr) (fun x2 w =>
  semS Tryd.prog (Instr.loadAt 3 (.pointer (some (x1.add 0)))) (.one (.int .i64)) (fun x3 w =>
  semS Tryd.prog (Instr.loadAt 22 (.pointer (some (x1.add 3)))) (.one .slc) (fun x4 w =>
  semS Tryd.prog (Instr.loadAt 3 (.pointer (some (x1.add 1)))) (.one (.int .i64)) (fun x5 w =>
  semS Tryd.prog (Instr.loadAt 22 (.pointer (some (x1.add 4)))) (.one .slc) (fun x6 w =>
  callS Tryd.prog 19 #[(.int .i64 x3), (.slice x4.a x4.len x4.cap), (.int .i64 x5), (.slice x6.a x6.len x6.cap)] [(.one .slc), (.one .slc), (.one (.int .i64))] (fun r7 r8 r9 w =>
  cond (r9 != 0)
    (semU Tryd.prog (Instr.storeAt 29 (.pointer (some x2)) (.agg #[(.int .i64 0), (.int .i64 0), (.int .i64 0), (.int .i64 0), (.int .i64 0), (.int .i64 0), (.string ByteArray.empty), (.slice none 0 0), (.slice none 0 0), (.slice none 0 0), (.slice none 0 0)])) (fun w =>
    ∃ v10, (loadVar 29 x2).run Tryd.prog w = .ok v10 w ∧ decR [(.one .ptr), (.agg [(.int .i64), (.int .i64), (.int .i64), (.int .i64), (.int .i64), (.int .i64), .str, .slc, .slc, .slc, .slc])] (.tuple #[(.pointer none), v10]) K fun r => r w) w)
    (semS Tryd.prog (Instr.loadAt 22 (.pointer (some (x1.add 4)))) (.one .slc) (fun x11 w =>
    semS Tryd.prog (Instr.buildSlice 57 1 #[(0, (.agg #[(.string (ByteArray.mk #[112])), (.int .i64 (IntKind.wrap .i64 ((IntKind.wrap .i64 (Int.tdiv (IntKind.wrap .i64 ((IntKind.wrap .i64 ((IntKind.wrap .i64 ((IntKind.wrap .i64 (Int.tdiv (IntKind.wrap .i64 ((x11.len : Int) + 63)) 64)) * 64)) + (r7.len : Int))) + 127)) 64)) * 64)))]))]) (.one .slc) (fun x12 w =>
    callS Tryd.prog 20 #[(.slice x12.a x12.len x12.cap)] [(.one .ptr), (.one (.int .i64))] (fun r13 r14 w =>
    cond (r14 != 0)
      (semU Tryd.prog (Instr.storeAt 29 (.pointer (some x2)) (.agg #[(.int .i64 0), (.int .i64 0), (.int .i64 0), (.int .i64 0), (.int .i64 0), (.int .i64 0), (.string ByteArray.empty), (.slice none 0 0), (.slice none 0 0), (.slice none 0 0), (.slice none 0 0)])) (fun w =>
      ∃ v15, (loadVar 29 x2).run Tryd.prog w = .ok v15 w ∧ decR [(.one .ptr), (.agg [(.int .i64), (.int .i64), (.int .i64), (.int .i64), (.int .i64), (.int .i64), .str, .slc, .slc, .slc, .slc])] (.tuple #[(.pointer none), v15]) K fun r => r w) w)
      (semS Tryd.prog (Instr.loadAt 22 (.pointer (some (x1.add 4)))) (.one .slc) (fun x16 w =>
      callS Tryd.prog 21 #[(.pointer r13), (.string (ByteArray.mk #[112])), (.int .i64 0), (.slice x16.a x16.len x16.cap)] [(.one (.int .i64))] (fun r17 w =>
      callS Tryd.prog 21 #[(.pointer r13), (.string (ByteArray.mk #[112])), (.int .i64 (IntKind.wrap .i64 ((IntKind.wrap .i64 (Int.tdiv (IntKind.wrap .i64 ((x11.len : Int) + 63)) 64)) * 64))), (.slice r7.a r7.len r7.cap)] [(.one (.int .i64))] (fun r18 w =>
      drawS w fun C w =>
      semQ Tryd.prog C (Instr.loadAt 3 (.pointer (some (x1.add 0)))) (.one (.int .i64)) (fun x19 =>
      semQ Tryd.prog C (Instr.loadAt 22 (.pointer (some (x1.add 4)))) (.one .slc) (fun x20 =>
      semQ Tryd.prog C (Instr.loadAt 3 (.pointer (some (x1.add 1)))) (.one (.int .i64)) (fun x21 =>
      semQ Tryd.prog C (Instr.loadAt 22 (.pointer (some (x1.add 3)))) (.one .slc) (fun x22 =>
      semU Tryd.prog (Instr.storeAt 29 (.pointer (some x2)) (.agg #[(.int .i64 1), (.int .i64 x19), (.int .i64 (x20.len : Int)), (.int .i64 x21), (.int .i64 (IntKind.wrap .i64 ((IntKind.wrap .i64 (Int.tdiv (IntKind.wrap .i64 ((x11.len : Int) + 63)) 64)) * 64))), (.int .i64 0), (.string (ByteArray.mk #[112])), (.slice x22.a x22.len x22.cap), (.slice r8.a r8.len r8.cap), (.slice none 0 0), (.slice none 0 0)])) (fun w =>
      ∃ v23, (loadVar 29 x2).run Tryd.prog w = .ok v23 w ∧ decR [(.one .ptr), (.agg [(.int .i64), (.int .i64), (.int .i64), (.int .i64), (.int .i64), (.int .i64), .str, .slc, .slc, .slc, .slc])] (.tuple #[(.pointer r13), v23]) K fun r => r w) w))))) w) w) w)) w) w) w)) w) w) w) w) w) w) w
theorem f9_ok {p0_0 : Int} {p0_1 : Int} {p0_2 : Int} {p0_3 : Sl} {p0_4 : Sl} {K : (Option Addr) → Int → Int → Int → Int → Int → Int → ByteArray → Sl → Sl → Sl → Sl → World → Prop} {w : World} (h : f9 p0_0 p0_1 p0_2 p0_3 p0_4 K w) : callS Tryd.prog 9 #[(.agg #[(.int .i64 p0_0), (.int .i64 p0_1), (.int .i64 p0_2), (.slice p0_3.a p0_3.len p0_3.cap), (.slice p0_4.a p0_4.len p0_4.cap)])] [(.one .ptr), (.agg [(.int .i64), (.int .i64), (.int .i64), (.int .i64), (.int .i64), (.int .i64), .str, .slc, .slc, .slc, .slc])] K w :=
  calls_of_fn (args := [(.agg #[(.int .i64 p0_0), (.int .i64 p0_1), (.int .i64 p0_2), (.slice p0_3.a p0_3.len p0_3.cap), (.slice p0_4.a p0_4.len p0_4.cap)])]) Tryd.f9 [] [] [] (.two .nil (.two .nil (.two .nil (.two .nil (.two .nil (.two .nil (.two .nil (.two .nil (.two (.draw [0, 0, 2, 0, 8, 24, 0, 64, 0, 0, 512, 0, 4094, 1, 16383]) .nil))))))))) (by kernel_rfl) (by kernel_rfl)
    (Eq.mp (by kernel_rfl : f9 p0_0 p0_1 p0_2 p0_3 p0_4 K w = evFn Tryd.prog Tryd.f9 [] [] [] (.two .nil (.two .nil (.two .nil (.two .nil (.two .nil (.two .nil (.two .nil (.two .nil (.two (.draw [0, 0, 2, 0, 8, 24, 0, 64, 0, 0, 512, 0, 4094, 1, 16383]) .nil))))))))) [(.agg #[(.int .i64 p0_0), (.int .i64 p0_1), (.int .i64 p0_2), (.slice p0_3.a p0_3.len p0_3.cap), (.slice p0_4.a p0_4.len p0_4.cap)])] [(.one .ptr), (.agg [(.int .i64), (.int .i64), (.int .i64), (.int .i64), (.int .i64), (.int .i64), .str, .slc, .slc, .slc, .slc])] K w) h)

/-- (sallyport/descr.Descr).bare -/
def f40 (p0_0 : Int) (p0_1 : Int) (p0_2 : Int) (p0_3 : Int) (p0_4 : Int) (p0_5 : Int) (p0_6 : ByteArray) (p0_7 : Sl) (p0_8 : Sl) (p0_9 : Sl) (p0_10 : Sl) (K : Int → Int → Int → Int → Int → Int → ByteArray → Sl → Sl → Sl → Sl → World → Prop) (w : World) : Prop :=
  semS Tryd.prog (Instr.box 29 (.agg #[(.int .i64 p0_0), (.int .i64 p0_1), (.int .i64 p0_2), (.int .i64 p0_3), (.int .i64 p0_4), (.int .i64 p0_5), (.string p0_6), (.slice p0_7.a p0_7.len p0_7.cap), (.slice p0_8.a p0_8.len p0_8.cap), (.slice p0_9.a p0_9.len p0_9.cap), (.slice p0_10.a p0_10.len p0_10.cap)])) (.one .adr) (fun x1 w =>
  semS Tryd.prog (Instr.alloc 29 true (.tuple #[])) (.one .adr) (fun x2 w =>
  semS Tryd.prog (Instr.loadAt 3 (.pointer (some (x1.add 0)))) (.one (.int .i64)) (fun x3 w =>
  joinS (σ := Unit) (fun _ w =>
    semU Tryd.prog (Instr.storeAt 3 (.pointer (some (x1.add 1))) (.int .i64 0)) (fun w =>
    semU Tryd.prog (Instr.storeAt 3 (.pointer (some (x1.add 2))) (.int .i64 0)) (fun w =>
    semU Tryd.prog (Instr.storeAt 9 (.pointer (some (x1.add 6))) (.string (ByteArray.mk #[]))) (fun w =>
    semU Tryd.prog (Instr.storeAt 22 (.pointer (some (x1.add 7))) (.slice none 0 0)) (fun w =>
    semU Tryd.prog (Instr.storeAt 22 (.pointer (some (x1.add 8))) (.slice none 0 0)) (fun w =>
    semS Tryd.prog (Instr.loadAt 29 (.pointer (some x1))) (.agg [(.int .i64), (.int .i64), (.int .i64), (.int .i64), (.int .i64), (.int .i64), .str, .slc, .slc, .slc, .slc]) (fun x5 x6 x7 x8 x9 x10 x11 x12 x13 x14 x15 w =>
    semU Tryd.prog (Instr.storeAt 29 (.pointer (some x2)) (.agg #[(.int .i64 x5), (.int .i64 x6), (.int .i64 x7), (.int .i64 x8), (.int .i64 x9), (.int .i64 x10), (.string x11), (.slice x12.a x12.len x12.cap), (.slice x13.a x13.len x13.cap), (.slice x14.a x14.len x14.cap), (.slice x15.a x15.len x15.cap)])) (fun w =>
    ∃ v16, (loadVar 29 x2).run Tryd.prog w = .ok v16 w ∧ decR [(.agg [(.int .i64), (.int .i64), (.int .i64), (.int .i64), (.int .i64), (.int .i64), .str, .slc, .slc, .slc, .slc])] v16 K fun r => r w) w) w) w) w) w) w) w) fun J4 =>
  cond (x3 == 0)
    (semU Tryd.prog (Instr.storeAt 9 (.pointer (some (x1.add 6))) (.string (ByteArray.mk #[]))) (fun w =>
    semU Tryd.prog (Instr.storeAt 22 (.pointer (some (x1.add 10))) (.slice none 0 0)) (fun w =>
    semS Tryd.prog (Instr.loadAt 29 (.pointer (some x1))) (.agg [(.int .i64), (.int .i64), (.int .i64), (.int .i64), (.int .i64), (.int .i64), .str, .slc, .slc, .slc, .slc]) (fun x17 x18 x19 x20 x21 x22 x23 x24 x25 x26 x27 w =>
    semU Tryd.prog (Instr.storeAt 29 (.pointer (some x2)) (.agg #[(.int .i64 x17), (.int .i64 x18), (.int .i64 x19), (.int .i64 x20), (.int .i64 x21), (.int .i64 x22), (.string x23), (.slice x24.a x24.len x24.cap), (.slice x25.a x25.len x25.cap), (.slice x26.a x26.len x26.cap), (.slice x27.a x27.len x27.cap)])) (fun w =>
    ∃ v28, (loadVar 29 x2).run Tryd.prog w = .ok v28 w ∧ decR [(.agg [(.int .i64), (.int .i64), (.int .i64), (.int .i64), (.int .i64), (.int .i64), .str, .slc, .slc, .slc, .slc])] v28 K fun r => r w) w) w) w) w)
    (cond (x3 == 1)
      (semU Tryd.prog (Instr.storeAt 3 (.pointer (some (x1.add 3))) (.int .i64 0)) (fun w =>
      semU Tryd.prog (Instr.storeAt 3 (.pointer (some (x1.add 4))) (.int .i64 0)) (fun w =>
      J4 () w) w) w)
      (cond (x3 == 2)
        (J4 () w)
        (cond (x3 == 3)
          (semU Tryd.prog (Instr.storeAt 22 (.pointer (some (x1.add 10))) (.slice none 0 0)) (fun w =>
          semS Tryd.prog (Instr.loadAt 29 (.pointer (some x1))) (.agg [(.int .i64), (.int .i64), (.int .i64), (.int .i64), (.int .i64), (.int .i64), .str, .slc, .slc, .slc, .slc]) (fun x29 x30 x31 x32 x33 x34 x35 x36 x37 x38 x39 w =>
          semU Tryd.prog (Instr.storeAt 29 (.pointer (some x2)) (.agg #[(.int .i64 x29), (.int .i64 x30), (.int .i64 x31), (.int .i64 x32), (.int .i64 x33), (.int .i64 x34), (.string x35), (.slice x36.a x36.len x36.cap), (.slice x37.a x37.len x37.cap), (.slice x38.a x38.len x38.cap), (.slice x39.a x39.len x39.cap)])) (fun w =>
          ∃ v40, (loadVar 29 x2).run Tryd.prog w = .ok v40 w ∧ decR [(.agg [(.int .i64), (.int .i64), (.int .i64), (.int .i64), (.int .i64), (.int .i64), .str, .slc, .slc, .slc, .slc])] v40 K fun r => r w) w) w) w)
          (cond (x3 == 4)
            (semU Tryd.prog (Instr.storeAt 3 (.pointer (some (x1.add 5))) (.int .i64 0)) (fun w =>
            semU Tryd.prog (Instr.storeAt 9 (.pointer (some (x1.add 6))) (.string (ByteArray.mk #[]))) (fun w =>
            semU Tryd.prog (Instr.storeAt 22 (.pointer (some (x1.add 9))) (.slice none 0 0)) (fun w =>
            semS Tryd.prog (Instr.loadAt 29 (.pointer (some x1))) (.agg [(.int .i64), (.int .i64), (.int .i64), (.int .i64), (.int .i64), (.int .i64), .str, .slc, .slc, .slc, .slc]) (fun x41 x42 x43 x44 x45 x46 x47 x48 x49 x50 x51 w =>
            semU Tryd.prog (Instr.storeAt 29 (.pointer (some x2)) (.agg #[(.int .i64 x41), (.int .i64 x42), (.int .i64 x43), (.int .i64 x44), (.int .i64 x45), (.int .i64 x46), (.string x47), (.slice x48.a x48.len x48.cap), (.slice x49.a x49.len x49.cap), (.slice x50.a x50.len x50.cap), (.slice x51.a x51.len x51.cap)])) (fun w =>
            ∃ v52, (loadVar 29 x2).run Tryd.prog w = .ok v52 w ∧ decR [(.agg [(.int .i64), (.int .i64), (.int .i64), (.int .i64), (.int .i64), (.int .i64), .str, .slc, .slc, .slc, .slc])] v52 K fun r => r w) w) w) w) w) w)
            (semS Tryd.prog (Instr.loadAt 29 (.pointer (some x1))) (.agg [(.int .i64), (.int .i64), (.int .i64), (.int .i64), (.int .i64), (.int .i64), .str, .slc, .slc, .slc, .slc]) (fun x53 x54 x55 x56 x57 x58 x59 x60 x61 x62 x63 w =>
            semU Tryd.prog (Instr.storeAt 29 (.pointer (some x2)) (.agg #[(.int .i64 x53), (.int .i64 x54), (.int .i64 x55), (.int .i64 x56), (.int .i64 x57), (.int .i64 x58), (.string x59), (.slice x60.a x60.len x60.cap), (.slice x61.a x61.len x61.cap), (.slice x62.a x62.len x62.cap), (.slice x63.a x63.len x63.cap)])) (fun w =>
            ∃ v64, (loadVar 29 x2).run Tryd.prog w = .ok v64 w ∧ decR [(.agg [(.int .i64), (.int .i64), (.int .i64), (.int .i64), (.int .i64), (.int .i64), .str, .slc, .slc, .slc, .slc])] v64 K fun r => r w) w) w)))))) w) w) w
theorem f40_ok {p0_0 : Int} {p0_1 : Int} {p0_2 : Int} {p0_3 : Int} {p0_4 : Int} {p0_5 : Int} {p0_6 : ByteArray} {p0_7 : Sl} {p0_8 : Sl} {p0_9 : Sl} {p0_10 : Sl} {K : Int → Int → Int → Int → Int → Int → ByteArray → Sl → Sl → Sl → Sl → World → Prop} {w : World} (h : f40 p0_0 p0_1 p0_2 p0_3 p0_4 p0_5 p0_6 p0_7 p0_8 p0_9 p0_10 K w) : callS Tryd.prog 40 #[(.agg #[(.int .i64 p0_0), (.int .i64 p0_1), (.int .i64 p0_2), (.int .i64 p0_3), (.int .i64 p0_4), (.int .i64 p0_5), (.string p0_6), (.slice p0_7.a p0_7.len p0_7.cap), (.slice p0_8.a p0_8.len p0_8.cap), (.slice p0_9.a p0_9.len p0_9.cap), (.slice p0_10.a p0_10.len p0_10.cap)])] [(.agg [(.int .i64), (.int .i64), (.int .i64), (.int .i64), (.int .i64), (.int .i64), .str, .slc, .slc, .slc, .slc])] K w :=
  calls_of_fn (args := [(.agg #[(.int .i64 p0_0), (.int .i64 p0_1), (.int .i64 p0_2), (.int .i64 p0_3), (.int .i64 p0_4), (.int .i64 p0_5), (.string p0_6), (.slice p0_7.a p0_7.len p0_7.cap), (.slice p0_8.a p0_8.len p0_8.cap), (.slice p0_9.a p0_9.len p0_9.cap), (.slice p0_10.a p0_10.len p0_10.cap)])]) Tryd.f40 [] [] [] (.two .nil (.two (.two .nil (.one (.two (.one (.two (.one (.join [] .nil .nil)) .nil)) .nil))) .nil)) (by kernel_rfl) (by kernel_rfl)
    (Eq.mp (by kernel_rfl : f40 p0_0 p0_1 p0_2 p0_3 p0_4 p0_5 p0_6 p0_7 p0_8 p0_9 p0_10 K w = evFn Tryd.prog Tryd.f40 [] [] [] (.two .nil (.two (.two .nil (.one (.two (.one (.two (.one (.join [] .nil .nil)) .nil)) .nil))) .nil)) [(.agg #[(.int .i64 p0_0), (.int .i64 p0_1), (.int .i64 p0_2), (.int .i64 p0_3), (.int .i64 p0_4), (.int .i64 p0_5), (.string p0_6), (.slice p0_7.a p0_7.len p0_7.cap), (.slice p0_8.a p0_8.len p0_8.cap), (.slice p0_9.a p0_9.len p0_9.cap), (.slice p0_10.a p0_10.len p0_10.cap)])] [(.agg [(.int .i64), (.int .i64), (.int .i64), (.int .i64), (.int .i64), (.int .i64), .str, .slc, .slc, .slc, .slc])] K w) h)

/-- (sallyport/descr.Descr).nothing -/
def f41 (p0_0 : Int) (p0_1 : Int) (p0_2 : Int) (p0_3 : Int) (p0_4 : Int) (p0_5 : Int) (p0_6 : ByteArray) (p0_7 : Sl) (p0_8 : Sl) (p0_9 : Sl) (p0_10 : Sl) (K : Bool → World → Prop) (w : World) : Prop :=
  semS Tryd.prog (Instr.box 29 (.agg #[(.int .i64 p0_0), (.int .i64 p0_1), (.int .i64 p0_2), (.int .i64 p0_3), (.int .i64 p0_4), (.int .i64 p0_5), (.string p0_6), (.slice p0_7.a p0_7.len p0_7.cap), (.slice p0_8.a p0_8.len p0_8.cap), (.slice p0_9.a p0_9.len p0_9.cap), (.slice p0_10.a p0_10.len p0_10.cap)])) (.one .adr) (fun x1 w =>
  semS Tryd.prog (Instr.loadAt 3 (.pointer (some (x1.add 1)))) (.one (.int .i64)) (fun x2 w =>
  joinS (σ := Bool) (fun b3 w =>
    joinS (σ := Bool) (fun b5 w =>
      joinS (σ := Bool) (fun b7 w =>
        joinS (σ := Bool) (fun b9 w =>
          joinS (σ := Bool) (fun b11 w =>
            joinS (σ := Bool) (fun b13 w =>
              K b13 w) fun J14 =>
            cond b11
              (semS Tryd.prog (Instr.loadAt 22 (.pointer (some (x1.add 7)))) (.one .slc) (fun x15 w =>
                semS Tryd.prog (Instr.loadAt 22 (.pointer (some (x1.add 8)))) (.one .slc) (fun x16 w =>
                semS Tryd.prog (Instr.loadAt 22 (.pointer (some (x1.add 9)))) (.one .slc) (fun x17 w =>
                semS Tryd.prog (Instr.loadAt 22 (.pointer (some (x1.add 10)))) (.one .slc) (fun x18 w =>
                J14 ((IntKind.wrap .i64 ((IntKind.wrap .i64 ((IntKind.wrap .i64 ((x15.len : Int) + (x16.len : Int))) + (x17.len : Int))) + (x18.len : Int))) == 0) w) w) w) w) w)
              (J14 false w)) fun J12 =>
          cond b9
            (semS Tryd.prog (Instr.loadAt 9 (.pointer (some (x1.add 6)))) (.one .str) (fun x19 w =>
              J12 (x19.toList == (ByteArray.mk #[]).toList) w) w)
            (J12 false w)) fun J10 =>
        cond b7
          (semS Tryd.prog (Instr.loadAt 3 (.pointer (some (x1.add 5)))) (.one (.int .i64)) (fun x20 w =>
            J10 (x20 == 0) w) w)
          (J10 false w)) fun J8 =>
      cond b5
        (semS Tryd.prog (Instr.loadAt 3 (.pointer (some (x1.add 4)))) (.one (.int .i64)) (fun x21 w =>
          J8 (x21 == 0) w) w)
        (J8 false w)) fun J6 =>
    cond b3
      (semS Tryd.prog (Instr.loadAt 3 (.pointer (some (x1.add 3)))) (.one (.int .i64)) (fun x22 w =>
        J6 (x22 == 0) w) w)
      (J6 false w)) fun J4 =>
  cond (x2 == 0)
    (semS Tryd.prog (Instr.loadAt 3 (.pointer (some (x1.add 2)))) (.one (.int .i64)) (fun x23 w =>
      J4 (x23 == 0) w) w)
    (J4 false w)) w) w
theorem f41_ok {p0_0 : Int} {p0_1 : Int} {p0_2 : Int} {p0_3 : Int} {p0_4 : Int} {p0_5 : Int} {p0_6 : ByteArray} {p0_7 : Sl} {p0_8 : Sl} {p0_9 : Sl} {p0_10 : Sl} {K : Bool → World → Prop} {w : World} (h : f41 p0_0 p0_1 p0_2 p0_3 p0_4 p0_5 p0_6 p0_7 p0_8 p0_9 p0_10 K w) : callS Tryd.prog 41 #[(.agg #[(.int .i64 p0_0), (.int .i64 p0_1), (.int .i64 p0_2), (.int .i64 p0_3), (.int .i64 p0_4), (.int .i64 p0_5), (.string p0_6), (.slice p0_7.a p0_7.len p0_7.cap), (.slice p0_8.a p0_8.len p0_8.cap), (.slice p0_9.a p0_9.len p0_9.cap), (.slice p0_10.a p0_10.len p0_10.cap)])] [(.one .bool)] K w :=
  calls_of_fn (args := [(.agg #[(.int .i64 p0_0), (.int .i64 p0_1), (.int .i64 p0_2), (.int .i64 p0_3), (.int .i64 p0_4), (.int .i64 p0_5), (.string p0_6), (.slice p0_7.a p0_7.len p0_7.cap), (.slice p0_8.a p0_8.len p0_8.cap), (.slice p0_9.a p0_9.len p0_9.cap), (.slice p0_10.a p0_10.len p0_10.cap)])]) Tryd.f41 [] [] [] .nil (by kernel_rfl) (by kernel_rfl)
    (Eq.mp (by kernel_rfl : f41 p0_0 p0_1 p0_2 p0_3 p0_4 p0_5 p0_6 p0_7 p0_8 p0_9 p0_10 K w = evFn Tryd.prog Tryd.f41 [] [] [] .nil [(.agg #[(.int .i64 p0_0), (.int .i64 p0_1), (.int .i64 p0_2), (.int .i64 p0_3), (.int .i64 p0_4), (.int .i64 p0_5), (.string p0_6), (.slice p0_7.a p0_7.len p0_7.cap), (.slice p0_8.a p0_8.len p0_8.cap), (.slice p0_9.a p0_9.len p0_9.cap), (.slice p0_10.a p0_10.len p0_10.cap)])] [(.one .bool)] K w) h)

/-- sallyport/descr.named$1 -/
def f57 (p0 : Int) (K : Bool → World → Prop) (w : World) : Prop :=
  K (!((((decide (p0 ≥ 97)) && (decide (p0 ≤ 122))) || ((decide (p0 ≥ 48)) && (decide (p0 ≤ 57)))) || (p0 == 95))) w
theorem f57_ok {p0 : Int} {K : Bool → World → Prop} {w : World} (h : f57 p0 K w) : callS Tryd.prog 57 #[(.int .i32 p0)] [(.one .bool)] K w :=
  calls_of_fn (args := [(.int .i32 p0)]) Tryd.f57 [] [] [] .nil (by kernel_rfl) (by kernel_rfl)
    (Eq.mp (by kernel_rfl : f57 p0 K w = evFn Tryd.prog Tryd.f57 [] [] [] .nil [(.int .i32 p0)] [(.one .bool)] K w) h)

/-- sallyport/descr.named -/
def f42 (p0 : ByteArray) (K : Bool → World → Prop) (w : World) : Prop :=
  joinS (σ := Bool) (fun b1 w =>
    K b1 w) fun J2 =>
  cond ((!(p0.toList == (ByteArray.mk #[]).toList)) && (decide ((p0.size : Int) ≤ 24)))
    (callS Tryd.prog 55 #[(.string p0), (.func (.func 57) #[] #[])] [(.one .bool)] (fun r3 w =>
      J2 (!r3) w) w)
    (J2 false w)
theorem f42_ok {p0 : ByteArray} {K : Bool → World → Prop} {w : World} (h : f42 p0 K w) : callS Tryd.prog 42 #[(.string p0)] [(.one .bool)] K w :=
  calls_of_fn (args := [(.string p0)]) Tryd.f42 [] [] [] .nil (by kernel_rfl) (by kernel_rfl)
    (Eq.mp (by kernel_rfl : f42 p0 K w = evFn Tryd.prog Tryd.f42 [] [] [] .nil [(.string p0)] [(.one .bool)] K w) h)

/-- (sallyport/descr.Descr).digest -/
def f43 (p0_0 : Int) (p0_1 : Int) (p0_2 : Int) (p0_3 : Int) (p0_4 : Int) (p0_5 : Int) (p0_6 : ByteArray) (p0_7 : Sl) (p0_8 : Sl) (p0_9 : Sl) (p0_10 : Sl) (K : Bool → World → Prop) (w : World) : Prop :=
  semS Tryd.prog (Instr.box 29 (.agg #[(.int .i64 p0_0), (.int .i64 p0_1), (.int .i64 p0_2), (.int .i64 p0_3), (.int .i64 p0_4), (.int .i64 p0_5), (.string p0_6), (.slice p0_7.a p0_7.len p0_7.cap), (.slice p0_8.a p0_8.len p0_8.cap), (.slice p0_9.a p0_9.len p0_9.cap), (.slice p0_10.a p0_10.len p0_10.cap)])) (.one .adr) (fun x1 w =>
  drawS w fun C w =>
  semQ Tryd.prog C (Instr.loadAt 3 (.pointer (some (x1.add 1)))) (.one (.int .i64)) (fun x2 =>
  callS Tryd.prog 24 #[(.int .i64 x2)] [(.one (.int .i64))] (fun r3 w =>
  moreS C w (fun C =>
  cond (r3 != 0)
    (semQ Tryd.prog C (Instr.loadAt 22 (.pointer (some (x1.add 8)))) (.one .slc) (fun x4 =>
    semQ Tryd.prog C (Instr.loadAt 3 (.pointer (some (x1.add 1)))) (.one (.int .i64)) (fun x5 =>
    callS Tryd.prog 24 #[(.int .i64 x5)] [(.one (.int .i64))] (fun r6 w =>
    moreS C w (fun C =>
    cond ((x4.len : Int) == r6)
      (semQ Tryd.prog C (Instr.loadAt 22 (.pointer (some (x1.add 7)))) (.one .slc) (fun x7 =>
      K (decide ((x7.len : Int) ≤ 64)) w))
      (K false w))) w)))
    (K false w))) w)) w
theorem f43_ok {p0_0 : Int} {p0_1 : Int} {p0_2 : Int} {p0_3 : Int} {p0_4 : Int} {p0_5 : Int} {p0_6 : ByteArray} {p0_7 : Sl} {p0_8 : Sl} {p0_9 : Sl} {p0_10 : Sl} {K : Bool → World → Prop} {w : World} (h : f43 p0_0 p0_1 p0_2 p0_3 p0_4 p0_5 p0_6 p0_7 p0_8 p0_9 p0_10 K w) : callS Tryd.prog 43 #[(.agg #[(.int .i64 p0_0), (.int .i64 p0_1), (.int .i64 p0_2), (.int .i64 p0_3), (.int .i64 p0_4), (.int .i64 p0_5), (.string p0_6), (.slice p0_7.a p0_7.len p0_7.cap), (.slice p0_8.a p0_8.len p0_8.cap), (.slice p0_9.a p0_9.len p0_9.cap), (.slice p0_10.a p0_10.len p0_10.cap)])] [(.one .bool)] K w :=
  calls_of_fn (args := [(.agg #[(.int .i64 p0_0), (.int .i64 p0_1), (.int .i64 p0_2), (.int .i64 p0_3), (.int .i64 p0_4), (.int .i64 p0_5), (.string p0_6), (.slice p0_7.a p0_7.len p0_7.cap), (.slice p0_8.a p0_8.len p0_8.cap), (.slice p0_9.a p0_9.len p0_9.cap), (.slice p0_10.a p0_10.len p0_10.cap)])]) Tryd.f43 [] [] [] (.two .nil (.two (.draw [0, 1, 3, 7, 15, 31, 63, 127, 31, 287, 799, 2047, 4095, 8191, 16383, 32767, 65535, 131071, 262143, 524287]) .nil)) (by kernel_rfl) (by kernel_rfl)
    (Eq.mp (by kernel_rfl : f43 p0_0 p0_1 p0_2 p0_3 p0_4 p0_5 p0_6 p0_7 p0_8 p0_9 p0_10 K w = evFn Tryd.prog Tryd.f43 [] [] [] (.two .nil (.two (.draw [0, 1, 3, 7, 15, 31, 63, 127, 31, 287, 799, 2047, 4095, 8191, 16383, 32767, 65535, 131071, 262143, 524287]) .nil)) [(.agg #[(.int .i64 p0_0), (.int .i64 p0_1), (.int .i64 p0_2), (.int .i64 p0_3), (.int .i64 p0_4), (.int .i64 p0_5), (.string p0_6), (.slice p0_7.a p0_7.len p0_7.cap), (.slice p0_8.a p0_8.len p0_8.cap), (.slice p0_9.a p0_9.len p0_9.cap), (.slice p0_10.a p0_10.len p0_10.cap)])] [(.one .bool)] K w) h)

def f22_t1 (x1 : Addr) (K : Bool → World → Prop) (z19 : Addr) (w : World) : Prop :=
  semS Tryd.prog (Instr.loadAt 29 (.pointer (some x1))) (.agg [(.int .i64), (.int .i64), (.int .i64), (.int .i64), (.int .i64), (.int .i64), .str, .slc, .slc, .slc, .slc]) (fun x20 x21 x22 x23 x24 x25 x26 x27 x28 x29 x30 w =>
  callS Tryd.prog 43 #[(.agg #[(.int .i64 x20), (.int .i64 x21), (.int .i64 x22), (.int .i64 x23), (.int .i64 x24), (.int .i64 x25), (.string x26), (.slice x27.a x27.len x27.cap), (.slice x28.a x28.len x28.cap), (.slice x29.a x29.len x29.cap), (.slice x30.a x30.len x30.cap)])] [(.one .bool)] (fun r31 w =>
  joinS (σ := Bool) (fun b32 w =>
    joinS (σ := Bool) (fun b34 w =>
      joinS (σ := Bool) (fun b36 w =>
        K b36 w) fun J37 =>
      cond b34
        (semS Tryd.prog (Instr.loadAt 3 (.pointer (some (x1.add 4)))) (.one (.int .i64)) (fun x38 w =>
          J37 (decide (x38 ≤ 1099511627776)) w) w)
        (J37 false w)) fun J35 =>
    cond b32
      (semS Tryd.prog (Instr.loadAt 3 (.pointer (some (x1.add 4)))) (.one (.int .i64)) (fun x39 w =>
        semS Tryd.prog (Instr.loadAt 3 (.pointer (some (x1.add 2)))) (.one (.int .i64)) (fun x40 w =>
        J35 (decide (x39 ≥ x40)) w) w) w)
      (J35 false w)) fun J33 =>
  cond r31
    (semS Tryd.prog (Instr.loadAt 62 (.pointer (some z19))) (.agg [(.int .i64), (.int .i64), (.int .i64)]) (fun x41 x42 x43 w =>
      callS Tryd.prog 44 #[(.agg #[(.int .i64 x41), (.int .i64 x42), (.int .i64 x43)])] [(.one .bool)] (fun r44 w =>
      J33 r44 w) w) w)
    (J33 false w)) w) w

/-- (sallyport/descr.Descr).Right -/
def f22 (p0_0 : Int) (p0_1 : Int) (p0_2 : Int) (p0_3 : Int) (p0_4 : Int) (p0_5 : Int) (p0_6 : ByteArray) (p0_7 : Sl) (p0_8 : Sl) (p0_9 : Sl) (p0_10 : Sl) (K : Bool → World → Prop) (w : World) : Prop :=
  semS Tryd.prog (Instr.box 29 (.agg #[(.int .i64 p0_0), (.int .i64 p0_1), (.int .i64 p0_2), (.int .i64 p0_3), (.int .i64 p0_4), (.int .i64 p0_5), (.string p0_6), (.slice p0_7.a p0_7.len p0_7.cap), (.slice p0_8.a p0_8.len p0_8.cap), (.slice p0_9.a p0_9.len p0_9.cap), (.slice p0_10.a p0_10.len p0_10.cap)])) (.one .adr) (fun x1 w =>
  semS Tryd.prog (Instr.loadAt 3 (.pointer (some (x1.add 0)))) (.one (.int .i64)) (fun x2 w =>
  joinS (σ := Bool) (fun b3 w =>
    joinS (σ := Bool) (fun b5 w =>
      joinS (σ := Bool) (fun b7 w =>
        joinS (σ := Bool) (fun b9 w =>
          cond b9
            (K false w)
            (semS Tryd.prog (Instr.loadAt 3 (.pointer (some (x1.add 0)))) (.one (.int .i64)) (fun x11 w =>
            cond (x11 == 1)
              (drawS w fun C w =>
              semQ Tryd.prog C (Instr.loadAt 3 (.pointer (some (x1.add 2)))) (.one (.int .i64)) (fun x12 =>
              semQ Tryd.prog C (Instr.loadAt 3 (.pointer (some (x1.add 3)))) (.one (.int .i64)) (fun x13 =>
              semQ Tryd.prog C (Instr.loadAt 3 (.pointer (some (x1.add 1)))) (.one (.int .i64)) (fun x14 =>
              (callS Tryd.prog 24 #[(.int .i64 x14)] [(.one (.int .i64))] (fun r15 w =>
              moreS C w (fun C =>
              semS Tryd.prog (Instr.alloc 62 true (.tuple #[])) (.one .adr) (fun x16 w =>
                moreS C w (fun C =>
                semU Tryd.prog (Instr.storeAt 62 (.pointer (some x16)) (.agg #[(.int .i64 x12), (.int .i64 x13), (.int .i64 r15)])) (fun w =>
                f22_t1 x1 K x16 w) w)) w)) w) ∧
              (semS Tryd.prog (Instr.alloc 62 true (.tuple #[])) (.one .adr) (fun x17 w =>
              moreS C w (fun C =>
              callS Tryd.prog 24 #[(.int .i64 x14)] [(.one (.int .i64))] (fun r18 w =>
                moreS C w (fun C =>
                semU Tryd.prog (Instr.storeAt 62 (.pointer (some x17)) (.agg #[(.int .i64 x12), (.int .i64 x13), (.int .i64 r18)])) (fun w =>
                f22_t1 x1 K x17 w) w)) w)) w)))))
              (cond (x11 == 2)
                (semS Tryd.prog (Instr.loadAt 29 (.pointer (some x1))) (.agg [(.int .i64), (.int .i64), (.int .i64), (.int .i64), (.int .i64), (.int .i64), .str, .slc, .slc, .slc, .slc]) (fun x45 x46 x47 x48 x49 x50 x51 x52 x53 x54 x55 w =>
                callS Tryd.prog 43 #[(.agg #[(.int .i64 x45), (.int .i64 x46), (.int .i64 x47), (.int .i64 x48), (.int .i64 x49), (.int .i64 x50), (.string x51), (.slice x52.a x52.len x52.cap), (.slice x53.a x53.len x53.cap), (.slice x54.a x54.len x54.cap), (.slice x55.a x55.len x55.cap)])] [(.one .bool)] (fun r56 w =>
                joinS (σ := Bool) (fun b57 w =>
                  joinS (σ := Bool) (fun b59 w =>
                    K b59 w) fun J60 =>
                  cond b57
                    (semS Tryd.prog (Instr.loadAt 3 (.pointer (some (x1.add 2)))) (.one (.int .i64)) (fun x61 w =>
                      J60 (decide (x61 ≤ 1099511627776)) w) w)
                    (J60 false w)) fun J58 =>
                cond r56
                  (semS Tryd.prog (Instr.loadAt 3 (.pointer (some (x1.add 2)))) (.one (.int .i64)) (fun x62 w =>
                    J58 (decide (x62 ≥ 0)) w) w)
                  (J58 false w)) w) w)
                (cond (x11 == 4)
                  (semS Tryd.prog (Instr.loadAt 3 (.pointer (some (x1.add 5)))) (.one (.int .i64)) (fun x63 w =>
                  joinS (σ := Bool) (fun b64 w =>
                    joinS (σ := Bool) (fun b66 w =>
                      joinS (σ := Bool) (fun b68 w =>
                        K b68 w) fun J69 =>
                      cond b66
                        (semS Tryd.prog (Instr.loadAt 22 (.pointer (some (x1.add 9)))) (.one .slc) (fun x70 w =>
                          J69 (decide ((x70.len : Int) ≤ 1032)) w) w)
                        (J69 false w)) fun J67 =>
                    cond b64
                      (semS Tryd.prog (Instr.loadAt 22 (.pointer (some (x1.add 9)))) (.one .slc) (fun x71 w =>
                        J67 (decide ((x71.len : Int) ≥ 1)) w) w)
                      (J67 false w)) fun J65 =>
                  cond (decide (x63 ≥ 1))
                    (semS Tryd.prog (Instr.loadAt 3 (.pointer (some (x1.add 5)))) (.one (.int .i64)) (fun x72 w =>
                      J65 (decide (x72 < 32)) w) w)
                    (J65 false w)) w)
                  (K true w)))) w)) fun J10 =>
        cond b7
          (J10 true w)
          (semS Tryd.prog (Instr.loadAt 22 (.pointer (some (x1.add 10)))) (.one .slc) (fun x73 w =>
            J10 (decide ((x73.len : Int) > 256)) w) w)) fun J8 =>
      cond b5
        (J8 true w)
        (semS Tryd.prog (Instr.loadAt 3 (.pointer (some (x1.add 0)))) (.one (.int .i64)) (fun x74 w =>
          joinS (σ := Bool) (fun b75 w =>
            J8 b75 w) fun J76 =>
          cond (x74 != 3)
            (semS Tryd.prog (Instr.loadAt 9 (.pointer (some (x1.add 6)))) (.one .str) (fun x77 w =>
              callS Tryd.prog 42 #[(.string x77)] [(.one .bool)] (fun r78 w =>
              J76 (!r78) w) w) w)
            (J76 false w)) w)) fun J6 =>
    cond b3
      (J6 true w)
      (semS Tryd.prog (Instr.loadAt 29 (.pointer (some x1))) (.agg [(.int .i64), (.int .i64), (.int .i64), (.int .i64), (.int .i64), (.int .i64), .str, .slc, .slc, .slc, .slc]) (fun x79 x80 x81 x82 x83 x84 x85 x86 x87 x88 x89 w =>
        callS Tryd.prog 40 #[(.agg #[(.int .i64 x79), (.int .i64 x80), (.int .i64 x81), (.int .i64 x82), (.int .i64 x83), (.int .i64 x84), (.string x85), (.slice x86.a x86.len x86.cap), (.slice x87.a x87.len x87.cap), (.slice x88.a x88.len x88.cap), (.slice x89.a x89.len x89.cap)])] [(.agg [(.int .i64), (.int .i64), (.int .i64), (.int .i64), (.int .i64), (.int .i64), .str, .slc, .slc, .slc, .slc])] (fun r90 r91 r92 r93 r94 r95 r96 r97 r98 r99 r100 w =>
        callS Tryd.prog 41 #[(.agg #[(.int .i64 r90), (.int .i64 r91), (.int .i64 r92), (.int .i64 r93), (.int .i64 r94), (.int .i64 r95), (.string r96), (.slice r97.a r97.len r97.cap), (.slice r98.a r98.len r98.cap), (.slice r99.a r99.len r99.cap), (.slice r100.a r100.len r100.cap)])] [(.one .bool)] (fun r101 w =>
        J6 (!r101) w) w) w) w)) fun J4 =>
  cond (decide (x2 < 0))
    (J4 true w)
    (semS Tryd.prog (Instr.loadAt 3 (.pointer (some (x1.add 0)))) (.one (.int .i64)) (fun x102 w =>
      J4 (decide (x102 > 4)) w) w)) w) w
theorem f22_ok {p0_0 : Int} {p0_1 : Int} {p0_2 : Int} {p0_3 : Int} {p0_4 : Int} {p0_5 : Int} {p0_6 : ByteArray} {p0_7 : Sl} {p0_8 : Sl} {p0_9 : Sl} {p0_10 : Sl} {K : Bool → World → Prop} {w : World} (h : f22 p0_0 p0_1 p0_2 p0_3 p0_4 p0_5 p0_6 p0_7 p0_8 p0_9 p0_10 K w) : callS Tryd.prog 22 #[(.agg #[(.int .i64 p0_0), (.int .i64 p0_1), (.int .i64 p0_2), (.int .i64 p0_3), (.int .i64 p0_4), (.int .i64 p0_5), (.string p0_6), (.slice p0_7.a p0_7.len p0_7.cap), (.slice p0_8.a p0_8.len p0_8.cap), (.slice p0_9.a p0_9.len p0_9.cap), (.slice p0_10.a p0_10.len p0_10.cap)])] [(.one .bool)] K w :=
  calls_of_fn (args := [(.agg #[(.int .i64 p0_0), (.int .i64 p0_1), (.int .i64 p0_2), (.int .i64 p0_3), (.int .i64 p0_4), (.int .i64 p0_5), (.string p0_6), (.slice p0_7.a p0_7.len p0_7.cap), (.slice p0_8.a p0_8.len p0_8.cap), (.slice p0_9.a p0_9.len p0_9.cap), (.slice p0_10.a p0_10.len p0_10.cap)])]) Tryd.f22 [] [] [] (.two .nil (.two .nil (.two (.two .nil (.one (.two .nil (.two (.two (.draw [0, 1, 0, 4, 0, 16, 48, 127, 0, 511]) .nil) .nil)))) .nil))) (by kernel_rfl) (by kernel_rfl)
    (Eq.mp (by kernel_rfl : f22 p0_0 p0_1 p0_2 p0_3 p0_4 p0_5 p0_6 p0_7 p0_8 p0_9 p0_10 K w = evFn Tryd.prog Tryd.f22 [] [] [] (.two .nil (.two .nil (.two (.two .nil (.one (.two .nil (.two (.two (.draw [0, 1, 0, 4, 0, 16, 48, 127, 0, 511]) .nil) .nil)))) .nil))) [(.agg #[(.int .i64 p0_0), (.int .i64 p0_1), (.int .i64 p0_2), (.int .i64 p0_3), (.int .i64 p0_4), (.int .i64 p0_5), (.string p0_6), (.slice p0_7.a p0_7.len p0_7.cap), (.slice p0_8.a p0_8.len p0_8.cap), (.slice p0_9.a p0_9.len p0_9.cap), (.slice p0_10.a p0_10.len p0_10.cap)])] [(.one .bool)] K w) h)

/-- sallyport/verity.Open -/
def f10 (p0 : Option Addr) (p1 : ByteArray) (p2_0 : Int) (p2_1 : Int) (p2_2 : Int) (p2_3 : Int) (p2_4 : Int) (p2_5 : Int) (p2_6 : ByteArray) (p2_7 : Sl) (p2_8 : Sl) (p2_9 : Sl) (p2_10 : Sl) (p3 : Int) (K : (Option Addr) → Int → World → Prop) (w : World) : Prop :=
  semS Tryd.prog (Instr.box 29 (.agg #[(.int .i64 p2_0), (.int .i64 p2_1), (.int .i64 p2_2), (.int .i64 p2_3), (.int .i64 p2_4), (.int .i64 p2_5), (.string p2_6), (.slice p2_7.a p2_7.len p2_7.cap), (.slice p2_8.a p2_8.len p2_8.cap), (.slice p2_9.a p2_9.len p2_9.cap), (.slice p2_10.a p2_10.len p2_10.cap)])) (.one .adr) (fun x1 w =>
  semS Tryd.prog (Instr.loadAt 29 (.pointer (some x1))) (.agg [(.int .i64), (.int .i64), (.int .i64), (.int .i64), (.int .i64), (.int .i64), .str, .slc, .slc, .slc, .slc]) (fun x2 x3 x4 x5 x6 x7 x8 x9 x10 x11 x12 w =>
  callS Tryd.prog 22 #[(.agg #[(.int .i64 x2), (.int .i64 x3), (.int .i64 x4), (.int .i64 x5), (.int .i64 x6), (.int .i64 x7), (.string x8), (.slice x9.a x9.len x9.cap), (.slice x10.a x10.len x10.cap), (.slice x11.a x11.len x11.cap), (.slice x12.a x12.len x12.cap)])] [(.one .bool)] (fun r13 w =>
  joinS (σ := Bool) (fun b14 w =>
    cond ((b14 || (decide (p3 < 0))) || (decide (p3 > 1)))
      (K none 12 w)
      (drawS w fun C w =>
      semQ Tryd.prog C (Instr.loadAt 22 (.pointer (some (x1.add 7)))) (.one .slc) (fun x16 =>
      semQ Tryd.prog C (Instr.loadAt 22 (.pointer (some (x1.add 8)))) (.one .slc) (fun x17 =>
      callS Tryd.prog 23 #[(.slice x16.a x16.len x16.cap)] [(.one .slc)] (fun r18 w =>
      moreS C w (fun C =>
      callS Tryd.prog 23 #[(.slice x17.a x17.len x17.cap)] [(.one .slc)] (fun r19 w =>
      semU Tryd.prog (Instr.storeAt 22 (.pointer (some (x1.add 7))) (.slice r18.a r18.len r18.cap)) (fun w =>
      semU Tryd.prog (Instr.storeAt 22 (.pointer (some (x1.add 8))) (.slice r19.a r19.len r19.cap)) (fun w =>
      drawS w fun C w =>
      semQ Tryd.prog C (Instr.loadAt 29 (.pointer (some x1))) (.agg [(.int .i64), (.int .i64), (.int .i64), (.int .i64), (.int .i64), (.int .i64), .str, .slc, .slc, .slc, .slc]) (fun x20 x21 x22 x23 x24 x25 x26 x27 x28 x29 x30 =>
      semQ Tryd.prog C (Instr.loadAt 3 (.pointer (some (x1.add 2)))) (.one (.int .i64)) (fun x31 =>
      semQ Tryd.prog C (Instr.loadAt 3 (.pointer (some (x1.add 3)))) (.one (.int .i64)) (fun x32 =>
      semQ Tryd.prog C (Instr.loadAt 3 (.pointer (some (x1.add 1)))) (.one (.int .i64)) (fun x33 =>
      (callS Tryd.prog 24 #[(.int .i64 x33)] [(.one (.int .i64))] (fun r34 w =>
      moreS C w (fun C =>
      semS Tryd.prog (Instr.makeMap 63 none) (.one .mp) (fun x35 w =>
        moreS C w (fun C =>
        semS Tryd.prog (Instr.box 65 (.agg #[(.pointer p0), (.string p1), (.int .i64 x20), (.int .i64 x21), (.int .i64 x22), (.int .i64 x23), (.int .i64 x24), (.int .i64 x25), (.string x26), (.slice x27.a x27.len x27.cap), (.slice x28.a x28.len x28.cap), (.slice x29.a x29.len x29.cap), (.slice x30.a x30.len x30.cap), (.int .i64 x31), (.int .i64 x32), (.int .i64 r34), (.int .i64 p3), (.map x35), (.slice none 0 0), (.bool false), (.slice none 0 0)])) (.one .adr) (fun x36 w =>
        K (some x36) 0 w) w)) w)) w) ∧
      (semS Tryd.prog (Instr.makeMap 63 none) (.one .mp) (fun x37 w =>
      moreS C w (fun C =>
      callS Tryd.prog 24 #[(.int .i64 x33)] [(.one (.int .i64))] (fun r38 w =>
        moreS C w (fun C =>
        semS Tryd.prog (Instr.box 65 (.agg #[(.pointer p0), (.string p1), (.int .i64 x20), (.int .i64 x21), (.int .i64 x22), (.int .i64 x23), (.int .i64 x24), (.int .i64 x25), (.string x26), (.slice x27.a x27.len x27.cap), (.slice x28.a x28.len x28.cap), (.slice x29.a x29.len x29.cap), (.slice x30.a x30.len x30.cap), (.int .i64 x31), (.int .i64 x32), (.int .i64 r38), (.int .i64 p3), (.map x37), (.slice none 0 0), (.bool false), (.slice none 0 0)])) (.one .adr) (fun x39 w =>
        K (some x39) 0 w) w)) w)) w)))))) w) w) w)) w)))) fun J15 =>
  cond (!r13)
    (J15 true w)
    (semS Tryd.prog (Instr.loadAt 3 (.pointer (some (x1.add 0)))) (.one (.int .i64)) (fun x41 w =>
      J15 (x41 != 1) w) w)) w) w) w
theorem f10_ok {p0 : Option Addr} {p1 : ByteArray} {p2_0 : Int} {p2_1 : Int} {p2_2 : Int} {p2_3 : Int} {p2_4 : Int} {p2_5 : Int} {p2_6 : ByteArray} {p2_7 : Sl} {p2_8 : Sl} {p2_9 : Sl} {p2_10 : Sl} {p3 : Int} {K : (Option Addr) → Int → World → Prop} {w : World} (h : f10 p0 p1 p2_0 p2_1 p2_2 p2_3 p2_4 p2_5 p2_6 p2_7 p2_8 p2_9 p2_10 p3 K w) : callS Tryd.prog 10 #[(.pointer p0), (.string p1), (.agg #[(.int .i64 p2_0), (.int .i64 p2_1), (.int .i64 p2_2), (.int .i64 p2_3), (.int .i64 p2_4), (.int .i64 p2_5), (.string p2_6), (.slice p2_7.a p2_7.len p2_7.cap), (.slice p2_8.a p2_8.len p2_8.cap), (.slice p2_9.a p2_9.len p2_9.cap), (.slice p2_10.a p2_10.len p2_10.cap)]), (.int .i64 p3)] [(.one .ptr), (.one (.int .i64))] K w :=
  calls_of_fn (args := [(.pointer p0), (.string p1), (.agg #[(.int .i64 p2_0), (.int .i64 p2_1), (.int .i64 p2_2), (.int .i64 p2_3), (.int .i64 p2_4), (.int .i64 p2_5), (.string p2_6), (.slice p2_7.a p2_7.len p2_7.cap), (.slice p2_8.a p2_8.len p2_8.cap), (.slice p2_9.a p2_9.len p2_9.cap), (.slice p2_10.a p2_10.len p2_10.cap)]), (.int .i64 p3)]) Tryd.f10 [] [] [] (.two .nil (.two .nil (.two (.draw [0, 1, 3, 0, 8, 31, 31, 127, 255, 511]) (.two (.draw [0, 0, 0, 0, 8, 0, 32, 0, 128, 384, 1016, 0, 0, 8191, 16383, 32767, 65535]) .nil)))) (by kernel_rfl) (by kernel_rfl)
    (Eq.mp (by kernel_rfl : f10 p0 p1 p2_0 p2_1 p2_2 p2_3 p2_4 p2_5 p2_6 p2_7 p2_8 p2_9 p2_10 p3 K w = evFn Tryd.prog Tryd.f10 [] [] [] (.two .nil (.two .nil (.two (.draw [0, 1, 3, 0, 8, 31, 31, 127, 255, 511]) (.two (.draw [0, 0, 0, 0, 8, 0, 32, 0, 128, 384, 1016, 0, 0, 8191, 16383, 32767, 65535]) .nil)))) [(.pointer p0), (.string p1), (.agg #[(.int .i64 p2_0), (.int .i64 p2_1), (.int .i64 p2_2), (.int .i64 p2_3), (.int .i64 p2_4), (.int .i64 p2_5), (.string p2_6), (.slice p2_7.a p2_7.len p2_7.cap), (.slice p2_8.a p2_8.len p2_8.cap), (.slice p2_9.a p2_9.len p2_9.cap), (.slice p2_10.a p2_10.len p2_10.cap)]), (.int .i64 p3)] [(.one .ptr), (.one (.int .i64))] K w) h)

/-- (sallyport/place.Shape).arity -/
def f59 (p0_0 : Int) (p0_1 : Int) (p0_2 : Int) (K : Int → World → Prop) (w : World) : Prop :=
  semS Tryd.prog (Instr.box 62 (.agg #[(.int .i64 p0_0), (.int .i64 p0_1), (.int .i64 p0_2)])) (.one .adr) (fun x1 w =>
  semS Tryd.prog (Instr.loadAt 3 (.pointer (some (x1.add 1)))) (.one (.int .i64)) (fun x2 w =>
  semS Tryd.prog (Instr.loadAt 3 (.pointer (some (x1.add 2)))) (.one (.int .i64)) (fun x3 w =>
  semS Tryd.prog (binS .quo 3 (.tmp 4) (.tmp 6) (.int .i64 x2) (.int .i64 x3)) (.one (.int .i64)) (fun x4 w =>
  K x4 w) w) w) w) w
theorem f59_ok {p0_0 : Int} {p0_1 : Int} {p0_2 : Int} {K : Int → World → Prop} {w : World} (h : f59 p0_0 p0_1 p0_2 K w) : callS Tryd.prog 59 #[(.agg #[(.int .i64 p0_0), (.int .i64 p0_1), (.int .i64 p0_2)])] [(.one (.int .i64))] K w :=
  calls_of_fn (args := [(.agg #[(.int .i64 p0_0), (.int .i64 p0_1), (.int .i64 p0_2)])]) Tryd.f59 [] [] [] .nil (by kernel_rfl) (by kernel_rfl)
    (Eq.mp (by kernel_rfl : f59 p0_0 p0_1 p0_2 K w = evFn Tryd.prog Tryd.f59 [] [] [] .nil [(.agg #[(.int .i64 p0_0), (.int .i64 p0_1), (.int .i64 p0_2)])] [(.one (.int .i64))] K w) h)

/-- (sallyport/place.Shape).counts -/
def f45 (p0_0 : Int) (p0_1 : Int) (p0_2 : Int) (K : Sl → World → Prop) (w : World) : Prop :=
  semS Tryd.prog (Instr.box 62 (.agg #[(.int .i64 p0_0), (.int .i64 p0_1), (.int .i64 p0_2)])) (.one .adr) (fun x1 w =>
  semS Tryd.prog (Instr.loadAt 3 (.pointer (some (x1.add 0)))) (.one (.int .i64)) (fun x2 w =>
  semS Tryd.prog (Instr.loadAt 3 (.pointer (some (x1.add 1)))) (.one (.int .i64)) (fun x3 w =>
  semS Tryd.prog (Instr.loadAt 3 (.pointer (some (x1.add 1)))) (.one (.int .i64)) (fun x4 w =>
  semS Tryd.prog (binS .quo 3 (.tmp 10) (.tmp 12) (.int .i64 (IntKind.wrap .i64 ((IntKind.wrap .i64 (x2 + x3)) - 1))) (.int .i64 x4)) (.one (.int .i64)) (fun x5 w =>
  semS Tryd.prog (Instr.buildSlice 25 1 #[(0, (.int .i64 x5))]) (.one .slc) (fun x6 w =>
  loopS (σ := Int × Sl) (fun s7 w again8 =>
    cond (decide (s7.1 > 1))
      (drawS w fun C w =>
      semQ Tryd.prog C (Instr.loadAt 62 (.pointer (some x1))) (.agg [(.int .i64), (.int .i64), (.int .i64)]) (fun x9 x10 x11 =>
      semQ Tryd.prog C (Instr.loadAt 62 (.pointer (some x1))) (.agg [(.int .i64), (.int .i64), (.int .i64)]) (fun x12 x13 x14 =>
      callS Tryd.prog 59 #[(.agg #[(.int .i64 x9), (.int .i64 x10), (.int .i64 x11)])] [(.one (.int .i64))] (fun r15 w =>
      moreS C w (fun C =>
      callS Tryd.prog 59 #[(.agg #[(.int .i64 x12), (.int .i64 x13), (.int .i64 x14)])] [(.one (.int .i64))] (fun r16 w =>
      moreS C w (fun C =>
      semQ Tryd.prog C (binS .quo 3 (.tmp 22) (.tmp 24) (.int .i64 (IntKind.wrap .i64 ((IntKind.wrap .i64 (s7.1 + r15)) - 1))) (.int .i64 r16)) (.one (.int .i64)) (fun x17 =>
      semS Tryd.prog (Instr.buildSlice 25 1 #[(0, (.int .i64 x17))]) (.one .slc) (fun x18 w =>
      semS Tryd.prog (Builtin.append_ #[25, 25] 25 #[(.slice s7.2.a s7.2.len s7.2.cap), (.slice x18.a x18.len x18.cap)]) (.one .slc) (fun r19 w =>
      again8 (x17, r19) w) w) w))) w)) w)))
      (K s7.2 w)) (x5, x6) w) w) w) w) w) w) w
theorem f45_ok {p0_0 : Int} {p0_1 : Int} {p0_2 : Int} {K : Sl → World → Prop} {w : World} (h : f45 p0_0 p0_1 p0_2 K w) : callS Tryd.prog 45 #[(.agg #[(.int .i64 p0_0), (.int .i64 p0_1), (.int .i64 p0_2)])] [(.one .slc)] K w :=
  calls_of_fnS (args := [(.agg #[(.int .i64 p0_0), (.int .i64 p0_1), (.int .i64 p0_2)])]) Tryd.f45 [] [(3, (.int .i64)), (4, .slc)] [.nil, .nil] (.two (.two .nil (.two (.two (.draw [0, 0, 2, 7, 15, 0, 38, 127, 255]) .nil) .nil)) .nil) .nil (by kernel_rfl) (by kernel_rfl)
    (Eq.mp (by kernel_rfl : f45 p0_0 p0_1 p0_2 K w = evFnS Tryd.prog Tryd.f45 [] [(3, (.int .i64)), (4, .slc)] [.nil, .nil] (.two (.two .nil (.two (.two (.draw [0, 0, 2, 7, 15, 0, 38, 127, 255]) .nil) .nil)) .nil) .nil [(.agg #[(.int .i64 p0_0), (.int .i64 p0_1), (.int .i64 p0_2)])] [(.one .slc)] K w) h)

/-- (sallyport/place.Shape).parts -/
def f60 (p0_0 : Int) (p0_1 : Int) (p0_2 : Int) (p1 : Cx) (K : Int → Int → Int → World → Prop) (w : World) : Prop :=
  semS Tryd.prog (Instr.box 62 (.agg #[(.int .i64 p0_0), (.int .i64 p0_1), (.int .i64 p0_2)])) (.one .adr) (fun x1 w =>
  semS Tryd.prog (Instr.loadAt 62 (.pointer (some x1))) (.agg [(.int .i64), (.int .i64), (.int .i64)]) (fun x2 x3 x4 w =>
  callS Tryd.prog 45 #[(.agg #[(.int .i64 x2), (.int .i64 x3), (.int .i64 x4)])] [(.one .slc)] (fun r5 w =>
  cond (!(((((fOrd p1.re 0) == some .gt || (fOrd p1.re 0) == some .eq) && ((fOrd p1.re 4787326403894837248) == some .lt || (fOrd p1.re 4787326403894837248) == some .eq)) && ((fOrd p1.im 0) == some .gt || (fOrd p1.im 0) == some .eq)) && ((fOrd p1.im (FloatKind.nearest .f64 (r5.len : Int))) == some .lt)))
    (K 0 0 13 w)
    (semS Tryd.prog (convert 45 3 (.float .f64 p1.re)) (.one (.int .i64)) (fun x6 w =>
    semS Tryd.prog (convert 45 3 (.float .f64 p1.im)) (.one (.int .i64)) (fun x7 w =>
    joinS (σ := Bool) (fun b8 w =>
      cond b8
        (K 0 0 13 w)
        (K x6 x7 0 w)) fun J9 =>
    cond (!(fcEq (FloatKind.nearest .f64 x6) p1.re && fcEq (FloatKind.nearest .f64 x7) p1.im))
      (J9 true w)
      (semS Tryd.prog (Instr.indexAt 25 (.slice r5.a r5.len r5.cap) (.int .i64 x7)) (.one .adr) (fun x10 w =>
        semS Tryd.prog (Instr.loadAt 3 (.pointer (some x10))) (.one (.int .i64)) (fun x11 w =>
        J9 (decide (x6 ≥ x11)) w) w) w)) w) w)) w) w) w
theorem f60_ok {p0_0 : Int} {p0_1 : Int} {p0_2 : Int} {p1 : Cx} {K : Int → Int → Int → World → Prop} {w : World} (h : f60 p0_0 p0_1 p0_2 p1 K w) : callS Tryd.prog 60 #[(.agg #[(.int .i64 p0_0), (.int .i64 p0_1), (.int .i64 p0_2)]), (.complex .f64 p1.re p1.im)] [(.one (.int .i64)), (.one (.int .i64)), (.one (.int .i64))] K w :=
  calls_of_fn (args := [(.agg #[(.int .i64 p0_0), (.int .i64 p0_1), (.int .i64 p0_2)]), (.complex .f64 p1.re p1.im)]) Tryd.f60 [] [] [] .nil (by kernel_rfl) (by kernel_rfl)
    (Eq.mp (by kernel_rfl : f60 p0_0 p0_1 p0_2 p1 K w = evFn Tryd.prog Tryd.f60 [] [] [] .nil [(.agg #[(.int .i64 p0_0), (.int .i64 p0_1), (.int .i64 p0_2)]), (.complex .f64 p1.re p1.im)] [(.one (.int .i64)), (.one (.int .i64)), (.one (.int .i64))] K w) h)

/-- (sallyport/place.Shape).Above -/
def f46 (p0_0 : Int) (p0_1 : Int) (p0_2 : Int) (p1 : Cx) (K : Cx → Int → Int → World → Prop) (w : World) : Prop :=
  semS Tryd.prog (Instr.box 62 (.agg #[(.int .i64 p0_0), (.int .i64 p0_1), (.int .i64 p0_2)])) (.one .adr) (fun x1 w =>
  semS Tryd.prog (Instr.loadAt 62 (.pointer (some x1))) (.agg [(.int .i64), (.int .i64), (.int .i64)]) (fun x2 x3 x4 w =>
  callS Tryd.prog 44 #[(.agg #[(.int .i64 x2), (.int .i64 x3), (.int .i64 x4)])] [(.one .bool)] (fun r5 w =>
  cond (!r5)
    (K (⟨0, 0⟩) 0 24 w)
    (semS Tryd.prog (Instr.loadAt 62 (.pointer (some x1))) (.agg [(.int .i64), (.int .i64), (.int .i64)]) (fun x6 x7 x8 w =>
    callS Tryd.prog 60 #[(.agg #[(.int .i64 x6), (.int .i64 x7), (.int .i64 x8)]), (.complex .f64 p1.re p1.im)] [(.one (.int .i64)), (.one (.int .i64)), (.one (.int .i64))] (fun r9 r10 r11 w =>
    cond (r11 != 0)
      (K (⟨0, 0⟩) 0 r11 w)
      (semS Tryd.prog (Instr.loadAt 62 (.pointer (some x1))) (.agg [(.int .i64), (.int .i64), (.int .i64)]) (fun x12 x13 x14 w =>
      callS Tryd.prog 45 #[(.agg #[(.int .i64 x12), (.int .i64 x13), (.int .i64 x14)])] [(.one .slc)] (fun r15 w =>
      semS Tryd.prog (Instr.indexAt 25 (.slice r15.a r15.len r15.cap) (.int .i64 r10)) (.one .adr) (fun x16 w =>
      semS Tryd.prog (Instr.loadAt 3 (.pointer (some x16))) (.one (.int .i64)) (fun x17 w =>
      cond (x17 == 1)
        (K (⟨0, 0⟩) 0 51 w)
        (drawS w fun C w =>
        semQ Tryd.prog C (Instr.loadAt 62 (.pointer (some x1))) (.agg [(.int .i64), (.int .i64), (.int .i64)]) (fun x18 x19 x20 =>
        semQ Tryd.prog C (Instr.loadAt 62 (.pointer (some x1))) (.agg [(.int .i64), (.int .i64), (.int .i64)]) (fun x21 x22 x23 =>
        semQ Tryd.prog C (Instr.loadAt 3 (.pointer (some (x1.add 2)))) (.one (.int .i64)) (fun x24 =>
        callS Tryd.prog 59 #[(.agg #[(.int .i64 x18), (.int .i64 x19), (.int .i64 x20)])] [(.one (.int .i64))] (fun r25 w =>
        moreS C w (fun C =>
        semQ Tryd.prog C (binS .quo 3 (.tmp 30) (.tmp 32) (.int .i64 r9) (.int .i64 r25)) (.one (.int .i64)) (fun x26 =>
        semQ Tryd.prog C (binS .add 44 (.tmp 37) (.const (Go.Value.complex Go.FloatKind.f64 0 4607182418800017408)) (.complex .f64 (FloatKind.nearest .f64 x26) (FloatKind.nearest .f64 r10)) (.complex .f64 0 4607182418800017408)) (.one .cpx) (fun x27 =>
        callS Tryd.prog 59 #[(.agg #[(.int .i64 x21), (.int .i64 x22), (.int .i64 x23)])] [(.one (.int .i64))] (fun r28 w =>
        moreS C w (fun C =>
        semQ Tryd.prog C (binS .rem 3 (.tmp 39) (.tmp 41) (.int .i64 r9) (.int .i64 r28)) (.one (.int .i64)) (fun x29 =>
        K (⟨x27.re, x27.im⟩) (IntKind.wrap .i64 (x29 * x24)) 0 w))) w)))) w))))) w) w) w) w)) w) w)) w) w) w
theorem f46_ok {p0_0 : Int} {p0_1 : Int} {p0_2 : Int} {p1 : Cx} {K : Cx → Int → Int → World → Prop} {w : World} (h : f46 p0_0 p0_1 p0_2 p1 K w) : callS Tryd.prog 46 #[(.agg #[(.int .i64 p0_0), (.int .i64 p0_1), (.int .i64 p0_2)]), (.complex .f64 p1.re p1.im)] [(.one .cpx), (.one (.int .i64)), (.one (.int .i64))] K w :=
  calls_of_fn (args := [(.agg #[(.int .i64 p0_0), (.int .i64 p0_1), (.int .i64 p0_2)]), (.complex .f64 p1.re p1.im)]) Tryd.f46 [] [] [] (.two .nil (.two .nil (.two .nil (.two .nil (.two (.draw [0, 0, 2, 7, 15, 0, 32, 127, 255, 0, 0, 1030, 3590, 0, 8192, 32262, 3583, 131071, 262143]) .nil))))) (by kernel_rfl) (by kernel_rfl)
    (Eq.mp (by kernel_rfl : f46 p0_0 p0_1 p0_2 p1 K w = evFn Tryd.prog Tryd.f46 [] [] [] (.two .nil (.two .nil (.two .nil (.two .nil (.two (.draw [0, 0, 2, 7, 15, 0, 32, 127, 255, 0, 0, 1030, 3590, 0, 8192, 32262, 3583, 131071, 262143]) .nil))))) [(.agg #[(.int .i64 p0_0), (.int .i64 p0_1), (.int .i64 p0_2)]), (.complex .f64 p1.re p1.im)] [(.one .cpx), (.one (.int .i64)), (.one (.int .i64))] K w) h)

/-- slices.Clip[[]complex128,complex128] -/
def f47 (p0 : Sl) (K : Sl → World → Prop) (w : World) : Prop :=
  semS Tryd.prog (Instr.sliceAt 42 (.slice p0.a p0.len p0.cap) none (some (.int .i64 (p0.len : Int))) (some (.int .i64 (p0.len : Int)))) (.one .slc) (fun x1 w =>
  K x1 w) w
theorem f47_ok {p0 : Sl} {K : Sl → World → Prop} {w : World} (h : f47 p0 K w) : callS Tryd.prog 47 #[(.slice p0.a p0.len p0.cap)] [(.one .slc)] K w :=
  calls_of_fn (args := [(.slice p0.a p0.len p0.cap)]) Tryd.f47 [] [] [] .nil (by kernel_rfl) (by kernel_rfl)
    (Eq.mp (by kernel_rfl : f47 p0 K w = evFn Tryd.prog Tryd.f47 [] [] [] .nil [(.slice p0.a p0.len p0.cap)] [(.one .slc)] K w) h)

/-- (sallyport/place.Shape).Path -/
def f25 (p0_0 : Int) (p0_1 : Int) (p0_2 : Int) (p1 : Int) (K : Sl → Int → World → Prop) (w : World) : Prop :=
  semS Tryd.prog (Instr.box 62 (.agg #[(.int .i64 p0_0), (.int .i64 p0_1), (.int .i64 p0_2)])) (.one .adr) (fun x1 w =>
  semS Tryd.prog (Instr.loadAt 62 (.pointer (some x1))) (.agg [(.int .i64), (.int .i64), (.int .i64)]) (fun x2 x3 x4 w =>
  callS Tryd.prog 44 #[(.agg #[(.int .i64 x2), (.int .i64 x3), (.int .i64 x4)])] [(.one .bool)] (fun r5 w =>
  cond (!r5)
    (K (⟨none, 0, 0⟩) 24 w)
    (joinS (σ := Bool) (fun b6 w =>
      cond b6
        (K (⟨none, 0, 0⟩) 13 w)
        (semS Tryd.prog (Instr.buildSlice 42 1 #[(0, (.complex .f64 (FloatKind.nearest .f64 p1) 0))]) (.one .slc) (fun x8 w =>
        loopS (σ := Cx × Sl) (fun s9 w again10 =>
          semS Tryd.prog (Instr.loadAt 62 (.pointer (some x1))) (.agg [(.int .i64), (.int .i64), (.int .i64)]) (fun x11 x12 x13 w =>
          callS Tryd.prog 46 #[(.agg #[(.int .i64 x11), (.int .i64 x12), (.int .i64 x13)]), (.complex .f64 s9.1.re s9.1.im)] [(.one .cpx), (.one (.int .i64)), (.one (.int .i64))] (fun r14 r15 r16 w =>
          cond (r16 == 0)
            (semS Tryd.prog (Instr.buildSlice 42 1 #[(0, (.complex .f64 r14.re r14.im))]) (.one .slc) (fun x17 w =>
            semS Tryd.prog (Builtin.append_ #[42, 42] 42 #[(.slice s9.2.a s9.2.len s9.2.cap), (.slice x17.a x17.len x17.cap)]) (.one .slc) (fun r18 w =>
            again10 (⟨r14.re, r14.im⟩, r18) w) w) w)
            (callS Tryd.prog 47 #[(.slice s9.2.a s9.2.len s9.2.cap)] [(.one .slc)] (fun r19 w =>
            K r19 0 w) w)) w) w) (⟨FloatKind.nearest .f64 p1, 0⟩, x8) w) w)) fun J7 =>
    cond (decide (p1 < 0))
      (J7 true w)
      (semS Tryd.prog (Instr.loadAt 62 (.pointer (some x1))) (.agg [(.int .i64), (.int .i64), (.int .i64)]) (fun x20 x21 x22 w =>
        callS Tryd.prog 45 #[(.agg #[(.int .i64 x20), (.int .i64 x21), (.int .i64 x22)])] [(.one .slc)] (fun r23 w =>
        semS Tryd.prog (Instr.indexAt 25 (.slice r23.a r23.len r23.cap) (.int .i64 0)) (.one .adr) (fun x24 w =>
        semS Tryd.prog (Instr.loadAt 3 (.pointer (some x24))) (.one (.int .i64)) (fun x25 w =>
        J7 (decide (p1 ≥ x25)) w) w) w) w) w))) w) w) w
theorem f25_ok {p0_0 : Int} {p0_1 : Int} {p0_2 : Int} {p1 : Int} {K : Sl → Int → World → Prop} {w : World} (h : f25 p0_0 p0_1 p0_2 p1 K w) : callS Tryd.prog 25 #[(.agg #[(.int .i64 p0_0), (.int .i64 p0_1), (.int .i64 p0_2)]), (.int .i64 p1)] [(.one .slc), (.one (.int .i64))] K w :=
  calls_of_fnS (args := [(.agg #[(.int .i64 p0_0), (.int .i64 p0_1), (.int .i64 p0_2)]), (.int .i64 p1)]) Tryd.f25 [] [(6, .cpx), (7, .slc)] [.nil, .nil, .nil] .nil .nil (by kernel_rfl) (by kernel_rfl)
    (Eq.mp (by kernel_rfl : f25 p0_0 p0_1 p0_2 p1 K w = evFnS Tryd.prog Tryd.f25 [] [(6, .cpx), (7, .slc)] [.nil, .nil, .nil] .nil .nil [(.agg #[(.int .i64 p0_0), (.int .i64 p0_1), (.int .i64 p0_2)]), (.int .i64 p1)] [(.one .slc), (.one (.int .i64))] K w) h)

/-- (sallyport/place.Shape).Offset -/
def f61 (p0_0 : Int) (p0_1 : Int) (p0_2 : Int) (p1 : Cx) (K : Int → Int → World → Prop) (w : World) : Prop :=
  semS Tryd.prog (Instr.box 62 (.agg #[(.int .i64 p0_0), (.int .i64 p0_1), (.int .i64 p0_2)])) (.one .adr) (fun x1 w =>
  semS Tryd.prog (Instr.loadAt 62 (.pointer (some x1))) (.agg [(.int .i64), (.int .i64), (.int .i64)]) (fun x2 x3 x4 w =>
  callS Tryd.prog 44 #[(.agg #[(.int .i64 x2), (.int .i64 x3), (.int .i64 x4)])] [(.one .bool)] (fun r5 w =>
  cond (!r5)
    (K 0 24 w)
    (semS Tryd.prog (Instr.loadAt 62 (.pointer (some x1))) (.agg [(.int .i64), (.int .i64), (.int .i64)]) (fun x6 x7 x8 w =>
    callS Tryd.prog 60 #[(.agg #[(.int .i64 x6), (.int .i64 x7), (.int .i64 x8)]), (.complex .f64 p1.re p1.im)] [(.one (.int .i64)), (.one (.int .i64)), (.one (.int .i64))] (fun r9 r10 r11 w =>
    cond ((r11 != 0) || (r10 == 0))
      (K 0 13 w)
      (semS Tryd.prog (Instr.loadAt 62 (.pointer (some x1))) (.agg [(.int .i64), (.int .i64), (.int .i64)]) (fun x12 x13 x14 w =>
      callS Tryd.prog 45 #[(.agg #[(.int .i64 x12), (.int .i64 x13), (.int .i64 x14)])] [(.one .slc)] (fun r15 w =>
      semS Tryd.prog (Instr.sliceAt 25 (.slice r15.a r15.len r15.cap) (some (.int .i64 (IntKind.wrap .i64 (r10 + 1)))) none none) (.one .slc) (fun x16 w =>
      loopS (σ := Int × Int) (fun s17 w again18 =>
        cond (decide (s17.2 < (x16.len : Int)))
          (semS Tryd.prog (Instr.indexAt 25 (.slice x16.a x16.len x16.cap) (.int .i64 s17.2)) (.one .adr) (fun x19 w =>
          semS Tryd.prog (Instr.loadAt 3 (.pointer (some x19))) (.one (.int .i64)) (fun x20 w =>
          again18 (IntKind.wrap .i64 (s17.1 + x20), IntKind.wrap .i64 (s17.2 + 1)) w) w) w)
          (semS Tryd.prog (Instr.loadAt 3 (.pointer (some (x1.add 1)))) (.one (.int .i64)) (fun x21 w =>
          K (IntKind.wrap .i64 (s17.1 * x21)) 0 w) w)) (r9, 0) w) w) w) w)) w) w)) w) w) w
theorem f61_ok {p0_0 : Int} {p0_1 : Int} {p0_2 : Int} {p1 : Cx} {K : Int → Int → World → Prop} {w : World} (h : f61 p0_0 p0_1 p0_2 p1 K w) : callS Tryd.prog 61 #[(.agg #[(.int .i64 p0_0), (.int .i64 p0_1), (.int .i64 p0_2)]), (.complex .f64 p1.re p1.im)] [(.one (.int .i64)), (.one (.int .i64))] K w :=
  calls_of_fn (args := [(.agg #[(.int .i64 p0_0), (.int .i64 p0_1), (.int .i64 p0_2)]), (.complex .f64 p1.re p1.im)]) Tryd.f61 [] [] [] (.two .nil (.two .nil (.two .nil (.two .nil (.two (.two .nil (.one (.loop [(6, (.int .i64)), (33, (.int .i64))] .nil))) .nil))))) (by kernel_rfl) (by kernel_rfl)
    (Eq.mp (by kernel_rfl : f61 p0_0 p0_1 p0_2 p1 K w = evFn Tryd.prog Tryd.f61 [] [] [] (.two .nil (.two .nil (.two .nil (.two .nil (.two (.two .nil (.one (.loop [(6, (.int .i64)), (33, (.int .i64))] .nil))) .nil))))) [(.agg #[(.int .i64 p0_0), (.int .i64 p0_1), (.int .i64 p0_2)]), (.complex .f64 p1.re p1.im)] [(.one (.int .i64)), (.one (.int .i64))] K w) h)

/-- (*sallyport/drive.Drive).Read -/
def f62 (p0 : Option Addr) (p1 : ByteArray) (p2 : Int) (p3 : Int) (K : Sl → Int → World → Prop) (w : World) : Prop :=
  callS Tryd.prog 38 #[(.pointer p0), (.string p1), (.int .i64 p2), (.int .i64 p3)] [(.one .ptr), (.one (.int .i64))] (fun r1 r2 w =>
  cond (r2 != 0)
    (K (⟨none, 0, 0⟩) r2 w)
    (callS Tryd.prog 39 #[(.int .i64 p2), (.int .i64 p3)] [(.one (.int .i64)), (.one (.int .i64))] (fun r3 r4 w =>
    loopS (σ := Int) (fun x5 w again6 =>
      cond (decide (x5 < r4))
        (nilS r1 fun a7 =>
        semS Tryd.prog (Instr.loadAt 79 (.pointer (some (a7.add 1)))) (.one .mp) (fun x8 w =>
        semS Tryd.prog (Instr.lookup 79 (.map x8) (.int .i64 (IntKind.wrap .i64 (r3 + x5))) false) (.one .bool) (fun x9 w =>
        cond x9
          (K (⟨none, 0, 0⟩) 41 w)
          (again6 (IntKind.wrap .i64 (x5 + 1)) w)) w) w)
        (nilS p0 fun a10 =>
        semS Tryd.prog (Instr.loadAt 3 (.pointer (some (a10.add 5)))) (.one (.int .i64)) (fun x11 w =>
        nilS p0 fun a12 =>
        semU Tryd.prog (Instr.storeAt 3 (.pointer (some (a12.add 5))) (.int .i64 (if 1152921504606846976 < (IntKind.wrap .i64 (x11 + 1)) then 1152921504606846976 else IntKind.wrap .i64 (x11 + 1)))) (fun w =>
        nilS p0 fun a13 =>
        semS Tryd.prog (Instr.loadAt 3 (.pointer (some (a13.add 6)))) (.one (.int .i64)) (fun x14 w =>
        nilS p0 fun a15 =>
        semU Tryd.prog (Instr.storeAt 3 (.pointer (some (a15.add 6))) (.int .i64 (if 1152921504606846976 < (IntKind.wrap .i64 (x14 + p3)) then 1152921504606846976 else IntKind.wrap .i64 (x14 + p3)))) (fun w =>
        nilS r1 fun a16 =>
        semS Tryd.prog (Instr.loadAt 22 (.pointer (some (a16.add 0)))) (.one .slc) (fun x17 w =>
        semS Tryd.prog (Instr.sliceAt 22 (.slice x17.a x17.len x17.cap) (some (.int .i64 p2)) (some (.int .i64 (IntKind.wrap .i64 (p2 + p3)))) none) (.one .slc) (fun x18 w =>
        callS Tryd.prog 23 #[(.slice x18.a x18.len x18.cap)] [(.one .slc)] (fun r19 w =>
        K r19 0 w) w) w) w) w) w) w) w)) 0 w) w)) w
theorem f62_ok {p0 : Option Addr} {p1 : ByteArray} {p2 : Int} {p3 : Int} {K : Sl → Int → World → Prop} {w : World} (h : f62 p0 p1 p2 p3 K w) : callS Tryd.prog 62 #[(.pointer p0), (.string p1), (.int .i64 p2), (.int .i64 p3)] [(.one .slc), (.one (.int .i64))] K w :=
  calls_of_fn (args := [(.pointer p0), (.string p1), (.int .i64 p2), (.int .i64 p3)]) Tryd.f62 [] [] [] (.two .nil (.two .nil (.two .nil (.two .nil (.two (.two .nil (.one (.loop [(33, (.int .i64))] .nil))) .nil))))) (by kernel_rfl) (by kernel_rfl)
    (Eq.mp (by kernel_rfl : f62 p0 p1 p2 p3 K w = evFn Tryd.prog Tryd.f62 [] [] [] (.two .nil (.two .nil (.two .nil (.two .nil (.two (.two .nil (.one (.loop [(33, (.int .i64))] .nil))) .nil))))) [(.pointer p0), (.string p1), (.int .i64 p2), (.int .i64 p3)] [(.one .slc), (.one (.int .i64))] K w) h)

/-- (*sallyport/verity.Reader).fetch -/
def f48 (p0 : Option Addr) (p1 : Cx) (K : Sl → Int → World → Prop) (w : World) : Prop :=
  cond ((fOrd p1.im 0) == some .gt)
    (nilS p0 fun a1 =>
    semS Tryd.prog (Instr.loadAt 62 (.pointer (some (a1.add 13)))) (.agg [(.int .i64), (.int .i64), (.int .i64)]) (fun x2 x3 x4 w =>
    callS Tryd.prog 61 #[(.agg #[(.int .i64 x2), (.int .i64 x3), (.int .i64 x4)]), (.complex .f64 p1.re p1.im)] [(.one (.int .i64)), (.one (.int .i64))] (fun r5 r6 w =>
    drawS w fun C w =>
    nilS p0 fun a7 =>
    semQ Tryd.prog C (Instr.loadAt 27 (.pointer (some (a7.add 0)))) (.one .ptr) (fun x8 =>
    nilS p0 fun a9 =>
    semQ Tryd.prog C (Instr.loadAt 9 (.pointer (some (a9.add 1)))) (.one .str) (fun x10 =>
    nilS p0 fun a11 =>
    semQ Tryd.prog C (Instr.loadAt 3 (.pointer (some ((a11.add 2).add 4)))) (.one (.int .i64)) (fun x12 =>
    nilS p0 fun a13 =>
    semQ Tryd.prog C (Instr.loadAt 3 (.pointer (some ((a13.add 13).add 1)))) (.one (.int .i64)) (fun x14 =>
    callS Tryd.prog 62 #[(.pointer x8), (.string x10), (.int .i64 (IntKind.wrap .i64 (x12 + r5))), (.int .i64 x14)] [(.one .slc), (.one (.int .i64))] (fun r15 r16 w =>
    K r15 r16 w) w))))) w) w)
    (semS Tryd.prog (convert 45 3 (.float .f64 p1.re)) (.one (.int .i64)) (fun x17 w =>
    nilS p0 fun a18 =>
    semS Tryd.prog (Instr.loadAt 3 (.pointer (some ((a18.add 13).add 1)))) (.one (.int .i64)) (fun x19 w =>
    drawS w fun C w =>
    nilS p0 fun a20 =>
    semQ Tryd.prog C (Instr.loadAt 27 (.pointer (some (a20.add 0)))) (.one .ptr) (fun x21 =>
    nilS p0 fun a22 =>
    semQ Tryd.prog C (Instr.loadAt 9 (.pointer (some (a22.add 1)))) (.one .str) (fun x23 =>
    nilS p0 fun a24 =>
    semQ Tryd.prog C (Instr.loadAt 3 (.pointer (some ((a24.add 13).add 1)))) (.one (.int .i64)) (fun x25 =>
    nilS p0 fun a26 =>
    semQ Tryd.prog C (Instr.loadAt 3 (.pointer (some ((a26.add 13).add 0)))) (.one (.int .i64)) (fun x27 =>
    callS Tryd.prog 62 #[(.pointer x21), (.string x23), (.int .i64 (IntKind.wrap .i64 (x17 * x19))), (.int .i64 (if (IntKind.wrap .i64 (x27 - (IntKind.wrap .i64 (x17 * x19)))) < x25 then IntKind.wrap .i64 (x27 - (IntKind.wrap .i64 (x17 * x19))) else x25))] [(.one .slc), (.one (.int .i64))] (fun r28 r29 w =>
    cond (r29 != 0)
      (K (⟨none, 0, 0⟩) r29 w)
      (nilS p0 fun a30 =>
      semS Tryd.prog (Instr.loadAt 3 (.pointer (some ((a30.add 13).add 1)))) (.one (.int .i64)) (fun x31 w =>
      semS Tryd.prog (Builtin.append_ #[22, 3] 22 #[(.slice r28.a r28.len r28.cap), (.int .i64 (IntKind.wrap .i64 (x31 - (r28.len : Int))))]) (.one .slc) (fun r32 w =>
      K r32 0 w) w) w)) w))))) w) w)
theorem f48_ok {p0 : Option Addr} {p1 : Cx} {K : Sl → Int → World → Prop} {w : World} (h : f48 p0 p1 K w) : callS Tryd.prog 48 #[(.pointer p0), (.complex .f64 p1.re p1.im)] [(.one .slc), (.one (.int .i64))] K w :=
  calls_of_fn (args := [(.pointer p0), (.complex .f64 p1.re p1.im)]) Tryd.f48 [] [] [] (.two .nil (.two (.two .nil (.two (.two .nil (.two (.draw [0, 1, 3, 7, 0, 16, 48, 112, 0, 256, 768, 1792, 3840, 0, 16128, 0, 32768, 98304, 229376, 491520, 1048575, 2097151, 2097151, 8388607, 16777215]) .nil)) .nil)) (.two .nil (.two (.draw [0, 1, 3, 7, 0, 16, 48, 112, 0, 0, 512, 1536, 3584, 7680, 0, 16384, 49152, 114688, 245760, 0, 1032192, 2096640, 4194303, 8388607, 16777215, 16777215, 33554431, 134217727]) .nil)))) (by kernel_rfl) (by kernel_rfl)
    (Eq.mp (by kernel_rfl : f48 p0 p1 K w = evFn Tryd.prog Tryd.f48 [] [] [] (.two .nil (.two (.two .nil (.two (.two .nil (.two (.draw [0, 1, 3, 7, 0, 16, 48, 112, 0, 256, 768, 1792, 3840, 0, 16128, 0, 32768, 98304, 229376, 491520, 1048575, 2097151, 2097151, 8388607, 16777215]) .nil)) .nil)) (.two .nil (.two (.draw [0, 1, 3, 7, 0, 16, 48, 112, 0, 0, 512, 1536, 3584, 7680, 0, 16384, 49152, 114688, 245760, 0, 1032192, 2096640, 4194303, 8388607, 16777215, 16777215, 33554431, 134217727]) .nil)))) [(.pointer p0), (.complex .f64 p1.re p1.im)] [(.one .slc), (.one (.int .i64))] K w) h)

/-- (*sallyport/verity.Reader).climb -/
def f26 (p0 : Option Addr) (p1 : Sl) (K : Sl → Int → Int → World → Prop) (w : World) : Prop :=
  joinS (σ := Sl) (fun x1 w =>
    semS Tryd.prog (Instr.sliceAt 42 (.slice p1.a p1.len p1.cap) (some (.int .i64 (x1.len : Int))) none none) (.one .slc) (fun x3 w =>
    loopS (σ := Sl × Int) (fun s4 w again5 =>
      cond (decide (s4.2 < (x3.len : Int)))
        (semS Tryd.prog (Instr.indexAt 42 (.slice x3.a x3.len x3.cap) (.int .i64 s4.2)) (.one .adr) (fun x6 w =>
        semS Tryd.prog (Instr.loadAt 44 (.pointer (some x6))) (.one .cpx) (fun x7 w =>
        nilS p0 fun a8 =>
        semS Tryd.prog (Instr.loadAt 63 (.pointer (some (a8.add 17)))) (.one .mp) (fun x9 w =>
        semS Tryd.prog (Instr.lookup 63 (.map x9) (.complex .f64 x7.re x7.im) false) (.one .slc) (fun x10 w =>
        semS Tryd.prog (Instr.buildSlice 39 1 #[(0, (.slice x10.a x10.len x10.cap))]) (.one .slc) (fun x11 w =>
        semS Tryd.prog (Builtin.append_ #[39, 39] 39 #[(.slice s4.1.a s4.1.len s4.1.cap), (.slice x11.a x11.len x11.cap)]) (.one .slc) (fun r12 w =>
        again5 (r12, IntKind.wrap .i64 (s4.2 + 1)) w) w) w) w) w) w) w)
        (K s4.1 (x1.len : Int) 0 w)) (x1, 0) w) w) fun J2 =>
  loopS (σ := Sl × Int) (fun s13 w again14 =>
    cond (decide (s13.2 < (p1.len : Int)))
      (semS Tryd.prog (Instr.indexAt 42 (.slice p1.a p1.len p1.cap) (.int .i64 s13.2)) (.one .adr) (fun x15 w =>
      semS Tryd.prog (Instr.loadAt 44 (.pointer (some x15))) (.one .cpx) (fun x16 w =>
      nilS p0 fun a17 =>
      semS Tryd.prog (Instr.loadAt 63 (.pointer (some (a17.add 17)))) (.one .mp) (fun x18 w =>
      semS Tryd.prog (Instr.lookup 63 (.map x18) (.complex .f64 x16.re x16.im) false) (.one .slc) (fun x19 w =>
      semS Tryd.prog (binS .neq 22 (.tmp 24) (.const (Go.Value.slice none 0 0)) (.slice x19.a x19.len x19.cap) (.slice none 0 0)) (.one .bool) (fun x20 w =>
      cond x20
        (J2 s13.1 w)
        (callS Tryd.prog 48 #[(.pointer p0), (.complex .f64 x16.re x16.im)] [(.one .slc), (.one (.int .i64))] (fun r21 r22 w =>
        cond (r22 != 0)
          (K (⟨none, 0, 0⟩) 0 r22 w)
          (semS Tryd.prog (Instr.buildSlice 39 1 #[(0, (.slice r21.a r21.len r21.cap))]) (.one .slc) (fun x23 w =>
          semS Tryd.prog (Builtin.append_ #[39, 39] 39 #[(.slice s13.1.a s13.1.len s13.1.cap), (.slice x23.a x23.len x23.cap)]) (.one .slc) (fun r24 w =>
          again14 (r24, IntKind.wrap .i64 (s13.2 + 1)) w) w) w)) w)) w) w) w) w) w)
      (J2 s13.1 w)) (⟨none, 0, 0⟩, 0) w
theorem f26_ok {p0 : Option Addr} {p1 : Sl} {K : Sl → Int → Int → World → Prop} {w : World} (h : f26 p0 p1 K w) : callS Tryd.prog 26 #[(.pointer p0), (.slice p1.a p1.len p1.cap)] [(.one .slc), (.one (.int .i64)), (.one (.int .i64))] K w :=
  calls_of_fn (args := [(.pointer p0), (.slice p1.a p1.len p1.cap)]) Tryd.f26 [] [] [] (.two .nil (.join [(4, .slc)] (.two .nil (.one (.loop [(4, .slc), (15, (.int .i64))] .nil))) (.two .nil (.two (.two .nil (.one (.loop [(4, .slc), (46, (.int .i64))] .nil))) .nil)))) (by kernel_rfl) (by kernel_rfl)
    (Eq.mp (by kernel_rfl : f26 p0 p1 K w = evFn Tryd.prog Tryd.f26 [] [] [] (.two .nil (.join [(4, .slc)] (.two .nil (.one (.loop [(4, .slc), (15, (.int .i64))] .nil))) (.two .nil (.two (.two .nil (.one (.loop [(4, .slc), (46, (.int .i64))] .nil))) .nil)))) [(.pointer p0), (.slice p1.a p1.len p1.cap)] [(.one .slc), (.one (.int .i64)), (.one (.int .i64))] K w) h)

/-- sallyport/span.Cut -/
def f63 (p0 : Sl) (p1 : Int) (p2 : Int) (K : Sl → Int → World → Prop) (w : World) : Prop :=
  callS Tryd.prog 30 #[(.int .i64 p1), (.int .i64 p2), (.int .i64 (p0.len : Int))] [(.one .bool)] (fun r1 w =>
  cond (!r1)
    (K (⟨none, 0, 0⟩) 10 w)
    (semS Tryd.prog (Instr.sliceAt 22 (.slice p0.a p0.len p0.cap) (some (.int .i64 p1)) (some (.int .i64 (IntKind.wrap .i64 (p1 + p2)))) none) (.one .slc) (fun x2 w =>
    callS Tryd.prog 23 #[(.slice x2.a x2.len x2.cap)] [(.one .slc)] (fun r3 w =>
    K r3 0 w) w) w)) w
theorem f63_ok {p0 : Sl} {p1 : Int} {p2 : Int} {K : Sl → Int → World → Prop} {w : World} (h : f63 p0 p1 p2 K w) : callS Tryd.prog 63 #[(.slice p0.a p0.len p0.cap), (.int .i64 p1), (.int .i64 p2)] [(.one .slc), (.one (.int .i64))] K w :=
  calls_of_fn (args := [(.slice p0.a p0.len p0.cap), (.int .i64 p1), (.int .i64 p2)]) Tryd.f63 [] [] [] .nil (by kernel_rfl) (by kernel_rfl)
    (Eq.mp (by kernel_rfl : f63 p0 p1 p2 K w = evFn Tryd.prog Tryd.f63 [] [] [] .nil [(.slice p0.a p0.len p0.cap), (.int .i64 p1), (.int .i64 p2)] [(.one .slc), (.one (.int .i64))] K w) h)

/-- bytes.Equal -/
def f64 (p0 : Sl) (p1 : Sl) (K : Bool → World → Prop) (w : World) : Prop :=
  semS Tryd.prog (convert 22 9 (.slice p0.a p0.len p0.cap)) (.one .str) (fun x1 w =>
  semS Tryd.prog (convert 22 9 (.slice p1.a p1.len p1.cap)) (.one .str) (fun x2 w =>
  K (x1.toList == x2.toList) w) w) w
theorem f64_ok {p0 : Sl} {p1 : Sl} {K : Bool → World → Prop} {w : World} (h : f64 p0 p1 K w) : callS Tryd.prog 64 #[(.slice p0.a p0.len p0.cap), (.slice p1.a p1.len p1.cap)] [(.one .bool)] K w :=
  calls_of_fn (args := [(.slice p0.a p0.len p0.cap), (.slice p1.a p1.len p1.cap)]) Tryd.f64 [] [] [] .nil (by kernel_rfl) (by kernel_rfl)
    (Eq.mp (by kernel_rfl : f64 p0 p1 K w = evFn Tryd.prog Tryd.f64 [] [] [] .nil [(.slice p0.a p0.len p0.cap), (.slice p1.a p1.len p1.cap)] [(.one .bool)] K w) h)

/-- sallyport/grove.Check -/
def f49 (p0 : Int) (p1 : Sl) (p2 : Sl) (p3 : Int) (p4 : Sl) (K : Bool → World → Prop) (w : World) : Prop :=
  callS Tryd.prog 24 #[(.int .i64 p0)] [(.one (.int .i64))] (fun r1 w =>
  callS Tryd.prog 63 #[(.slice p2.a p2.len p2.cap), (.int .i64 p3), (.int .i64 r1)] [(.one .slc), (.one (.int .i64))] (fun r2 r3 w =>
  semS Tryd.prog (Instr.buildSlice 39 1 #[(0, (.slice p4.a p4.len p4.cap))]) (.one .slc) (fun x4 w =>
  callS Tryd.prog 34 #[(.int .i64 p0), (.slice p1.a p1.len p1.cap), (.slice x4.a x4.len x4.cap)] [(.one .slc), (.one (.int .i64))] (fun r5 r6 w =>
  joinS (σ := Bool) (fun b7 w =>
    K b7 w) fun J8 =>
  cond ((r3 == 0) && (r6 == 0))
    (callS Tryd.prog 64 #[(.slice r5.a r5.len r5.cap), (.slice r2.a r2.len r2.cap)] [(.one .bool)] (fun r9 w =>
      J8 r9 w) w)
    (J8 false w)) w) w) w) w
theorem f49_ok {p0 : Int} {p1 : Sl} {p2 : Sl} {p3 : Int} {p4 : Sl} {K : Bool → World → Prop} {w : World} (h : f49 p0 p1 p2 p3 p4 K w) : callS Tryd.prog 49 #[(.int .i64 p0), (.slice p1.a p1.len p1.cap), (.slice p2.a p2.len p2.cap), (.int .i64 p3), (.slice p4.a p4.len p4.cap)] [(.one .bool)] K w :=
  calls_of_fn (args := [(.int .i64 p0), (.slice p1.a p1.len p1.cap), (.slice p2.a p2.len p2.cap), (.int .i64 p3), (.slice p4.a p4.len p4.cap)]) Tryd.f49 [] [] [] .nil (by kernel_rfl) (by kernel_rfl)
    (Eq.mp (by kernel_rfl : f49 p0 p1 p2 p3 p4 K w = evFn Tryd.prog Tryd.f49 [] [] [] .nil [(.int .i64 p0), (.slice p1.a p1.len p1.cap), (.slice p2.a p2.len p2.cap), (.int .i64 p3), (.slice p4.a p4.len p4.cap)] [(.one .bool)] K w) h)

/-- (*sallyport/verity.Reader).holds -/
def f27 (p0 : Option Addr) (p1 : Cx) (p2 : Sl) (p3 : Sl) (K : Bool → World → Prop) (w : World) : Prop :=
  nilS p0 fun a1 =>
  semS Tryd.prog (Instr.loadAt 62 (.pointer (some (a1.add 13)))) (.agg [(.int .i64), (.int .i64), (.int .i64)]) (fun x2 x3 x4 w =>
  callS Tryd.prog 46 #[(.agg #[(.int .i64 x2), (.int .i64 x3), (.int .i64 x4)]), (.complex .f64 p1.re p1.im)] [(.one .cpx), (.one (.int .i64)), (.one (.int .i64))] (fun r5 r6 r7 w =>
  cond (r7 != 0)
    (drawS w fun C w =>
    nilS p0 fun a8 =>
    semQ Tryd.prog C (Instr.loadAt 3 (.pointer (some ((a8.add 2).add 1)))) (.one (.int .i64)) (fun x9 =>
    nilS p0 fun a10 =>
    semQ Tryd.prog C (Instr.loadAt 22 (.pointer (some ((a10.add 2).add 7)))) (.one .slc) (fun x11 =>
    nilS p0 fun a12 =>
    semQ Tryd.prog C (Instr.loadAt 22 (.pointer (some ((a12.add 2).add 8)))) (.one .slc) (fun x13 =>
    callS Tryd.prog 49 #[(.int .i64 x9), (.slice x11.a x11.len x11.cap), (.slice x13.a x13.len x13.cap), (.int .i64 0), (.slice p2.a p2.len p2.cap)] [(.one .bool)] (fun r14 w =>
    K r14 w) w))))
    (drawS w fun C w =>
    nilS p0 fun a15 =>
    semQ Tryd.prog C (Instr.loadAt 3 (.pointer (some ((a15.add 2).add 1)))) (.one (.int .i64)) (fun x16 =>
    nilS p0 fun a17 =>
    semQ Tryd.prog C (Instr.loadAt 22 (.pointer (some ((a17.add 2).add 7)))) (.one .slc) (fun x18 =>
    callS Tryd.prog 49 #[(.int .i64 x16), (.slice x18.a x18.len x18.cap), (.slice p3.a p3.len p3.cap), (.int .i64 r6), (.slice p2.a p2.len p2.cap)] [(.one .bool)] (fun r19 w =>
    K r19 w) w)))) w) w
theorem f27_ok {p0 : Option Addr} {p1 : Cx} {p2 : Sl} {p3 : Sl} {K : Bool → World → Prop} {w : World} (h : f27 p0 p1 p2 p3 K w) : callS Tryd.prog 27 #[(.pointer p0), (.complex .f64 p1.re p1.im), (.slice p2.a p2.len p2.cap), (.slice p3.a p3.len p3.cap)] [(.one .bool)] K w :=
  calls_of_fn (args := [(.pointer p0), (.complex .f64 p1.re p1.im), (.slice p2.a p2.len p2.cap), (.slice p3.a p3.len p3.cap)]) Tryd.f27 [] [] [] (.two .nil (.two .nil (.two (.two .nil (.two (.two (.draw [0, 1, 3, 7, 15, 0, 32, 96, 224, 480, 0, 1024, 3072, 7168, 15360, 0, 65535, 131071]) .nil) .nil)) (.two (.draw [0, 1, 3, 7, 15, 0, 32, 96, 224, 480, 0, 0, 0, 8191, 16383]) .nil)))) (by kernel_rfl) (by kernel_rfl)
    (Eq.mp (by kernel_rfl : f27 p0 p1 p2 p3 K w = evFn Tryd.prog Tryd.f27 [] [] [] (.two .nil (.two .nil (.two (.two .nil (.two (.two (.draw [0, 1, 3, 7, 15, 0, 32, 96, 224, 480, 0, 1024, 3072, 7168, 15360, 0, 65535, 131071]) .nil) .nil)) (.two (.draw [0, 1, 3, 7, 15, 0, 32, 96, 224, 480, 0, 0, 0, 8191, 16383]) .nil)))) [(.pointer p0), (.complex .f64 p1.re p1.im), (.slice p2.a p2.len p2.cap), (.slice p3.a p3.len p3.cap)] [(.one .bool)] K w) h)

/-- (*sallyport/verity.Reader).Read -/
def f11 (p0 : Option Addr) (p1 : Int) (K : Sl → Int → World → Prop) (w : World) : Prop :=
  nilS p0 fun a1 =>
  semU Tryd.prog (Instr.storeAt 39 (.pointer (some (a1.add 20))) (.slice none 0 0)) (fun w =>
  nilS p0 fun a2 =>
  semS Tryd.prog (Instr.loadAt 4 (.pointer (some (a2.add 19)))) (.one .bool) (fun x3 w =>
  cond x3
    (K (⟨none, 0, 0⟩) 58 w)
    (nilS p0 fun a4 =>
    semS Tryd.prog (Instr.loadAt 62 (.pointer (some (a4.add 13)))) (.agg [(.int .i64), (.int .i64), (.int .i64)]) (fun x5 x6 x7 w =>
    callS Tryd.prog 25 #[(.agg #[(.int .i64 x5), (.int .i64 x6), (.int .i64 x7)]), (.int .i64 p1)] [(.one .slc), (.one (.int .i64))] (fun r8 r9 w =>
    cond (r9 != 0)
      (K (⟨none, 0, 0⟩) r9 w)
      (callS Tryd.prog 26 #[(.pointer p0), (.slice r8.a r8.len r8.cap)] [(.one .slc), (.one (.int .i64)), (.one (.int .i64))] (fun r10 r11 r12 w =>
      cond (r12 != 0)
        (K (⟨none, 0, 0⟩) r12 w)
        (loopS (σ := Int) (fun x13 w again14 =>
          cond (decide (x13 ≥ 0))
            (joinS (σ := Sl) (fun x15 w =>
              drawS w fun C w =>
              semQ Tryd.prog C (Instr.indexAt 42 (.slice r8.a r8.len r8.cap) (.int .i64 x13)) (.one .adr) (fun x17 =>
              semQ Tryd.prog C (Instr.loadAt 44 (.pointer (some x17))) (.one .cpx) (fun x18 =>
              semQ Tryd.prog C (Instr.indexAt 39 (.slice r10.a r10.len r10.cap) (.int .i64 x13)) (.one .adr) (fun x19 =>
              semQ Tryd.prog C (Instr.loadAt 22 (.pointer (some x19))) (.one .slc) (fun x20 =>
              callS Tryd.prog 27 #[(.pointer p0), (.complex .f64 x18.re x18.im), (.slice x20.a x20.len x20.cap), (.slice x15.a x15.len x15.cap)] [(.one .bool)] (fun r21 w =>
              cond (!r21)
                (nilS p0 fun a22 =>
                semS Tryd.prog (Instr.loadAt 3 (.pointer (some (a22.add 16)))) (.one (.int .i64)) (fun x23 w =>
                nilS p0 fun a24 =>
                semU Tryd.prog (Instr.storeAt 4 (.pointer (some (a24.add 19))) (.bool (x23 == 1))) (fun w =>
                K (⟨none, 0, 0⟩) 54 w) w) w)
                (again14 (IntKind.wrap .i64 (x13 - 1)) w)) w))))) fun J16 =>
            cond (decide ((IntKind.wrap .i64 (x13 + 1)) < (r10.len : Int)))
              (semS Tryd.prog (Instr.indexAt 39 (.slice r10.a r10.len r10.cap) (.int .i64 (IntKind.wrap .i64 (x13 + 1)))) (.one .adr) (fun x25 w =>
              semS Tryd.prog (Instr.loadAt 22 (.pointer (some x25))) (.one .slc) (fun x26 w =>
              J16 x26 w) w) w)
              (J16 (⟨none, 0, 0⟩) w))
            (loopS (σ := Int) (fun x27 w again28 =>
              joinS (σ := Bool) (fun b29 w =>
                cond b29
                  (drawS w fun C w =>
                  nilS p0 fun a31 =>
                  semQ Tryd.prog C (Instr.loadAt 63 (.pointer (some (a31.add 17)))) (.one .mp) (fun x32 =>
                  semQ Tryd.prog C (Instr.indexAt 42 (.slice r8.a r8.len r8.cap) (.int .i64 x27)) (.one .adr) (fun x33 =>
                  semQ Tryd.prog C (Instr.loadAt 44 (.pointer (some x33))) (.one .cpx) (fun x34 =>
                  semQ Tryd.prog C (Instr.indexAt 39 (.slice r10.a r10.len r10.cap) (.int .i64 x27)) (.one .adr) (fun x35 =>
                  semQ Tryd.prog C (Instr.loadAt 22 (.pointer (some x35))) (.one .slc) (fun x36 =>
                  semU Tryd.prog (Instr.mapUpdate 63 (.map x32) (.complex .f64 x34.re x34.im) (.slice x36.a x36.len x36.cap)) (fun w =>
                  drawS w fun C w =>
                  nilS p0 fun a37 =>
                  semQ Tryd.prog C (Instr.loadAt 42 (.pointer (some (a37.add 18)))) (.one .slc) (fun x38 =>
                  semQ Tryd.prog C (Instr.indexAt 42 (.slice r8.a r8.len r8.cap) (.int .i64 x27)) (.one .adr) (fun x39 =>
                  semQ Tryd.prog C (Instr.loadAt 44 (.pointer (some x39))) (.one .cpx) (fun x40 =>
                  semS Tryd.prog (Instr.buildSlice 42 1 #[(0, (.complex .f64 x40.re x40.im))]) (.one .slc) (fun x41 w =>
                  moreS C w (fun C =>
                  semS Tryd.prog (Builtin.append_ #[42, 42] 42 #[(.slice x38.a x38.len x38.cap), (.slice x41.a x41.len x41.cap)]) (.one .slc) (fun r42 w =>
                  nilS p0 fun a43 =>
                  semU Tryd.prog (Instr.storeAt 42 (.pointer (some (a43.add 18))) (.slice r42.a r42.len r42.cap)) (fun w =>
                  again28 (IntKind.wrap .i64 (x27 - 1)) w) w) w)) w)))) w))))))
                  (nilS p0 fun a44 =>
                  semU Tryd.prog (Instr.storeAt 39 (.pointer (some (a44.add 20))) (.slice r10.a r10.len r10.cap)) (fun w =>
                  semS Tryd.prog (Instr.indexAt 39 (.slice r10.a r10.len r10.cap) (.int .i64 0)) (.one .adr) (fun x45 w =>
                  semS Tryd.prog (Instr.loadAt 22 (.pointer (some x45))) (.one .slc) (fun x46 w =>
                  callS Tryd.prog 23 #[(.slice x46.a x46.len x46.cap)] [(.one .slc)] (fun r47 w =>
                  K r47 0 w) w) w) w) w)) fun J30 =>
              cond (decide (x27 ≥ 1))
                (nilS p0 fun a48 =>
                  semS Tryd.prog (Instr.loadAt 42 (.pointer (some (a48.add 18)))) (.one .slc) (fun x49 w =>
                  J30 (decide ((x49.len : Int) < 64)) w) w)
                (J30 false w)) (IntKind.wrap .i64 (r11 - 1)) w)) (IntKind.wrap .i64 (r11 - 1)) w)) w)) w) w)) w) w
theorem f11_ok {p0 : Option Addr} {p1 : Int} {K : Sl → Int → World → Prop} {w : World} (h : f11 p0 p1 K w) : callS Tryd.prog 11 #[(.pointer p0), (.int .i64 p1)] [(.one .slc), (.one (.int .i64))] K w :=
  calls_of_fn (args := [(.pointer p0), (.int .i64 p1)]) Tryd.f11 [] [] [] (.two .nil (.two .nil (.two .nil (.two .nil (.two .nil (.two .nil (.two .nil (.two (.two .nil (.one (.loop [(10, (.int .i64))] (.two .nil (.two (.one (.two .nil (.join [(11, .slc)] .nil (.two (.draw [0, 0, 0, 6, 14, 0, 0, 96, 224, 0, 1023, 2047]) .nil)))) .nil))))) (.two (.two .nil (.one (.loop [(12, (.int .i64))] (.two .nil (.two (.one (.two (.draw [0, 1, 3, 7, 0, 0, 48, 112, 0, 0, 768, 1792, 4095]) (.draw [0, 0, 2, 6, 14, 0, 0, 96, 224, 480, 1022, 2047, 4095, 8191]))) .nil))))) .nil))))))))) (by kernel_rfl) (by kernel_rfl)
    (Eq.mp (by kernel_rfl : f11 p0 p1 K w = evFn Tryd.prog Tryd.f11 [] [] [] (.two .nil (.two .nil (.two .nil (.two .nil (.two .nil (.two .nil (.two .nil (.two (.two .nil (.one (.loop [(10, (.int .i64))] (.two .nil (.two (.one (.two .nil (.join [(11, .slc)] .nil (.two (.draw [0, 0, 0, 6, 14, 0, 0, 96, 224, 0, 1023, 2047]) .nil)))) .nil))))) (.two (.two .nil (.one (.loop [(12, (.int .i64))] (.two .nil (.two (.one (.two (.draw [0, 1, 3, 7, 0, 0, 48, 112, 0, 0, 768, 1792, 4095]) (.draw [0, 0, 2, 6, 14, 0, 0, 96, 224, 480, 1022, 2047, 4095, 8191]))) .nil))))) .nil))))))))) [(.pointer p0), (.int .i64 p1)] [(.one .slc), (.one (.int .i64))] K w) h)

/-- (*sallyport/verity.Reader).Trace -/
def f13 (p0 : Option Addr) (K : Sl → World → Prop) (w : World) : Prop :=
  nilS p0 fun a1 =>
  semS Tryd.prog (Instr.loadAt 39 (.pointer (some (a1.add 20)))) (.one .slc) (fun x2 w =>
  loopS (σ := Sl × Int) (fun s3 w again4 =>
    cond (decide (s3.2 < (x2.len : Int)))
      (semS Tryd.prog (Instr.indexAt 39 (.slice x2.a x2.len x2.cap) (.int .i64 s3.2)) (.one .adr) (fun x5 w =>
      semS Tryd.prog (Instr.loadAt 22 (.pointer (some x5))) (.one .slc) (fun x6 w =>
      callS Tryd.prog 23 #[(.slice x6.a x6.len x6.cap)] [(.one .slc)] (fun r7 w =>
      semS Tryd.prog (Instr.buildSlice 39 1 #[(0, (.slice r7.a r7.len r7.cap))]) (.one .slc) (fun x8 w =>
      semS Tryd.prog (Builtin.append_ #[39, 39] 39 #[(.slice s3.1.a s3.1.len s3.1.cap), (.slice x8.a x8.len x8.cap)]) (.one .slc) (fun r9 w =>
      again4 (r9, IntKind.wrap .i64 (s3.2 + 1)) w) w) w) w) w) w)
      (K s3.1 w)) (⟨none, 0, 0⟩, 0) w) w
theorem f13_ok {p0 : Option Addr} {K : Sl → World → Prop} {w : World} (h : f13 p0 K w) : callS Tryd.prog 13 #[(.pointer p0)] [(.one .slc)] K w :=
  calls_of_fn (args := [(.pointer p0)]) Tryd.f13 [] [] [] (.two .nil (.two .nil (.two (.two .nil (.one (.loop [(3, .slc), (11, (.int .i64))] .nil))) .nil))) (by kernel_rfl) (by kernel_rfl)
    (Eq.mp (by kernel_rfl : f13 p0 K w = evFn Tryd.prog Tryd.f13 [] [] [] (.two .nil (.two .nil (.two (.two .nil (.one (.loop [(3, .slc), (11, (.int .i64))] .nil))) .nil))) [(.pointer p0)] [(.one .slc)] K w) h)

/-- slices.Clone[[]complex128,complex128] -/
def f28 (p0 : Sl) (K : Sl → World → Prop) (w : World) : Prop :=
  semS Tryd.prog (binS .eql 42 (.tmp 3) (.const (Go.Value.slice none 0 0)) (.slice p0.a p0.len p0.cap) (.slice none 0 0)) (.one .bool) (fun x1 w =>
  cond x1
    (K (⟨none, 0, 0⟩) w)
    (semS Tryd.prog (Instr.buildSlice 42 0 #[]) (.one .slc) (fun x2 w =>
    semS Tryd.prog (Builtin.append_ #[42, 42] 42 #[(.slice x2.a x2.len x2.cap), (.slice p0.a p0.len p0.cap)]) (.one .slc) (fun r3 w =>
    K r3 w) w) w)) w
theorem f28_ok {p0 : Sl} {K : Sl → World → Prop} {w : World} (h : f28 p0 K w) : callS Tryd.prog 28 #[(.slice p0.a p0.len p0.cap)] [(.one .slc)] K w :=
  calls_of_fn (args := [(.slice p0.a p0.len p0.cap)]) Tryd.f28 [] [] [] .nil (by kernel_rfl) (by kernel_rfl)
    (Eq.mp (by kernel_rfl : f28 p0 K w = evFn Tryd.prog Tryd.f28 [] [] [] .nil [(.slice p0.a p0.len p0.cap)] [(.one .slc)] K w) h)

/-- (*sallyport/verity.Reader).Known -/
def f14 (p0 : Option Addr) (K : Sl → World → Prop) (w : World) : Prop :=
  nilS p0 fun a1 =>
  semS Tryd.prog (Instr.loadAt 42 (.pointer (some (a1.add 18)))) (.one .slc) (fun x2 w =>
  callS Tryd.prog 28 #[(.slice x2.a x2.len x2.cap)] [(.one .slc)] (fun r3 w =>
  K r3 w) w) w
theorem f14_ok {p0 : Option Addr} {K : Sl → World → Prop} {w : World} (h : f14 p0 K w) : callS Tryd.prog 14 #[(.pointer p0)] [(.one .slc)] K w :=
  calls_of_fn (args := [(.pointer p0)]) Tryd.f14 [] [] [] .nil (by kernel_rfl) (by kernel_rfl)
    (Eq.mp (by kernel_rfl : f14 p0 K w = evFn Tryd.prog Tryd.f14 [] [] [] .nil [(.pointer p0)] [(.one .slc)] K w) h)

/-- (sallyport/place.Shape).Counts -/
def f29 (p0_0 : Int) (p0_1 : Int) (p0_2 : Int) (K : Sl → Int → World → Prop) (w : World) : Prop :=
  semS Tryd.prog (Instr.box 62 (.agg #[(.int .i64 p0_0), (.int .i64 p0_1), (.int .i64 p0_2)])) (.one .adr) (fun x1 w =>
  semS Tryd.prog (Instr.loadAt 62 (.pointer (some x1))) (.agg [(.int .i64), (.int .i64), (.int .i64)]) (fun x2 x3 x4 w =>
  callS Tryd.prog 44 #[(.agg #[(.int .i64 x2), (.int .i64 x3), (.int .i64 x4)])] [(.one .bool)] (fun r5 w =>
  cond (!r5)
    (K (⟨none, 0, 0⟩) 24 w)
    (semS Tryd.prog (Instr.loadAt 62 (.pointer (some x1))) (.agg [(.int .i64), (.int .i64), (.int .i64)]) (fun x6 x7 x8 w =>
    callS Tryd.prog 45 #[(.agg #[(.int .i64 x6), (.int .i64 x7), (.int .i64 x8)])] [(.one .slc)] (fun r9 w =>
    K r9 0 w) w) w)) w) w) w
theorem f29_ok {p0_0 : Int} {p0_1 : Int} {p0_2 : Int} {K : Sl → Int → World → Prop} {w : World} (h : f29 p0_0 p0_1 p0_2 K w) : callS Tryd.prog 29 #[(.agg #[(.int .i64 p0_0), (.int .i64 p0_1), (.int .i64 p0_2)])] [(.one .slc), (.one (.int .i64))] K w :=
  calls_of_fn (args := [(.agg #[(.int .i64 p0_0), (.int .i64 p0_1), (.int .i64 p0_2)])]) Tryd.f29 [] [] [] .nil (by kernel_rfl) (by kernel_rfl)
    (Eq.mp (by kernel_rfl : f29 p0_0 p0_1 p0_2 K w = evFn Tryd.prog Tryd.f29 [] [] [] .nil [(.agg #[(.int .i64 p0_0), (.int .i64 p0_1), (.int .i64 p0_2)])] [(.one .slc), (.one (.int .i64))] K w) h)

/-- (*sallyport/verity.Reader).Blocks -/
def f15 (p0 : Option Addr) (K : Int → World → Prop) (w : World) : Prop :=
  nilS p0 fun a1 =>
  semS Tryd.prog (Instr.loadAt 62 (.pointer (some (a1.add 13)))) (.agg [(.int .i64), (.int .i64), (.int .i64)]) (fun x2 x3 x4 w =>
  callS Tryd.prog 29 #[(.agg #[(.int .i64 x2), (.int .i64 x3), (.int .i64 x4)])] [(.one .slc), (.one (.int .i64))] (fun r5 r6 w =>
  semS Tryd.prog (Instr.indexAt 25 (.slice r5.a r5.len r5.cap) (.int .i64 0)) (.one .adr) (fun x7 w =>
  semS Tryd.prog (Instr.loadAt 3 (.pointer (some x7))) (.one (.int .i64)) (fun x8 w =>
  K x8 w) w) w) w) w
theorem f15_ok {p0 : Option Addr} {K : Int → World → Prop} {w : World} (h : f15 p0 K w) : callS Tryd.prog 15 #[(.pointer p0)] [(.one (.int .i64))] K w :=
  calls_of_fn (args := [(.pointer p0)]) Tryd.f15 [] [] [] .nil (by kernel_rfl) (by kernel_rfl)
    (Eq.mp (by kernel_rfl : f15 p0 K w = evFn Tryd.prog Tryd.f15 [] [] [] .nil [(.pointer p0)] [(.one (.int .i64))] K w) h)

/-- sallyport/sallyportlaw17.anchor -/
def f7  (K : Bool → World → Prop) (w : World) : Prop :=
  semS Tryd.prog (Instr.makeSlice 22 (.int .i64 300) (.int .i64 300)) (.one .slc) (fun x1 w =>
  semS Tryd.prog (Instr.alloc 24 true (.tuple #[])) (.one .adr) (fun x2 w =>
  semU Tryd.prog (Instr.storeAt 24 (.pointer (some x2)) (.agg #[(.int .i64 1), (.int .i64 64), (.int .i64 0), (.slice none 0 0), (.slice x1.a x1.len x1.cap)])) (fun w =>
  semS Tryd.prog (Instr.loadAt 22 (.pointer (some (x2.add 4)))) (.one .slc) (fun x3 w =>
  semS Tryd.prog (Instr.indexAt 22 (.slice x3.a x3.len x3.cap) (.int .i64 299)) (.one .adr) (fun x4 w =>
  semU Tryd.prog (Instr.storeAt 5 (.pointer (some x4)) (.int .u8 7)) (fun w =>
  semS Tryd.prog (Instr.loadAt 24 (.pointer (some x2))) (.agg [(.int .i64), (.int .i64), (.int .i64), .slc, .slc]) (fun x5 x6 x7 x8 x9 w =>
  callS Tryd.prog 9 #[(.agg #[(.int .i64 x5), (.int .i64 x6), (.int .i64 x7), (.slice x8.a x8.len x8.cap), (.slice x9.a x9.len x9.cap)])] [(.one .ptr), (.agg [(.int .i64), (.int .i64), (.int .i64), (.int .i64), (.int .i64), (.int .i64), .str, .slc, .slc, .slc, .slc])] (fun r10 r11 r12 r13 r14 r15 r16 r17 r18 r19 r20 r21 w =>
  semS Tryd.prog (Instr.alloc 29 true (.tuple #[])) (.one .adr) (fun x22 w =>
  semU Tryd.prog (Instr.storeAt 29 (.pointer (some x22)) (.agg #[(.int .i64 r11), (.int .i64 r12), (.int .i64 r13), (.int .i64 r14), (.int .i64 r15), (.int .i64 r16), (.string r17), (.slice r18.a r18.len r18.cap), (.slice r19.a r19.len r19.cap), (.slice r20.a r20.len r20.cap), (.slice r21.a r21.len r21.cap)])) (fun w =>
  semS Tryd.prog (binS .eql 27 (.tmp 18) (.const (Go.Value.pointer none)) (.pointer r10) (.pointer none)) (.one .bool) (fun x23 w =>
  cond x23
    (K false w)
    (semS Tryd.prog (Instr.loadAt 29 (.pointer (some x22))) (.agg [(.int .i64), (.int .i64), (.int .i64), (.int .i64), (.int .i64), (.int .i64), .str, .slc, .slc, .slc, .slc]) (fun x24 x25 x26 x27 x28 x29 x30 x31 x32 x33 x34 w =>
    callS Tryd.prog 10 #[(.pointer r10), (.string (ByteArray.mk #[112])), (.agg #[(.int .i64 x24), (.int .i64 x25), (.int .i64 x26), (.int .i64 x27), (.int .i64 x28), (.int .i64 x29), (.string x30), (.slice x31.a x31.len x31.cap), (.slice x32.a x32.len x32.cap), (.slice x33.a x33.len x33.cap), (.slice x34.a x34.len x34.cap)]), (.int .i64 0)] [(.one .ptr), (.one (.int .i64))] (fun r35 r36 w =>
    joinS (σ := Bool) (fun b37 w =>
      joinS (σ := Bool) (fun b39 w =>
        cond b39
          (K false w)
          (callS Tryd.prog 11 #[(.pointer r35), (.int .i64 4)] [(.one .slc), (.one (.int .i64))] (fun r41 r42 w =>
          joinS (σ := Bool) (fun b43 w =>
            joinS (σ := Bool) (fun b45 w =>
              joinS (σ := Bool) (fun b47 w =>
                joinS (σ := Bool) (fun b49 w =>
                  K b49 w) fun J50 =>
                cond b47
                  (callS Tryd.prog 14 #[(.pointer r35)] [(.one .slc)] (fun r51 w =>
                    J50 ((r51.len : Int) == 3) w) w)
                  (J50 false w)) fun J48 =>
              cond b45
                (callS Tryd.prog 13 #[(.pointer r35)] [(.one .slc)] (fun r52 w =>
                  J48 ((r52.len : Int) == 4) w) w)
                (J48 false w)) fun J46 =>
            cond b43
              (semS Tryd.prog (Instr.indexAt 22 (.slice r41.a r41.len r41.cap) (.int .i64 44)) (.one .adr) (fun x53 w =>
                semS Tryd.prog (Instr.loadAt 5 (.pointer (some x53))) (.one (.int .u8)) (fun x54 w =>
                J46 (x54 == 0) w) w) w)
              (J46 false w)) fun J44 =>
          cond ((r42 == 0) && ((r41.len : Int) == 64))
            (semS Tryd.prog (Instr.indexAt 22 (.slice r41.a r41.len r41.cap) (.int .i64 43)) (.one .adr) (fun x55 w =>
              semS Tryd.prog (Instr.loadAt 5 (.pointer (some x55))) (.one (.int .u8)) (fun x56 w =>
              J44 (x56 == 7) w) w) w)
            (J44 false w)) w)) fun J40 =>
      cond b37
        (J40 true w)
        (callS Tryd.prog 15 #[(.pointer r35)] [(.one (.int .i64))] (fun r57 w =>
          J40 (r57 != 5) w) w)) fun J38 =>
    cond (r36 != 0)
      (J38 true w)
      (semS Tryd.prog (binS .eql 32 (.tmp 29) (.const (Go.Value.pointer none)) (.pointer r35) (.pointer none)) (.one .bool) (fun x58 w =>
        J38 x58 w) w)) w) w)) w) w) w) w) w) w) w) w) w) w) w
theorem f7_ok  {K : Bool → World → Prop} {w : World} (h : f7  K w) : callS Tryd.prog 7 #[] [(.one .bool)] K w :=
  calls_of_fn (args := []) Tryd.f7 [] [] [] .nil (by kernel_rfl) (by kernel_rfl)
    (Eq.mp (by kernel_rfl : f7  K w = evFn Tryd.prog Tryd.f7 [] [] [] .nil [] [(.one .bool)] K w) h)

/-- (sallyport/sallyportlaw17.Seed).small -/
def f8 (p0_0 : Int) (p0_1 : Int) (p0_2 : Int) (p0_3 : Sl) (p0_4 : Sl) (K : Bool → World → Prop) (w : World) : Prop :=
  semS Tryd.prog (Instr.box 24 (.agg #[(.int .i64 p0_0), (.int .i64 p0_1), (.int .i64 p0_2), (.slice p0_3.a p0_3.len p0_3.cap), (.slice p0_4.a p0_4.len p0_4.cap)])) (.one .adr) (fun x1 w =>
  semS Tryd.prog (Instr.loadAt 22 (.pointer (some (x1.add 3)))) (.one .slc) (fun x2 w =>
  joinS (σ := Bool) (fun b3 w =>
    joinS (σ := Bool) (fun b5 w =>
      K b5 w) fun J6 =>
    cond b3
      (semS Tryd.prog (Instr.loadAt 3 (.pointer (some (x1.add 1)))) (.one (.int .i64)) (fun x7 w =>
        J6 (decide (x7 ≤ 4096)) w) w)
      (J6 false w)) fun J4 =>
  cond (decide ((x2.len : Int) ≤ 64))
    (semS Tryd.prog (Instr.loadAt 22 (.pointer (some (x1.add 4)))) (.one .slc) (fun x8 w =>
      J4 (decide ((x8.len : Int) ≤ 1500)) w) w)
    (J4 false w)) w) w
theorem f8_ok {p0_0 : Int} {p0_1 : Int} {p0_2 : Int} {p0_3 : Sl} {p0_4 : Sl} {K : Bool → World → Prop} {w : World} (h : f8 p0_0 p0_1 p0_2 p0_3 p0_4 K w) : callS Tryd.prog 8 #[(.agg #[(.int .i64 p0_0), (.int .i64 p0_1), (.int .i64 p0_2), (.slice p0_3.a p0_3.len p0_3.cap), (.slice p0_4.a p0_4.len p0_4.cap)])] [(.one .bool)] K w :=
  calls_of_fn (args := [(.agg #[(.int .i64 p0_0), (.int .i64 p0_1), (.int .i64 p0_2), (.slice p0_3.a p0_3.len p0_3.cap), (.slice p0_4.a p0_4.len p0_4.cap)])]) Tryd.f8 [] [] [] .nil (by kernel_rfl) (by kernel_rfl)
    (Eq.mp (by kernel_rfl : f8 p0_0 p0_1 p0_2 p0_3 p0_4 K w = evFn Tryd.prog Tryd.f8 [] [] [] .nil [(.agg #[(.int .i64 p0_0), (.int .i64 p0_1), (.int .i64 p0_2), (.slice p0_3.a p0_3.len p0_3.cap), (.slice p0_4.a p0_4.len p0_4.cap)])] [(.one .bool)] K w) h)

/-- sallyport/sallyportlaw17.bytes -/
def f12 (p0 : Sl) (p1 : Sl) (K : Bool → World → Prop) (w : World) : Prop :=
  cond ((p0.len : Int) != (p1.len : Int))
    (K false w)
    (loopS (σ := Int) (fun x1 w again2 =>
      cond (decide (x1 < (p0.len : Int)))
        (semS Tryd.prog (Instr.indexAt 39 (.slice p0.a p0.len p0.cap) (.int .i64 x1)) (.one .adr) (fun x3 w =>
        semS Tryd.prog (Instr.loadAt 22 (.pointer (some x3))) (.one .slc) (fun x4 w =>
        drawS w fun C w =>
        semQ Tryd.prog C (convert 22 9 (.slice x4.a x4.len x4.cap)) (.one .str) (fun x5 =>
        semQ Tryd.prog C (Instr.indexAt 39 (.slice p1.a p1.len p1.cap) (.int .i64 x1)) (.one .adr) (fun x6 =>
        semQ Tryd.prog C (Instr.loadAt 22 (.pointer (some x6))) (.one .slc) (fun x7 =>
        semQ Tryd.prog C (convert 22 9 (.slice x7.a x7.len x7.cap)) (.one .str) (fun x8 =>
        cond (!(x5.toList == x8.toList))
          (K false w)
          (again2 (IntKind.wrap .i64 (x1 + 1)) w)))))) w) w)
        (K true w)) 0 w)
theorem f12_ok {p0 : Sl} {p1 : Sl} {K : Bool → World → Prop} {w : World} (h : f12 p0 p1 K w) : callS Tryd.prog 12 #[(.slice p0.a p0.len p0.cap), (.slice p1.a p1.len p1.cap)] [(.one .bool)] K w :=
  calls_of_fn (args := [(.slice p0.a p0.len p0.cap), (.slice p1.a p1.len p1.cap)]) Tryd.f12 [] [] [] (.two .nil (.two .nil (.two (.two .nil (.one (.loop [(14, (.int .i64))] (.two .nil (.two .nil (.two (.one (.two .nil (.two (.draw [0, 1, 0, 0, 12, 28, 60, 127]) .nil))) .nil)))))) .nil))) (by kernel_rfl) (by kernel_rfl)
    (Eq.mp (by kernel_rfl : f12 p0 p1 K w = evFn Tryd.prog Tryd.f12 [] [] [] (.two .nil (.two .nil (.two (.two .nil (.one (.loop [(14, (.int .i64))] (.two .nil (.two .nil (.two (.one (.two .nil (.two (.draw [0, 1, 0, 0, 12, 28, 60, 127]) .nil))) .nil)))))) .nil))) [(.slice p0.a p0.len p0.cap), (.slice p1.a p1.len p1.cap)] [(.one .bool)] K w) h)

/-- sallyport/sallyportlaw17.VerityOrder -/
def f3 (p0_0 : Int) (p0_1 : Int) (p0_2 : Int) (p0_3 : Sl) (p0_4 : Sl) (p1 : Sl) (p2 : Sl) (p3 : Int) (K : Bool → World → Prop) (w : World) : Prop :=
  semS Tryd.prog (Instr.box 24 (.agg #[(.int .i64 p0_0), (.int .i64 p0_1), (.int .i64 p0_2), (.slice p0_3.a p0_3.len p0_3.cap), (.slice p0_4.a p0_4.len p0_4.cap)])) (.one .adr) (fun x1 w =>
  callS Tryd.prog 7 #[] [(.one .bool)] (fun r2 w =>
  cond (!r2)
    (K false w)
    (semS Tryd.prog (Instr.loadAt 24 (.pointer (some x1))) (.agg [(.int .i64), (.int .i64), (.int .i64), .slc, .slc]) (fun x3 x4 x5 x6 x7 w =>
    callS Tryd.prog 8 #[(.agg #[(.int .i64 x3), (.int .i64 x4), (.int .i64 x5), (.slice x6.a x6.len x6.cap), (.slice x7.a x7.len x7.cap)])] [(.one .bool)] (fun r8 w =>
    cond (((!r8) || (decide ((p1.len : Int) > 30))) || (decide ((p2.len : Int) > 30)))
      (K true w)
      (semS Tryd.prog (Instr.loadAt 24 (.pointer (some x1))) (.agg [(.int .i64), (.int .i64), (.int .i64), .slc, .slc]) (fun x9 x10 x11 x12 x13 w =>
      callS Tryd.prog 9 #[(.agg #[(.int .i64 x9), (.int .i64 x10), (.int .i64 x11), (.slice x12.a x12.len x12.cap), (.slice x13.a x13.len x13.cap)])] [(.one .ptr), (.agg [(.int .i64), (.int .i64), (.int .i64), (.int .i64), (.int .i64), (.int .i64), .str, .slc, .slc, .slc, .slc])] (fun r14 r15 r16 r17 r18 r19 r20 r21 r22 r23 r24 r25 w =>
      semS Tryd.prog (Instr.alloc 29 true (.tuple #[])) (.one .adr) (fun x26 w =>
      semU Tryd.prog (Instr.storeAt 29 (.pointer (some x26)) (.agg #[(.int .i64 r15), (.int .i64 r16), (.int .i64 r17), (.int .i64 r18), (.int .i64 r19), (.int .i64 r20), (.string r21), (.slice r22.a r22.len r22.cap), (.slice r23.a r23.len r23.cap), (.slice r24.a r24.len r24.cap), (.slice r25.a r25.len r25.cap)])) (fun w =>
      semS Tryd.prog (binS .eql 27 (.tmp 43) (.const (Go.Value.pointer none)) (.pointer r14) (.pointer none)) (.one .bool) (fun x27 w =>
      cond x27
        (K true w)
        (semS Tryd.prog (Instr.loadAt 29 (.pointer (some x26))) (.agg [(.int .i64), (.int .i64), (.int .i64), (.int .i64), (.int .i64), (.int .i64), .str, .slc, .slc, .slc, .slc]) (fun x28 x29 x30 x31 x32 x33 x34 x35 x36 x37 x38 w =>
        callS Tryd.prog 10 #[(.pointer r14), (.string (ByteArray.mk #[112])), (.agg #[(.int .i64 x28), (.int .i64 x29), (.int .i64 x30), (.int .i64 x31), (.int .i64 x32), (.int .i64 x33), (.string x34), (.slice x35.a x35.len x35.cap), (.slice x36.a x36.len x36.cap), (.slice x37.a x37.len x37.cap), (.slice x38.a x38.len x38.cap)]), (.int .i64 0)] [(.one .ptr), (.one (.int .i64))] (fun r39 r40 w =>
        semS Tryd.prog (Instr.loadAt 29 (.pointer (some x26))) (.agg [(.int .i64), (.int .i64), (.int .i64), (.int .i64), (.int .i64), (.int .i64), .str, .slc, .slc, .slc, .slc]) (fun x41 x42 x43 x44 x45 x46 x47 x48 x49 x50 x51 w =>
        callS Tryd.prog 10 #[(.pointer r14), (.string (ByteArray.mk #[112])), (.agg #[(.int .i64 x41), (.int .i64 x42), (.int .i64 x43), (.int .i64 x44), (.int .i64 x45), (.int .i64 x46), (.string x47), (.slice x48.a x48.len x48.cap), (.slice x49.a x49.len x49.cap), (.slice x50.a x50.len x50.cap), (.slice x51.a x51.len x51.cap)]), (.int .i64 1)] [(.one .ptr), (.one (.int .i64))] (fun r52 r53 w =>
        joinS (σ := Bool) (fun b54 w =>
          joinS (σ := Bool) (fun b56 w =>
            cond b56
              (K false w)
              (loopS (σ := Int) (fun x58 w again59 =>
                cond (decide (x58 < (p1.len : Int)))
                  (semS Tryd.prog (Instr.indexAt 25 (.slice p1.a p1.len p1.cap) (.int .i64 x58)) (.one .adr) (fun x60 w =>
                  semS Tryd.prog (Instr.loadAt 3 (.pointer (some x60))) (.one (.int .i64)) (fun x61 w =>
                  callS Tryd.prog 11 #[(.pointer r39), (.int .i64 x61)] [(.one .slc), (.one (.int .i64))] (fun r62 r63 w =>
                  again59 (IntKind.wrap .i64 (x58 + 1)) w) w) w) w)
                  (loopS (σ := Int) (fun x64 w again65 =>
                    cond (decide (x64 < (p2.len : Int)))
                      (semS Tryd.prog (Instr.indexAt 25 (.slice p2.a p2.len p2.cap) (.int .i64 x64)) (.one .adr) (fun x66 w =>
                      semS Tryd.prog (Instr.loadAt 3 (.pointer (some x66))) (.one (.int .i64)) (fun x67 w =>
                      callS Tryd.prog 11 #[(.pointer r52), (.int .i64 x67)] [(.one .slc), (.one (.int .i64))] (fun r68 r69 w =>
                      again65 (IntKind.wrap .i64 (x64 + 1)) w) w) w) w)
                      (callS Tryd.prog 11 #[(.pointer r39), (.int .i64 p3)] [(.one .slc), (.one (.int .i64))] (fun r70 r71 w =>
                      callS Tryd.prog 11 #[(.pointer r52), (.int .i64 p3)] [(.one .slc), (.one (.int .i64))] (fun r72 r73 w =>
                      joinS (σ := Bool) (fun b74 w =>
                        joinS (σ := Bool) (fun b76 w =>
                          K b76 w) fun J77 =>
                        cond b74
                          (callS Tryd.prog 13 #[(.pointer r39)] [(.one .slc)] (fun r78 w =>
                            callS Tryd.prog 13 #[(.pointer r52)] [(.one .slc)] (fun r79 w =>
                            callS Tryd.prog 12 #[(.slice r78.a r78.len r78.cap), (.slice r79.a r79.len r79.cap)] [(.one .bool)] (fun r80 w =>
                            J77 r80 w) w) w) w)
                          (J77 false w)) fun J75 =>
                      cond (r71 == r73)
                        (semS Tryd.prog (convert 22 9 (.slice r70.a r70.len r70.cap)) (.one .str) (fun x81 w =>
                          semS Tryd.prog (convert 22 9 (.slice r72.a r72.len r72.cap)) (.one .str) (fun x82 w =>
                          J75 (x81.toList == x82.toList) w) w) w)
                        (J75 false w)) w) w)) 0 w)) 0 w)) fun J57 =>
          cond b54
            (J57 true w)
            (semS Tryd.prog (binS .eql 32 (.tmp 68) (.const (Go.Value.pointer none)) (.pointer r52) (.pointer none)) (.one .bool) (fun x83 w =>
              J57 x83 w) w)) fun J55 =>
        cond ((r40 != 0) || (r53 != 0))
          (J55 true w)
          (semS Tryd.prog (binS .eql 32 (.tmp 64) (.const (Go.Value.pointer none)) (.pointer r39) (.pointer none)) (.one .bool) (fun x84 w =>
            J55 x84 w) w)) w) w) w) w)) w) w) w) w) w)) w) w)) w) w
theorem f3_ok {p0_0 : Int} {p0_1 : Int} {p0_2 : Int} {p0_3 : Sl} {p0_4 : Sl} {p1 : Sl} {p2 : Sl} {p3 : Int} {K : Bool → World → Prop} {w : World} (h : f3 p0_0 p0_1 p0_2 p0_3 p0_4 p1 p2 p3 K w) : callS Tryd.prog 3 #[(.agg #[(.int .i64 p0_0), (.int .i64 p0_1), (.int .i64 p0_2), (.slice p0_3.a p0_3.len p0_3.cap), (.slice p0_4.a p0_4.len p0_4.cap)]), (.slice p1.a p1.len p1.cap), (.slice p2.a p2.len p2.cap), (.int .i64 p3)] [(.one .bool)] K w :=
  calls_of_fn (args := [(.agg #[(.int .i64 p0_0), (.int .i64 p0_1), (.int .i64 p0_2), (.slice p0_3.a p0_3.len p0_3.cap), (.slice p0_4.a p0_4.len p0_4.cap)]), (.slice p1.a p1.len p1.cap), (.slice p2.a p2.len p2.cap), (.int .i64 p3)]) Tryd.f3 [] [] [] (.two .nil (.two .nil (.two .nil (.two .nil (.two .nil (.two .nil (.two .nil (.two .nil (.two (.two .nil (.one (.loop [(73, (.int .i64))] .nil))) (.two (.two .nil (.one (.loop [(83, (.int .i64))] .nil))) .nil)))))))))) (by kernel_rfl) (by kernel_rfl)
    (Eq.mp (by kernel_rfl : f3 p0_0 p0_1 p0_2 p0_3 p0_4 p1 p2 p3 K w = evFn Tryd.prog Tryd.f3 [] [] [] (.two .nil (.two .nil (.two .nil (.two .nil (.two .nil (.two .nil (.two .nil (.two .nil (.two (.two .nil (.one (.loop [(73, (.int .i64))] .nil))) (.two (.two .nil (.one (.loop [(83, (.int .i64))] .nil))) .nil)))))))))) [(.agg #[(.int .i64 p0_0), (.int .i64 p0_1), (.int .i64 p0_2), (.slice p0_3.a p0_3.len p0_3.cap), (.slice p0_4.a p0_4.len p0_4.cap)]), (.slice p1.a p1.len p1.cap), (.slice p2.a p2.len p2.cap), (.int .i64 p3)] [(.one .bool)] K w) h)

/-- sallyport/sallyportlaw17.VerityMost -/
def f4 (p0_0 : Int) (p0_1 : Int) (p0_2 : Int) (p0_3 : Sl) (p0_4 : Sl) (p1 : Sl) (K : Bool → World → Prop) (w : World) : Prop :=
  semS Tryd.prog (Instr.box 24 (.agg #[(.int .i64 p0_0), (.int .i64 p0_1), (.int .i64 p0_2), (.slice p0_3.a p0_3.len p0_3.cap), (.slice p0_4.a p0_4.len p0_4.cap)])) (.one .adr) (fun x1 w =>
  callS Tryd.prog 7 #[] [(.one .bool)] (fun r2 w =>
  cond (!r2)
    (K false w)
    (semS Tryd.prog (Instr.loadAt 24 (.pointer (some x1))) (.agg [(.int .i64), (.int .i64), (.int .i64), .slc, .slc]) (fun x3 x4 x5 x6 x7 w =>
    callS Tryd.prog 8 #[(.agg #[(.int .i64 x3), (.int .i64 x4), (.int .i64 x5), (.slice x6.a x6.len x6.cap), (.slice x7.a x7.len x7.cap)])] [(.one .bool)] (fun r8 w =>
    cond ((!r8) || (decide ((p1.len : Int) > 60)))
      (K true w)
      (semS Tryd.prog (Instr.loadAt 24 (.pointer (some x1))) (.agg [(.int .i64), (.int .i64), (.int .i64), .slc, .slc]) (fun x9 x10 x11 x12 x13 w =>
      callS Tryd.prog 9 #[(.agg #[(.int .i64 x9), (.int .i64 x10), (.int .i64 x11), (.slice x12.a x12.len x12.cap), (.slice x13.a x13.len x13.cap)])] [(.one .ptr), (.agg [(.int .i64), (.int .i64), (.int .i64), (.int .i64), (.int .i64), (.int .i64), .str, .slc, .slc, .slc, .slc])] (fun r14 r15 r16 r17 r18 r19 r20 r21 r22 r23 r24 r25 w =>
      semS Tryd.prog (Instr.alloc 29 true (.tuple #[])) (.one .adr) (fun x26 w =>
      semU Tryd.prog (Instr.storeAt 29 (.pointer (some x26)) (.agg #[(.int .i64 r15), (.int .i64 r16), (.int .i64 r17), (.int .i64 r18), (.int .i64 r19), (.int .i64 r20), (.string r21), (.slice r22.a r22.len r22.cap), (.slice r23.a r23.len r23.cap), (.slice r24.a r24.len r24.cap), (.slice r25.a r25.len r25.cap)])) (fun w =>
      semS Tryd.prog (binS .eql 27 (.tmp 31) (.const (Go.Value.pointer none)) (.pointer r14) (.pointer none)) (.one .bool) (fun x27 w =>
      cond x27
        (K true w)
        (semS Tryd.prog (Instr.loadAt 29 (.pointer (some x26))) (.agg [(.int .i64), (.int .i64), (.int .i64), (.int .i64), (.int .i64), (.int .i64), .str, .slc, .slc, .slc, .slc]) (fun x28 x29 x30 x31 x32 x33 x34 x35 x36 x37 x38 w =>
        callS Tryd.prog 10 #[(.pointer r14), (.string (ByteArray.mk #[112])), (.agg #[(.int .i64 x28), (.int .i64 x29), (.int .i64 x30), (.int .i64 x31), (.int .i64 x32), (.int .i64 x33), (.string x34), (.slice x35.a x35.len x35.cap), (.slice x36.a x36.len x36.cap), (.slice x37.a x37.len x37.cap), (.slice x38.a x38.len x38.cap)]), (.int .i64 0)] [(.one .ptr), (.one (.int .i64))] (fun r39 r40 w =>
        joinS (σ := Bool) (fun b41 w =>
          cond b41
            (K false w)
            (loopS (σ := Int) (fun x43 w again44 =>
              cond (decide (x43 < (p1.len : Int)))
                (semS Tryd.prog (Instr.indexAt 25 (.slice p1.a p1.len p1.cap) (.int .i64 x43)) (.one .adr) (fun x45 w =>
                semS Tryd.prog (Instr.loadAt 3 (.pointer (some x45))) (.one (.int .i64)) (fun x46 w =>
                callS Tryd.prog 11 #[(.pointer r39), (.int .i64 x46)] [(.one .slc), (.one (.int .i64))] (fun r47 r48 w =>
                again44 (IntKind.wrap .i64 (x43 + 1)) w) w) w) w)
                (callS Tryd.prog 14 #[(.pointer r39)] [(.one .slc)] (fun r49 w =>
                loopS (σ := Int) (fun x50 w again51 =>
                  cond (decide (x50 < (r49.len : Int)))
                    (semS Tryd.prog (Instr.indexAt 42 (.slice r49.a r49.len r49.cap) (.int .i64 x50)) (.one .adr) (fun x52 w =>
                    semS Tryd.prog (Instr.loadAt 44 (.pointer (some x52))) (.one .cpx) (fun x53 w =>
                    cond ((fOrd x53.im 4607182418800017408) == some .lt)
                      (K false w)
                      (semS Tryd.prog (Instr.sliceAt 42 (.slice r49.a r49.len r49.cap) none (some (.int .i64 x50)) none) (.one .slc) (fun x54 w =>
                      loopS (σ := Int) (fun x55 w again56 =>
                        cond (decide (x55 < (x54.len : Int)))
                          (semS Tryd.prog (Instr.indexAt 42 (.slice x54.a x54.len x54.cap) (.int .i64 x55)) (.one .adr) (fun x57 w =>
                          semS Tryd.prog (Instr.loadAt 44 (.pointer (some x57))) (.one .cpx) (fun x58 w =>
                          cond (fcEq x53.re x58.re && fcEq x53.im x58.im)
                            (K false w)
                            (again56 (IntKind.wrap .i64 (x55 + 1)) w)) w) w)
                          (again51 (IntKind.wrap .i64 (x50 + 1)) w)) 0 w) w)) w) w)
                    (K (decide ((r49.len : Int) ≤ 64)) w)) 0 w) w)) 0 w)) fun J42 =>
        cond (r40 != 0)
          (J42 true w)
          (semS Tryd.prog (binS .eql 32 (.tmp 42) (.const (Go.Value.pointer none)) (.pointer r39) (.pointer none)) (.one .bool) (fun x59 w =>
            J42 x59 w) w)) w) w)) w) w) w) w) w)) w) w)) w) w
theorem f4_ok {p0_0 : Int} {p0_1 : Int} {p0_2 : Int} {p0_3 : Sl} {p0_4 : Sl} {p1 : Sl} {K : Bool → World → Prop} {w : World} (h : f4 p0_0 p0_1 p0_2 p0_3 p0_4 p1 K w) : callS Tryd.prog 4 #[(.agg #[(.int .i64 p0_0), (.int .i64 p0_1), (.int .i64 p0_2), (.slice p0_3.a p0_3.len p0_3.cap), (.slice p0_4.a p0_4.len p0_4.cap)]), (.slice p1.a p1.len p1.cap)] [(.one .bool)] K w :=
  calls_of_fn (args := [(.agg #[(.int .i64 p0_0), (.int .i64 p0_1), (.int .i64 p0_2), (.slice p0_3.a p0_3.len p0_3.cap), (.slice p0_4.a p0_4.len p0_4.cap)]), (.slice p1.a p1.len p1.cap)]) Tryd.f4 [] [] [] (.two .nil (.two .nil (.two .nil (.two .nil (.two .nil (.two .nil (.two .nil (.two (.two .nil (.one (.loop [(47, (.int .i64))] .nil))) (.two .nil (.two (.two .nil (.one (.loop [(59, (.int .i64))] (.two .nil (.two .nil (.two (.one (.two .nil (.two .nil (.two .nil (.one (.loop [(71, (.int .i64))] .nil)))))) .nil)))))) .nil)))))))))) (by kernel_rfl) (by kernel_rfl)
    (Eq.mp (by kernel_rfl : f4 p0_0 p0_1 p0_2 p0_3 p0_4 p1 K w = evFn Tryd.prog Tryd.f4 [] [] [] (.two .nil (.two .nil (.two .nil (.two .nil (.two .nil (.two .nil (.two .nil (.two (.two .nil (.one (.loop [(47, (.int .i64))] .nil))) (.two .nil (.two (.two .nil (.one (.loop [(59, (.int .i64))] (.two .nil (.two .nil (.two (.one (.two .nil (.two .nil (.two .nil (.one (.loop [(71, (.int .i64))] .nil)))))) .nil)))))) .nil)))))))))) [(.agg #[(.int .i64 p0_0), (.int .i64 p0_1), (.int .i64 p0_2), (.slice p0_3.a p0_3.len p0_3.cap), (.slice p0_4.a p0_4.len p0_4.cap)]), (.slice p1.a p1.len p1.cap)] [(.one .bool)] K w) h)

/-- (*sallyport/verity.Reader).Broken -/
def f16 (p0 : Option Addr) (K : Bool → World → Prop) (w : World) : Prop :=
  nilS p0 fun a1 =>
  semS Tryd.prog (Instr.loadAt 4 (.pointer (some (a1.add 19)))) (.one .bool) (fun x2 w =>
  K x2 w) w
theorem f16_ok {p0 : Option Addr} {K : Bool → World → Prop} {w : World} (h : f16 p0 K w) : callS Tryd.prog 16 #[(.pointer p0)] [(.one .bool)] K w :=
  calls_of_fn (args := [(.pointer p0)]) Tryd.f16 [] [] [] .nil (by kernel_rfl) (by kernel_rfl)
    (Eq.mp (by kernel_rfl : f16 p0 K w = evFn Tryd.prog Tryd.f16 [] [] [] .nil [(.pointer p0)] [(.one .bool)] K w) h)

/-- sallyport/sallyportlaw17.VerityFair -/
def f5 (p0_0 : Int) (p0_1 : Int) (p0_2 : Int) (p0_3 : Sl) (p0_4 : Sl) (p1 : Sl) (K : Bool → World → Prop) (w : World) : Prop :=
  semS Tryd.prog (Instr.box 24 (.agg #[(.int .i64 p0_0), (.int .i64 p0_1), (.int .i64 p0_2), (.slice p0_3.a p0_3.len p0_3.cap), (.slice p0_4.a p0_4.len p0_4.cap)])) (.one .adr) (fun x1 w =>
  callS Tryd.prog 7 #[] [(.one .bool)] (fun r2 w =>
  cond (!r2)
    (K false w)
    (semS Tryd.prog (Instr.loadAt 24 (.pointer (some x1))) (.agg [(.int .i64), (.int .i64), (.int .i64), .slc, .slc]) (fun x3 x4 x5 x6 x7 w =>
    callS Tryd.prog 8 #[(.agg #[(.int .i64 x3), (.int .i64 x4), (.int .i64 x5), (.slice x6.a x6.len x6.cap), (.slice x7.a x7.len x7.cap)])] [(.one .bool)] (fun r8 w =>
    cond ((!r8) || (decide ((p1.len : Int) > 60)))
      (K true w)
      (semS Tryd.prog (Instr.loadAt 24 (.pointer (some x1))) (.agg [(.int .i64), (.int .i64), (.int .i64), .slc, .slc]) (fun x9 x10 x11 x12 x13 w =>
      callS Tryd.prog 9 #[(.agg #[(.int .i64 x9), (.int .i64 x10), (.int .i64 x11), (.slice x12.a x12.len x12.cap), (.slice x13.a x13.len x13.cap)])] [(.one .ptr), (.agg [(.int .i64), (.int .i64), (.int .i64), (.int .i64), (.int .i64), (.int .i64), .str, .slc, .slc, .slc, .slc])] (fun r14 r15 r16 r17 r18 r19 r20 r21 r22 r23 r24 r25 w =>
      semS Tryd.prog (Instr.alloc 29 true (.tuple #[])) (.one .adr) (fun x26 w =>
      semU Tryd.prog (Instr.storeAt 29 (.pointer (some x26)) (.agg #[(.int .i64 r15), (.int .i64 r16), (.int .i64 r17), (.int .i64 r18), (.int .i64 r19), (.int .i64 r20), (.string r21), (.slice r22.a r22.len r22.cap), (.slice r23.a r23.len r23.cap), (.slice r24.a r24.len r24.cap), (.slice r25.a r25.len r25.cap)])) (fun w =>
      semS Tryd.prog (binS .eql 27 (.tmp 29) (.const (Go.Value.pointer none)) (.pointer r14) (.pointer none)) (.one .bool) (fun x27 w =>
      cond x27
        (K true w)
        (semS Tryd.prog (Instr.loadAt 29 (.pointer (some x26))) (.agg [(.int .i64), (.int .i64), (.int .i64), (.int .i64), (.int .i64), (.int .i64), .str, .slc, .slc, .slc, .slc]) (fun x28 x29 x30 x31 x32 x33 x34 x35 x36 x37 x38 w =>
        semS Tryd.prog (Instr.loadAt 3 (.pointer (some (x1.add 2)))) (.one (.int .i64)) (fun x39 w =>
        callS Tryd.prog 10 #[(.pointer r14), (.string (ByteArray.mk #[112])), (.agg #[(.int .i64 x28), (.int .i64 x29), (.int .i64 x30), (.int .i64 x31), (.int .i64 x32), (.int .i64 x33), (.string x34), (.slice x35.a x35.len x35.cap), (.slice x36.a x36.len x36.cap), (.slice x37.a x37.len x37.cap), (.slice x38.a x38.len x38.cap)]), (.int .i64 x39)] [(.one .ptr), (.one (.int .i64))] (fun r40 r41 w =>
        cond (r41 != 0)
          (semS Tryd.prog (Instr.loadAt 3 (.pointer (some (x1.add 2)))) (.one (.int .i64)) (fun x42 w =>
          joinS (σ := Bool) (fun b43 w =>
            K b43 w) fun J44 =>
          cond (decide (x42 < 0))
            (J44 true w)
            (semS Tryd.prog (Instr.loadAt 3 (.pointer (some (x1.add 2)))) (.one (.int .i64)) (fun x45 w =>
              J44 (decide (x45 > 1)) w) w)) w)
          (loopS (σ := Int) (fun x46 w again47 =>
            cond (decide (x46 < (p1.len : Int)))
              (semS Tryd.prog (Instr.indexAt 25 (.slice p1.a p1.len p1.cap) (.int .i64 x46)) (.one .adr) (fun x48 w =>
              semS Tryd.prog (Instr.loadAt 3 (.pointer (some x48))) (.one (.int .i64)) (fun x49 w =>
              callS Tryd.prog 11 #[(.pointer r40), (.int .i64 x49)] [(.one .slc), (.one (.int .i64))] (fun r50 r51 w =>
              joinS (σ := Bool) (fun b52 w =>
                cond b52
                  (cond ((r51 != 13) || ((r50.len : Int) != 0))
                    (K false w)
                    (again47 (IntKind.wrap .i64 (x46 + 1)) w))
                  (semS Tryd.prog (Instr.loadAt 3 (.pointer (some (x1.add 1)))) (.one (.int .i64)) (fun x54 w =>
                  semS Tryd.prog (Instr.makeSlice 22 (.int .i64 x54) (.int .i64 x54)) (.one .slc) (fun x55 w =>
                  semS Tryd.prog (Instr.loadAt 22 (.pointer (some (x1.add 4)))) (.one .slc) (fun x56 w =>
                  semS Tryd.prog (Instr.loadAt 3 (.pointer (some (x1.add 1)))) (.one (.int .i64)) (fun x57 w =>
                  semS Tryd.prog (Instr.sliceAt 22 (.slice x56.a x56.len x56.cap) (some (.int .i64 (IntKind.wrap .i64 (x49 * x57)))) none none) (.one .slc) (fun x58 w =>
                  semS Tryd.prog (Builtin.copy_ #[22, 22] 3 #[(.slice x55.a x55.len x55.cap), (.slice x58.a x58.len x58.cap)]) (.one (.int .i64)) (fun r59 w =>
                  joinS (σ := Bool) (fun b60 w =>
                    cond b60
                      (K false w)
                      (again47 (IntKind.wrap .i64 (x46 + 1)) w)) fun J61 =>
                  cond (r51 != 0)
                    (J61 true w)
                    (semS Tryd.prog (convert 22 9 (.slice r50.a r50.len r50.cap)) (.one .str) (fun x62 w =>
                      semS Tryd.prog (convert 22 9 (.slice x55.a x55.len x55.cap)) (.one .str) (fun x63 w =>
                      J61 (!(x62.toList == x63.toList)) w) w) w)) w) w) w) w) w) w)) fun J53 =>
              cond (decide (x49 < 0))
                (J53 true w)
                (callS Tryd.prog 15 #[(.pointer r40)] [(.one (.int .i64))] (fun r64 w =>
                  J53 (decide (x49 ≥ r64)) w) w)) w) w) w)
              (callS Tryd.prog 16 #[(.pointer r40)] [(.one .bool)] (fun r65 w =>
              K (!r65) w) w)) 0 w)) w) w) w)) w) w) w) w) w)) w) w)) w) w
theorem f5_ok {p0_0 : Int} {p0_1 : Int} {p0_2 : Int} {p0_3 : Sl} {p0_4 : Sl} {p1 : Sl} {K : Bool → World → Prop} {w : World} (h : f5 p0_0 p0_1 p0_2 p0_3 p0_4 p1 K w) : callS Tryd.prog 5 #[(.agg #[(.int .i64 p0_0), (.int .i64 p0_1), (.int .i64 p0_2), (.slice p0_3.a p0_3.len p0_3.cap), (.slice p0_4.a p0_4.len p0_4.cap)]), (.slice p1.a p1.len p1.cap)] [(.one .bool)] K w :=
  calls_of_fn (args := [(.agg #[(.int .i64 p0_0), (.int .i64 p0_1), (.int .i64 p0_2), (.slice p0_3.a p0_3.len p0_3.cap), (.slice p0_4.a p0_4.len p0_4.cap)]), (.slice p1.a p1.len p1.cap)]) Tryd.f5 [] [] [] (.two .nil (.two .nil (.two .nil (.two .nil (.two .nil (.two .nil (.two .nil (.two (.two .nil (.one (.loop [(51, (.int .i64))] .nil))) .nil)))))))) (by kernel_rfl) (by kernel_rfl)
    (Eq.mp (by kernel_rfl : f5 p0_0 p0_1 p0_2 p0_3 p0_4 p1 K w = evFn Tryd.prog Tryd.f5 [] [] [] (.two .nil (.two .nil (.two .nil (.two .nil (.two .nil (.two .nil (.two .nil (.two (.two .nil (.one (.loop [(51, (.int .i64))] .nil))) .nil)))))))) [(.agg #[(.int .i64 p0_0), (.int .i64 p0_1), (.int .i64 p0_2), (.slice p0_3.a p0_3.len p0_3.cap), (.slice p0_4.a p0_4.len p0_4.cap)]), (.slice p1.a p1.len p1.cap)] [(.one .bool)] K w) h)

/-- (*sallyport/drive.Drive).Bad -/
def f17 (p0 : Option Addr) (p1 : ByteArray) (p2 : Int) (p3 : Bool) (K : Bool → World → Prop) (w : World) : Prop :=
  nilS p0 fun a1 =>
  semS Tryd.prog (Instr.loadAt 75 (.pointer (some (a1.add 1)))) (.one .mp) (fun x2 w =>
  semS Tryd.prog (Instr.lookup 75 (.map x2) (.string p1) false) (.one .ptr) (fun x3 w =>
  semS Tryd.prog (binS .eql 74 (.tmp 16) (.const (Go.Value.pointer none)) (.pointer x3) (.pointer none)) (.one .bool) (fun x4 w =>
  joinS (σ := Bool) (fun b5 w =>
    cond b5
      (K false w)
      (nilS x3 fun a7 =>
      semS Tryd.prog (Instr.loadAt 79 (.pointer (some (a7.add 1)))) (.one .mp) (fun x8 w =>
      semU Tryd.prog (Instr.mapUpdate 79 (.map x8) (.int .i64 p2) (.bool true)) (fun w =>
      cond (!p3)
        (nilS x3 fun a9 =>
        semS Tryd.prog (Instr.loadAt 79 (.pointer (some (a9.add 1)))) (.one .mp) (fun x10 w =>
        semS Tryd.prog (Builtin.delete_ #[79, 3] 0 #[(.map x10), (.int .i64 p2)]) (.tup []) (fun w =>
        K true w) w) w)
        (K true w)) w) w)) fun J6 =>
  cond (x4 || (decide (p2 < 0)))
    (J6 true w)
    (nilS x3 fun a11 =>
      semS Tryd.prog (Instr.loadAt 22 (.pointer (some (a11.add 0)))) (.one .slc) (fun x12 w =>
      J6 (decide (p2 ≥ (IntKind.wrap .i64 (Int.tdiv (x12.len : Int) 64)))) w) w)) w) w) w
theorem f17_ok {p0 : Option Addr} {p1 : ByteArray} {p2 : Int} {p3 : Bool} {K : Bool → World → Prop} {w : World} (h : f17 p0 p1 p2 p3 K w) : callS Tryd.prog 17 #[(.pointer p0), (.string p1), (.int .i64 p2), (.bool p3)] [(.one .bool)] K w :=
  calls_of_fn (args := [(.pointer p0), (.string p1), (.int .i64 p2), (.bool p3)]) Tryd.f17 [] [] [] .nil (by kernel_rfl) (by kernel_rfl)
    (Eq.mp (by kernel_rfl : f17 p0 p1 p2 p3 K w = evFn Tryd.prog Tryd.f17 [] [] [] .nil [(.pointer p0), (.string p1), (.int .i64 p2), (.bool p3)] [(.one .bool)] K w) h)

/-- (*sallyport/drive.Drive).Turn -/
def f18 (p0 : Option Addr) (p1 : ByteArray) (p2 : Int) (p3 : Sl) (K : Bool → World → Prop) (w : World) : Prop :=
  nilS p0 fun a1 =>
  semS Tryd.prog (Instr.loadAt 75 (.pointer (some (a1.add 1)))) (.one .mp) (fun x2 w =>
  semS Tryd.prog (Instr.lookup 75 (.map x2) (.string p1) false) (.one .ptr) (fun x3 w =>
  semS Tryd.prog (binS .eql 74 (.tmp 18) (.const (Go.Value.pointer none)) (.pointer x3) (.pointer none)) (.one .bool) (fun x4 w =>
  joinS (σ := Bool) (fun b5 w =>
    cond b5
      (K false w)
      (loopS (σ := Int) (fun x7 w again8 =>
        cond (decide (x7 < (p3.len : Int)))
          (semS Tryd.prog (Instr.indexAt 22 (.slice p3.a p3.len p3.cap) (.int .i64 x7)) (.one .adr) (fun x9 w =>
          semS Tryd.prog (Instr.loadAt 5 (.pointer (some x9))) (.one (.int .u8)) (fun x10 w =>
          nilS x3 fun a11 =>
          semS Tryd.prog (Instr.loadAt 22 (.pointer (some (a11.add 0)))) (.one .slc) (fun x12 w =>
          semS Tryd.prog (Instr.indexAt 22 (.slice x12.a x12.len x12.cap) (.int .i64 (IntKind.wrap .i64 (p2 + x7)))) (.one .adr) (fun x13 w =>
          semS Tryd.prog (Instr.loadAt 5 (.pointer (some x13))) (.one (.int .u8)) (fun x14 w =>
          semS Tryd.prog (Instr.indexAt 22 (.slice x12.a x12.len x12.cap) (.int .i64 (IntKind.wrap .i64 (p2 + x7)))) (.one .adr) (fun x15 w =>
          semU Tryd.prog (Instr.storeAt 5 (.pointer (some x15)) (.int .u8 (xorI .u8 x14 x10))) (fun w =>
          again8 (IntKind.wrap .i64 (x7 + 1)) w) w) w) w) w) w) w) w)
          (K true w)) 0 w)) fun J6 =>
  cond x4
    (J6 true w)
    (nilS x3 fun a16 =>
      semS Tryd.prog (Instr.loadAt 22 (.pointer (some (a16.add 0)))) (.one .slc) (fun x17 w =>
      callS Tryd.prog 30 #[(.int .i64 p2), (.int .i64 (p3.len : Int)), (.int .i64 (x17.len : Int))] [(.one .bool)] (fun r18 w =>
      J6 (!r18) w) w) w)) w) w) w
theorem f18_ok {p0 : Option Addr} {p1 : ByteArray} {p2 : Int} {p3 : Sl} {K : Bool → World → Prop} {w : World} (h : f18 p0 p1 p2 p3 K w) : callS Tryd.prog 18 #[(.pointer p0), (.string p1), (.int .i64 p2), (.slice p3.a p3.len p3.cap)] [(.one .bool)] K w :=
  calls_of_fn (args := [(.pointer p0), (.string p1), (.int .i64 p2), (.slice p3.a p3.len p3.cap)]) Tryd.f18 [] [] [] (.two .nil (.two .nil (.two .nil (.two (.two .nil (.one (.loop [(34, (.int .i64))] .nil))) .nil)))) (by kernel_rfl) (by kernel_rfl)
    (Eq.mp (by kernel_rfl : f18 p0 p1 p2 p3 K w = evFn Tryd.prog Tryd.f18 [] [] [] (.two .nil (.two .nil (.two .nil (.two (.two .nil (.one (.loop [(34, (.int .i64))] .nil))) .nil)))) [(.pointer p0), (.string p1), (.int .i64 p2), (.slice p3.a p3.len p3.cap)] [(.one .bool)] K w) h)

/-- sallyport/sallyportlaw17.VerityModes -/
def f6 (p0_0 : Int) (p0_1 : Int) (p0_2 : Int) (p0_3 : Sl) (p0_4 : Sl) (p1 : Int) (p2 : Int) (p3 : Int) (K : Bool → World → Prop) (w : World) : Prop :=
  semS Tryd.prog (Instr.box 24 (.agg #[(.int .i64 p0_0), (.int .i64 p0_1), (.int .i64 p0_2), (.slice p0_3.a p0_3.len p0_3.cap), (.slice p0_4.a p0_4.len p0_4.cap)])) (.one .adr) (fun x1 w =>
  callS Tryd.prog 7 #[] [(.one .bool)] (fun r2 w =>
  cond (!r2)
    (K false w)
    (semS Tryd.prog (Instr.loadAt 24 (.pointer (some x1))) (.agg [(.int .i64), (.int .i64), (.int .i64), .slc, .slc]) (fun x3 x4 x5 x6 x7 w =>
    callS Tryd.prog 8 #[(.agg #[(.int .i64 x3), (.int .i64 x4), (.int .i64 x5), (.slice x6.a x6.len x6.cap), (.slice x7.a x7.len x7.cap)])] [(.one .bool)] (fun r8 w =>
    cond ((((!r8) || (decide (p2 < 0))) || (decide (p3 < 1))) || (decide (p3 > 255)))
      (K true w)
      (semS Tryd.prog (Instr.loadAt 24 (.pointer (some x1))) (.agg [(.int .i64), (.int .i64), (.int .i64), .slc, .slc]) (fun x9 x10 x11 x12 x13 w =>
      callS Tryd.prog 9 #[(.agg #[(.int .i64 x9), (.int .i64 x10), (.int .i64 x11), (.slice x12.a x12.len x12.cap), (.slice x13.a x13.len x13.cap)])] [(.one .ptr), (.agg [(.int .i64), (.int .i64), (.int .i64), (.int .i64), (.int .i64), (.int .i64), .str, .slc, .slc, .slc, .slc])] (fun r14 r15 r16 r17 r18 r19 r20 r21 r22 r23 r24 r25 w =>
      semS Tryd.prog (Instr.alloc 29 true (.tuple #[])) (.one .adr) (fun x26 w =>
      semU Tryd.prog (Instr.storeAt 29 (.pointer (some x26)) (.agg #[(.int .i64 r15), (.int .i64 r16), (.int .i64 r17), (.int .i64 r18), (.int .i64 r19), (.int .i64 r20), (.string r21), (.slice r22.a r22.len r22.cap), (.slice r23.a r23.len r23.cap), (.slice r24.a r24.len r24.cap), (.slice r25.a r25.len r25.cap)])) (fun w =>
      semS Tryd.prog (binS .eql 27 (.tmp 51) (.const (Go.Value.pointer none)) (.pointer r14) (.pointer none)) (.one .bool) (fun x27 w =>
      joinS (σ := Bool) (fun b28 w =>
        joinS (σ := Bool) (fun b30 w =>
          joinS (σ := Bool) (fun b32 w =>
            cond b32
              (K true w)
              (semS Tryd.prog (Instr.loadAt 29 (.pointer (some x26))) (.agg [(.int .i64), (.int .i64), (.int .i64), (.int .i64), (.int .i64), (.int .i64), .str, .slc, .slc, .slc, .slc]) (fun x34 x35 x36 x37 x38 x39 x40 x41 x42 x43 x44 w =>
              callS Tryd.prog 10 #[(.pointer r14), (.string (ByteArray.mk #[112])), (.agg #[(.int .i64 x34), (.int .i64 x35), (.int .i64 x36), (.int .i64 x37), (.int .i64 x38), (.int .i64 x39), (.string x40), (.slice x41.a x41.len x41.cap), (.slice x42.a x42.len x42.cap), (.slice x43.a x43.len x43.cap), (.slice x44.a x44.len x44.cap)]), (.int .i64 0)] [(.one .ptr), (.one (.int .i64))] (fun r45 r46 w =>
              semS Tryd.prog (Instr.loadAt 29 (.pointer (some x26))) (.agg [(.int .i64), (.int .i64), (.int .i64), (.int .i64), (.int .i64), (.int .i64), .str, .slc, .slc, .slc, .slc]) (fun x47 x48 x49 x50 x51 x52 x53 x54 x55 x56 x57 w =>
              callS Tryd.prog 10 #[(.pointer r14), (.string (ByteArray.mk #[112])), (.agg #[(.int .i64 x47), (.int .i64 x48), (.int .i64 x49), (.int .i64 x50), (.int .i64 x51), (.int .i64 x52), (.string x53), (.slice x54.a x54.len x54.cap), (.slice x55.a x55.len x55.cap), (.slice x56.a x56.len x56.cap), (.slice x57.a x57.len x57.cap)]), (.int .i64 1)] [(.one .ptr), (.one (.int .i64))] (fun r58 r59 w =>
              cond ((r46 != 0) || (r59 != 0))
                (K false w)
                (callS Tryd.prog 17 #[(.pointer r14), (.string (ByteArray.mk #[112])), (.int .i64 (IntKind.wrap .i64 (Int.tdiv p2 64))), (.bool true)] [(.one .bool)] (fun r60 w =>
                callS Tryd.prog 11 #[(.pointer r45), (.int .i64 p1)] [(.one .slc), (.one (.int .i64))] (fun r61 r62 w =>
                callS Tryd.prog 11 #[(.pointer r58), (.int .i64 p1)] [(.one .slc), (.one (.int .i64))] (fun r63 r64 w =>
                callS Tryd.prog 17 #[(.pointer r14), (.string (ByteArray.mk #[112])), (.int .i64 (IntKind.wrap .i64 (Int.tdiv p2 64))), (.bool false)] [(.one .bool)] (fun r65 w =>
                joinS (σ := Bool) (fun b66 w =>
                  joinS (σ := Bool) (fun b68 w =>
                    cond b68
                      (K false w)
                      (callS Tryd.prog 11 #[(.pointer r45), (.int .i64 p1)] [(.one .slc), (.one (.int .i64))] (fun r70 r71 w =>
                      semS Tryd.prog (Instr.buildSlice 22 1 #[(0, (.int .u8 (IntKind.wrap .u8 p3)))]) (.one .slc) (fun x72 w =>
                      callS Tryd.prog 18 #[(.pointer r14), (.string (ByteArray.mk #[112])), (.int .i64 p2), (.slice x72.a x72.len x72.cap)] [(.one .bool)] (fun r73 w =>
                      callS Tryd.prog 11 #[(.pointer r45), (.int .i64 p1)] [(.one .slc), (.one (.int .i64))] (fun r74 r75 w =>
                      callS Tryd.prog 11 #[(.pointer r58), (.int .i64 p1)] [(.one .slc), (.one (.int .i64))] (fun r76 r77 w =>
                      semS Tryd.prog (Instr.buildSlice 22 1 #[(0, (.int .u8 (IntKind.wrap .u8 p3)))]) (.one .slc) (fun x78 w =>
                      callS Tryd.prog 18 #[(.pointer r14), (.string (ByteArray.mk #[112])), (.int .i64 p2), (.slice x78.a x78.len x78.cap)] [(.one .bool)] (fun r79 w =>
                      callS Tryd.prog 11 #[(.pointer r45), (.int .i64 p1)] [(.one .slc), (.one (.int .i64))] (fun r80 r81 w =>
                      callS Tryd.prog 11 #[(.pointer r58), (.int .i64 p1)] [(.one .slc), (.one (.int .i64))] (fun r82 r83 w =>
                      cond ((r75 == 0) || (r77 == 0))
                        (semS Tryd.prog (convert 22 9 (.slice r74.a r74.len r74.cap)) (.one .str) (fun x84 w =>
                        semS Tryd.prog (convert 22 9 (.slice r70.a r70.len r70.cap)) (.one .str) (fun x85 w =>
                        joinS (σ := Bool) (fun b86 w =>
                          K b86 w) fun J87 =>
                        cond (!(x84.toList == x85.toList))
                          (J87 true w)
                          (semS Tryd.prog (convert 22 9 (.slice r76.a r76.len r76.cap)) (.one .str) (fun x88 w =>
                            semS Tryd.prog (convert 22 9 (.slice r70.a r70.len r70.cap)) (.one .str) (fun x89 w =>
                            J87 (!(x88.toList == x89.toList)) w) w) w)) w) w)
                        (joinS (σ := Bool) (fun b90 w =>
                          joinS (σ := Bool) (fun b92 w =>
                            joinS (σ := Bool) (fun b94 w =>
                              K b94 w) fun J95 =>
                            cond b92
                              (callS Tryd.prog 16 #[(.pointer r45)] [(.one .bool)] (fun r96 w =>
                                J95 (!r96) w) w)
                              (J95 false w)) fun J93 =>
                          cond (b90 && (r83 == 58))
                            (callS Tryd.prog 16 #[(.pointer r58)] [(.one .bool)] (fun r97 w =>
                              J93 r97 w) w)
                            (J93 false w)) fun J91 =>
                        cond ((((r75 == 54) && (r77 == 54)) && ((IntKind.wrap .i64 ((r74.len : Int) + (r76.len : Int))) == 0)) && (r81 == 0))
                          (semS Tryd.prog (convert 22 9 (.slice r80.a r80.len r80.cap)) (.one .str) (fun x98 w =>
                            semS Tryd.prog (convert 22 9 (.slice r70.a r70.len r70.cap)) (.one .str) (fun x99 w =>
                            J91 (x98.toList == x99.toList) w) w) w)
                          (J91 false w))) w) w) w) w) w) w) w) w) w)) fun J69 =>
                  cond b66
                    (J69 true w)
                    (callS Tryd.prog 16 #[(.pointer r58)] [(.one .bool)] (fun r100 w =>
                      J69 r100 w) w)) fun J67 =>
                cond ((r62 != 41) || (r64 != 41))
                  (J67 true w)
                  (callS Tryd.prog 16 #[(.pointer r45)] [(.one .bool)] (fun r101 w =>
                    J67 r101 w) w)) w) w) w) w)) w) w) w) w)) fun J33 =>
          cond b30
            (J33 true w)
            (semS Tryd.prog (Instr.loadAt 3 (.pointer (some (x1.add 1)))) (.one (.int .i64)) (fun x102 w =>
              semS Tryd.prog (binS .quo 3 (.tmp 79) (.tmp 81) (.int .i64 p2) (.int .i64 x102)) (.one (.int .i64)) (fun x103 w =>
              J33 (x103 != p1) w) w) w)) fun J31 =>
        cond b28
          (J31 true w)
          (semS Tryd.prog (Instr.loadAt 22 (.pointer (some (x1.add 4)))) (.one .slc) (fun x104 w =>
            J31 (decide (p2 ≥ (x104.len : Int))) w) w)) fun J29 =>
      cond (x27 || (decide (p1 < 0)))
        (J29 true w)
        (semS Tryd.prog (Instr.loadAt 22 (.pointer (some (x1.add 4)))) (.one .slc) (fun x105 w =>
          semS Tryd.prog (Instr.loadAt 3 (.pointer (some (x1.add 1)))) (.one (.int .i64)) (fun x106 w =>
          semS Tryd.prog (Instr.loadAt 3 (.pointer (some (x1.add 1)))) (.one (.int .i64)) (fun x107 w =>
          semS Tryd.prog (binS .quo 3 (.tmp 65) (.tmp 67) (.int .i64 (IntKind.wrap .i64 ((IntKind.wrap .i64 ((x105.len : Int) + x106)) - 1))) (.int .i64 x107)) (.one (.int .i64)) (fun x108 w =>
          J29 (decide (p1 ≥ x108)) w) w) w) w) w)) w) w) w) w) w)) w) w)) w) w
theorem f6_ok {p0_0 : Int} {p0_1 : Int} {p0_2 : Int} {p0_3 : Sl} {p0_4 : Sl} {p1 : Int} {p2 : Int} {p3 : Int} {K : Bool → World → Prop} {w : World} (h : f6 p0_0 p0_1 p0_2 p0_3 p0_4 p1 p2 p3 K w) : callS Tryd.prog 6 #[(.agg #[(.int .i64 p0_0), (.int .i64 p0_1), (.int .i64 p0_2), (.slice p0_3.a p0_3.len p0_3.cap), (.slice p0_4.a p0_4.len p0_4.cap)]), (.int .i64 p1), (.int .i64 p2), (.int .i64 p3)] [(.one .bool)] K w :=
  calls_of_fn (args := [(.agg #[(.int .i64 p0_0), (.int .i64 p0_1), (.int .i64 p0_2), (.slice p0_3.a p0_3.len p0_3.cap), (.slice p0_4.a p0_4.len p0_4.cap)]), (.int .i64 p1), (.int .i64 p2), (.int .i64 p3)]) Tryd.f6 [] [] [] .nil (by kernel_rfl) (by kernel_rfl)
    (Eq.mp (by kernel_rfl : f6 p0_0 p0_1 p0_2 p0_3 p0_4 p1 p2 p3 K w = evFn Tryd.prog Tryd.f6 [] [] [] .nil [(.agg #[(.int .i64 p0_0), (.int .i64 p0_1), (.int .i64 p0_2), (.slice p0_3.a p0_3.len p0_3.cap), (.slice p0_4.a p0_4.len p0_4.cap)]), (.int .i64 p1), (.int .i64 p2), (.int .i64 p3)] [(.one .bool)] K w) h)

end Go.Proofs.YteopoodhclljjaaDoor
