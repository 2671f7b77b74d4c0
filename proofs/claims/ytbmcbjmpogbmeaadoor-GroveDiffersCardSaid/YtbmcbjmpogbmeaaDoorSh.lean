/- The functions of the program, each as a plain statement, with the proof that it suffices for a call: printed by sh.py out of the loaded code. -/
import Derived.Test.YtbmcbjmpogbmeaaDoorEng6
import Derived.Test.YtbmcbjmpogbmeaaDoorProg
set_option maxRecDepth 100000
set_option linter.unusedVariables false
namespace Go.Proofs.YtbmcbjmpogbmeaaDoor
open Go Go.Eng

/-- sallyport/seal.Size -/
def f27 (p0 : Int) (K : Int → World → Prop) (w : World) : Prop :=
  cond (p0 == 1)
    (K 32 w)
    (cond (p0 == 2)
      (K 64 w)
      (K 0 w))
theorem f27_ok {p0 : Int} {K : Int → World → Prop} {w : World} (h : f27 p0 K w) : callS Tryd.prog 27 #[(.int .i64 p0)] [(.one (.int .i64))] K w :=
  calls_of_fn (args := [(.int .i64 p0)]) Tryd.f27 [] [] [] .nil (by kernel_rfl) (by kernel_rfl)
    (Eq.mp (by kernel_rfl : f27 p0 K w = evFn Tryd.prog Tryd.f27 [] [] [] .nil [(.int .i64 p0)] [(.one (.int .i64))] K w) h)

/-- math/bits.OnesCount32 -/
def f73 (p0 : Int) (K : Int → World → Prop) (w : World) : Prop :=
  drawS w fun C w =>
  semQ Tryd.prog C (Instr.index 9 (.string (ByteArray.mk #[0, 1, 1, 2, 1, 2, 2, 3, 1, 2, 2, 3, 2, 3, 3, 4, 1, 2, 2, 3, 2, 3, 3, 4, 2, 3, 3, 4, 3, 4, 4, 5, 1, 2, 2, 3, 2, 3, 3, 4, 2, 3, 3, 4, 3, 4, 4, 5, 2, 3, 3, 4, 3, 4, 4, 5, 3, 4, 4, 5, 4, 5, 5, 6, 1, 2, 2, 3, 2, 3, 3, 4, 2, 3, 3, 4, 3, 4, 4, 5, 2, 3, 3, 4, 3, 4, 4, 5, 3, 4, 4, 5, 4, 5, 5, 6, 2, 3, 3, 4, 3, 4, 4, 5, 3, 4, 4, 5, 4, 5, 5, 6, 3, 4, 4, 5, 4, 5, 5, 6, 4, 5, 5, 6, 5, 6, 6, 7, 1, 2, 2, 3, 2, 3, 3, 4, 2, 3, 3, 4, 3, 4, 4, 5, 2, 3, 3, 4, 3, 4, 4, 5, 3, 4, 4, 5, 4, 5, 5, 6, 2, 3, 3, 4, 3, 4, 4, 5, 3, 4, 4, 5, 4, 5, 5, 6, 3, 4, 4, 5, 4, 5, 5, 6, 4, 5, 5, 6, 5, 6, 6, 7, 2, 3, 3, 4, 3, 4, 4, 5, 3, 4, 4, 5, 4, 5, 5, 6, 3, 4, 4, 5, 4, 5, 5, 6, 4, 5, 5, 6, 5, 6, 6, 7, 3, 4, 4, 5, 4, 5, 5, 6, 4, 5, 5, 6, 5, 6, 6, 7, 4, 5, 5, 6, 5, 6, 6, 7, 5, 6, 6, 7, 6, 7, 7, 8])) (.int .u32 (shrI .u32 p0 24))) (.one (.int .u8)) (fun x1 =>
  semQ Tryd.prog C (Instr.index 9 (.string (ByteArray.mk #[0, 1, 1, 2, 1, 2, 2, 3, 1, 2, 2, 3, 2, 3, 3, 4, 1, 2, 2, 3, 2, 3, 3, 4, 2, 3, 3, 4, 3, 4, 4, 5, 1, 2, 2, 3, 2, 3, 3, 4, 2, 3, 3, 4, 3, 4, 4, 5, 2, 3, 3, 4, 3, 4, 4, 5, 3, 4, 4, 5, 4, 5, 5, 6, 1, 2, 2, 3, 2, 3, 3, 4, 2, 3, 3, 4, 3, 4, 4, 5, 2, 3, 3, 4, 3, 4, 4, 5, 3, 4, 4, 5, 4, 5, 5, 6, 2, 3, 3, 4, 3, 4, 4, 5, 3, 4, 4, 5, 4, 5, 5, 6, 3, 4, 4, 5, 4, 5, 5, 6, 4, 5, 5, 6, 5, 6, 6, 7, 1, 2, 2, 3, 2, 3, 3, 4, 2, 3, 3, 4, 3, 4, 4, 5, 2, 3, 3, 4, 3, 4, 4, 5, 3, 4, 4, 5, 4, 5, 5, 6, 2, 3, 3, 4, 3, 4, 4, 5, 3, 4, 4, 5, 4, 5, 5, 6, 3, 4, 4, 5, 4, 5, 5, 6, 4, 5, 5, 6, 5, 6, 6, 7, 2, 3, 3, 4, 3, 4, 4, 5, 3, 4, 4, 5, 4, 5, 5, 6, 3, 4, 4, 5, 4, 5, 5, 6, 4, 5, 5, 6, 5, 6, 6, 7, 3, 4, 4, 5, 4, 5, 5, 6, 4, 5, 5, 6, 5, 6, 6, 7, 4, 5, 5, 6, 5, 6, 6, 7, 5, 6, 6, 7, 6, 7, 7, 8])) (.int .u32 (andI .u32 (shrI .u32 p0 16) 255))) (.one (.int .u8)) (fun x2 =>
  semQ Tryd.prog C (Instr.index 9 (.string (ByteArray.mk #[0, 1, 1, 2, 1, 2, 2, 3, 1, 2, 2, 3, 2, 3, 3, 4, 1, 2, 2, 3, 2, 3, 3, 4, 2, 3, 3, 4, 3, 4, 4, 5, 1, 2, 2, 3, 2, 3, 3, 4, 2, 3, 3, 4, 3, 4, 4, 5, 2, 3, 3, 4, 3, 4, 4, 5, 3, 4, 4, 5, 4, 5, 5, 6, 1, 2, 2, 3, 2, 3, 3, 4, 2, 3, 3, 4, 3, 4, 4, 5, 2, 3, 3, 4, 3, 4, 4, 5, 3, 4, 4, 5, 4, 5, 5, 6, 2, 3, 3, 4, 3, 4, 4, 5, 3, 4, 4, 5, 4, 5, 5, 6, 3, 4, 4, 5, 4, 5, 5, 6, 4, 5, 5, 6, 5, 6, 6, 7, 1, 2, 2, 3, 2, 3, 3, 4, 2, 3, 3, 4, 3, 4, 4, 5, 2, 3, 3, 4, 3, 4, 4, 5, 3, 4, 4, 5, 4, 5, 5, 6, 2, 3, 3, 4, 3, 4, 4, 5, 3, 4, 4, 5, 4, 5, 5, 6, 3, 4, 4, 5, 4, 5, 5, 6, 4, 5, 5, 6, 5, 6, 6, 7, 2, 3, 3, 4, 3, 4, 4, 5, 3, 4, 4, 5, 4, 5, 5, 6, 3, 4, 4, 5, 4, 5, 5, 6, 4, 5, 5, 6, 5, 6, 6, 7, 3, 4, 4, 5, 4, 5, 5, 6, 4, 5, 5, 6, 5, 6, 6, 7, 4, 5, 5, 6, 5, 6, 6, 7, 5, 6, 6, 7, 6, 7, 7, 8])) (.int .u32 (andI .u32 (shrI .u32 p0 8) 255))) (.one (.int .u8)) (fun x3 =>
  semQ Tryd.prog C (Instr.index 9 (.string (ByteArray.mk #[0, 1, 1, 2, 1, 2, 2, 3, 1, 2, 2, 3, 2, 3, 3, 4, 1, 2, 2, 3, 2, 3, 3, 4, 2, 3, 3, 4, 3, 4, 4, 5, 1, 2, 2, 3, 2, 3, 3, 4, 2, 3, 3, 4, 3, 4, 4, 5, 2, 3, 3, 4, 3, 4, 4, 5, 3, 4, 4, 5, 4, 5, 5, 6, 1, 2, 2, 3, 2, 3, 3, 4, 2, 3, 3, 4, 3, 4, 4, 5, 2, 3, 3, 4, 3, 4, 4, 5, 3, 4, 4, 5, 4, 5, 5, 6, 2, 3, 3, 4, 3, 4, 4, 5, 3, 4, 4, 5, 4, 5, 5, 6, 3, 4, 4, 5, 4, 5, 5, 6, 4, 5, 5, 6, 5, 6, 6, 7, 1, 2, 2, 3, 2, 3, 3, 4, 2, 3, 3, 4, 3, 4, 4, 5, 2, 3, 3, 4, 3, 4, 4, 5, 3, 4, 4, 5, 4, 5, 5, 6, 2, 3, 3, 4, 3, 4, 4, 5, 3, 4, 4, 5, 4, 5, 5, 6, 3, 4, 4, 5, 4, 5, 5, 6, 4, 5, 5, 6, 5, 6, 6, 7, 2, 3, 3, 4, 3, 4, 4, 5, 3, 4, 4, 5, 4, 5, 5, 6, 3, 4, 4, 5, 4, 5, 5, 6, 4, 5, 5, 6, 5, 6, 6, 7, 3, 4, 4, 5, 4, 5, 5, 6, 4, 5, 5, 6, 5, 6, 6, 7, 4, 5, 5, 6, 5, 6, 6, 7, 5, 6, 6, 7, 6, 7, 7, 8])) (.int .u32 (andI .u32 p0 255))) (.one (.int .u8)) (fun x4 =>
  K (IntKind.wrap .i64 (IntKind.wrap .u8 ((IntKind.wrap .u8 ((IntKind.wrap .u8 (x1 + x2)) + x3)) + x4))) w))))
theorem f73_ok {p0 : Int} {K : Int → World → Prop} {w : World} (h : f73 p0 K w) : callS Tryd.prog 73 #[(.int .u32 p0)] [(.one (.int .i64))] K w :=
  calls_of_fn (args := [(.int .u32 p0)]) Tryd.f73 [] [] [] (.two .nil (.two (.draw [0, 1, 3, 0, 8, 24, 56, 127, 0, 256, 768, 1792, 4095, 0, 8192, 24576, 65535, 131071, 262143]) .nil)) (by kernel_rfl) (by kernel_rfl)
    (Eq.mp (by kernel_rfl : f73 p0 K w = evFn Tryd.prog Tryd.f73 [] [] [] (.two .nil (.two (.draw [0, 1, 3, 0, 8, 24, 56, 127, 0, 256, 768, 1792, 4095, 0, 8192, 24576, 65535, 131071, 262143]) .nil)) [(.int .u32 p0)] [(.one (.int .i64))] K w) h)

/-- math/bits.OnesCount64 -/
def f74 (p0 : Int) (K : Int → World → Prop) (w : World) : Prop :=
  K (andI .i64 (IntKind.wrap .i64 (IntKind.wrap .u64 ((IntKind.wrap .u64 ((IntKind.wrap .u64 ((andI .u64 (IntKind.wrap .u64 ((shrI .u64 (IntKind.wrap .u64 ((andI .u64 (shrI .u64 (IntKind.wrap .u64 ((andI .u64 (shrI .u64 p0 1) 6148914691236517205) + (andI .u64 p0 6148914691236517205))) 2) 3689348814741910323) + (andI .u64 (IntKind.wrap .u64 ((andI .u64 (shrI .u64 p0 1) 6148914691236517205) + (andI .u64 p0 6148914691236517205))) 3689348814741910323))) 4) + (IntKind.wrap .u64 ((andI .u64 (shrI .u64 (IntKind.wrap .u64 ((andI .u64 (shrI .u64 p0 1) 6148914691236517205) + (andI .u64 p0 6148914691236517205))) 2) 3689348814741910323) + (andI .u64 (IntKind.wrap .u64 ((andI .u64 (shrI .u64 p0 1) 6148914691236517205) + (andI .u64 p0 6148914691236517205))) 3689348814741910323))))) 1085102592571150095) + (shrI .u64 (andI .u64 (IntKind.wrap .u64 ((shrI .u64 (IntKind.wrap .u64 ((andI .u64 (shrI .u64 (IntKind.wrap .u64 ((andI .u64 (shrI .u64 p0 1) 6148914691236517205) + (andI .u64 p0 6148914691236517205))) 2) 3689348814741910323) + (andI .u64 (IntKind.wrap .u64 ((andI .u64 (shrI .u64 p0 1) 6148914691236517205) + (andI .u64 p0 6148914691236517205))) 3689348814741910323))) 4) + (IntKind.wrap .u64 ((andI .u64 (shrI .u64 (IntKind.wrap .u64 ((andI .u64 (shrI .u64 p0 1) 6148914691236517205) + (andI .u64 p0 6148914691236517205))) 2) 3689348814741910323) + (andI .u64 (IntKind.wrap .u64 ((andI .u64 (shrI .u64 p0 1) 6148914691236517205) + (andI .u64 p0 6148914691236517205))) 3689348814741910323))))) 1085102592571150095) 8))) + (shrI .u64 (IntKind.wrap .u64 ((andI .u64 (IntKind.wrap .u64 ((shrI .u64 (IntKind.wrap .u64 ((andI .u64 (shrI .u64 (IntKind.wrap .u64 ((andI .u64 (shrI .u64 p0 1) 6148914691236517205) + (andI .u64 p0 6148914691236517205))) 2) 3689348814741910323) + (andI .u64 (IntKind.wrap .u64 ((andI .u64 (shrI .u64 p0 1) 6148914691236517205) + (andI .u64 p0 6148914691236517205))) 3689348814741910323))) 4) + (IntKind.wrap .u64 ((andI .u64 (shrI .u64 (IntKind.wrap .u64 ((andI .u64 (shrI .u64 p0 1) 6148914691236517205) + (andI .u64 p0 6148914691236517205))) 2) 3689348814741910323) + (andI .u64 (IntKind.wrap .u64 ((andI .u64 (shrI .u64 p0 1) 6148914691236517205) + (andI .u64 p0 6148914691236517205))) 3689348814741910323))))) 1085102592571150095) + (shrI .u64 (andI .u64 (IntKind.wrap .u64 ((shrI .u64 (IntKind.wrap .u64 ((andI .u64 (shrI .u64 (IntKind.wrap .u64 ((andI .u64 (shrI .u64 p0 1) 6148914691236517205) + (andI .u64 p0 6148914691236517205))) 2) 3689348814741910323) + (andI .u64 (IntKind.wrap .u64 ((andI .u64 (shrI .u64 p0 1) 6148914691236517205) + (andI .u64 p0 6148914691236517205))) 3689348814741910323))) 4) + (IntKind.wrap .u64 ((andI .u64 (shrI .u64 (IntKind.wrap .u64 ((andI .u64 (shrI .u64 p0 1) 6148914691236517205) + (andI .u64 p0 6148914691236517205))) 2) 3689348814741910323) + (andI .u64 (IntKind.wrap .u64 ((andI .u64 (shrI .u64 p0 1) 6148914691236517205) + (andI .u64 p0 6148914691236517205))) 3689348814741910323))))) 1085102592571150095) 8))) 16))) + (shrI .u64 (IntKind.wrap .u64 ((IntKind.wrap .u64 ((andI .u64 (IntKind.wrap .u64 ((shrI .u64 (IntKind.wrap .u64 ((andI .u64 (shrI .u64 (IntKind.wrap .u64 ((andI .u64 (shrI .u64 p0 1) 6148914691236517205) + (andI .u64 p0 6148914691236517205))) 2) 3689348814741910323) + (andI .u64 (IntKind.wrap .u64 ((andI .u64 (shrI .u64 p0 1) 6148914691236517205) + (andI .u64 p0 6148914691236517205))) 3689348814741910323))) 4) + (IntKind.wrap .u64 ((andI .u64 (shrI .u64 (IntKind.wrap .u64 ((andI .u64 (shrI .u64 p0 1) 6148914691236517205) + (andI .u64 p0 6148914691236517205))) 2) 3689348814741910323) + (andI .u64 (IntKind.wrap .u64 ((andI .u64 (shrI .u64 p0 1) 6148914691236517205) + (andI .u64 p0 6148914691236517205))) 3689348814741910323))))) 1085102592571150095) + (shrI .u64 (andI .u64 (IntKind.wrap .u64 ((shrI .u64 (IntKind.wrap .u64 ((andI .u64 (shrI .u64 (IntKind.wrap .u64 ((andI .u64 (shrI .u64 p0 1) 6148914691236517205) + (andI .u64 p0 6148914691236517205))) 2) 3689348814741910323) + (andI .u64 (IntKind.wrap .u64 ((andI .u64 (shrI .u64 p0 1) 6148914691236517205) + (andI .u64 p0 6148914691236517205))) 3689348814741910323))) 4) + (IntKind.wrap .u64 ((andI .u64 (shrI .u64 (IntKind.wrap .u64 ((andI .u64 (shrI .u64 p0 1) 6148914691236517205) + (andI .u64 p0 6148914691236517205))) 2) 3689348814741910323) + (andI .u64 (IntKind.wrap .u64 ((andI .u64 (shrI .u64 p0 1) 6148914691236517205) + (andI .u64 p0 6148914691236517205))) 3689348814741910323))))) 1085102592571150095) 8))) + (shrI .u64 (IntKind.wrap .u64 ((andI .u64 (IntKind.wrap .u64 ((shrI .u64 (IntKind.wrap .u64 ((andI .u64 (shrI .u64 (IntKind.wrap .u64 ((andI .u64 (shrI .u64 p0 1) 6148914691236517205) + (andI .u64 p0 6148914691236517205))) 2) 3689348814741910323) + (andI .u64 (IntKind.wrap .u64 ((andI .u64 (shrI .u64 p0 1) 6148914691236517205) + (andI .u64 p0 6148914691236517205))) 3689348814741910323))) 4) + (IntKind.wrap .u64 ((andI .u64 (shrI .u64 (IntKind.wrap .u64 ((andI .u64 (shrI .u64 p0 1) 6148914691236517205) + (andI .u64 p0 6148914691236517205))) 2) 3689348814741910323) + (andI .u64 (IntKind.wrap .u64 ((andI .u64 (shrI .u64 p0 1) 6148914691236517205) + (andI .u64 p0 6148914691236517205))) 3689348814741910323))))) 1085102592571150095) + (shrI .u64 (andI .u64 (IntKind.wrap .u64 ((shrI .u64 (IntKind.wrap .u64 ((andI .u64 (shrI .u64 (IntKind.wrap .u64 ((andI .u64 (shrI .u64 p0 1) 6148914691236517205) + (andI .u64 p0 6148914691236517205))) 2) 3689348814741910323) + (andI .u64 (IntKind.wrap .u64 ((andI .u64 (shrI .u64 p0 1) 6148914691236517205) + (andI .u64 p0 6148914691236517205))) 3689348814741910323))) 4) + (IntKind.wrap .u64 ((andI .u64 (shrI .u64 (IntKind.wrap .u64 ((andI .u64 (shrI .u64 p0 1) 6148914691236517205) + (andI .u64 p0 6148914691236517205))) 2) 3689348814741910323) + (andI .u64 (IntKind.wrap .u64 ((andI .u64 (shrI .u64 p0 1) 6148914691236517205) + (andI .u64 p0 6148914691236517205))) 3689348814741910323))))) 1085102592571150095) 8))) 16))) 32)))) 127) w
theorem f74_ok {p0 : Int} {K : Int → World → Prop} {w : World} (h : f74 p0 K w) : callS Tryd.prog 74 #[(.int .u64 p0)] [(.one (.int .i64))] K w :=
  calls_of_fn (args := [(.int .u64 p0)]) Tryd.f74 [] [] [] .nil (by kernel_rfl) (by kernel_rfl)
    (Eq.mp (by kernel_rfl : f74 p0 K w = evFn Tryd.prog Tryd.f74 [] [] [] .nil [(.int .u64 p0)] [(.one (.int .i64))] K w) h)

/-- math/bits.OnesCount -/
def f60 (p0 : Int) (K : Int → World → Prop) (w : World) : Prop :=
  callS Tryd.prog 74 #[(.int .u64 p0)] [(.one (.int .i64))] (fun r1 w =>
  K r1 w) w
theorem f60_ok {p0 : Int} {K : Int → World → Prop} {w : World} (h : f60 p0 K w) : callS Tryd.prog 60 #[(.int .u64 p0)] [(.one (.int .i64))] K w :=
  calls_of_fn (args := [(.int .u64 p0)]) Tryd.f60 [] [] [] .nil (by kernel_rfl) (by kernel_rfl)
    (Eq.mp (by kernel_rfl : f60 p0 K w = evFn Tryd.prog Tryd.f60 [] [] [] .nil [(.int .u64 p0)] [(.one (.int .i64))] K w) h)

/-- (sallyport/place.Shape).Right -/
def f44 (p0_0 : Int) (p0_1 : Int) (p0_2 : Int) (K : Bool → World → Prop) (w : World) : Prop :=
  semS Tryd.prog (Instr.box 53 (.agg #[(.int .i64 p0_0), (.int .i64 p0_1), (.int .i64 p0_2)])) (.one .adr) (fun x1 w =>
  semS Tryd.prog (Instr.loadAt 3 (.pointer (some (x1.add 0)))) (.one (.int .i64)) (fun x2 w =>
  joinS (σ := Bool) (fun b3 w =>
    joinS (σ := Bool) (fun b5 w =>
      joinS (σ := Bool) (fun b7 w =>
        joinS (σ := Bool) (fun b9 w =>
          joinS (σ := Bool) (fun b11 w =>
            K b11 w) fun J12 =>
          cond b9
            (semS Tryd.prog (Instr.loadAt 3 (.pointer (some (x1.add 1)))) (.one (.int .i64)) (fun x13 w =>
              callS Tryd.prog 60 #[(.int .u64 (IntKind.wrap .u64 x13))] [(.one (.int .i64))] (fun r14 w =>
              J12 (r14 == 1) w) w) w)
            (J12 false w)) fun J10 =>
        cond b7
          (semS Tryd.prog (Instr.loadAt 3 (.pointer (some (x1.add 1)))) (.one (.int .i64)) (fun x15 w =>
            J10 (decide (x15 ≤ 4096)) w) w)
          (J10 false w)) fun J8 =>
      cond b5
        (semS Tryd.prog (Instr.loadAt 3 (.pointer (some (x1.add 1)))) (.one (.int .i64)) (fun x16 w =>
          semS Tryd.prog (Instr.loadAt 3 (.pointer (some (x1.add 2)))) (.one (.int .i64)) (fun x17 w =>
          J8 (decide (x16 ≥ (IntKind.wrap .i64 (2 * x17)))) w) w) w)
        (J8 false w)) fun J6 =>
    cond b3
      (semS Tryd.prog (Instr.loadAt 3 (.pointer (some (x1.add 2)))) (.one (.int .i64)) (fun x18 w =>
        joinS (σ := Bool) (fun b19 w =>
          J6 b19 w) fun J20 =>
        cond (x18 == 32)
          (J20 true w)
          (semS Tryd.prog (Instr.loadAt 3 (.pointer (some (x1.add 2)))) (.one (.int .i64)) (fun x21 w =>
            J20 (x21 == 64) w) w)) w)
      (J6 false w)) fun J4 =>
  cond (decide (x2 ≥ 1))
    (semS Tryd.prog (Instr.loadAt 3 (.pointer (some (x1.add 0)))) (.one (.int .i64)) (fun x22 w =>
      J4 (decide (x22 ≤ 1099511627776)) w) w)
    (J4 false w)) w) w
theorem f44_ok {p0_0 : Int} {p0_1 : Int} {p0_2 : Int} {K : Bool → World → Prop} {w : World} (h : f44 p0_0 p0_1 p0_2 K w) : callS Tryd.prog 44 #[(.agg #[(.int .i64 p0_0), (.int .i64 p0_1), (.int .i64 p0_2)])] [(.one .bool)] K w :=
  calls_of_fn (args := [(.agg #[(.int .i64 p0_0), (.int .i64 p0_1), (.int .i64 p0_2)])]) Tryd.f44 [] [] [] .nil (by kernel_rfl) (by kernel_rfl)
    (Eq.mp (by kernel_rfl : f44 p0_0 p0_1 p0_2 K w = evFn Tryd.prog Tryd.f44 [] [] [] .nil [(.agg #[(.int .i64 p0_0), (.int .i64 p0_1), (.int .i64 p0_2)])] [(.one .bool)] K w) h)

/-- sallyport/grove.asked -/
def f28 (p0 : Int) (p1 : Sl) (p2_0 : Int) (p2_1 : Int) (p2_2 : Int) (K : Int → World → Prop) (w : World) : Prop :=
  semS Tryd.prog (Instr.box 53 (.agg #[(.int .i64 p2_0), (.int .i64 p2_1), (.int .i64 p2_2)])) (.one .adr) (fun x1 w =>
  callS Tryd.prog 27 #[(.int .i64 p0)] [(.one (.int .i64))] (fun r2 w =>
  cond (r2 == 0)
    (K 20 w)
    (cond (decide ((p1.len : Int) > 64))
      (K 11 w)
      (drawS w fun C w =>
      semQ Tryd.prog C (Instr.loadAt 53 (.pointer (some x1))) (.agg [(.int .i64), (.int .i64), (.int .i64)]) (fun x3 x4 x5 =>
      callS Tryd.prog 44 #[(.agg #[(.int .i64 x3), (.int .i64 x4), (.int .i64 x5)])] [(.one .bool)] (fun r6 w =>
      moreS C w (fun C =>
      cond (!r6)
        (K 24 w)
        (semQ Tryd.prog C (Instr.loadAt 3 (.pointer (some (x1.add 2)))) (.one (.int .i64)) (fun x7 =>
        callS Tryd.prog 27 #[(.int .i64 p0)] [(.one (.int .i64))] (fun r8 w =>
        moreS C w (fun C =>
        cond (x7 != r8)
    (K 24 w)
    (K 0 w))) w)))) w)))) w) w
theorem f28_ok {p0 : Int} {p1 : Sl} {p2_0 : Int} {p2_1 : Int} {p2_2 : Int} {K : Int → World → Prop} {w : World} (h : f28 p0 p1 p2_0 p2_1 p2_2 K w) : callS Tryd.prog 28 #[(.int .i64 p0), (.slice p1.a p1.len p1.cap), (.agg #[(.int .i64 p2_0), (.int .i64 p2_1), (.int .i64 p2_2)])] [(.one (.int .i64))] K w :=
  calls_of_fn (args := [(.int .i64 p0), (.slice p1.a p1.len p1.cap), (.agg #[(.int .i64 p2_0), (.int .i64 p2_1), (.int .i64 p2_2)])]) Tryd.f28 [] [] [] (.two .nil (.two (.one (.two .nil (.two .nil (.two .nil (.two .nil (.two (.draw [0, 1, 3, 7, 15, 31, 15, 79, 255, 511, 1023]) .nil)))))) .nil)) (by kernel_rfl) (by kernel_rfl)
    (Eq.mp (by kernel_rfl : f28 p0 p1 p2_0 p2_1 p2_2 K w = evFn Tryd.prog Tryd.f28 [] [] [] (.two .nil (.two (.one (.two .nil (.two .nil (.two .nil (.two .nil (.two (.draw [0, 1, 3, 7, 15, 31, 15, 79, 255, 511, 1023]) .nil)))))) .nil)) [(.int .i64 p0), (.slice p1.a p1.len p1.cap), (.agg #[(.int .i64 p2_0), (.int .i64 p2_1), (.int .i64 p2_2)])] [(.one (.int .i64))] K w) h)

/-- slices.Clone[[]byte,byte] -/
def f35 (p0 : Sl) (K : Sl → World → Prop) (w : World) : Prop :=
  semS Tryd.prog (binS .eql 22 (.tmp 3) (.const (Go.Value.slice none 0 0)) (.slice p0.a p0.len p0.cap) (.slice none 0 0)) (.one .bool) (fun x1 w =>
  cond x1
    (K (⟨none, 0, 0⟩) w)
    (semS Tryd.prog (Instr.buildSlice 22 0 #[]) (.one .slc) (fun x2 w =>
    semS Tryd.prog (Builtin.append_ #[22, 22] 22 #[(.slice x2.a x2.len x2.cap), (.slice p0.a p0.len p0.cap)]) (.one .slc) (fun r3 w =>
    K r3 w) w) w)) w
theorem f35_ok {p0 : Sl} {K : Sl → World → Prop} {w : World} (h : f35 p0 K w) : callS Tryd.prog 35 #[(.slice p0.a p0.len p0.cap)] [(.one .slc)] K w :=
  calls_of_fn (args := [(.slice p0.a p0.len p0.cap)]) Tryd.f35 [] [] [] .nil (by kernel_rfl) (by kernel_rfl)
    (Eq.mp (by kernel_rfl : f35 p0 K w = evFn Tryd.prog Tryd.f35 [] [] [] .nil [(.slice p0.a p0.len p0.cap)] [(.one .slc)] K w) h)

/-- sallyport/span.Align -/
def f45 (p0 : Int) (p1 : Int) (K : Int → Int → World → Prop) (w : World) : Prop :=
  cond (((decide (p0 < 0)) || (decide (p1 < 1))) || (decide (p1 > 65536)))
    (K 0 12 w)
    (cond (decide (p0 > 4611686018427387904))
      (K 0 11 w)
      (semS Tryd.prog (binS .quo 3 (.tmp 24) (.tmp 25) (.int .i64 (IntKind.wrap .i64 ((IntKind.wrap .i64 (p0 + p1)) - 1))) (.int .i64 p1)) (.one (.int .i64)) (fun x1 w =>
      cond (decide ((IntKind.wrap .i64 (x1 * p1)) ≤ 4611686018427387904))
        (K (IntKind.wrap .i64 (x1 * p1)) 0 w)
        (K 0 11 w)) w))
theorem f45_ok {p0 : Int} {p1 : Int} {K : Int → Int → World → Prop} {w : World} (h : f45 p0 p1 K w) : callS Tryd.prog 45 #[(.int .i64 p0), (.int .i64 p1)] [(.one (.int .i64)), (.one (.int .i64))] K w :=
  calls_of_fn (args := [(.int .i64 p0), (.int .i64 p1)]) Tryd.f45 [] [] [] .nil (by kernel_rfl) (by kernel_rfl)
    (Eq.mp (by kernel_rfl : f45 p0 p1 K w = evFn Tryd.prog Tryd.f45 [] [] [] .nil [(.int .i64 p0), (.int .i64 p1)] [(.one (.int .i64)), (.one (.int .i64))] K w) h)

/-- sallyport/span.Pad -/
def f29 (p0 : Sl) (p1 : Int) (K : Sl → Int → World → Prop) (w : World) : Prop :=
  callS Tryd.prog 45 #[(.int .i64 (p0.len : Int)), (.int .i64 p1)] [(.one (.int .i64)), (.one (.int .i64))] (fun r1 r2 w =>
  cond (r2 != 0)
    (K (⟨none, 0, 0⟩) r2 w)
    (callS Tryd.prog 35 #[(.slice p0.a p0.len p0.cap)] [(.one .slc)] (fun r3 w =>
    semS Tryd.prog (Builtin.append_ #[22, 3] 22 #[(.slice r3.a r3.len r3.cap), (.int .i64 (IntKind.wrap .i64 (r1 - (p0.len : Int))))]) (.one .slc) (fun r4 w =>
    K r4 0 w) w) w)) w
theorem f29_ok {p0 : Sl} {p1 : Int} {K : Sl → Int → World → Prop} {w : World} (h : f29 p0 p1 K w) : callS Tryd.prog 29 #[(.slice p0.a p0.len p0.cap), (.int .i64 p1)] [(.one .slc), (.one (.int .i64))] K w :=
  calls_of_fn (args := [(.slice p0.a p0.len p0.cap), (.int .i64 p1)]) Tryd.f29 [] [] [] .nil (by kernel_rfl) (by kernel_rfl)
    (Eq.mp (by kernel_rfl : f29 p0 p1 K w = evFn Tryd.prog Tryd.f29 [] [] [] .nil [(.slice p0.a p0.len p0.cap), (.int .i64 p1)] [(.one .slc), (.one (.int .i64))] K w) h)

/-- slices.Chunk[[]byte,byte]$1 -/
def f46 (p0 : Value) (c0 : Addr) (c1 : Addr) (K : World → Prop) (w : World) : Prop :=
  loopS (σ := Int) (fun x1 w again2 =>
    semS Tryd.prog (Instr.loadAt 22 (.pointer (some c0))) (.one .slc) (fun x3 w =>
    cond (decide (x1 < (x3.len : Int)))
      (drawS w fun C w =>
      semQ Tryd.prog C (Instr.loadAt 3 (.pointer (some c1))) (.one (.int .i64)) (fun x4 =>
      semQ Tryd.prog C (Instr.loadAt 22 (.pointer (some c0))) (.one .slc) (fun x5 =>
      semQ Tryd.prog C (Instr.sliceAt 22 (.slice x5.a x5.len x5.cap) (some (.int .i64 x1)) none none) (.one .slc) (fun x6 =>
      semS Tryd.prog (Instr.loadAt 22 (.pointer (some c0))) (.one .slc) (fun x7 w =>
      semS Tryd.prog (Instr.sliceAt 22 (.slice x7.a x7.len x7.cap) (some (.int .i64 x1)) (some (.int .i64 (IntKind.wrap .i64 (x1 + (if (x6.len : Int) < x4 then (x6.len : Int) else x4))))) (some (.int .i64 (IntKind.wrap .i64 (x1 + (if (x6.len : Int) < x4 then (x6.len : Int) else x4)))))) (.one .slc) (fun x8 w =>
      callY Tryd.prog (callSem p0 #[(.slice x8.a x8.len x8.cap)]) [(.one .bool)] (fun r9 w =>
      cond (!r9)
        (K w)
        (semS Tryd.prog (Instr.loadAt 3 (.pointer (some c1))) (.one (.int .i64)) (fun x10 w =>
        again2 (IntKind.wrap .i64 (x1 + x10)) w) w)) w) w) w))))
      (K w)) w) 0 w
theorem f46_ok {p0 : Value} {c0 : Addr} {c1 : Addr} {K : World → Prop} {w : World} (h : f46 p0 c0 c1 K w) : callS Tryd.prog 46 #[p0, (.pointer (some c0)), (.pointer (some c1))] [] K w :=
  calls_of_fn (args := [p0, (.pointer (some c0)), (.pointer (some c1))]) Tryd.f46 [0, 19] [] [] (.two .nil (.one (.loop [(4, (.int .i64))] (.two .nil (.two (.one (.two (.draw [0, 0, 0, 6, 14, 31, 63]) .nil)) .nil))))) (by kernel_rfl) (by kernel_rfl)
    (Eq.mp (by kernel_rfl : f46 p0 c0 c1 K w = evFn Tryd.prog Tryd.f46 [0, 19] [] [] (.two .nil (.one (.loop [(4, (.int .i64))] (.two .nil (.two (.one (.two (.draw [0, 0, 0, 6, 14, 31, 63]) .nil)) .nil))))) [p0, (.pointer (some c0)), (.pointer (some c1))] [] K w) h)

/-- slices.Chunk[[]byte,byte] -/
def f30 (p0 : Sl) (p1 : Int) (K : Value → World → Prop) (w : World) : Prop :=
  semS Tryd.prog (Instr.box 22 (.slice p0.a p0.len p0.cap)) (.one .adr) (fun x1 w =>
  semS Tryd.prog (Instr.box 3 (.int .i64 p1)) (.one .adr) (fun x2 w =>
  semS Tryd.prog (Instr.loadAt 3 (.pointer (some x2))) (.one (.int .i64)) (fun x3 w =>
  cond (decide (x3 < 1))
    (False)
    (K (.func (.func 46) #[] #[(.pointer (some x1)), (.pointer (some x2))]) w)) w) w) w
theorem f30_ok {p0 : Sl} {p1 : Int} {K : Value → World → Prop} {w : World} (h : f30 p0 p1 K w) : callS Tryd.prog 30 #[(.slice p0.a p0.len p0.cap), (.int .i64 p1)] [(.one .any)] K w :=
  calls_of_fn (args := [(.slice p0.a p0.len p0.cap), (.int .i64 p1)]) Tryd.f30 [] [] [] .nil (by kernel_rfl) (by kernel_rfl)
    (Eq.mp (by kernel_rfl : f30 p0 p1 K w = evFn Tryd.prog Tryd.f30 [] [] [] .nil [(.slice p0.a p0.len p0.cap), (.int .i64 p1)] [(.one .any)] K w) h)

/-- sallyport/longsum.New -/
def f61  (K : (Option Addr) → World → Prop) (w : World) : Prop :=
  semS Tryd.prog (Instr.loadAt 113 (.pointer (some (⟨0, 0, none⟩)))) (.agg [(.int .u64), (.int .u64), (.int .u64), (.int .u64), (.int .u64), (.int .u64), (.int .u64), (.int .u64)]) (fun x1 x2 x3 x4 x5 x6 x7 x8 w =>
  semS Tryd.prog (Instr.box 115 (.agg #[(.int .u64 x1), (.int .u64 x2), (.int .u64 x3), (.int .u64 x4), (.int .u64 x5), (.int .u64 x6), (.int .u64 x7), (.int .u64 x8), (.slice none 0 0), (.int .u64 0)])) (.one .adr) (fun x9 w =>
  K (some x9) w) w) w
theorem f61_ok  {K : (Option Addr) → World → Prop} {w : World} (h : f61  K w) : callS Tryd.prog 61 #[] [(.one .ptr)] K w :=
  calls_of_fn (args := []) Tryd.f61 [] [] [] .nil (by kernel_rfl) (by kernel_rfl)
    (Eq.mp (by kernel_rfl : f61  K w = evFn Tryd.prog Tryd.f61 [] [] [] .nil [] [(.one .ptr)] K w) h)

/-- math/bits.RotateLeft64 -/
def f81 (p0 : Int) (p1 : Int) (K : Int → World → Prop) (w : World) : Prop :=
  semS Tryd.prog (binS .shl 87 (.tmp 9) (.tmp 10) (.int .u64 p0) (.int .u64 (andI .u64 (IntKind.wrap .u64 p1) 63))) (.one (.int .u64)) (fun x1 w =>
  semS Tryd.prog (binS .shr 87 (.tmp 12) (.tmp 14) (.int .u64 p0) (.int .u64 (IntKind.wrap .u64 (64 - (andI .u64 (IntKind.wrap .u64 p1) 63))))) (.one (.int .u64)) (fun x2 w =>
  K (orI .u64 x1 x2) w) w) w
theorem f81_ok {p0 : Int} {p1 : Int} {K : Int → World → Prop} {w : World} (h : f81 p0 p1 K w) : callS Tryd.prog 81 #[(.int .u64 p0), (.int .i64 p1)] [(.one (.int .u64))] K w :=
  calls_of_fn (args := [(.int .u64 p0), (.int .i64 p1)]) Tryd.f81 [] [] [] .nil (by kernel_rfl) (by kernel_rfl)
    (Eq.mp (by kernel_rfl : f81 p0 p1 K w = evFn Tryd.prog Tryd.f81 [] [] [] .nil [(.int .u64 p0), (.int .i64 p1)] [(.one (.int .u64))] K w) h)

/-- sallyport/longsum.turn -/
def f78 (p0 : Int) (p1 : Int) (K : Int → World → Prop) (w : World) : Prop :=
  callS Tryd.prog 81 #[(.int .u64 p0), (.int .i64 (IntKind.wrap .i64 (0 - p1)))] [(.one (.int .u64))] (fun r1 w =>
  K r1 w) w
theorem f78_ok {p0 : Int} {p1 : Int} {K : Int → World → Prop} {w : World} (h : f78 p0 p1 K w) : callS Tryd.prog 78 #[(.int .u64 p0), (.int .i64 p1)] [(.one (.int .u64))] K w :=
  calls_of_fn (args := [(.int .u64 p0), (.int .i64 p1)]) Tryd.f78 [] [] [] .nil (by kernel_rfl) (by kernel_rfl)
    (Eq.mp (by kernel_rfl : f78 p0 p1 K w = evFn Tryd.prog Tryd.f78 [] [] [] .nil [(.int .u64 p0), (.int .i64 p1)] [(.one (.int .u64))] K w) h)

/-- sallyport/longsum.schedule -/
def f77 (p0 : Sl) (K : (List Int) → World → Prop) (w : World) : Prop :=
  semS Tryd.prog (Instr.alloc 119 true (.tuple #[])) (.one .adr) (fun x1 w =>
  loopS (σ := Int) (fun x2 w again3 =>
    cond (decide (x2 < 16))
      (semS Tryd.prog (Instr.sliceAt 22 (.slice p0.a p0.len p0.cap) (some (.int .i64 (IntKind.wrap .i64 (8 * x2)))) (some (.int .i64 (IntKind.wrap .i64 ((IntKind.wrap .i64 (8 * x2)) + 8)))) none) (.one .slc) (fun x4 w =>
      loopS (σ := Int) (fun x5 w again6 =>
        cond (decide (x5 < (x4.len : Int)))
          (semS Tryd.prog (Instr.indexAt 22 (.slice x4.a x4.len x4.cap) (.int .i64 x5)) (.one .adr) (fun x7 w =>
          semS Tryd.prog (Instr.loadAt 5 (.pointer (some x7))) (.one (.int .u8)) (fun x8 w =>
          semS Tryd.prog (Instr.indexAt 119 (.pointer (some x1)) (.int .i64 x2)) (.one .adr) (fun x9 w =>
          semS Tryd.prog (Instr.loadAt 87 (.pointer (some x9))) (.one (.int .u64)) (fun x10 w =>
          semS Tryd.prog (Instr.indexAt 119 (.pointer (some x1)) (.int .i64 x2)) (.one .adr) (fun x11 w =>
          semU Tryd.prog (Instr.storeAt 87 (.pointer (some x11)) (.int .u64 (orI .u64 (shlI .u64 x10 8) (IntKind.wrap .u64 x8)))) (fun w =>
          again6 (IntKind.wrap .i64 (x5 + 1)) w) w) w) w) w) w) w)
          (again3 (IntKind.wrap .i64 (x2 + 1)) w)) 0 w) w)
      (loopS (σ := Int) (fun x12 w again13 =>
        cond (decide (x12 < 80))
          (drawS w fun C w =>
          semQ Tryd.prog C (Instr.indexAt 119 (.pointer (some x1)) (.int .i64 (IntKind.wrap .i64 (x12 - 15)))) (.one .adr) (fun x14 =>
          semQ Tryd.prog C (Instr.loadAt 87 (.pointer (some x14))) (.one (.int .u64)) (fun x15 =>
          semQ Tryd.prog C (Instr.indexAt 119 (.pointer (some x1)) (.int .i64 (IntKind.wrap .i64 (x12 - 2)))) (.one .adr) (fun x16 =>
          semQ Tryd.prog C (Instr.loadAt 87 (.pointer (some x16))) (.one (.int .u64)) (fun x17 =>
          drawS w fun C w =>
          semQ Tryd.prog C (Instr.indexAt 119 (.pointer (some x1)) (.int .i64 (IntKind.wrap .i64 (x12 - 16)))) (.one .adr) (fun x18 =>
          semQ Tryd.prog C (Instr.loadAt 87 (.pointer (some x18))) (.one (.int .u64)) (fun x19 =>
          semQ Tryd.prog C (Instr.indexAt 119 (.pointer (some x1)) (.int .i64 (IntKind.wrap .i64 (x12 - 7)))) (.one .adr) (fun x20 =>
          semQ Tryd.prog C (Instr.loadAt 87 (.pointer (some x20))) (.one (.int .u64)) (fun x21 =>
          callS Tryd.prog 78 #[(.int .u64 x15), (.int .i64 1)] [(.one (.int .u64))] (fun r22 w =>
          moreS C w (fun C =>
          callS Tryd.prog 78 #[(.int .u64 x15), (.int .i64 8)] [(.one (.int .u64))] (fun r23 w =>
          moreS C w (fun C =>
          callS Tryd.prog 78 #[(.int .u64 x17), (.int .i64 19)] [(.one (.int .u64))] (fun r24 w =>
          moreS C w (fun C =>
          callS Tryd.prog 78 #[(.int .u64 x17), (.int .i64 61)] [(.one (.int .u64))] (fun r25 w =>
          moreS C w (fun C =>
          semQ Tryd.prog C (Instr.indexAt 119 (.pointer (some x1)) (.int .i64 x12)) (.one .adr) (fun x26 =>
          semU Tryd.prog (Instr.storeAt 87 (.pointer (some x26)) (.int .u64 (IntKind.wrap .u64 ((IntKind.wrap .u64 ((IntKind.wrap .u64 (x19 + (xorI .u64 (xorI .u64 r22 r23) (shrI .u64 x15 7)))) + x21)) + (xorI .u64 (xorI .u64 r24 r25) (shrI .u64 x17 6)))))) (fun w =>
          again13 (IntKind.wrap .i64 (x12 + 1)) w) w))) w)) w)) w)) w)))))))))
          (semS Tryd.prog (Instr.loadAt 119 (.pointer (some x1))) (.one (.arr .u64)) (fun x27 w =>
          semU Tryd.prog (Instr.storeAt 119 (.pointer (some x1)) (.agg (List.map (Value.int .u64) x27).toArray)) (fun w =>
          ∃ v28, (loadVar 119 x1).run Tryd.prog w = .ok v28 w ∧ decR [(.one (.arr .u64))] v28 K fun r => r w) w) w)) 16 w)) 0 w) w
theorem f77_ok {p0 : Sl} {K : (List Int) → World → Prop} {w : World} (h : f77 p0 K w) : callS Tryd.prog 77 #[(.slice p0.a p0.len p0.cap)] [(.one (.arr .u64))] K w :=
  calls_of_fn (args := [(.slice p0.a p0.len p0.cap)]) Tryd.f77 [] [] [] (.two .nil (.two (.two .nil (.one (.loop [(9, (.int .i64))] (.two .nil (.two .nil (.two (.one (.two .nil (.two .nil (.one (.loop [(20, (.int .i64))] .nil))))) .nil)))))) (.two (.two .nil (.one (.loop [(6, (.int .i64))] (.two .nil (.two (.one (.two (.draw [0, 1, 3, 7, 0, 16, 48, 112, 15, 511]) (.draw [0, 0, 2, 6, 14, 0, 32, 0, 224, 480, 0, 1024, 4064, 8190, 0, 16384, 49152, 114688, 262142, 0, 524768, 0, 3670496, 7864800, 0, 16777216, 66585056, 134217726, 268435455, 536870911]))) .nil))))) .nil))) (by kernel_rfl) (by kernel_rfl)
    (Eq.mp (by kernel_rfl : f77 p0 K w = evFn Tryd.prog Tryd.f77 [] [] [] (.two .nil (.two (.two .nil (.one (.loop [(9, (.int .i64))] (.two .nil (.two .nil (.two (.one (.two .nil (.two .nil (.one (.loop [(20, (.int .i64))] .nil))))) .nil)))))) (.two (.two .nil (.one (.loop [(6, (.int .i64))] (.two .nil (.two (.one (.two (.draw [0, 1, 3, 7, 0, 16, 48, 112, 15, 511]) (.draw [0, 0, 2, 6, 14, 0, 32, 0, 224, 480, 0, 1024, 4064, 8190, 0, 16384, 49152, 114688, 262142, 0, 524768, 0, 3670496, 7864800, 0, 16777216, 66585056, 134217726, 268435455, 536870911]))) .nil))))) .nil))) [(.slice p0.a p0.len p0.cap)] [(.one (.arr .u64))] K w) h)

/-- (*sallyport/longsum.Hash).take -/
def f75 (p0 : Option Addr) (p1 : Sl) (K : World → Prop) (w : World) : Prop :=
  callS Tryd.prog 77 #[(.slice p1.a p1.len p1.cap)] [(.one (.arr .u64))] (fun r1 w =>
  semS Tryd.prog (Instr.alloc 119 true (.tuple #[])) (.one .adr) (fun x2 w =>
  semU Tryd.prog (Instr.storeAt 119 (.pointer (some x2)) (.agg (List.map (Value.int .u64) r1).toArray)) (fun w =>
  nilS p0 fun a3 =>
  semS Tryd.prog (Instr.loadAt 113 (.pointer (some (a3.add 0)))) (.agg [(.int .u64), (.int .u64), (.int .u64), (.int .u64), (.int .u64), (.int .u64), (.int .u64), (.int .u64)]) (fun x4 x5 x6 x7 x8 x9 x10 x11 w =>
  semS Tryd.prog (Instr.alloc 113 true (.tuple #[])) (.one .adr) (fun x12 w =>
  semU Tryd.prog (Instr.storeAt 113 (.pointer (some x12)) (.agg #[(.int .u64 x4), (.int .u64 x5), (.int .u64 x6), (.int .u64 x7), (.int .u64 x8), (.int .u64 x9), (.int .u64 x10), (.int .u64 x11)])) (fun w =>
  semS Tryd.prog (Instr.loadAt 119 (.pointer (some (⟨2, 0, none⟩)))) (.one (.arr .u64)) (fun x13 w =>
  loopS (σ := Int) (fun x14 w again15 =>
    cond (decide (x14 < 80))
      (semS Tryd.prog (Instr.index 119 (.agg (List.map (Value.int .u64) x13).toArray) (.int .i64 x14)) (.one (.int .u64)) (fun x16 w =>
      drawS w fun C w =>
      semQ Tryd.prog C (Instr.indexAt 113 (.pointer (some x12)) (.int .i64 0)) (.one .adr) (fun x17 =>
      semQ Tryd.prog C (Instr.loadAt 87 (.pointer (some x17))) (.one (.int .u64)) (fun x18 =>
      semQ Tryd.prog C (Instr.indexAt 113 (.pointer (some x12)) (.int .i64 4)) (.one .adr) (fun x19 =>
      semQ Tryd.prog C (Instr.loadAt 87 (.pointer (some x19))) (.one (.int .u64)) (fun x20 =>
      drawS w fun C w =>
      semQ Tryd.prog C (Instr.indexAt 113 (.pointer (some x12)) (.int .i64 7)) (.one .adr) (fun x21 =>
      semQ Tryd.prog C (Instr.loadAt 87 (.pointer (some x21))) (.one (.int .u64)) (fun x22 =>
      semQ Tryd.prog C (Instr.indexAt 113 (.pointer (some x12)) (.int .i64 5)) (.one .adr) (fun x23 =>
      semQ Tryd.prog C (Instr.loadAt 87 (.pointer (some x23))) (.one (.int .u64)) (fun x24 =>
      semQ Tryd.prog C (Instr.indexAt 113 (.pointer (some x12)) (.int .i64 6)) (.one .adr) (fun x25 =>
      semQ Tryd.prog C (Instr.loadAt 87 (.pointer (some x25))) (.one (.int .u64)) (fun x26 =>
      semQ Tryd.prog C (Instr.indexAt 119 (.pointer (some x2)) (.int .i64 x14)) (.one .adr) (fun x27 =>
      semQ Tryd.prog C (Instr.loadAt 87 (.pointer (some x27))) (.one (.int .u64)) (fun x28 =>
      callS Tryd.prog 78 #[(.int .u64 x20), (.int .i64 14)] [(.one (.int .u64))] (fun r29 w =>
      moreS C w (fun C =>
      callS Tryd.prog 78 #[(.int .u64 x20), (.int .i64 18)] [(.one (.int .u64))] (fun r30 w =>
      moreS C w (fun C =>
      callS Tryd.prog 78 #[(.int .u64 x20), (.int .i64 41)] [(.one (.int .u64))] (fun r31 w =>
      moreS C w (fun C =>
      drawS w fun C w =>
      semQ Tryd.prog C (Instr.indexAt 113 (.pointer (some x12)) (.int .i64 1)) (.one .adr) (fun x32 =>
      semQ Tryd.prog C (Instr.loadAt 87 (.pointer (some x32))) (.one (.int .u64)) (fun x33 =>
      semQ Tryd.prog C (Instr.indexAt 113 (.pointer (some x12)) (.int .i64 2)) (.one .adr) (fun x34 =>
      semQ Tryd.prog C (Instr.loadAt 87 (.pointer (some x34))) (.one (.int .u64)) (fun x35 =>
      semQ Tryd.prog C (Instr.indexAt 113 (.pointer (some x12)) (.int .i64 1)) (.one .adr) (fun x36 =>
      semQ Tryd.prog C (Instr.loadAt 87 (.pointer (some x36))) (.one (.int .u64)) (fun x37 =>
      semQ Tryd.prog C (Instr.indexAt 113 (.pointer (some x12)) (.int .i64 2)) (.one .adr) (fun x38 =>
      semQ Tryd.prog C (Instr.loadAt 87 (.pointer (some x38))) (.one (.int .u64)) (fun x39 =>
      callS Tryd.prog 78 #[(.int .u64 x18), (.int .i64 28)] [(.one (.int .u64))] (fun r40 w =>
      moreS C w (fun C =>
      callS Tryd.prog 78 #[(.int .u64 x18), (.int .i64 34)] [(.one (.int .u64))] (fun r41 w =>
      moreS C w (fun C =>
      callS Tryd.prog 78 #[(.int .u64 x18), (.int .i64 39)] [(.one (.int .u64))] (fun r42 w =>
      moreS C w (fun C =>
      semS Tryd.prog (Instr.indexAt 113 (.pointer (some x12)) (.int .i64 1)) (.one .adr) (fun x43 w =>
      semS Tryd.prog (Instr.loadAt 87 (.pointer (some x43))) (.one (.int .u64)) (fun x44 w =>
      semS Tryd.prog (Instr.indexAt 113 (.pointer (some x12)) (.int .i64 2)) (.one .adr) (fun x45 w =>
      semS Tryd.prog (Instr.loadAt 87 (.pointer (some x45))) (.one (.int .u64)) (fun x46 w =>
      semS Tryd.prog (Instr.indexAt 113 (.pointer (some x12)) (.int .i64 3)) (.one .adr) (fun x47 w =>
      semS Tryd.prog (Instr.loadAt 87 (.pointer (some x47))) (.one (.int .u64)) (fun x48 w =>
      semS Tryd.prog (Instr.indexAt 113 (.pointer (some x12)) (.int .i64 5)) (.one .adr) (fun x49 w =>
      semS Tryd.prog (Instr.loadAt 87 (.pointer (some x49))) (.one (.int .u64)) (fun x50 w =>
      semS Tryd.prog (Instr.indexAt 113 (.pointer (some x12)) (.int .i64 6)) (.one .adr) (fun x51 w =>
      semS Tryd.prog (Instr.loadAt 87 (.pointer (some x51))) (.one (.int .u64)) (fun x52 w =>
      semU Tryd.prog (Instr.storeAt 113 (.pointer (some x12)) (.agg #[(.int .u64 (IntKind.wrap .u64 ((IntKind.wrap .u64 ((IntKind.wrap .u64 ((IntKind.wrap .u64 ((IntKind.wrap .u64 (x22 + (xorI .u64 (xorI .u64 r29 r30) r31))) + (xorI .u64 (andI .u64 x20 x24) (andI .u64 (xorI .u64 (IntKind.max .u64) x20) x26)))) + x16)) + x28)) + (IntKind.wrap .u64 ((xorI .u64 (xorI .u64 r40 r41) r42) + (xorI .u64 (xorI .u64 (andI .u64 x18 x33) (andI .u64 x18 x35)) (andI .u64 x37 x39))))))), (.int .u64 x18), (.int .u64 x44), (.int .u64 x46), (.int .u64 (IntKind.wrap .u64 (x48 + (IntKind.wrap .u64 ((IntKind.wrap .u64 ((IntKind.wrap .u64 ((IntKind.wrap .u64 (x22 + (xorI .u64 (xorI .u64 r29 r30) r31))) + (xorI .u64 (andI .u64 x20 x24) (andI .u64 (xorI .u64 (IntKind.max .u64) x20) x26)))) + x16)) + x28))))), (.int .u64 x20), (.int .u64 x50), (.int .u64 x52)])) (fun w =>
      again15 (IntKind.wrap .i64 (x14 + 1)) w) w) w) w) w) w) w) w) w) w) w) w)) w)) w)) w)))))))))) w)) w)) w))))))))))))) w)
      (semS Tryd.prog (Instr.loadAt 113 (.pointer (some x12))) (.agg [(.int .u64), (.int .u64), (.int .u64), (.int .u64), (.int .u64), (.int .u64), (.int .u64), (.int .u64)]) (fun x53 x54 x55 x56 x57 x58 x59 x60 w =>
      loopS (σ := Int) (fun x61 w again62 =>
        cond (decide (x61 < 8))
          (semS Tryd.prog (Instr.index 113 (.agg #[(.int .u64 x53), (.int .u64 x54), (.int .u64 x55), (.int .u64 x56), (.int .u64 x57), (.int .u64 x58), (.int .u64 x59), (.int .u64 x60)]) (.int .i64 x61)) (.one (.int .u64)) (fun x63 w =>
          drawS w fun C w =>
          nilS p0 fun a64 =>
          semQ Tryd.prog C (Instr.indexAt 113 (.pointer (some (a64.add 0))) (.int .i64 x61)) (.one .adr) (fun x65 =>
          semQ Tryd.prog C (Instr.loadAt 87 (.pointer (some x65))) (.one (.int .u64)) (fun x66 =>
          nilS p0 fun a67 =>
          semQ Tryd.prog C (Instr.indexAt 113 (.pointer (some (a67.add 0))) (.int .i64 x61)) (.one .adr) (fun x68 =>
          semU Tryd.prog (Instr.storeAt 87 (.pointer (some x68)) (.int .u64 (IntKind.wrap .u64 (x66 + x63)))) (fun w =>
          again62 (IntKind.wrap .i64 (x61 + 1)) w) w)))) w)
          (K w)) 0 w) w)) 0 w) w) w) w) w) w) w) w
theorem f75_ok {p0 : Option Addr} {p1 : Sl} {K : World → Prop} {w : World} (h : f75 p0 p1 K w) : callS Tryd.prog 75 #[(.pointer p0), (.slice p1.a p1.len p1.cap)] [] K w :=
  calls_of_fn (args := [(.pointer p0), (.slice p1.a p1.len p1.cap)]) Tryd.f75 [] [] [] (.two .nil (.two .nil (.two (.two .nil (.one (.loop [(21, (.int .i64))] (.two .nil (.two .nil (.two (.one (.two .nil (.two (.draw [0, 1, 0, 4, 3, 31]) (.two (.draw [0, 1, 0, 4, 0, 28, 60, 0, 188, 508, 1023, 0, 0, 4096, 14336, 0, 32768, 0, 131072, 491520, 1046528, 2097151, 0, 8388607, 0, 16777216, 50331648, 134217727, 268435455]) (.two (.draw [0, 1, 0, 7, 15, 0, 47, 127, 0, 0, 512, 1792, 0, 0, 8192, 28672, 65280, 0, 131072, 0, 524288, 1966080, 4194048, 8388607, 16777215]) .nil))))) .nil)))))) (.two .nil (.one (.loop [(101, (.int .i64))] (.two .nil (.two .nil (.two (.one (.two .nil (.draw [0, 0, 1, 5, 15, 31, 0, 127, 1, 257, 1023, 2047]))) .nil))))))))) (by kernel_rfl) (by kernel_rfl)
    (Eq.mp (by kernel_rfl : f75 p0 p1 K w = evFn Tryd.prog Tryd.f75 [] [] [] (.two .nil (.two .nil (.two (.two .nil (.one (.loop [(21, (.int .i64))] (.two .nil (.two .nil (.two (.one (.two .nil (.two (.draw [0, 1, 0, 4, 3, 31]) (.two (.draw [0, 1, 0, 4, 0, 28, 60, 0, 188, 508, 1023, 0, 0, 4096, 14336, 0, 32768, 0, 131072, 491520, 1046528, 2097151, 0, 8388607, 0, 16777216, 50331648, 134217727, 268435455]) (.two (.draw [0, 1, 0, 7, 15, 0, 47, 127, 0, 0, 512, 1792, 0, 0, 8192, 28672, 65280, 0, 131072, 0, 524288, 1966080, 4194048, 8388607, 16777215]) .nil))))) .nil)))))) (.two .nil (.one (.loop [(101, (.int .i64))] (.two .nil (.two .nil (.two (.one (.two .nil (.draw [0, 0, 1, 5, 15, 31, 0, 127, 1, 257, 1023, 2047]))) .nil))))))))) [(.pointer p0), (.slice p1.a p1.len p1.cap)] [] K w) h)

/-- (*sallyport/longsum.Hash).Write -/
def f62 (p0 : Option Addr) (p1 : Sl) (K : World → Prop) (w : World) : Prop :=
  nilS p0 fun a1 =>
  semS Tryd.prog (Instr.loadAt 87 (.pointer (some (a1.add 9)))) (.one (.int .u64)) (fun x2 w =>
  nilS p0 fun a3 =>
  semU Tryd.prog (Instr.storeAt 87 (.pointer (some (a3.add 9))) (.int .u64 (IntKind.wrap .u64 (x2 + (IntKind.wrap .u64 (p1.len : Int)))))) (fun w =>
  nilS p0 fun a4 =>
  semS Tryd.prog (Instr.loadAt 22 (.pointer (some (a4.add 8)))) (.one .slc) (fun x5 w =>
  semS Tryd.prog (Builtin.append_ #[22, 22] 22 #[(.slice x5.a x5.len x5.cap), (.slice p1.a p1.len p1.cap)]) (.one .slc) (fun r6 w =>
  nilS p0 fun a7 =>
  semU Tryd.prog (Instr.storeAt 22 (.pointer (some (a7.add 8))) (.slice r6.a r6.len r6.cap)) (fun w =>
  loopS (σ := Unit) (fun _ w again8 =>
    nilS p0 fun a9 =>
    semS Tryd.prog (Instr.loadAt 22 (.pointer (some (a9.add 8)))) (.one .slc) (fun x10 w =>
    cond (decide ((x10.len : Int) ≥ 128))
      (nilS p0 fun a11 =>
      semS Tryd.prog (Instr.loadAt 22 (.pointer (some (a11.add 8)))) (.one .slc) (fun x12 w =>
      semS Tryd.prog (Instr.sliceAt 22 (.slice x12.a x12.len x12.cap) none (some (.int .i64 128)) none) (.one .slc) (fun x13 w =>
      callS Tryd.prog 75 #[(.pointer p0), (.slice x13.a x13.len x13.cap)] [] (fun w =>
      nilS p0 fun a14 =>
      semS Tryd.prog (Instr.loadAt 22 (.pointer (some (a14.add 8)))) (.one .slc) (fun x15 w =>
      semS Tryd.prog (Instr.sliceAt 22 (.slice x15.a x15.len x15.cap) (some (.int .i64 128)) none none) (.one .slc) (fun x16 w =>
      nilS p0 fun a17 =>
      semU Tryd.prog (Instr.storeAt 22 (.pointer (some (a17.add 8))) (.slice x16.a x16.len x16.cap)) (fun w =>
      again8 () w) w) w) w) w) w) w)
      (nilS p0 fun a18 =>
      semS Tryd.prog (Instr.loadAt 22 (.pointer (some (a18.add 8)))) (.one .slc) (fun x19 w =>
      callS Tryd.prog 35 #[(.slice x19.a x19.len x19.cap)] [(.one .slc)] (fun r20 w =>
      nilS p0 fun a21 =>
      semU Tryd.prog (Instr.storeAt 22 (.pointer (some (a21.add 8))) (.slice r20.a r20.len r20.cap)) (fun w =>
      K w) w) w) w)) w) () w) w) w) w) w) w
theorem f62_ok {p0 : Option Addr} {p1 : Sl} {K : World → Prop} {w : World} (h : f62 p0 p1 K w) : callS Tryd.prog 62 #[(.pointer p0), (.slice p1.a p1.len p1.cap)] [] K w :=
  calls_of_fn (args := [(.pointer p0), (.slice p1.a p1.len p1.cap)]) Tryd.f62 [] [] [.nil, .nil] .nil (by kernel_rfl) (by kernel_rfl)
    (Eq.mp (by kernel_rfl : f62 p0 p1 K w = evFn Tryd.prog Tryd.f62 [] [] [.nil, .nil] .nil [(.pointer p0), (.slice p1.a p1.len p1.cap)] [] K w) h)

def f63_t1 (z37 : Addr) (p0 : Option Addr) (K : Sl → World → Prop) (w : World) : Prop :=
  loopS (σ := Unit) (fun _ w again38 =>
    semS Tryd.prog (Instr.loadAt 22 (.pointer (some (z37.add 8)))) (.one .slc) (fun x39 w =>
    cond ((Int.tmod (x39.len : Int) 128) != 112)
      (semS Tryd.prog (Instr.loadAt 22 (.pointer (some (z37.add 8)))) (.one .slc) (fun x40 w =>
      semS Tryd.prog (Instr.buildSlice 22 1 #[(0, (.int .u8 0))]) (.one .slc) (fun x41 w =>
      semS Tryd.prog (Builtin.append_ #[22, 22] 22 #[(.slice x40.a x40.len x40.cap), (.slice x41.a x41.len x41.cap)]) (.one .slc) (fun r42 w =>
      semU Tryd.prog (Instr.storeAt 22 (.pointer (some (z37.add 8))) (.slice r42.a r42.len r42.cap)) (fun w =>
      again38 () w) w) w) w) w)
      (semS Tryd.prog (Instr.loadAt 22 (.pointer (some (z37.add 8)))) (.one .slc) (fun x43 w =>
      semS Tryd.prog (Builtin.append_ #[22, 3] 22 #[(.slice x43.a x43.len x43.cap), (.int .i64 8)]) (.one .slc) (fun r44 w =>
      semU Tryd.prog (Instr.storeAt 22 (.pointer (some (z37.add 8))) (.slice r44.a r44.len r44.cap)) (fun w =>
      loopS (σ := Int) (fun x45 w again46 =>
        cond (decide (x45 ≥ 0))
          (drawS w fun C w =>
          semQ Tryd.prog C (Instr.loadAt 22 (.pointer (some (z37.add 8)))) (.one .slc) (fun x47 =>
          nilS p0 fun a48 =>
          semQ Tryd.prog C (Instr.loadAt 87 (.pointer (some (a48.add 9)))) (.one (.int .u64)) (fun x49 =>
          semQ Tryd.prog C (binS .shr 87 (.tmp 46) (.tmp 47) (.int .u64 (IntKind.wrap .u64 (8 * x49))) (.int .i64 x45)) (.one (.int .u64)) (fun x50 =>
          semS Tryd.prog (Instr.buildSlice 22 1 #[(0, (.int .u8 (IntKind.wrap .u8 x50)))]) (.one .slc) (fun x51 w =>
          moreS C w (fun C =>
          semS Tryd.prog (Builtin.append_ #[22, 22] 22 #[(.slice x47.a x47.len x47.cap), (.slice x51.a x51.len x51.cap)]) (.one .slc) (fun r52 w =>
          semU Tryd.prog (Instr.storeAt 22 (.pointer (some (z37.add 8))) (.slice r52.a r52.len r52.cap)) (fun w =>
          again46 (IntKind.wrap .i64 (x45 - 8)) w) w) w)) w))))
          (semS Tryd.prog (Instr.loadAt 22 (.pointer (some (z37.add 8)))) (.one .slc) (fun x53 w =>
          callS Tryd.prog 30 #[(.slice x53.a x53.len x53.cap), (.int .i64 128)] [(.one .any)] (fun r54 w =>
          rangeS Tryd.prog r54 w (fun l55 oR56 oB57 xs58 w R59 =>
            decL (R := Prop) [.slc] xs58 (fun x61 =>
            w.heap[l55]? = some oR56 ∧ ((fun w =>
              callS Tryd.prog 75 #[(.pointer (some z37)), (.slice x61.a x61.len x61.cap)] [] (fun w =>
              w.heap[l55]? = some oB57 ∧ R59 (w.putObj l55 oR56)) w) (w.putObj l55 oB57))) (fun r => r)) (fun D60 w =>
          semS Tryd.prog (Instr.loadAt 113 (.pointer (some (z37.add 0)))) (.agg [(.int .u64), (.int .u64), (.int .u64), (.int .u64), (.int .u64), (.int .u64), (.int .u64), (.int .u64)]) (fun x62 x63 x64 x65 x66 x67 x68 x69 w =>
          loopS (σ := Sl × Int) (fun s70 w again71 =>
            cond (decide (s70.2 < 8))
              (semS Tryd.prog (Instr.index 113 (.agg #[(.int .u64 x62), (.int .u64 x63), (.int .u64 x64), (.int .u64 x65), (.int .u64 x66), (.int .u64 x67), (.int .u64 x68), (.int .u64 x69)]) (.int .i64 s70.2)) (.one (.int .u64)) (fun x72 w =>
              loopS (σ := Sl × Int) (fun s73 w again74 =>
                cond (decide (s73.2 ≥ 0))
                  (semS Tryd.prog (binS .shr 87 (.tmp 69) (.tmp 70) (.int .u64 x72) (.int .i64 s73.2)) (.one (.int .u64)) (fun x75 w =>
                  semS Tryd.prog (Instr.buildSlice 22 1 #[(0, (.int .u8 (IntKind.wrap .u8 x75)))]) (.one .slc) (fun x76 w =>
                  semS Tryd.prog (Builtin.append_ #[22, 22] 22 #[(.slice s73.1.a s73.1.len s73.1.cap), (.slice x76.a x76.len x76.cap)]) (.one .slc) (fun r77 w =>
                  again74 (r77, IntKind.wrap .i64 (s73.2 - 8)) w) w) w) w)
                  (again71 (s73.1, IntKind.wrap .i64 (s70.2 + 1)) w)) (s70.1, 56) w) w)
              (w.heap[D60]? = some (.deferred (some [])) ∧ ((fun w => K s70.1 w) (w.putObj D60 (.deferred none))))) (⟨none, 0, 0⟩, 0) w) w)) w) w)) 56 w) w) w) w)) w) () w

/-- (*sallyport/longsum.Hash).Sum -/
def f63 (p0 : Option Addr) (K : Sl → World → Prop) (w : World) : Prop :=
  drawS w fun C w =>
  nilS p0 fun a1 =>
  semQ Tryd.prog C (Instr.loadAt 113 (.pointer (some (a1.add 0)))) (.agg [(.int .u64), (.int .u64), (.int .u64), (.int .u64), (.int .u64), (.int .u64), (.int .u64), (.int .u64)]) (fun x2 x3 x4 x5 x6 x7 x8 x9 =>
  nilS p0 fun a10 =>
  semQ Tryd.prog C (Instr.loadAt 22 (.pointer (some (a10.add 8)))) (.one .slc) (fun x11 =>
  (callS Tryd.prog 35 #[(.slice x11.a x11.len x11.cap)] [(.one .slc)] (fun r12 w =>
  moreS C w (fun C =>
  (semS Tryd.prog (Instr.buildSlice 22 1 #[(0, (.int .u8 128))]) (.one .slc) (fun x13 w =>
    moreS C w (fun C =>
    (semS Tryd.prog (Builtin.append_ #[22, 22] 22 #[(.slice r12.a r12.len r12.cap), (.slice x13.a x13.len x13.cap)]) (.one .slc) (fun r14 w =>
      moreS C w (fun C =>
      semS Tryd.prog (Instr.alloc 115 true (.tuple #[])) (.one .adr) (fun x15 w =>
        moreS C w (fun C =>
        semU Tryd.prog (Instr.storeAt 115 (.pointer (some x15)) (.agg #[(.int .u64 x2), (.int .u64 x3), (.int .u64 x4), (.int .u64 x5), (.int .u64 x6), (.int .u64 x7), (.int .u64 x8), (.int .u64 x9), (.slice r14.a r14.len r14.cap), (.int .u64 0)])) (fun w =>
        f63_t1 x15 p0 K w) w)) w)) w) ∧
      (semS Tryd.prog (Instr.alloc 115 true (.tuple #[])) (.one .adr) (fun x16 w =>
      moreS C w (fun C =>
      semS Tryd.prog (Builtin.append_ #[22, 22] 22 #[(.slice r12.a r12.len r12.cap), (.slice x13.a x13.len x13.cap)]) (.one .slc) (fun r17 w =>
        moreS C w (fun C =>
        semU Tryd.prog (Instr.storeAt 115 (.pointer (some x16)) (.agg #[(.int .u64 x2), (.int .u64 x3), (.int .u64 x4), (.int .u64 x5), (.int .u64 x6), (.int .u64 x7), (.int .u64 x8), (.int .u64 x9), (.slice r17.a r17.len r17.cap), (.int .u64 0)])) (fun w =>
        f63_t1 x16 p0 K w) w)) w)) w))) w) ∧
    (semS Tryd.prog (Instr.alloc 115 true (.tuple #[])) (.one .adr) (fun x18 w =>
    moreS C w (fun C =>
    semS Tryd.prog (Instr.buildSlice 22 1 #[(0, (.int .u8 128))]) (.one .slc) (fun x19 w =>
      moreS C w (fun C =>
      semS Tryd.prog (Builtin.append_ #[22, 22] 22 #[(.slice r12.a r12.len r12.cap), (.slice x19.a x19.len x19.cap)]) (.one .slc) (fun r20 w =>
      moreS C w (fun C =>
      semU Tryd.prog (Instr.storeAt 115 (.pointer (some x18)) (.agg #[(.int .u64 x2), (.int .u64 x3), (.int .u64 x4), (.int .u64 x5), (.int .u64 x6), (.int .u64 x7), (.int .u64 x8), (.int .u64 x9), (.slice r20.a r20.len r20.cap), (.int .u64 0)])) (fun w =>
      f63_t1 x18 p0 K w) w)) w)) w)) w))) w) ∧
  ((semS Tryd.prog (Instr.buildSlice 22 1 #[(0, (.int .u8 128))]) (.one .slc) (fun x21 w =>
  moreS C w (fun C =>
  (callS Tryd.prog 35 #[(.slice x11.a x11.len x11.cap)] [(.one .slc)] (fun r22 w =>
    moreS C w (fun C =>
    (semS Tryd.prog (Builtin.append_ #[22, 22] 22 #[(.slice r22.a r22.len r22.cap), (.slice x21.a x21.len x21.cap)]) (.one .slc) (fun r23 w =>
      moreS C w (fun C =>
      semS Tryd.prog (Instr.alloc 115 true (.tuple #[])) (.one .adr) (fun x24 w =>
        moreS C w (fun C =>
        semU Tryd.prog (Instr.storeAt 115 (.pointer (some x24)) (.agg #[(.int .u64 x2), (.int .u64 x3), (.int .u64 x4), (.int .u64 x5), (.int .u64 x6), (.int .u64 x7), (.int .u64 x8), (.int .u64 x9), (.slice r23.a r23.len r23.cap), (.int .u64 0)])) (fun w =>
        f63_t1 x24 p0 K w) w)) w)) w) ∧
      (semS Tryd.prog (Instr.alloc 115 true (.tuple #[])) (.one .adr) (fun x25 w =>
      moreS C w (fun C =>
      semS Tryd.prog (Builtin.append_ #[22, 22] 22 #[(.slice r22.a r22.len r22.cap), (.slice x21.a x21.len x21.cap)]) (.one .slc) (fun r26 w =>
        moreS C w (fun C =>
        semU Tryd.prog (Instr.storeAt 115 (.pointer (some x25)) (.agg #[(.int .u64 x2), (.int .u64 x3), (.int .u64 x4), (.int .u64 x5), (.int .u64 x6), (.int .u64 x7), (.int .u64 x8), (.int .u64 x9), (.slice r26.a r26.len r26.cap), (.int .u64 0)])) (fun w =>
        f63_t1 x25 p0 K w) w)) w)) w))) w) ∧
    (semS Tryd.prog (Instr.alloc 115 true (.tuple #[])) (.one .adr) (fun x27 w =>
    moreS C w (fun C =>
    callS Tryd.prog 35 #[(.slice x11.a x11.len x11.cap)] [(.one .slc)] (fun r28 w =>
      moreS C w (fun C =>
      semS Tryd.prog (Builtin.append_ #[22, 22] 22 #[(.slice r28.a r28.len r28.cap), (.slice x21.a x21.len x21.cap)]) (.one .slc) (fun r29 w =>
      moreS C w (fun C =>
      semU Tryd.prog (Instr.storeAt 115 (.pointer (some x27)) (.agg #[(.int .u64 x2), (.int .u64 x3), (.int .u64 x4), (.int .u64 x5), (.int .u64 x6), (.int .u64 x7), (.int .u64 x8), (.int .u64 x9), (.slice r29.a r29.len r29.cap), (.int .u64 0)])) (fun w =>
      f63_t1 x27 p0 K w) w)) w)) w)) w))) w) ∧
  (semS Tryd.prog (Instr.alloc 115 true (.tuple #[])) (.one .adr) (fun x30 w =>
  moreS C w (fun C =>
  (callS Tryd.prog 35 #[(.slice x11.a x11.len x11.cap)] [(.one .slc)] (fun r31 w =>
    moreS C w (fun C =>
    semS Tryd.prog (Instr.buildSlice 22 1 #[(0, (.int .u8 128))]) (.one .slc) (fun x32 w =>
      moreS C w (fun C =>
      semS Tryd.prog (Builtin.append_ #[22, 22] 22 #[(.slice r31.a r31.len r31.cap), (.slice x32.a x32.len x32.cap)]) (.one .slc) (fun r33 w =>
      moreS C w (fun C =>
      semU Tryd.prog (Instr.storeAt 115 (.pointer (some x30)) (.agg #[(.int .u64 x2), (.int .u64 x3), (.int .u64 x4), (.int .u64 x5), (.int .u64 x6), (.int .u64 x7), (.int .u64 x8), (.int .u64 x9), (.slice r33.a r33.len r33.cap), (.int .u64 0)])) (fun w =>
      f63_t1 x30 p0 K w) w)) w)) w)) w) ∧
    (semS Tryd.prog (Instr.buildSlice 22 1 #[(0, (.int .u8 128))]) (.one .slc) (fun x34 w =>
    moreS C w (fun C =>
    callS Tryd.prog 35 #[(.slice x11.a x11.len x11.cap)] [(.one .slc)] (fun r35 w =>
      moreS C w (fun C =>
      semS Tryd.prog (Builtin.append_ #[22, 22] 22 #[(.slice r35.a r35.len r35.cap), (.slice x34.a x34.len x34.cap)]) (.one .slc) (fun r36 w =>
      moreS C w (fun C =>
      semU Tryd.prog (Instr.storeAt 115 (.pointer (some x30)) (.agg #[(.int .u64 x2), (.int .u64 x3), (.int .u64 x4), (.int .u64 x5), (.int .u64 x6), (.int .u64 x7), (.int .u64 x8), (.int .u64 x9), (.slice r36.a r36.len r36.cap), (.int .u64 0)])) (fun w =>
      f63_t1 x30 p0 K w) w)) w)) w)) w))) w))))
theorem f63_ok {p0 : Option Addr} {K : Sl → World → Prop} {w : World} (h : f63 p0 K w) : callS Tryd.prog 63 #[(.pointer p0)] [(.one .slc)] K w :=
  calls_of_fnR (args := [(.pointer p0)]) Tryd.f63 [] (.two .nil (.two (.draw [0, 1, 3, 7, 0, 16, 48, 112, 240, 0, 1008, 2047, 0, 8191]) (.two (.one (.loop [] .nil)) (.two .nil (.two (.two .nil (.one (.loop [(4, (.int .i64))] (.two .nil (.two (.one (.draw [0, 1, 0, 4, 12, 28, 60, 0, 252, 508, 1020, 2047, 4095, 8191])) .nil))))) (.two (.two .nil (.one (.join [(56, .slc)] .nil .nil))) (.two .nil (.two (.two .nil (.one (.loop [(6, .slc), (61, (.int .i64))] (.two .nil (.two .nil (.two (.one (.two .nil (.two .nil (.one (.loop [(6, .slc), (9, (.int .i64))] .nil))))) .nil)))))) .nil)))))))) (by kernel_rfl) (by kernel_rfl)
    (Eq.mp (by kernel_rfl : f63 p0 K w = evFnR Tryd.prog Tryd.f63 [] (.two .nil (.two (.draw [0, 1, 3, 7, 0, 16, 48, 112, 240, 0, 1008, 2047, 0, 8191]) (.two (.one (.loop [] .nil)) (.two .nil (.two (.two .nil (.one (.loop [(4, (.int .i64))] (.two .nil (.two (.one (.draw [0, 1, 0, 4, 12, 28, 60, 0, 252, 508, 1020, 2047, 4095, 8191])) .nil))))) (.two (.two .nil (.one (.join [(56, .slc)] .nil .nil))) (.two .nil (.two (.two .nil (.one (.loop [(6, .slc), (61, (.int .i64))] (.two .nil (.two .nil (.two (.one (.two .nil (.two .nil (.one (.loop [(6, .slc), (9, (.int .i64))] .nil))))) .nil)))))) .nil)))))))) [(.pointer p0)] [(.one .slc)] K w) h)

/-- sallyport/longsum.Of -/
def f47 (p0 : Sl) (K : Sl → World → Prop) (w : World) : Prop :=
  callS Tryd.prog 61 #[] [(.one .ptr)] (fun r1 w =>
  loopS (σ := Int) (fun x2 w again3 =>
    cond (decide (x2 < (p0.len : Int)))
      (semS Tryd.prog (Instr.indexAt 40 (.slice p0.a p0.len p0.cap) (.int .i64 x2)) (.one .adr) (fun x4 w =>
      semS Tryd.prog (Instr.loadAt 22 (.pointer (some x4))) (.one .slc) (fun x5 w =>
      callS Tryd.prog 62 #[(.pointer r1), (.slice x5.a x5.len x5.cap)] [] (fun w =>
      again3 (IntKind.wrap .i64 (x2 + 1)) w) w) w) w)
      (callS Tryd.prog 63 #[(.pointer r1)] [(.one .slc)] (fun r6 w =>
      K r6 w) w)) 0 w) w
theorem f47_ok {p0 : Sl} {K : Sl → World → Prop} {w : World} (h : f47 p0 K w) : callS Tryd.prog 47 #[(.slice p0.a p0.len p0.cap)] [(.one .slc)] K w :=
  calls_of_fn (args := [(.slice p0.a p0.len p0.cap)]) Tryd.f47 [] [] [] (.two .nil (.two .nil (.two (.two .nil (.one (.loop [(9, (.int .i64))] .nil))) .nil))) (by kernel_rfl) (by kernel_rfl)
    (Eq.mp (by kernel_rfl : f47 p0 K w = evFn Tryd.prog Tryd.f47 [] [] [] (.two .nil (.two .nil (.two (.two .nil (.one (.loop [(9, (.int .i64))] .nil))) .nil))) [(.slice p0.a p0.len p0.cap)] [(.one .slc)] K w) h)

/-- sallyport/shortsum.New -/
def f64  (K : (Option Addr) → World → Prop) (w : World) : Prop :=
  semS Tryd.prog (Instr.loadAt 116 (.pointer (some (⟨1, 0, none⟩)))) (.agg [(.int .u32), (.int .u32), (.int .u32), (.int .u32), (.int .u32), (.int .u32), (.int .u32), (.int .u32)]) (fun x1 x2 x3 x4 x5 x6 x7 x8 w =>
  semS Tryd.prog (Instr.box 118 (.agg #[(.int .u32 x1), (.int .u32 x2), (.int .u32 x3), (.int .u32 x4), (.int .u32 x5), (.int .u32 x6), (.int .u32 x7), (.int .u32 x8), (.slice none 0 0), (.int .u64 0)])) (.one .adr) (fun x9 w =>
  K (some x9) w) w) w
theorem f64_ok  {K : (Option Addr) → World → Prop} {w : World} (h : f64  K w) : callS Tryd.prog 64 #[] [(.one .ptr)] K w :=
  calls_of_fn (args := []) Tryd.f64 [] [] [] .nil (by kernel_rfl) (by kernel_rfl)
    (Eq.mp (by kernel_rfl : f64  K w = evFn Tryd.prog Tryd.f64 [] [] [] .nil [] [(.one .ptr)] K w) h)

/-- math/bits.RotateLeft32 -/
def f82 (p0 : Int) (p1 : Int) (K : Int → World → Prop) (w : World) : Prop :=
  semS Tryd.prog (binS .shl 84 (.tmp 9) (.tmp 10) (.int .u32 p0) (.int .u64 (andI .u64 (IntKind.wrap .u64 p1) 31))) (.one (.int .u32)) (fun x1 w =>
  semS Tryd.prog (binS .shr 84 (.tmp 12) (.tmp 14) (.int .u32 p0) (.int .u64 (IntKind.wrap .u64 (32 - (andI .u64 (IntKind.wrap .u64 p1) 31))))) (.one (.int .u32)) (fun x2 w =>
  K (orI .u32 x1 x2) w) w) w
theorem f82_ok {p0 : Int} {p1 : Int} {K : Int → World → Prop} {w : World} (h : f82 p0 p1 K w) : callS Tryd.prog 82 #[(.int .u32 p0), (.int .i64 p1)] [(.one (.int .u32))] K w :=
  calls_of_fn (args := [(.int .u32 p0), (.int .i64 p1)]) Tryd.f82 [] [] [] .nil (by kernel_rfl) (by kernel_rfl)
    (Eq.mp (by kernel_rfl : f82 p0 p1 K w = evFn Tryd.prog Tryd.f82 [] [] [] .nil [(.int .u32 p0), (.int .i64 p1)] [(.one (.int .u32))] K w) h)

/-- sallyport/shortsum.turn -/
def f80 (p0 : Int) (p1 : Int) (K : Int → World → Prop) (w : World) : Prop :=
  callS Tryd.prog 82 #[(.int .u32 p0), (.int .i64 (IntKind.wrap .i64 (0 - p1)))] [(.one (.int .u32))] (fun r1 w =>
  K r1 w) w
theorem f80_ok {p0 : Int} {p1 : Int} {K : Int → World → Prop} {w : World} (h : f80 p0 p1 K w) : callS Tryd.prog 80 #[(.int .u32 p0), (.int .i64 p1)] [(.one (.int .u32))] K w :=
  calls_of_fn (args := [(.int .u32 p0), (.int .i64 p1)]) Tryd.f80 [] [] [] .nil (by kernel_rfl) (by kernel_rfl)
    (Eq.mp (by kernel_rfl : f80 p0 p1 K w = evFn Tryd.prog Tryd.f80 [] [] [] .nil [(.int .u32 p0), (.int .i64 p1)] [(.one (.int .u32))] K w) h)

/-- sallyport/shortsum.schedule -/
def f79 (p0 : Sl) (K : (List Int) → World → Prop) (w : World) : Prop :=
  semS Tryd.prog (Instr.alloc 121 true (.tuple #[])) (.one .adr) (fun x1 w =>
  loopS (σ := Int) (fun x2 w again3 =>
    cond (decide (x2 < 16))
      (semS Tryd.prog (Instr.sliceAt 22 (.slice p0.a p0.len p0.cap) (some (.int .i64 (IntKind.wrap .i64 (4 * x2)))) (some (.int .i64 (IntKind.wrap .i64 ((IntKind.wrap .i64 (4 * x2)) + 4)))) none) (.one .slc) (fun x4 w =>
      loopS (σ := Int) (fun x5 w again6 =>
        cond (decide (x5 < (x4.len : Int)))
          (semS Tryd.prog (Instr.indexAt 22 (.slice x4.a x4.len x4.cap) (.int .i64 x5)) (.one .adr) (fun x7 w =>
          semS Tryd.prog (Instr.loadAt 5 (.pointer (some x7))) (.one (.int .u8)) (fun x8 w =>
          semS Tryd.prog (Instr.indexAt 121 (.pointer (some x1)) (.int .i64 x2)) (.one .adr) (fun x9 w =>
          semS Tryd.prog (Instr.loadAt 84 (.pointer (some x9))) (.one (.int .u32)) (fun x10 w =>
          semS Tryd.prog (Instr.indexAt 121 (.pointer (some x1)) (.int .i64 x2)) (.one .adr) (fun x11 w =>
          semU Tryd.prog (Instr.storeAt 84 (.pointer (some x11)) (.int .u32 (orI .u32 (shlI .u32 x10 8) (IntKind.wrap .u32 x8)))) (fun w =>
          again6 (IntKind.wrap .i64 (x5 + 1)) w) w) w) w) w) w) w)
          (again3 (IntKind.wrap .i64 (x2 + 1)) w)) 0 w) w)
      (loopS (σ := Int) (fun x12 w again13 =>
        cond (decide (x12 < 64))
          (drawS w fun C w =>
          semQ Tryd.prog C (Instr.indexAt 121 (.pointer (some x1)) (.int .i64 (IntKind.wrap .i64 (x12 - 15)))) (.one .adr) (fun x14 =>
          semQ Tryd.prog C (Instr.loadAt 84 (.pointer (some x14))) (.one (.int .u32)) (fun x15 =>
          semQ Tryd.prog C (Instr.indexAt 121 (.pointer (some x1)) (.int .i64 (IntKind.wrap .i64 (x12 - 2)))) (.one .adr) (fun x16 =>
          semQ Tryd.prog C (Instr.loadAt 84 (.pointer (some x16))) (.one (.int .u32)) (fun x17 =>
          drawS w fun C w =>
          semQ Tryd.prog C (Instr.indexAt 121 (.pointer (some x1)) (.int .i64 (IntKind.wrap .i64 (x12 - 16)))) (.one .adr) (fun x18 =>
          semQ Tryd.prog C (Instr.loadAt 84 (.pointer (some x18))) (.one (.int .u32)) (fun x19 =>
          semQ Tryd.prog C (Instr.indexAt 121 (.pointer (some x1)) (.int .i64 (IntKind.wrap .i64 (x12 - 7)))) (.one .adr) (fun x20 =>
          semQ Tryd.prog C (Instr.loadAt 84 (.pointer (some x20))) (.one (.int .u32)) (fun x21 =>
          callS Tryd.prog 80 #[(.int .u32 x15), (.int .i64 7)] [(.one (.int .u32))] (fun r22 w =>
          moreS C w (fun C =>
          callS Tryd.prog 80 #[(.int .u32 x15), (.int .i64 18)] [(.one (.int .u32))] (fun r23 w =>
          moreS C w (fun C =>
          callS Tryd.prog 80 #[(.int .u32 x17), (.int .i64 17)] [(.one (.int .u32))] (fun r24 w =>
          moreS C w (fun C =>
          callS Tryd.prog 80 #[(.int .u32 x17), (.int .i64 19)] [(.one (.int .u32))] (fun r25 w =>
          moreS C w (fun C =>
          semQ Tryd.prog C (Instr.indexAt 121 (.pointer (some x1)) (.int .i64 x12)) (.one .adr) (fun x26 =>
          semU Tryd.prog (Instr.storeAt 84 (.pointer (some x26)) (.int .u32 (IntKind.wrap .u32 ((IntKind.wrap .u32 ((IntKind.wrap .u32 (x19 + (xorI .u32 (xorI .u32 r22 r23) (shrI .u32 x15 3)))) + x21)) + (xorI .u32 (xorI .u32 r24 r25) (shrI .u32 x17 10)))))) (fun w =>
          again13 (IntKind.wrap .i64 (x12 + 1)) w) w))) w)) w)) w)) w)))))))))
          (semS Tryd.prog (Instr.loadAt 121 (.pointer (some x1))) (.one (.arr .u32)) (fun x27 w =>
          semU Tryd.prog (Instr.storeAt 121 (.pointer (some x1)) (.agg (List.map (Value.int .u32) x27).toArray)) (fun w =>
          ∃ v28, (loadVar 121 x1).run Tryd.prog w = .ok v28 w ∧ decR [(.one (.arr .u32))] v28 K fun r => r w) w) w)) 16 w)) 0 w) w
theorem f79_ok {p0 : Sl} {K : (List Int) → World → Prop} {w : World} (h : f79 p0 K w) : callS Tryd.prog 79 #[(.slice p0.a p0.len p0.cap)] [(.one (.arr .u32))] K w :=
  calls_of_fn (args := [(.slice p0.a p0.len p0.cap)]) Tryd.f79 [] [] [] (.two .nil (.two (.two .nil (.one (.loop [(9, (.int .i64))] (.two .nil (.two .nil (.two (.one (.two .nil (.two .nil (.one (.loop [(20, (.int .i64))] .nil))))) .nil)))))) (.two (.two .nil (.one (.loop [(6, (.int .i64))] (.two .nil (.two (.one (.two (.draw [0, 1, 3, 7, 0, 16, 48, 112, 15, 511]) (.draw [0, 0, 2, 6, 14, 0, 32, 0, 224, 480, 0, 1024, 4064, 8190, 0, 16384, 49152, 114688, 262142, 0, 524768, 0, 3670496, 7864800, 0, 16777216, 66585056, 134217726, 268435455, 536870911]))) .nil))))) .nil))) (by kernel_rfl) (by kernel_rfl)
    (Eq.mp (by kernel_rfl : f79 p0 K w = evFn Tryd.prog Tryd.f79 [] [] [] (.two .nil (.two (.two .nil (.one (.loop [(9, (.int .i64))] (.two .nil (.two .nil (.two (.one (.two .nil (.two .nil (.one (.loop [(20, (.int .i64))] .nil))))) .nil)))))) (.two (.two .nil (.one (.loop [(6, (.int .i64))] (.two .nil (.two (.one (.two (.draw [0, 1, 3, 7, 0, 16, 48, 112, 15, 511]) (.draw [0, 0, 2, 6, 14, 0, 32, 0, 224, 480, 0, 1024, 4064, 8190, 0, 16384, 49152, 114688, 262142, 0, 524768, 0, 3670496, 7864800, 0, 16777216, 66585056, 134217726, 268435455, 536870911]))) .nil))))) .nil))) [(.slice p0.a p0.len p0.cap)] [(.one (.arr .u32))] K w) h)

/-- (*sallyport/shortsum.Hash).take -/
def f76 (p0 : Option Addr) (p1 : Sl) (K : World → Prop) (w : World) : Prop :=
  callS Tryd.prog 79 #[(.slice p1.a p1.len p1.cap)] [(.one (.arr .u32))] (fun r1 w =>
  semS Tryd.prog (Instr.alloc 121 true (.tuple #[])) (.one .adr) (fun x2 w =>
  semU Tryd.prog (Instr.storeAt 121 (.pointer (some x2)) (.agg (List.map (Value.int .u32) r1).toArray)) (fun w =>
  nilS p0 fun a3 =>
  semS Tryd.prog (Instr.loadAt 116 (.pointer (some (a3.add 0)))) (.agg [(.int .u32), (.int .u32), (.int .u32), (.int .u32), (.int .u32), (.int .u32), (.int .u32), (.int .u32)]) (fun x4 x5 x6 x7 x8 x9 x10 x11 w =>
  semS Tryd.prog (Instr.alloc 116 true (.tuple #[])) (.one .adr) (fun x12 w =>
  semU Tryd.prog (Instr.storeAt 116 (.pointer (some x12)) (.agg #[(.int .u32 x4), (.int .u32 x5), (.int .u32 x6), (.int .u32 x7), (.int .u32 x8), (.int .u32 x9), (.int .u32 x10), (.int .u32 x11)])) (fun w =>
  semS Tryd.prog (Instr.loadAt 121 (.pointer (some (⟨3, 0, none⟩)))) (.one (.arr .u32)) (fun x13 w =>
  loopS (σ := Int) (fun x14 w again15 =>
    cond (decide (x14 < 64))
      (semS Tryd.prog (Instr.index 121 (.agg (List.map (Value.int .u32) x13).toArray) (.int .i64 x14)) (.one (.int .u32)) (fun x16 w =>
      drawS w fun C w =>
      semQ Tryd.prog C (Instr.indexAt 116 (.pointer (some x12)) (.int .i64 0)) (.one .adr) (fun x17 =>
      semQ Tryd.prog C (Instr.loadAt 84 (.pointer (some x17))) (.one (.int .u32)) (fun x18 =>
      semQ Tryd.prog C (Instr.indexAt 116 (.pointer (some x12)) (.int .i64 4)) (.one .adr) (fun x19 =>
      semQ Tryd.prog C (Instr.loadAt 84 (.pointer (some x19))) (.one (.int .u32)) (fun x20 =>
      drawS w fun C w =>
      semQ Tryd.prog C (Instr.indexAt 116 (.pointer (some x12)) (.int .i64 7)) (.one .adr) (fun x21 =>
      semQ Tryd.prog C (Instr.loadAt 84 (.pointer (some x21))) (.one (.int .u32)) (fun x22 =>
      semQ Tryd.prog C (Instr.indexAt 116 (.pointer (some x12)) (.int .i64 5)) (.one .adr) (fun x23 =>
      semQ Tryd.prog C (Instr.loadAt 84 (.pointer (some x23))) (.one (.int .u32)) (fun x24 =>
      semQ Tryd.prog C (Instr.indexAt 116 (.pointer (some x12)) (.int .i64 6)) (.one .adr) (fun x25 =>
      semQ Tryd.prog C (Instr.loadAt 84 (.pointer (some x25))) (.one (.int .u32)) (fun x26 =>
      semQ Tryd.prog C (Instr.indexAt 121 (.pointer (some x2)) (.int .i64 x14)) (.one .adr) (fun x27 =>
      semQ Tryd.prog C (Instr.loadAt 84 (.pointer (some x27))) (.one (.int .u32)) (fun x28 =>
      callS Tryd.prog 80 #[(.int .u32 x20), (.int .i64 6)] [(.one (.int .u32))] (fun r29 w =>
      moreS C w (fun C =>
      callS Tryd.prog 80 #[(.int .u32 x20), (.int .i64 11)] [(.one (.int .u32))] (fun r30 w =>
      moreS C w (fun C =>
      callS Tryd.prog 80 #[(.int .u32 x20), (.int .i64 25)] [(.one (.int .u32))] (fun r31 w =>
      moreS C w (fun C =>
      drawS w fun C w =>
      semQ Tryd.prog C (Instr.indexAt 116 (.pointer (some x12)) (.int .i64 1)) (.one .adr) (fun x32 =>
      semQ Tryd.prog C (Instr.loadAt 84 (.pointer (some x32))) (.one (.int .u32)) (fun x33 =>
      semQ Tryd.prog C (Instr.indexAt 116 (.pointer (some x12)) (.int .i64 2)) (.one .adr) (fun x34 =>
      semQ Tryd.prog C (Instr.loadAt 84 (.pointer (some x34))) (.one (.int .u32)) (fun x35 =>
      semQ Tryd.prog C (Instr.indexAt 116 (.pointer (some x12)) (.int .i64 1)) (.one .adr) (fun x36 =>
      semQ Tryd.prog C (Instr.loadAt 84 (.pointer (some x36))) (.one (.int .u32)) (fun x37 =>
      semQ Tryd.prog C (Instr.indexAt 116 (.pointer (some x12)) (.int .i64 2)) (.one .adr) (fun x38 =>
      semQ Tryd.prog C (Instr.loadAt 84 (.pointer (some x38))) (.one (.int .u32)) (fun x39 =>
      callS Tryd.prog 80 #[(.int .u32 x18), (.int .i64 2)] [(.one (.int .u32))] (fun r40 w =>
      moreS C w (fun C =>
      callS Tryd.prog 80 #[(.int .u32 x18), (.int .i64 13)] [(.one (.int .u32))] (fun r41 w =>
      moreS C w (fun C =>
      callS Tryd.prog 80 #[(.int .u32 x18), (.int .i64 22)] [(.one (.int .u32))] (fun r42 w =>
      moreS C w (fun C =>
      semS Tryd.prog (Instr.indexAt 116 (.pointer (some x12)) (.int .i64 1)) (.one .adr) (fun x43 w =>
      semS Tryd.prog (Instr.loadAt 84 (.pointer (some x43))) (.one (.int .u32)) (fun x44 w =>
      semS Tryd.prog (Instr.indexAt 116 (.pointer (some x12)) (.int .i64 2)) (.one .adr) (fun x45 w =>
      semS Tryd.prog (Instr.loadAt 84 (.pointer (some x45))) (.one (.int .u32)) (fun x46 w =>
      semS Tryd.prog (Instr.indexAt 116 (.pointer (some x12)) (.int .i64 3)) (.one .adr) (fun x47 w =>
      semS Tryd.prog (Instr.loadAt 84 (.pointer (some x47))) (.one (.int .u32)) (fun x48 w =>
      semS Tryd.prog (Instr.indexAt 116 (.pointer (some x12)) (.int .i64 5)) (.one .adr) (fun x49 w =>
      semS Tryd.prog (Instr.loadAt 84 (.pointer (some x49))) (.one (.int .u32)) (fun x50 w =>
      semS Tryd.prog (Instr.indexAt 116 (.pointer (some x12)) (.int .i64 6)) (.one .adr) (fun x51 w =>
      semS Tryd.prog (Instr.loadAt 84 (.pointer (some x51))) (.one (.int .u32)) (fun x52 w =>
      semU Tryd.prog (Instr.storeAt 116 (.pointer (some x12)) (.agg #[(.int .u32 (IntKind.wrap .u32 ((IntKind.wrap .u32 ((IntKind.wrap .u32 ((IntKind.wrap .u32 ((IntKind.wrap .u32 (x22 + (xorI .u32 (xorI .u32 r29 r30) r31))) + (xorI .u32 (andI .u32 x20 x24) (andI .u32 (xorI .u32 (IntKind.max .u32) x20) x26)))) + x16)) + x28)) + (IntKind.wrap .u32 ((xorI .u32 (xorI .u32 r40 r41) r42) + (xorI .u32 (xorI .u32 (andI .u32 x18 x33) (andI .u32 x18 x35)) (andI .u32 x37 x39))))))), (.int .u32 x18), (.int .u32 x44), (.int .u32 x46), (.int .u32 (IntKind.wrap .u32 (x48 + (IntKind.wrap .u32 ((IntKind.wrap .u32 ((IntKind.wrap .u32 ((IntKind.wrap .u32 (x22 + (xorI .u32 (xorI .u32 r29 r30) r31))) + (xorI .u32 (andI .u32 x20 x24) (andI .u32 (xorI .u32 (IntKind.max .u32) x20) x26)))) + x16)) + x28))))), (.int .u32 x20), (.int .u32 x50), (.int .u32 x52)])) (fun w =>
      again15 (IntKind.wrap .i64 (x14 + 1)) w) w) w) w) w) w) w) w) w) w) w) w)) w)) w)) w)))))))))) w)) w)) w))))))))))))) w)
      (semS Tryd.prog (Instr.loadAt 116 (.pointer (some x12))) (.agg [(.int .u32), (.int .u32), (.int .u32), (.int .u32), (.int .u32), (.int .u32), (.int .u32), (.int .u32)]) (fun x53 x54 x55 x56 x57 x58 x59 x60 w =>
      loopS (σ := Int) (fun x61 w again62 =>
        cond (decide (x61 < 8))
          (semS Tryd.prog (Instr.index 116 (.agg #[(.int .u32 x53), (.int .u32 x54), (.int .u32 x55), (.int .u32 x56), (.int .u32 x57), (.int .u32 x58), (.int .u32 x59), (.int .u32 x60)]) (.int .i64 x61)) (.one (.int .u32)) (fun x63 w =>
          drawS w fun C w =>
          nilS p0 fun a64 =>
          semQ Tryd.prog C (Instr.indexAt 116 (.pointer (some (a64.add 0))) (.int .i64 x61)) (.one .adr) (fun x65 =>
          semQ Tryd.prog C (Instr.loadAt 84 (.pointer (some x65))) (.one (.int .u32)) (fun x66 =>
          nilS p0 fun a67 =>
          semQ Tryd.prog C (Instr.indexAt 116 (.pointer (some (a67.add 0))) (.int .i64 x61)) (.one .adr) (fun x68 =>
          semU Tryd.prog (Instr.storeAt 84 (.pointer (some x68)) (.int .u32 (IntKind.wrap .u32 (x66 + x63)))) (fun w =>
          again62 (IntKind.wrap .i64 (x61 + 1)) w) w)))) w)
          (K w)) 0 w) w)) 0 w) w) w) w) w) w) w) w
theorem f76_ok {p0 : Option Addr} {p1 : Sl} {K : World → Prop} {w : World} (h : f76 p0 p1 K w) : callS Tryd.prog 76 #[(.pointer p0), (.slice p1.a p1.len p1.cap)] [] K w :=
  calls_of_fn (args := [(.pointer p0), (.slice p1.a p1.len p1.cap)]) Tryd.f76 [] [] [] (.two .nil (.two .nil (.two (.two .nil (.one (.loop [(21, (.int .i64))] (.two .nil (.two .nil (.two (.one (.two .nil (.two (.draw [0, 1, 0, 4, 3, 31]) (.two (.draw [0, 1, 0, 4, 0, 28, 60, 0, 188, 508, 1023, 0, 0, 4096, 14336, 0, 32768, 0, 131072, 491520, 1046528, 2097151, 0, 8388607, 0, 16777216, 50331648, 134217727, 268435455]) (.two (.draw [0, 1, 0, 7, 15, 0, 47, 127, 0, 0, 512, 1792, 0, 0, 8192, 28672, 65280, 0, 131072, 0, 524288, 1966080, 4194048, 8388607, 16777215]) .nil))))) .nil)))))) (.two .nil (.one (.loop [(101, (.int .i64))] (.two .nil (.two .nil (.two (.one (.two .nil (.draw [0, 0, 1, 5, 15, 31, 0, 127, 1, 257, 1023, 2047]))) .nil))))))))) (by kernel_rfl) (by kernel_rfl)
    (Eq.mp (by kernel_rfl : f76 p0 p1 K w = evFn Tryd.prog Tryd.f76 [] [] [] (.two .nil (.two .nil (.two (.two .nil (.one (.loop [(21, (.int .i64))] (.two .nil (.two .nil (.two (.one (.two .nil (.two (.draw [0, 1, 0, 4, 3, 31]) (.two (.draw [0, 1, 0, 4, 0, 28, 60, 0, 188, 508, 1023, 0, 0, 4096, 14336, 0, 32768, 0, 131072, 491520, 1046528, 2097151, 0, 8388607, 0, 16777216, 50331648, 134217727, 268435455]) (.two (.draw [0, 1, 0, 7, 15, 0, 47, 127, 0, 0, 512, 1792, 0, 0, 8192, 28672, 65280, 0, 131072, 0, 524288, 1966080, 4194048, 8388607, 16777215]) .nil))))) .nil)))))) (.two .nil (.one (.loop [(101, (.int .i64))] (.two .nil (.two .nil (.two (.one (.two .nil (.draw [0, 0, 1, 5, 15, 31, 0, 127, 1, 257, 1023, 2047]))) .nil))))))))) [(.pointer p0), (.slice p1.a p1.len p1.cap)] [] K w) h)

/-- (*sallyport/shortsum.Hash).Write -/
def f65 (p0 : Option Addr) (p1 : Sl) (K : World → Prop) (w : World) : Prop :=
  nilS p0 fun a1 =>
  semS Tryd.prog (Instr.loadAt 87 (.pointer (some (a1.add 9)))) (.one (.int .u64)) (fun x2 w =>
  nilS p0 fun a3 =>
  semU Tryd.prog (Instr.storeAt 87 (.pointer (some (a3.add 9))) (.int .u64 (IntKind.wrap .u64 (x2 + (IntKind.wrap .u64 (p1.len : Int)))))) (fun w =>
  nilS p0 fun a4 =>
  semS Tryd.prog (Instr.loadAt 22 (.pointer (some (a4.add 8)))) (.one .slc) (fun x5 w =>
  semS Tryd.prog (Builtin.append_ #[22, 22] 22 #[(.slice x5.a x5.len x5.cap), (.slice p1.a p1.len p1.cap)]) (.one .slc) (fun r6 w =>
  nilS p0 fun a7 =>
  semU Tryd.prog (Instr.storeAt 22 (.pointer (some (a7.add 8))) (.slice r6.a r6.len r6.cap)) (fun w =>
  loopS (σ := Unit) (fun _ w again8 =>
    nilS p0 fun a9 =>
    semS Tryd.prog (Instr.loadAt 22 (.pointer (some (a9.add 8)))) (.one .slc) (fun x10 w =>
    cond (decide ((x10.len : Int) ≥ 64))
      (nilS p0 fun a11 =>
      semS Tryd.prog (Instr.loadAt 22 (.pointer (some (a11.add 8)))) (.one .slc) (fun x12 w =>
      semS Tryd.prog (Instr.sliceAt 22 (.slice x12.a x12.len x12.cap) none (some (.int .i64 64)) none) (.one .slc) (fun x13 w =>
      callS Tryd.prog 76 #[(.pointer p0), (.slice x13.a x13.len x13.cap)] [] (fun w =>
      nilS p0 fun a14 =>
      semS Tryd.prog (Instr.loadAt 22 (.pointer (some (a14.add 8)))) (.one .slc) (fun x15 w =>
      semS Tryd.prog (Instr.sliceAt 22 (.slice x15.a x15.len x15.cap) (some (.int .i64 64)) none none) (.one .slc) (fun x16 w =>
      nilS p0 fun a17 =>
      semU Tryd.prog (Instr.storeAt 22 (.pointer (some (a17.add 8))) (.slice x16.a x16.len x16.cap)) (fun w =>
      again8 () w) w) w) w) w) w) w)
      (nilS p0 fun a18 =>
      semS Tryd.prog (Instr.loadAt 22 (.pointer (some (a18.add 8)))) (.one .slc) (fun x19 w =>
      callS Tryd.prog 35 #[(.slice x19.a x19.len x19.cap)] [(.one .slc)] (fun r20 w =>
      nilS p0 fun a21 =>
      semU Tryd.prog (Instr.storeAt 22 (.pointer (some (a21.add 8))) (.slice r20.a r20.len r20.cap)) (fun w =>
      K w) w) w) w)) w) () w) w) w) w) w) w
theorem f65_ok {p0 : Option Addr} {p1 : Sl} {K : World → Prop} {w : World} (h : f65 p0 p1 K w) : callS Tryd.prog 65 #[(.pointer p0), (.slice p1.a p1.len p1.cap)] [] K w :=
  calls_of_fn (args := [(.pointer p0), (.slice p1.a p1.len p1.cap)]) Tryd.f65 [] [] [.nil, .nil] .nil (by kernel_rfl) (by kernel_rfl)
    (Eq.mp (by kernel_rfl : f65 p0 p1 K w = evFn Tryd.prog Tryd.f65 [] [] [.nil, .nil] .nil [(.pointer p0), (.slice p1.a p1.len p1.cap)] [] K w) h)

def f66_t1 (z37 : Addr) (p0 : Option Addr) (K : Sl → World → Prop) (w : World) : Prop :=
  loopS (σ := Unit) (fun _ w again38 =>
    semS Tryd.prog (Instr.loadAt 22 (.pointer (some (z37.add 8)))) (.one .slc) (fun x39 w =>
    cond ((Int.tmod (x39.len : Int) 64) != 56)
      (semS Tryd.prog (Instr.loadAt 22 (.pointer (some (z37.add 8)))) (.one .slc) (fun x40 w =>
      semS Tryd.prog (Instr.buildSlice 22 1 #[(0, (.int .u8 0))]) (.one .slc) (fun x41 w =>
      semS Tryd.prog (Builtin.append_ #[22, 22] 22 #[(.slice x40.a x40.len x40.cap), (.slice x41.a x41.len x41.cap)]) (.one .slc) (fun r42 w =>
      semU Tryd.prog (Instr.storeAt 22 (.pointer (some (z37.add 8))) (.slice r42.a r42.len r42.cap)) (fun w =>
      again38 () w) w) w) w) w)
      (semS Tryd.prog (Instr.loadAt 22 (.pointer (some (z37.add 8)))) (.one .slc) (fun x43 w =>
      semS Tryd.prog (Builtin.append_ #[22, 3] 22 #[(.slice x43.a x43.len x43.cap), (.int .i64 0)]) (.one .slc) (fun r44 w =>
      semU Tryd.prog (Instr.storeAt 22 (.pointer (some (z37.add 8))) (.slice r44.a r44.len r44.cap)) (fun w =>
      loopS (σ := Int) (fun x45 w again46 =>
        cond (decide (x45 ≥ 0))
          (drawS w fun C w =>
          semQ Tryd.prog C (Instr.loadAt 22 (.pointer (some (z37.add 8)))) (.one .slc) (fun x47 =>
          nilS p0 fun a48 =>
          semQ Tryd.prog C (Instr.loadAt 87 (.pointer (some (a48.add 9)))) (.one (.int .u64)) (fun x49 =>
          semQ Tryd.prog C (binS .shr 87 (.tmp 46) (.tmp 47) (.int .u64 (IntKind.wrap .u64 (8 * x49))) (.int .i64 x45)) (.one (.int .u64)) (fun x50 =>
          semS Tryd.prog (Instr.buildSlice 22 1 #[(0, (.int .u8 (IntKind.wrap .u8 x50)))]) (.one .slc) (fun x51 w =>
          moreS C w (fun C =>
          semS Tryd.prog (Builtin.append_ #[22, 22] 22 #[(.slice x47.a x47.len x47.cap), (.slice x51.a x51.len x51.cap)]) (.one .slc) (fun r52 w =>
          semU Tryd.prog (Instr.storeAt 22 (.pointer (some (z37.add 8))) (.slice r52.a r52.len r52.cap)) (fun w =>
          again46 (IntKind.wrap .i64 (x45 - 8)) w) w) w)) w))))
          (semS Tryd.prog (Instr.loadAt 22 (.pointer (some (z37.add 8)))) (.one .slc) (fun x53 w =>
          callS Tryd.prog 30 #[(.slice x53.a x53.len x53.cap), (.int .i64 64)] [(.one .any)] (fun r54 w =>
          rangeS Tryd.prog r54 w (fun l55 oR56 oB57 xs58 w R59 =>
            decL (R := Prop) [.slc] xs58 (fun x61 =>
            w.heap[l55]? = some oR56 ∧ ((fun w =>
              callS Tryd.prog 76 #[(.pointer (some z37)), (.slice x61.a x61.len x61.cap)] [] (fun w =>
              w.heap[l55]? = some oB57 ∧ R59 (w.putObj l55 oR56)) w) (w.putObj l55 oB57))) (fun r => r)) (fun D60 w =>
          semS Tryd.prog (Instr.loadAt 116 (.pointer (some (z37.add 0)))) (.agg [(.int .u32), (.int .u32), (.int .u32), (.int .u32), (.int .u32), (.int .u32), (.int .u32), (.int .u32)]) (fun x62 x63 x64 x65 x66 x67 x68 x69 w =>
          loopS (σ := Sl × Int) (fun s70 w again71 =>
            cond (decide (s70.2 < 8))
              (semS Tryd.prog (Instr.index 116 (.agg #[(.int .u32 x62), (.int .u32 x63), (.int .u32 x64), (.int .u32 x65), (.int .u32 x66), (.int .u32 x67), (.int .u32 x68), (.int .u32 x69)]) (.int .i64 s70.2)) (.one (.int .u32)) (fun x72 w =>
              loopS (σ := Sl × Int) (fun s73 w again74 =>
                cond (decide (s73.2 ≥ 0))
                  (semS Tryd.prog (binS .shr 84 (.tmp 69) (.tmp 70) (.int .u32 x72) (.int .i64 s73.2)) (.one (.int .u32)) (fun x75 w =>
                  semS Tryd.prog (Instr.buildSlice 22 1 #[(0, (.int .u8 (IntKind.wrap .u8 x75)))]) (.one .slc) (fun x76 w =>
                  semS Tryd.prog (Builtin.append_ #[22, 22] 22 #[(.slice s73.1.a s73.1.len s73.1.cap), (.slice x76.a x76.len x76.cap)]) (.one .slc) (fun r77 w =>
                  again74 (r77, IntKind.wrap .i64 (s73.2 - 8)) w) w) w) w)
                  (again71 (s73.1, IntKind.wrap .i64 (s70.2 + 1)) w)) (s70.1, 24) w) w)
              (w.heap[D60]? = some (.deferred (some [])) ∧ ((fun w => K s70.1 w) (w.putObj D60 (.deferred none))))) (⟨none, 0, 0⟩, 0) w) w)) w) w)) 56 w) w) w) w)) w) () w

/-- (*sallyport/shortsum.Hash).Sum -/
def f66 (p0 : Option Addr) (K : Sl → World → Prop) (w : World) : Prop :=
  drawS w fun C w =>
  nilS p0 fun a1 =>
  semQ Tryd.prog C (Instr.loadAt 116 (.pointer (some (a1.add 0)))) (.agg [(.int .u32), (.int .u32), (.int .u32), (.int .u32), (.int .u32), (.int .u32), (.int .u32), (.int .u32)]) (fun x2 x3 x4 x5 x6 x7 x8 x9 =>
  nilS p0 fun a10 =>
  semQ Tryd.prog C (Instr.loadAt 22 (.pointer (some (a10.add 8)))) (.one .slc) (fun x11 =>
  (callS Tryd.prog 35 #[(.slice x11.a x11.len x11.cap)] [(.one .slc)] (fun r12 w =>
  moreS C w (fun C =>
  (semS Tryd.prog (Instr.buildSlice 22 1 #[(0, (.int .u8 128))]) (.one .slc) (fun x13 w =>
    moreS C w (fun C =>
    (semS Tryd.prog (Builtin.append_ #[22, 22] 22 #[(.slice r12.a r12.len r12.cap), (.slice x13.a x13.len x13.cap)]) (.one .slc) (fun r14 w =>
      moreS C w (fun C =>
      semS Tryd.prog (Instr.alloc 118 true (.tuple #[])) (.one .adr) (fun x15 w =>
        moreS C w (fun C =>
        semU Tryd.prog (Instr.storeAt 118 (.pointer (some x15)) (.agg #[(.int .u32 x2), (.int .u32 x3), (.int .u32 x4), (.int .u32 x5), (.int .u32 x6), (.int .u32 x7), (.int .u32 x8), (.int .u32 x9), (.slice r14.a r14.len r14.cap), (.int .u64 0)])) (fun w =>
        f66_t1 x15 p0 K w) w)) w)) w) ∧
      (semS Tryd.prog (Instr.alloc 118 true (.tuple #[])) (.one .adr) (fun x16 w =>
      moreS C w (fun C =>
      semS Tryd.prog (Builtin.append_ #[22, 22] 22 #[(.slice r12.a r12.len r12.cap), (.slice x13.a x13.len x13.cap)]) (.one .slc) (fun r17 w =>
        moreS C w (fun C =>
        semU Tryd.prog (Instr.storeAt 118 (.pointer (some x16)) (.agg #[(.int .u32 x2), (.int .u32 x3), (.int .u32 x4), (.int .u32 x5), (.int .u32 x6), (.int .u32 x7), (.int .u32 x8), (.int .u32 x9), (.slice r17.a r17.len r17.cap), (.int .u64 0)])) (fun w =>
        f66_t1 x16 p0 K w) w)) w)) w))) w) ∧
    (semS Tryd.prog (Instr.alloc 118 true (.tuple #[])) (.one .adr) (fun x18 w =>
    moreS C w (fun C =>
    semS Tryd.prog (Instr.buildSlice 22 1 #[(0, (.int .u8 128))]) (.one .slc) (fun x19 w =>
      moreS C w (fun C =>
      semS Tryd.prog (Builtin.append_ #[22, 22] 22 #[(.slice r12.a r12.len r12.cap), (.slice x19.a x19.len x19.cap)]) (.one .slc) (fun r20 w =>
      moreS C w (fun C =>
      semU Tryd.prog (Instr.storeAt 118 (.pointer (some x18)) (.agg #[(.int .u32 x2), (.int .u32 x3), (.int .u32 x4), (.int .u32 x5), (.int .u32 x6), (.int .u32 x7), (.int .u32 x8), (.int .u32 x9), (.slice r20.a r20.len r20.cap), (.int .u64 0)])) (fun w =>
      f66_t1 x18 p0 K w) w)) w)) w)) w))) w) ∧
  ((semS Tryd.prog (Instr.buildSlice 22 1 #[(0, (.int .u8 128))]) (.one .slc) (fun x21 w =>
  moreS C w (fun C =>
  (callS Tryd.prog 35 #[(.slice x11.a x11.len x11.cap)] [(.one .slc)] (fun r22 w =>
    moreS C w (fun C =>
    (semS Tryd.prog (Builtin.append_ #[22, 22] 22 #[(.slice r22.a r22.len r22.cap), (.slice x21.a x21.len x21.cap)]) (.one .slc) (fun r23 w =>
      moreS C w (fun C =>
      semS Tryd.prog (Instr.alloc 118 true (.tuple #[])) (.one .adr) (fun x24 w =>
        moreS C w (fun C =>
        semU Tryd.prog (Instr.storeAt 118 (.pointer (some x24)) (.agg #[(.int .u32 x2), (.int .u32 x3), (.int .u32 x4), (.int .u32 x5), (.int .u32 x6), (.int .u32 x7), (.int .u32 x8), (.int .u32 x9), (.slice r23.a r23.len r23.cap), (.int .u64 0)])) (fun w =>
        f66_t1 x24 p0 K w) w)) w)) w) ∧
      (semS Tryd.prog (Instr.alloc 118 true (.tuple #[])) (.one .adr) (fun x25 w =>
      moreS C w (fun C =>
      semS Tryd.prog (Builtin.append_ #[22, 22] 22 #[(.slice r22.a r22.len r22.cap), (.slice x21.a x21.len x21.cap)]) (.one .slc) (fun r26 w =>
        moreS C w (fun C =>
        semU Tryd.prog (Instr.storeAt 118 (.pointer (some x25)) (.agg #[(.int .u32 x2), (.int .u32 x3), (.int .u32 x4), (.int .u32 x5), (.int .u32 x6), (.int .u32 x7), (.int .u32 x8), (.int .u32 x9), (.slice r26.a r26.len r26.cap), (.int .u64 0)])) (fun w =>
        f66_t1 x25 p0 K w) w)) w)) w))) w) ∧
    (semS Tryd.prog (Instr.alloc 118 true (.tuple #[])) (.one .adr) (fun x27 w =>
    moreS C w (fun C =>
    callS Tryd.prog 35 #[(.slice x11.a x11.len x11.cap)] [(.one .slc)] (fun r28 w =>
      moreS C w (fun C =>
      semS Tryd.prog (Builtin.append_ #[22, 22] 22 #[(.slice r28.a r28.len r28.cap), (.slice x21.a x21.len x21.cap)]) (.one .slc) (fun r29 w =>
      moreS C w (fun C =>
      semU Tryd.prog (Instr.storeAt 118 (.pointer (some x27)) (.agg #[(.int .u32 x2), (.int .u32 x3), (.int .u32 x4), (.int .u32 x5), (.int .u32 x6), (.int .u32 x7), (.int .u32 x8), (.int .u32 x9), (.slice r29.a r29.len r29.cap), (.int .u64 0)])) (fun w =>
      f66_t1 x27 p0 K w) w)) w)) w)) w))) w) ∧
  (semS Tryd.prog (Instr.alloc 118 true (.tuple #[])) (.one .adr) (fun x30 w =>
  moreS C w (fun C =>
  (callS Tryd.prog 35 #[(.slice x11.a x11.len x11.cap)] [(.one .slc)] (fun r31 w =>
    moreS C w (fun C =>
    semS Tryd.prog (Instr.buildSlice 22 1 #[(0, (.int .u8 128))]) (.one .slc) (fun x32 w =>
      moreS C w (fun C =>
      semS Tryd.prog (Builtin.append_ #[22, 22] 22 #[(.slice r31.a r31.len r31.cap), (.slice x32.a x32.len x32.cap)]) (.one .slc) (fun r33 w =>
      moreS C w (fun C =>
      semU Tryd.prog (Instr.storeAt 118 (.pointer (some x30)) (.agg #[(.int .u32 x2), (.int .u32 x3), (.int .u32 x4), (.int .u32 x5), (.int .u32 x6), (.int .u32 x7), (.int .u32 x8), (.int .u32 x9), (.slice r33.a r33.len r33.cap), (.int .u64 0)])) (fun w =>
      f66_t1 x30 p0 K w) w)) w)) w)) w) ∧
    (semS Tryd.prog (Instr.buildSlice 22 1 #[(0, (.int .u8 128))]) (.one .slc) (fun x34 w =>
    moreS C w (fun C =>
    callS Tryd.prog 35 #[(.slice x11.a x11.len x11.cap)] [(.one .slc)] (fun r35 w =>
      moreS C w (fun C =>
      semS Tryd.prog (Builtin.append_ #[22, 22] 22 #[(.slice r35.a r35.len r35.cap), (.slice x34.a x34.len x34.cap)]) (.one .slc) (fun r36 w =>
      moreS C w (fun C =>
      semU Tryd.prog (Instr.storeAt 118 (.pointer (some x30)) (.agg #[(.int .u32 x2), (.int .u32 x3), (.int .u32 x4), (.int .u32 x5), (.int .u32 x6), (.int .u32 x7), (.int .u32 x8), (.int .u32 x9), (.slice r36.a r36.len r36.cap), (.int .u64 0)])) (fun w =>
      f66_t1 x30 p0 K w) w)) w)) w)) w))) w))))
theorem f66_ok {p0 : Option Addr} {K : Sl → World → Prop} {w : World} (h : f66 p0 K w) : callS Tryd.prog 66 #[(.pointer p0)] [(.one .slc)] K w :=
  calls_of_fnR (args := [(.pointer p0)]) Tryd.f66 [] (.two .nil (.two (.draw [0, 1, 3, 7, 0, 16, 48, 112, 240, 0, 1008, 2047, 0, 8191]) (.two (.one (.loop [] .nil)) (.two .nil (.two (.two .nil (.one (.loop [(4, (.int .i64))] (.two .nil (.two (.one (.draw [0, 1, 0, 4, 12, 28, 60, 0, 252, 508, 1020, 2047, 4095, 8191])) .nil))))) (.two (.two .nil (.one (.join [(56, .slc)] .nil .nil))) (.two .nil (.two (.two .nil (.one (.loop [(6, .slc), (61, (.int .i64))] (.two .nil (.two .nil (.two (.one (.two .nil (.two .nil (.one (.loop [(6, .slc), (9, (.int .i64))] .nil))))) .nil)))))) .nil)))))))) (by kernel_rfl) (by kernel_rfl)
    (Eq.mp (by kernel_rfl : f66 p0 K w = evFnR Tryd.prog Tryd.f66 [] (.two .nil (.two (.draw [0, 1, 3, 7, 0, 16, 48, 112, 240, 0, 1008, 2047, 0, 8191]) (.two (.one (.loop [] .nil)) (.two .nil (.two (.two .nil (.one (.loop [(4, (.int .i64))] (.two .nil (.two (.one (.draw [0, 1, 0, 4, 12, 28, 60, 0, 252, 508, 1020, 2047, 4095, 8191])) .nil))))) (.two (.two .nil (.one (.join [(56, .slc)] .nil .nil))) (.two .nil (.two (.two .nil (.one (.loop [(6, .slc), (61, (.int .i64))] (.two .nil (.two .nil (.two (.one (.two .nil (.two .nil (.one (.loop [(6, .slc), (9, (.int .i64))] .nil))))) .nil)))))) .nil)))))))) [(.pointer p0)] [(.one .slc)] K w) h)

/-- sallyport/shortsum.Of -/
def f48 (p0 : Sl) (K : Sl → World → Prop) (w : World) : Prop :=
  callS Tryd.prog 64 #[] [(.one .ptr)] (fun r1 w =>
  loopS (σ := Int) (fun x2 w again3 =>
    cond (decide (x2 < (p0.len : Int)))
      (semS Tryd.prog (Instr.indexAt 40 (.slice p0.a p0.len p0.cap) (.int .i64 x2)) (.one .adr) (fun x4 w =>
      semS Tryd.prog (Instr.loadAt 22 (.pointer (some x4))) (.one .slc) (fun x5 w =>
      callS Tryd.prog 65 #[(.pointer r1), (.slice x5.a x5.len x5.cap)] [] (fun w =>
      again3 (IntKind.wrap .i64 (x2 + 1)) w) w) w) w)
      (callS Tryd.prog 66 #[(.pointer r1)] [(.one .slc)] (fun r6 w =>
      K r6 w) w)) 0 w) w
theorem f48_ok {p0 : Sl} {K : Sl → World → Prop} {w : World} (h : f48 p0 K w) : callS Tryd.prog 48 #[(.slice p0.a p0.len p0.cap)] [(.one .slc)] K w :=
  calls_of_fn (args := [(.slice p0.a p0.len p0.cap)]) Tryd.f48 [] [] [] (.two .nil (.two .nil (.two (.two .nil (.one (.loop [(9, (.int .i64))] .nil))) .nil))) (by kernel_rfl) (by kernel_rfl)
    (Eq.mp (by kernel_rfl : f48 p0 K w = evFn Tryd.prog Tryd.f48 [] [] [] (.two .nil (.two .nil (.two (.two .nil (.one (.loop [(9, (.int .i64))] .nil))) .nil))) [(.slice p0.a p0.len p0.cap)] [(.one .slc)] K w) h)

/-- sallyport/seal.Digest -/
def f31 (p0 : Int) (p1 : Sl) (p2 : Sl) (K : Sl → Int → World → Prop) (w : World) : Prop :=
  callS Tryd.prog 27 #[(.int .i64 p0)] [(.one (.int .i64))] (fun r1 w =>
  cond (r1 == 0)
    (K (⟨none, 0, 0⟩) 20 w)
    (cond (decide ((p1.len : Int) > 64))
      (K (⟨none, 0, 0⟩) 11 w)
      (semS Tryd.prog (Instr.buildSlice 40 1 #[(0, (.slice p1.a p1.len p1.cap))]) (.one .slc) (fun x2 w =>
      semS Tryd.prog (Builtin.append_ #[40, 40] 40 #[(.slice x2.a x2.len x2.cap), (.slice p2.a p2.len p2.cap)]) (.one .slc) (fun r3 w =>
      cond (p0 == 2)
        (callS Tryd.prog 47 #[(.slice r3.a r3.len r3.cap)] [(.one .slc)] (fun r4 w =>
        K r4 0 w) w)
        (callS Tryd.prog 48 #[(.slice r3.a r3.len r3.cap)] [(.one .slc)] (fun r5 w =>
        K r5 0 w) w)) w) w))) w
theorem f31_ok {p0 : Int} {p1 : Sl} {p2 : Sl} {K : Sl → Int → World → Prop} {w : World} (h : f31 p0 p1 p2 K w) : callS Tryd.prog 31 #[(.int .i64 p0), (.slice p1.a p1.len p1.cap), (.slice p2.a p2.len p2.cap)] [(.one .slc), (.one (.int .i64))] K w :=
  calls_of_fn (args := [(.int .i64 p0), (.slice p1.a p1.len p1.cap), (.slice p2.a p2.len p2.cap)]) Tryd.f31 [] [] [] .nil (by kernel_rfl) (by kernel_rfl)
    (Eq.mp (by kernel_rfl : f31 p0 p1 p2 K w = evFn Tryd.prog Tryd.f31 [] [] [] .nil [(.int .i64 p0), (.slice p1.a p1.len p1.cap), (.slice p2.a p2.len p2.cap)] [(.one .slc), (.one (.int .i64))] K w) h)

/-- slices.Grow[[]byte,byte] -/
def f49 (p0 : Sl) (p1 : Int) (K : Sl → World → Prop) (w : World) : Prop :=
  joinS (σ := Unit) (fun _ w =>
    cond (decide ((IntKind.wrap .i64 (p1 - (IntKind.wrap .i64 ((p0.cap : Int) - (p0.len : Int))))) > 0))
      (semS Tryd.prog (Instr.sliceAt 22 (.slice p0.a p0.len p0.cap) none (some (.int .i64 (p0.cap : Int))) none) (.one .slc) (fun x2 w =>
      semS Tryd.prog (Builtin.append_ #[22, 3] 22 #[(.slice x2.a x2.len x2.cap), (.int .i64 (IntKind.wrap .i64 (p1 - (IntKind.wrap .i64 ((p0.cap : Int) - (p0.len : Int))))))]) (.one .slc) (fun r3 w =>
      semS Tryd.prog (Instr.sliceAt 22 (.slice r3.a r3.len r3.cap) none (some (.int .i64 (p0.len : Int))) none) (.one .slc) (fun x4 w =>
      K x4 w) w) w) w)
      (K p0 w)) fun J1 =>
  cond (decide (p1 < 0))
    (False)
    (J1 () w)
theorem f49_ok {p0 : Sl} {p1 : Int} {K : Sl → World → Prop} {w : World} (h : f49 p0 p1 K w) : callS Tryd.prog 49 #[(.slice p0.a p0.len p0.cap), (.int .i64 p1)] [(.one .slc)] K w :=
  calls_of_fn (args := [(.slice p0.a p0.len p0.cap), (.int .i64 p1)]) Tryd.f49 [] [] [] (.two .nil (.join [] .nil .nil)) (by kernel_rfl) (by kernel_rfl)
    (Eq.mp (by kernel_rfl : f49 p0 p1 K w = evFn Tryd.prog Tryd.f49 [] [] [] (.two .nil (.join [] .nil .nil)) [(.slice p0.a p0.len p0.cap), (.int .i64 p1)] [(.one .slc)] K w) h)

/-- slices.Concat[[]byte,byte] -/
def f32 (p0 : Sl) (K : Sl → World → Prop) (w : World) : Prop :=
  loopS (σ := Int × Int) (fun s1 w again2 =>
    cond (decide (s1.2 < (p0.len : Int)))
      (semS Tryd.prog (Instr.indexAt 40 (.slice p0.a p0.len p0.cap) (.int .i64 s1.2)) (.one .adr) (fun x3 w =>
      semS Tryd.prog (Instr.loadAt 22 (.pointer (some x3))) (.one .slc) (fun x4 w =>
      cond (decide ((IntKind.wrap .i64 (s1.1 + (x4.len : Int))) < 0))
        (False)
        (again2 (IntKind.wrap .i64 (s1.1 + (x4.len : Int)), IntKind.wrap .i64 (s1.2 + 1)) w)) w) w)
      (callS Tryd.prog 49 #[(.slice none 0 0), (.int .i64 s1.1)] [(.one .slc)] (fun r5 w =>
      loopS (σ := Sl × Int) (fun s6 w again7 =>
        cond (decide (s6.2 < (p0.len : Int)))
          (semS Tryd.prog (Instr.indexAt 40 (.slice p0.a p0.len p0.cap) (.int .i64 s6.2)) (.one .adr) (fun x8 w =>
          semS Tryd.prog (Instr.loadAt 22 (.pointer (some x8))) (.one .slc) (fun x9 w =>
          semS Tryd.prog (Builtin.append_ #[22, 22] 22 #[(.slice s6.1.a s6.1.len s6.1.cap), (.slice x9.a x9.len x9.cap)]) (.one .slc) (fun r10 w =>
          again7 (r10, IntKind.wrap .i64 (s6.2 + 1)) w) w) w) w)
          (K s6.1 w)) (r5, 0) w) w)) (0, 0) w
theorem f32_ok {p0 : Sl} {K : Sl → World → Prop} {w : World} (h : f32 p0 K w) : callS Tryd.prog 32 #[(.slice p0.a p0.len p0.cap)] [(.one .slc)] K w :=
  calls_of_fn (args := [(.slice p0.a p0.len p0.cap)]) Tryd.f32 [] [] [] (.two .nil (.two .nil (.two (.two .nil (.one (.loop [(3, (.int .i64)), (11, (.int .i64))] .nil))) (.two .nil (.two (.two .nil (.one (.loop [(6, .slc), (27, (.int .i64))] .nil))) .nil))))) (by kernel_rfl) (by kernel_rfl)
    (Eq.mp (by kernel_rfl : f32 p0 K w = evFn Tryd.prog Tryd.f32 [] [] [] (.two .nil (.two .nil (.two (.two .nil (.one (.loop [(3, (.int .i64)), (11, (.int .i64))] .nil))) (.two .nil (.two (.two .nil (.one (.loop [(6, .slc), (27, (.int .i64))] .nil))) .nil))))) [(.slice p0.a p0.len p0.cap)] [(.one .slc)] K w) h)

/-- sallyport/grove.Make -/
def f14 (p0 : Int) (p1 : Sl) (p2 : Int) (p3 : Sl) (K : Sl → Sl → Int → World → Prop) (w : World) : Prop :=
  semS Tryd.prog (Instr.box 3 (.int .i64 p0)) (.one .adr) (fun x1 w =>
  semS Tryd.prog (Instr.box 22 (.slice p1.a p1.len p1.cap)) (.one .adr) (fun x2 w =>
  semS Tryd.prog (Instr.loadAt 3 (.pointer (some x1))) (.one (.int .i64)) (fun x3 w =>
  callS Tryd.prog 27 #[(.int .i64 x3)] [(.one (.int .i64))] (fun r4 w =>
  semS Tryd.prog (Instr.alloc 53 true (.tuple #[])) (.one .adr) (fun x5 w =>
  semU Tryd.prog (Instr.storeAt 53 (.pointer (some x5)) (.agg #[(.int .i64 (p3.len : Int)), (.int .i64 p2), (.int .i64 r4)])) (fun w =>
  joinS (σ := Bool) (fun b6 w =>
    cond b6
      (K (⟨none, 0, 0⟩) (⟨none, 0, 0⟩) 11 w)
      (semS Tryd.prog (Instr.loadAt 3 (.pointer (some x1))) (.one (.int .i64)) (fun x8 w =>
      semS Tryd.prog (Instr.loadAt 22 (.pointer (some x2))) (.one .slc) (fun x9 w =>
      semS Tryd.prog (Instr.loadAt 53 (.pointer (some x5))) (.agg [(.int .i64), (.int .i64), (.int .i64)]) (fun x10 x11 x12 w =>
      callS Tryd.prog 28 #[(.int .i64 x8), (.slice x9.a x9.len x9.cap), (.agg #[(.int .i64 x10), (.int .i64 x11), (.int .i64 x12)])] [(.one (.int .i64))] (fun r13 w =>
      cond (r13 != 0)
        (K (⟨none, 0, 0⟩) (⟨none, 0, 0⟩) r13 w)
        (callS Tryd.prog 29 #[(.slice p3.a p3.len p3.cap), (.int .i64 p2)] [(.one .slc), (.one (.int .i64))] (fun r14 r15 w =>
        loopS (σ := (Sl × Sl) × List Nat) (fun s18 w again19 =>
          cond (decide ((s18.1.2.len : Int) > p2))
            (semS Tryd.prog (Instr.alloc 22 true (.tuple #[])) (.one .adr) (fun x20 w =>
            callS Tryd.prog 30 #[(.slice s18.1.2.a s18.1.2.len s18.1.2.cap), (.int .i64 p2)] [(.one .any)] (fun r21 w =>
            rangeS Tryd.prog r21 w (fun l22 oR23 oB24 xs25 w R26 =>
              decL (R := Prop) [.slc] xs25 (fun x28 =>
              w.heap[l22]? = some oR23 ∧ ((fun w =>
                semS Tryd.prog (Instr.loadAt 3 (.pointer (some x1))) (.one (.int .i64)) (fun x29 w =>
                semS Tryd.prog (Instr.loadAt 22 (.pointer (some x2))) (.one .slc) (fun x30 w =>
                semS Tryd.prog (Instr.buildSlice 40 1 #[(0, (.slice x28.a x28.len x28.cap))]) (.one .slc) (fun x31 w =>
                callS Tryd.prog 31 #[(.int .i64 x29), (.slice x30.a x30.len x30.cap), (.slice x31.a x31.len x31.cap)] [(.one .slc), (.one (.int .i64))] (fun r32 r33 w =>
                semS Tryd.prog (Instr.loadAt 22 (.pointer (some x20))) (.one .slc) (fun x34 w =>
                semS Tryd.prog (Builtin.append_ #[22, 22] 22 #[(.slice x34.a x34.len x34.cap), (.slice r32.a r32.len r32.cap)]) (.one .slc) (fun r35 w =>
                semU Tryd.prog (Instr.storeAt 22 (.pointer (some x20)) (.slice r35.a r35.len r35.cap)) (fun w =>
                w.heap[l22]? = some oB24 ∧ R26 (w.putObj l22 oR23)) w) w) w) w) w) w) w) (w.putObj l22 oB24))) (fun r => r)) (fun D27 w =>
            semS Tryd.prog (Instr.loadAt 22 (.pointer (some x20))) (.one .slc) (fun x36 w =>
            callS Tryd.prog 29 #[(.slice x36.a x36.len x36.cap), (.int .i64 p2)] [(.one .slc), (.one (.int .i64))] (fun r37 r38 w =>
            semS Tryd.prog (Instr.buildSlice 40 2 #[(0, (.slice r37.a r37.len r37.cap)), (1, (.slice s18.1.1.a s18.1.1.len s18.1.1.cap))]) (.one .slc) (fun x39 w =>
            callS Tryd.prog 32 #[(.slice x39.a x39.len x39.cap)] [(.one .slc)] (fun r40 w =>
            again19 ((r40, r37), (D27 :: s18.2)) w) w) w) w) w)) w) w)
            (semS Tryd.prog (Instr.loadAt 3 (.pointer (some x1))) (.one (.int .i64)) (fun x41 w =>
            semS Tryd.prog (Instr.loadAt 22 (.pointer (some x2))) (.one .slc) (fun x42 w =>
            semS Tryd.prog (Instr.buildSlice 40 1 #[(0, (.slice s18.1.2.a s18.1.2.len s18.1.2.cap))]) (.one .slc) (fun x43 w =>
            callS Tryd.prog 31 #[(.int .i64 x41), (.slice x42.a x42.len x42.cap), (.slice x43.a x43.len x43.cap)] [(.one .slc), (.one (.int .i64))] (fun r44 r45 w =>
            finD s18.2 (fun w => K s18.1.1 r44 r45 w) w) w) w) w) w)) ((⟨none, 0, 0⟩, r14), []) w) w)) w) w) w) w)) fun J7 =>
  cond (decide ((p3.len : Int) > 1048576))
    (semS Tryd.prog (Instr.loadAt 3 (.pointer (some x1))) (.one (.int .i64)) (fun x46 w =>
      callS Tryd.prog 27 #[(.int .i64 x46)] [(.one (.int .i64))] (fun r47 w =>
      J7 (r47 != 0) w) w) w)
    (J7 false w)) w) w) w) w) w) w
theorem f14_ok {p0 : Int} {p1 : Sl} {p2 : Int} {p3 : Sl} {K : Sl → Sl → Int → World → Prop} {w : World} (h : f14 p0 p1 p2 p3 K w) : callS Tryd.prog 14 #[(.int .i64 p0), (.slice p1.a p1.len p1.cap), (.int .i64 p2), (.slice p3.a p3.len p3.cap)] [(.one .slc), (.one .slc), (.one (.int .i64))] K w :=
  calls_of_fnR (args := [(.int .i64 p0), (.slice p1.a p1.len p1.cap), (.int .i64 p2), (.slice p3.a p3.len p3.cap)]) Tryd.f14 [] (.two .nil (.two .nil (.two .nil (.two .nil (.two .nil (.two (.one (.loop [(8, .slc), (13, .slc)] (.two .nil (.one (.two .nil (.two (.two .nil (.one (.join [(53, .slc)] .nil .nil))) .nil)))))) .nil)))))) (by kernel_rfl) (by kernel_rfl)
    (Eq.mp (by kernel_rfl : f14 p0 p1 p2 p3 K w = evFnR Tryd.prog Tryd.f14 [] (.two .nil (.two .nil (.two .nil (.two .nil (.two .nil (.two (.one (.loop [(8, .slc), (13, .slc)] (.two .nil (.one (.two .nil (.two (.two .nil (.one (.join [(53, .slc)] .nil .nil))) .nil)))))) .nil)))))) [(.int .i64 p0), (.slice p1.a p1.len p1.cap), (.int .i64 p2), (.slice p3.a p3.len p3.cap)] [(.one .slc), (.one .slc), (.one (.int .i64))] K w) h)

/-- sallyport/sallyportref02.padded -/
def f50 (p0 : Sl) (K : Sl → World → Prop) (w : World) : Prop :=
  semS Tryd.prog (Instr.buildSlice 22 0 #[]) (.one .slc) (fun x1 w =>
  semS Tryd.prog (Builtin.append_ #[22, 22] 22 #[(.slice x1.a x1.len x1.cap), (.slice p0.a p0.len p0.cap)]) (.one .slc) (fun r2 w =>
  semS Tryd.prog (Instr.buildSlice 22 1 #[(0, (.int .u8 128))]) (.one .slc) (fun x3 w =>
  semS Tryd.prog (Builtin.append_ #[22, 22] 22 #[(.slice r2.a r2.len r2.cap), (.slice x3.a x3.len x3.cap)]) (.one .slc) (fun r4 w =>
  loopS (σ := Sl) (fun x5 w again6 =>
    cond ((Int.tmod (x5.len : Int) 64) != 56)
      (semS Tryd.prog (Instr.buildSlice 22 1 #[(0, (.int .u8 0))]) (.one .slc) (fun x7 w =>
      semS Tryd.prog (Builtin.append_ #[22, 22] 22 #[(.slice x5.a x5.len x5.cap), (.slice x7.a x7.len x7.cap)]) (.one .slc) (fun r8 w =>
      again6 r8 w) w) w)
      (loopS (σ := Sl × Int) (fun s9 w again10 =>
        cond (decide (s9.2 ≥ 0))
          (semS Tryd.prog (binS .shr 87 (.tmp 28) (.tmp 30) (.int .u64 (IntKind.wrap .u64 ((IntKind.wrap .u64 (p0.len : Int)) * 8))) (.int .i64 (IntKind.wrap .i64 (8 * s9.2)))) (.one (.int .u64)) (fun x11 w =>
          semS Tryd.prog (Instr.buildSlice 22 1 #[(0, (.int .u8 (IntKind.wrap .u8 x11)))]) (.one .slc) (fun x12 w =>
          semS Tryd.prog (Builtin.append_ #[22, 22] 22 #[(.slice s9.1.a s9.1.len s9.1.cap), (.slice x12.a x12.len x12.cap)]) (.one .slc) (fun r13 w =>
          again10 (r13, IntKind.wrap .i64 (s9.2 - 1)) w) w) w) w)
          (K s9.1 w)) (x5, 7) w)) r4 w) w) w) w) w
theorem f50_ok {p0 : Sl} {K : Sl → World → Prop} {w : World} (h : f50 p0 K w) : callS Tryd.prog 50 #[(.slice p0.a p0.len p0.cap)] [(.one .slc)] K w :=
  calls_of_fn (args := [(.slice p0.a p0.len p0.cap)]) Tryd.f50 [] [] [] (.two .nil (.two .nil (.two .nil (.two (.one (.loop [(3, .slc)] .nil)) (.two .nil (.two (.two .nil (.one (.loop [(3, .slc), (5, (.int .i64))] .nil))) .nil)))))) (by kernel_rfl) (by kernel_rfl)
    (Eq.mp (by kernel_rfl : f50 p0 K w = evFn Tryd.prog Tryd.f50 [] [] [] (.two .nil (.two .nil (.two .nil (.two (.one (.loop [(3, .slc)] .nil)) (.two .nil (.two (.two .nil (.one (.loop [(3, .slc), (5, (.int .i64))] .nil))) .nil)))))) [(.slice p0.a p0.len p0.cap)] [(.one .slc)] K w) h)

/-- sallyport/sallyportref02.right -/
def f69 (p0 : Int) (p1 : Int) (K : Int → World → Prop) (w : World) : Prop :=
  drawS w fun C w =>
  semQ Tryd.prog C (binS .shr 84 (.tmp 5) (.tmp 6) (.int .u32 p0) (.int .i64 p1)) (.one (.int .u32)) (fun x1 =>
  semQ Tryd.prog C (binS .shl 84 (.tmp 8) (.tmp 10) (.int .u32 p0) (.int .i64 (IntKind.wrap .i64 (32 - p1)))) (.one (.int .u32)) (fun x2 =>
  K (orI .u32 x1 x2) w))
theorem f69_ok {p0 : Int} {p1 : Int} {K : Int → World → Prop} {w : World} (h : f69 p0 p1 K w) : callS Tryd.prog 69 #[(.int .u32 p0), (.int .i64 p1)] [(.one (.int .u32))] K w :=
  calls_of_fn (args := [(.int .u32 p0), (.int .i64 p1)]) Tryd.f69 [] [] [] (.two .nil (.two (.draw [0, 0, 3, 0, 0, 16, 56, 127, 255]) .nil)) (by kernel_rfl) (by kernel_rfl)
    (Eq.mp (by kernel_rfl : f69 p0 p1 K w = evFn Tryd.prog Tryd.f69 [] [] [] (.two .nil (.two (.draw [0, 0, 3, 0, 0, 16, 56, 127, 255]) .nil)) [(.int .u32 p0), (.int .i64 p1)] [(.one (.int .u32))] K w) h)

/-- sallyport/sallyportref02.words -/
def f67 (p0 : Sl) (K : Sl → World → Prop) (w : World) : Prop :=
  loopS (σ := Sl × Int) (fun s1 w again2 =>
    cond (decide (s1.2 < 16))
      (loopS (σ := Int × Int) (fun s3 w again4 =>
        cond (decide (s3.2 < 4))
          (semS Tryd.prog (Instr.indexAt 22 (.slice p0.a p0.len p0.cap) (.int .i64 (IntKind.wrap .i64 ((IntKind.wrap .i64 (4 * s1.2)) + s3.2)))) (.one .adr) (fun x5 w =>
          semS Tryd.prog (Instr.loadAt 5 (.pointer (some x5))) (.one (.int .u8)) (fun x6 w =>
          again4 (IntKind.wrap .u32 ((IntKind.wrap .u32 (s3.1 * 256)) + (IntKind.wrap .u32 x6)), IntKind.wrap .i64 (s3.2 + 1)) w) w) w)
          (semS Tryd.prog (Instr.buildSlice 85 1 #[(0, (.int .u32 s3.1))]) (.one .slc) (fun x7 w =>
          semS Tryd.prog (Builtin.append_ #[85, 85] 85 #[(.slice s1.1.a s1.1.len s1.1.cap), (.slice x7.a x7.len x7.cap)]) (.one .slc) (fun r8 w =>
          again2 (r8, IntKind.wrap .i64 (s1.2 + 1)) w) w) w)) (0, 0) w)
      (loopS (σ := Sl × Int) (fun s9 w again10 =>
        cond (decide (s9.2 < 64))
          (drawS w fun C w =>
          semQ Tryd.prog C (Instr.indexAt 85 (.slice s9.1.a s9.1.len s9.1.cap) (.int .i64 (IntKind.wrap .i64 (s9.2 - 15)))) (.one .adr) (fun x11 =>
          semQ Tryd.prog C (Instr.loadAt 84 (.pointer (some x11))) (.one (.int .u32)) (fun x12 =>
          semQ Tryd.prog C (Instr.indexAt 85 (.slice s9.1.a s9.1.len s9.1.cap) (.int .i64 (IntKind.wrap .i64 (s9.2 - 15)))) (.one .adr) (fun x13 =>
          semQ Tryd.prog C (Instr.loadAt 84 (.pointer (some x13))) (.one (.int .u32)) (fun x14 =>
          semQ Tryd.prog C (Instr.indexAt 85 (.slice s9.1.a s9.1.len s9.1.cap) (.int .i64 (IntKind.wrap .i64 (s9.2 - 15)))) (.one .adr) (fun x15 =>
          semQ Tryd.prog C (Instr.loadAt 84 (.pointer (some x15))) (.one (.int .u32)) (fun x16 =>
          callS Tryd.prog 69 #[(.int .u32 x12), (.int .i64 7)] [(.one (.int .u32))] (fun r17 w =>
          moreS C w (fun C =>
          callS Tryd.prog 69 #[(.int .u32 x14), (.int .i64 18)] [(.one (.int .u32))] (fun r18 w =>
          moreS C w (fun C =>
          drawS w fun C w =>
          semQ Tryd.prog C (Instr.indexAt 85 (.slice s9.1.a s9.1.len s9.1.cap) (.int .i64 (IntKind.wrap .i64 (s9.2 - 2)))) (.one .adr) (fun x19 =>
          semQ Tryd.prog C (Instr.loadAt 84 (.pointer (some x19))) (.one (.int .u32)) (fun x20 =>
          semQ Tryd.prog C (Instr.indexAt 85 (.slice s9.1.a s9.1.len s9.1.cap) (.int .i64 (IntKind.wrap .i64 (s9.2 - 2)))) (.one .adr) (fun x21 =>
          semQ Tryd.prog C (Instr.loadAt 84 (.pointer (some x21))) (.one (.int .u32)) (fun x22 =>
          semQ Tryd.prog C (Instr.indexAt 85 (.slice s9.1.a s9.1.len s9.1.cap) (.int .i64 (IntKind.wrap .i64 (s9.2 - 2)))) (.one .adr) (fun x23 =>
          semQ Tryd.prog C (Instr.loadAt 84 (.pointer (some x23))) (.one (.int .u32)) (fun x24 =>
          callS Tryd.prog 69 #[(.int .u32 x20), (.int .i64 17)] [(.one (.int .u32))] (fun r25 w =>
          moreS C w (fun C =>
          callS Tryd.prog 69 #[(.int .u32 x22), (.int .i64 19)] [(.one (.int .u32))] (fun r26 w =>
          moreS C w (fun C =>
          drawS w fun C w =>
          semQ Tryd.prog C (Instr.indexAt 85 (.slice s9.1.a s9.1.len s9.1.cap) (.int .i64 (IntKind.wrap .i64 (s9.2 - 16)))) (.one .adr) (fun x27 =>
          semQ Tryd.prog C (Instr.loadAt 84 (.pointer (some x27))) (.one (.int .u32)) (fun x28 =>
          semQ Tryd.prog C (Instr.indexAt 85 (.slice s9.1.a s9.1.len s9.1.cap) (.int .i64 (IntKind.wrap .i64 (s9.2 - 7)))) (.one .adr) (fun x29 =>
          semQ Tryd.prog C (Instr.loadAt 84 (.pointer (some x29))) (.one (.int .u32)) (fun x30 =>
          semS Tryd.prog (Instr.buildSlice 85 1 #[(0, (.int .u32 (IntKind.wrap .u32 ((IntKind.wrap .u32 ((IntKind.wrap .u32 (x28 + (xorI .u32 (xorI .u32 r17 r18) (shrI .u32 x16 3)))) + x30)) + (xorI .u32 (xorI .u32 r25 r26) (shrI .u32 x24 10))))))]) (.one .slc) (fun x31 w =>
          semS Tryd.prog (Builtin.append_ #[85, 85] 85 #[(.slice s9.1.a s9.1.len s9.1.cap), (.slice x31.a x31.len x31.cap)]) (.one .slc) (fun r32 w =>
          again10 (r32, IntKind.wrap .i64 (s9.2 + 1)) w) w) w)))))) w)) w)))))))) w)) w)))))))
          (K s9.1 w)) (s1.1, 16) w)) (⟨none, 0, 0⟩, 0) w
theorem f67_ok {p0 : Sl} {K : Sl → World → Prop} {w : World} (h : f67 p0 K w) : callS Tryd.prog 67 #[(.slice p0.a p0.len p0.cap)] [(.one .slc)] K w :=
  calls_of_fn (args := [(.slice p0.a p0.len p0.cap)]) Tryd.f67 [] [] [] (.two .nil (.two .nil (.two (.two .nil (.one (.loop [(3, .slc), (4, (.int .i64))] (.two .nil (.two (.one (.two .nil (.two (.two .nil (.one (.loop [(5, (.int .u32)), (6, (.int .i64))] .nil))) .nil))) .nil))))) (.two (.two .nil (.one (.loop [(3, .slc), (7, (.int .i64))] (.two .nil (.two (.one (.two (.draw [0, 0, 2, 7, 15, 31, 0, 0, 128, 448, 960, 2047, 4095, 0, 0, 16384, 57344, 122880, 253952, 524287, 1048575]) (.two (.draw [0, 0, 2, 7, 15, 31, 0, 0, 128, 448, 960, 2047, 4095, 0, 0, 16384, 57344, 122880, 253952, 524287, 1048575]) (.draw [0, 0, 0, 4, 14, 30, 0, 126, 0, 0, 512, 1792, 3840, 8190, 0, 32766, 65534, 131071, 262143])))) .nil))))) .nil)))) (by kernel_rfl) (by kernel_rfl)
    (Eq.mp (by kernel_rfl : f67 p0 K w = evFn Tryd.prog Tryd.f67 [] [] [] (.two .nil (.two .nil (.two (.two .nil (.one (.loop [(3, .slc), (4, (.int .i64))] (.two .nil (.two (.one (.two .nil (.two (.two .nil (.one (.loop [(5, (.int .u32)), (6, (.int .i64))] .nil))) .nil))) .nil))))) (.two (.two .nil (.one (.loop [(3, .slc), (7, (.int .i64))] (.two .nil (.two (.one (.two (.draw [0, 0, 2, 7, 15, 31, 0, 0, 128, 448, 960, 2047, 4095, 0, 0, 16384, 57344, 122880, 253952, 524287, 1048575]) (.two (.draw [0, 0, 2, 7, 15, 31, 0, 0, 128, 448, 960, 2047, 4095, 0, 0, 16384, 57344, 122880, 253952, 524287, 1048575]) (.draw [0, 0, 0, 4, 14, 30, 0, 126, 0, 0, 512, 1792, 3840, 8190, 0, 32766, 65534, 131071, 262143])))) .nil))))) .nil)))) [(.slice p0.a p0.len p0.cap)] [(.one .slc)] K w) h)

/-- sallyport/sallyportref02.constants -/
def f68  (K : Sl → World → Prop) (w : World) : Prop :=
  semS Tryd.prog (Instr.buildSlice 85 64 #[(0, (.int .u32 1116352408)), (1, (.int .u32 1899447441)), (2, (.int .u32 3049323471)), (3, (.int .u32 3921009573)), (4, (.int .u32 961987163)), (5, (.int .u32 1508970993)), (6, (.int .u32 2453635748)), (7, (.int .u32 2870763221)), (8, (.int .u32 3624381080)), (9, (.int .u32 310598401)), (10, (.int .u32 607225278)), (11, (.int .u32 1426881987)), (12, (.int .u32 1925078388)), (13, (.int .u32 2162078206)), (14, (.int .u32 2614888103)), (15, (.int .u32 3248222580)), (16, (.int .u32 3835390401)), (17, (.int .u32 4022224774)), (18, (.int .u32 264347078)), (19, (.int .u32 604807628)), (20, (.int .u32 770255983)), (21, (.int .u32 1249150122)), (22, (.int .u32 1555081692)), (23, (.int .u32 1996064986)), (24, (.int .u32 2554220882)), (25, (.int .u32 2821834349)), (26, (.int .u32 2952996808)), (27, (.int .u32 3210313671)), (28, (.int .u32 3336571891)), (29, (.int .u32 3584528711)), (30, (.int .u32 113926993)), (31, (.int .u32 338241895)), (32, (.int .u32 666307205)), (33, (.int .u32 773529912)), (34, (.int .u32 1294757372)), (35, (.int .u32 1396182291)), (36, (.int .u32 1695183700)), (37, (.int .u32 1986661051)), (38, (.int .u32 2177026350)), (39, (.int .u32 2456956037)), (40, (.int .u32 2730485921)), (41, (.int .u32 2820302411)), (42, (.int .u32 3259730800)), (43, (.int .u32 3345764771)), (44, (.int .u32 3516065817)), (45, (.int .u32 3600352804)), (46, (.int .u32 4094571909)), (47, (.int .u32 275423344)), (48, (.int .u32 430227734)), (49, (.int .u32 506948616)), (50, (.int .u32 659060556)), (51, (.int .u32 883997877)), (52, (.int .u32 958139571)), (53, (.int .u32 1322822218)), (54, (.int .u32 1537002063)), (55, (.int .u32 1747873779)), (56, (.int .u32 1955562222)), (57, (.int .u32 2024104815)), (58, (.int .u32 2227730452)), (59, (.int .u32 2361852424)), (60, (.int .u32 2428436474)), (61, (.int .u32 2756734187)), (62, (.int .u32 3204031479)), (63, (.int .u32 3329325298))]) (.one .slc) (fun x1 w =>
  K x1 w) w
theorem f68_ok  {K : Sl → World → Prop} {w : World} (h : f68  K w) : callS Tryd.prog 68 #[] [(.one .slc)] K w :=
  calls_of_fn (args := []) Tryd.f68 [] [] [] .nil (by kernel_rfl) (by kernel_rfl)
    (Eq.mp (by kernel_rfl : f68  K w = evFn Tryd.prog Tryd.f68 [] [] [] .nil [] [(.one .slc)] K w) h)

/-- sallyport/sallyportref02.block -/
def f51 (p0 : Sl) (p1 : Sl) (K : Sl → World → Prop) (w : World) : Prop :=
  callS Tryd.prog 67 #[(.slice p1.a p1.len p1.cap)] [(.one .slc)] (fun r1 w =>
  callS Tryd.prog 68 #[] [(.one .slc)] (fun r2 w =>
  semS Tryd.prog (Instr.buildSlice 85 0 #[]) (.one .slc) (fun x3 w =>
  semS Tryd.prog (Builtin.append_ #[85, 85] 85 #[(.slice x3.a x3.len x3.cap), (.slice p0.a p0.len p0.cap)]) (.one .slc) (fun r4 w =>
  loopS (σ := Sl × Int) (fun s5 w again6 =>
    cond (decide (s5.2 < 64))
      (drawS w fun C w =>
      semQ Tryd.prog C (Instr.indexAt 85 (.slice s5.1.a s5.1.len s5.1.cap) (.int .i64 4)) (.one .adr) (fun x7 =>
      semQ Tryd.prog C (Instr.loadAt 84 (.pointer (some x7))) (.one (.int .u32)) (fun x8 =>
      semQ Tryd.prog C (Instr.indexAt 85 (.slice s5.1.a s5.1.len s5.1.cap) (.int .i64 4)) (.one .adr) (fun x9 =>
      semQ Tryd.prog C (Instr.loadAt 84 (.pointer (some x9))) (.one (.int .u32)) (fun x10 =>
      semQ Tryd.prog C (Instr.indexAt 85 (.slice s5.1.a s5.1.len s5.1.cap) (.int .i64 4)) (.one .adr) (fun x11 =>
      semQ Tryd.prog C (Instr.loadAt 84 (.pointer (some x11))) (.one (.int .u32)) (fun x12 =>
      callS Tryd.prog 69 #[(.int .u32 x8), (.int .i64 6)] [(.one (.int .u32))] (fun r13 w =>
      moreS C w (fun C =>
      callS Tryd.prog 69 #[(.int .u32 x10), (.int .i64 11)] [(.one (.int .u32))] (fun r14 w =>
      moreS C w (fun C =>
      callS Tryd.prog 69 #[(.int .u32 x12), (.int .i64 25)] [(.one (.int .u32))] (fun r15 w =>
      drawS w fun C w =>
      semQ Tryd.prog C (Instr.indexAt 85 (.slice s5.1.a s5.1.len s5.1.cap) (.int .i64 4)) (.one .adr) (fun x16 =>
      semQ Tryd.prog C (Instr.loadAt 84 (.pointer (some x16))) (.one (.int .u32)) (fun x17 =>
      semQ Tryd.prog C (Instr.indexAt 85 (.slice s5.1.a s5.1.len s5.1.cap) (.int .i64 5)) (.one .adr) (fun x18 =>
      semQ Tryd.prog C (Instr.loadAt 84 (.pointer (some x18))) (.one (.int .u32)) (fun x19 =>
      semQ Tryd.prog C (Instr.indexAt 85 (.slice s5.1.a s5.1.len s5.1.cap) (.int .i64 4)) (.one .adr) (fun x20 =>
      semQ Tryd.prog C (Instr.loadAt 84 (.pointer (some x20))) (.one (.int .u32)) (fun x21 =>
      semQ Tryd.prog C (Instr.indexAt 85 (.slice s5.1.a s5.1.len s5.1.cap) (.int .i64 6)) (.one .adr) (fun x22 =>
      semQ Tryd.prog C (Instr.loadAt 84 (.pointer (some x22))) (.one (.int .u32)) (fun x23 =>
      drawS w fun C w =>
      semQ Tryd.prog C (Instr.indexAt 85 (.slice s5.1.a s5.1.len s5.1.cap) (.int .i64 7)) (.one .adr) (fun x24 =>
      semQ Tryd.prog C (Instr.loadAt 84 (.pointer (some x24))) (.one (.int .u32)) (fun x25 =>
      semQ Tryd.prog C (Instr.indexAt 85 (.slice r2.a r2.len r2.cap) (.int .i64 s5.2)) (.one .adr) (fun x26 =>
      semQ Tryd.prog C (Instr.loadAt 84 (.pointer (some x26))) (.one (.int .u32)) (fun x27 =>
      semQ Tryd.prog C (Instr.indexAt 85 (.slice r1.a r1.len r1.cap) (.int .i64 s5.2)) (.one .adr) (fun x28 =>
      semQ Tryd.prog C (Instr.loadAt 84 (.pointer (some x28))) (.one (.int .u32)) (fun x29 =>
      drawS w fun C w =>
      semQ Tryd.prog C (Instr.indexAt 85 (.slice s5.1.a s5.1.len s5.1.cap) (.int .i64 0)) (.one .adr) (fun x30 =>
      semQ Tryd.prog C (Instr.loadAt 84 (.pointer (some x30))) (.one (.int .u32)) (fun x31 =>
      semQ Tryd.prog C (Instr.indexAt 85 (.slice s5.1.a s5.1.len s5.1.cap) (.int .i64 0)) (.one .adr) (fun x32 =>
      semQ Tryd.prog C (Instr.loadAt 84 (.pointer (some x32))) (.one (.int .u32)) (fun x33 =>
      semQ Tryd.prog C (Instr.indexAt 85 (.slice s5.1.a s5.1.len s5.1.cap) (.int .i64 0)) (.one .adr) (fun x34 =>
      semQ Tryd.prog C (Instr.loadAt 84 (.pointer (some x34))) (.one (.int .u32)) (fun x35 =>
      callS Tryd.prog 69 #[(.int .u32 x31), (.int .i64 2)] [(.one (.int .u32))] (fun r36 w =>
      moreS C w (fun C =>
      callS Tryd.prog 69 #[(.int .u32 x33), (.int .i64 13)] [(.one (.int .u32))] (fun r37 w =>
      moreS C w (fun C =>
      callS Tryd.prog 69 #[(.int .u32 x35), (.int .i64 22)] [(.one (.int .u32))] (fun r38 w =>
      drawS w fun C w =>
      semQ Tryd.prog C (Instr.indexAt 85 (.slice s5.1.a s5.1.len s5.1.cap) (.int .i64 0)) (.one .adr) (fun x39 =>
      semQ Tryd.prog C (Instr.loadAt 84 (.pointer (some x39))) (.one (.int .u32)) (fun x40 =>
      semQ Tryd.prog C (Instr.indexAt 85 (.slice s5.1.a s5.1.len s5.1.cap) (.int .i64 1)) (.one .adr) (fun x41 =>
      semQ Tryd.prog C (Instr.loadAt 84 (.pointer (some x41))) (.one (.int .u32)) (fun x42 =>
      semQ Tryd.prog C (Instr.indexAt 85 (.slice s5.1.a s5.1.len s5.1.cap) (.int .i64 0)) (.one .adr) (fun x43 =>
      semQ Tryd.prog C (Instr.loadAt 84 (.pointer (some x43))) (.one (.int .u32)) (fun x44 =>
      semQ Tryd.prog C (Instr.indexAt 85 (.slice s5.1.a s5.1.len s5.1.cap) (.int .i64 2)) (.one .adr) (fun x45 =>
      semQ Tryd.prog C (Instr.loadAt 84 (.pointer (some x45))) (.one (.int .u32)) (fun x46 =>
      semQ Tryd.prog C (Instr.indexAt 85 (.slice s5.1.a s5.1.len s5.1.cap) (.int .i64 1)) (.one .adr) (fun x47 =>
      semQ Tryd.prog C (Instr.loadAt 84 (.pointer (some x47))) (.one (.int .u32)) (fun x48 =>
      semQ Tryd.prog C (Instr.indexAt 85 (.slice s5.1.a s5.1.len s5.1.cap) (.int .i64 2)) (.one .adr) (fun x49 =>
      semQ Tryd.prog C (Instr.loadAt 84 (.pointer (some x49))) (.one (.int .u32)) (fun x50 =>
      drawS w fun C w =>
      semQ Tryd.prog C (Instr.indexAt 85 (.slice s5.1.a s5.1.len s5.1.cap) (.int .i64 0)) (.one .adr) (fun x51 =>
      semQ Tryd.prog C (Instr.loadAt 84 (.pointer (some x51))) (.one (.int .u32)) (fun x52 =>
      semQ Tryd.prog C (Instr.indexAt 85 (.slice s5.1.a s5.1.len s5.1.cap) (.int .i64 1)) (.one .adr) (fun x53 =>
      semQ Tryd.prog C (Instr.loadAt 84 (.pointer (some x53))) (.one (.int .u32)) (fun x54 =>
      semQ Tryd.prog C (Instr.indexAt 85 (.slice s5.1.a s5.1.len s5.1.cap) (.int .i64 2)) (.one .adr) (fun x55 =>
      semQ Tryd.prog C (Instr.loadAt 84 (.pointer (some x55))) (.one (.int .u32)) (fun x56 =>
      semQ Tryd.prog C (Instr.indexAt 85 (.slice s5.1.a s5.1.len s5.1.cap) (.int .i64 3)) (.one .adr) (fun x57 =>
      semQ Tryd.prog C (Instr.loadAt 84 (.pointer (some x57))) (.one (.int .u32)) (fun x58 =>
      semQ Tryd.prog C (Instr.indexAt 85 (.slice s5.1.a s5.1.len s5.1.cap) (.int .i64 4)) (.one .adr) (fun x59 =>
      semQ Tryd.prog C (Instr.loadAt 84 (.pointer (some x59))) (.one (.int .u32)) (fun x60 =>
      semQ Tryd.prog C (Instr.indexAt 85 (.slice s5.1.a s5.1.len s5.1.cap) (.int .i64 5)) (.one .adr) (fun x61 =>
      semQ Tryd.prog C (Instr.loadAt 84 (.pointer (some x61))) (.one (.int .u32)) (fun x62 =>
      semQ Tryd.prog C (Instr.indexAt 85 (.slice s5.1.a s5.1.len s5.1.cap) (.int .i64 6)) (.one .adr) (fun x63 =>
      semQ Tryd.prog C (Instr.loadAt 84 (.pointer (some x63))) (.one (.int .u32)) (fun x64 =>
      semS Tryd.prog (Instr.buildSlice 85 8 #[(0, (.int .u32 (IntKind.wrap .u32 ((IntKind.wrap .u32 ((IntKind.wrap .u32 ((IntKind.wrap .u32 ((IntKind.wrap .u32 ((IntKind.wrap .u32 (x25 + (xorI .u32 (xorI .u32 r13 r14) r15))) + (xorI .u32 (andI .u32 x17 x19) (andI .u32 (xorI .u32 (IntKind.max .u32) x21) x23)))) + x27)) + x29)) + (xorI .u32 (xorI .u32 r36 r37) r38))) + (xorI .u32 (xorI .u32 (andI .u32 x40 x42) (andI .u32 x44 x46)) (andI .u32 x48 x50)))))), (1, (.int .u32 x52)), (2, (.int .u32 x54)), (3, (.int .u32 x56)), (4, (.int .u32 (IntKind.wrap .u32 (x58 + (IntKind.wrap .u32 ((IntKind.wrap .u32 ((IntKind.wrap .u32 ((IntKind.wrap .u32 (x25 + (xorI .u32 (xorI .u32 r13 r14) r15))) + (xorI .u32 (andI .u32 x17 x19) (andI .u32 (xorI .u32 (IntKind.max .u32) x21) x23)))) + x27)) + x29)))))), (5, (.int .u32 x60)), (6, (.int .u32 x62)), (7, (.int .u32 x64))]) (.one .slc) (fun x65 w =>
      again6 (x65, IntKind.wrap .i64 (s5.2 + 1)) w) w))))))))))))))))))))))))))) w)) w)) w))))))))))))))))))))) w)) w)) w)))))))
      (loopS (σ := Sl × Int) (fun s66 w again67 =>
        cond (decide (s66.2 < 8))
          (drawS w fun C w =>
          semQ Tryd.prog C (Instr.indexAt 85 (.slice p0.a p0.len p0.cap) (.int .i64 s66.2)) (.one .adr) (fun x68 =>
          semQ Tryd.prog C (Instr.loadAt 84 (.pointer (some x68))) (.one (.int .u32)) (fun x69 =>
          semQ Tryd.prog C (Instr.indexAt 85 (.slice s5.1.a s5.1.len s5.1.cap) (.int .i64 s66.2)) (.one .adr) (fun x70 =>
          semQ Tryd.prog C (Instr.loadAt 84 (.pointer (some x70))) (.one (.int .u32)) (fun x71 =>
          semS Tryd.prog (Instr.buildSlice 85 1 #[(0, (.int .u32 (IntKind.wrap .u32 (x69 + x71))))]) (.one .slc) (fun x72 w =>
          semS Tryd.prog (Builtin.append_ #[85, 85] 85 #[(.slice s66.1.a s66.1.len s66.1.cap), (.slice x72.a x72.len x72.cap)]) (.one .slc) (fun r73 w =>
          again67 (r73, IntKind.wrap .i64 (s66.2 + 1)) w) w) w)))))
          (K s66.1 w)) (⟨none, 0, 0⟩, 0) w)) (r4, 0) w) w) w) w) w
theorem f51_ok {p0 : Sl} {p1 : Sl} {K : Sl → World → Prop} {w : World} (h : f51 p0 p1 K w) : callS Tryd.prog 51 #[(.slice p0.a p0.len p0.cap), (.slice p1.a p1.len p1.cap)] [(.one .slc)] K w :=
  calls_of_fn (args := [(.slice p0.a p0.len p0.cap), (.slice p1.a p1.len p1.cap)]) Tryd.f51 [] [] [] (.two .nil (.two .nil (.two .nil (.two .nil (.two (.two .nil (.one (.loop [(7, .slc), (8, (.int .i64))] (.two .nil (.two (.one (.two (.draw [0, 1, 3, 7, 0, 16, 48, 127, 255, 0, 512, 1536, 3839, 8191, 16383]) (.two (.draw [0, 1, 3, 0, 8, 24, 63, 0, 128, 384, 896, 0, 2048, 6144, 16256, 32767, 65535]) (.two (.draw [0, 1, 3, 0, 15, 0, 63, 0, 0, 384, 896, 2047, 0, 0, 12288, 28672, 65535, 131071]) (.two (.draw [0, 1, 3, 7, 0, 16, 48, 127, 255, 0, 512, 1536, 3839, 8191, 16383]) (.two (.draw [0, 1, 3, 0, 8, 24, 63, 0, 128, 384, 0, 1024, 3072, 8064, 16383, 0, 32768, 98304, 0, 262144, 786432, 2064384, 4194303, 8388607]) (.draw [0, 0, 3, 0, 15, 0, 32, 96, 0, 256, 768, 0, 2048, 6144, 0, 16384, 49152, 0, 245760, 0, 524288, 1572864, 0, 4194304, 12582912, 0, 33554432, 100663296, 268435455, 536870911]))))))) .nil))))) (.two .nil (.two (.two .nil (.one (.loop [(14, .slc), (15, (.int .i64))] (.two .nil (.two (.one (.draw [0, 0, 0, 6, 14, 0, 0, 96, 224, 510, 1022, 2047, 4095])) .nil))))) .nil))))))) (by kernel_rfl) (by kernel_rfl)
    (Eq.mp (by kernel_rfl : f51 p0 p1 K w = evFn Tryd.prog Tryd.f51 [] [] [] (.two .nil (.two .nil (.two .nil (.two .nil (.two (.two .nil (.one (.loop [(7, .slc), (8, (.int .i64))] (.two .nil (.two (.one (.two (.draw [0, 1, 3, 7, 0, 16, 48, 127, 255, 0, 512, 1536, 3839, 8191, 16383]) (.two (.draw [0, 1, 3, 0, 8, 24, 63, 0, 128, 384, 896, 0, 2048, 6144, 16256, 32767, 65535]) (.two (.draw [0, 1, 3, 0, 15, 0, 63, 0, 0, 384, 896, 2047, 0, 0, 12288, 28672, 65535, 131071]) (.two (.draw [0, 1, 3, 7, 0, 16, 48, 127, 255, 0, 512, 1536, 3839, 8191, 16383]) (.two (.draw [0, 1, 3, 0, 8, 24, 63, 0, 128, 384, 0, 1024, 3072, 8064, 16383, 0, 32768, 98304, 0, 262144, 786432, 2064384, 4194303, 8388607]) (.draw [0, 0, 3, 0, 15, 0, 32, 96, 0, 256, 768, 0, 2048, 6144, 0, 16384, 49152, 0, 245760, 0, 524288, 1572864, 0, 4194304, 12582912, 0, 33554432, 100663296, 268435455, 536870911]))))))) .nil))))) (.two .nil (.two (.two .nil (.one (.loop [(14, .slc), (15, (.int .i64))] (.two .nil (.two (.one (.draw [0, 0, 0, 6, 14, 0, 0, 96, 224, 510, 1022, 2047, 4095])) .nil))))) .nil))))))) [(.slice p0.a p0.len p0.cap), (.slice p1.a p1.len p1.cap)] [(.one .slc)] K w) h)

/-- sallyport/sallyportref02.Sum -/
def f36 (p0 : Sl) (K : Sl → World → Prop) (w : World) : Prop :=
  semS Tryd.prog (Instr.buildSlice 85 8 #[(0, (.int .u32 1779033703)), (1, (.int .u32 3144134277)), (2, (.int .u32 1013904242)), (3, (.int .u32 2773480762)), (4, (.int .u32 1359893119)), (5, (.int .u32 2600822924)), (6, (.int .u32 528734635)), (7, (.int .u32 1541459225))]) (.one .slc) (fun x1 w =>
  callS Tryd.prog 50 #[(.slice p0.a p0.len p0.cap)] [(.one .slc)] (fun r2 w =>
  loopS (σ := Sl × Int) (fun s3 w again4 =>
    cond (decide (s3.2 < (r2.len : Int)))
      (semS Tryd.prog (Instr.sliceAt 22 (.slice r2.a r2.len r2.cap) (some (.int .i64 s3.2)) (some (.int .i64 (IntKind.wrap .i64 (s3.2 + 64)))) none) (.one .slc) (fun x5 w =>
      callS Tryd.prog 51 #[(.slice s3.1.a s3.1.len s3.1.cap), (.slice x5.a x5.len x5.cap)] [(.one .slc)] (fun r6 w =>
      again4 (r6, IntKind.wrap .i64 (s3.2 + 64)) w) w) w)
      (loopS (σ := Sl × Int) (fun s7 w again8 =>
        cond (decide (s7.2 < 8))
          (loopS (σ := Sl × Int) (fun s9 w again10 =>
            cond (decide (s9.2 ≥ 0))
              (semS Tryd.prog (Instr.indexAt 85 (.slice s3.1.a s3.1.len s3.1.cap) (.int .i64 s7.2)) (.one .adr) (fun x11 w =>
              semS Tryd.prog (Instr.loadAt 84 (.pointer (some x11))) (.one (.int .u32)) (fun x12 w =>
              semS Tryd.prog (binS .shr 84 (.tmp 37) (.tmp 39) (.int .u32 x12) (.int .i64 (IntKind.wrap .i64 (8 * s9.2)))) (.one (.int .u32)) (fun x13 w =>
              semS Tryd.prog (Instr.buildSlice 22 1 #[(0, (.int .u8 (IntKind.wrap .u8 x13)))]) (.one .slc) (fun x14 w =>
              semS Tryd.prog (Builtin.append_ #[22, 22] 22 #[(.slice s9.1.a s9.1.len s9.1.cap), (.slice x14.a x14.len x14.cap)]) (.one .slc) (fun r15 w =>
              again10 (r15, IntKind.wrap .i64 (s9.2 - 1)) w) w) w) w) w) w)
              (again8 (s9.1, IntKind.wrap .i64 (s7.2 + 1)) w)) (s7.1, 3) w)
          (K s7.1 w)) (⟨none, 0, 0⟩, 0) w)) (x1, 0) w) w) w
theorem f36_ok {p0 : Sl} {K : Sl → World → Prop} {w : World} (h : f36 p0 K w) : callS Tryd.prog 36 #[(.slice p0.a p0.len p0.cap)] [(.one .slc)] K w :=
  calls_of_fn (args := [(.slice p0.a p0.len p0.cap)]) Tryd.f36 [] [] [] (.two .nil (.two .nil (.two .nil (.two (.two .nil (.one (.loop [(3, .slc), (5, (.int .i64))] .nil))) (.two .nil (.two (.two .nil (.one (.loop [(6, .slc), (7, (.int .i64))] (.two .nil (.two (.one (.two .nil (.one (.loop [(6, .slc), (8, (.int .i64))] .nil)))) .nil))))) .nil)))))) (by kernel_rfl) (by kernel_rfl)
    (Eq.mp (by kernel_rfl : f36 p0 K w = evFn Tryd.prog Tryd.f36 [] [] [] (.two .nil (.two .nil (.two .nil (.two (.two .nil (.one (.loop [(3, .slc), (5, (.int .i64))] .nil))) (.two .nil (.two (.two .nil (.one (.loop [(6, .slc), (7, (.int .i64))] (.two .nil (.two (.one (.two .nil (.one (.loop [(6, .slc), (8, (.int .i64))] .nil)))) .nil))))) .nil)))))) [(.slice p0.a p0.len p0.cap)] [(.one .slc)] K w) h)

/-- sallyport/sallyportref03.padded -/
def f52 (p0 : Sl) (K : Sl → World → Prop) (w : World) : Prop :=
  semS Tryd.prog (Instr.buildSlice 22 0 #[]) (.one .slc) (fun x1 w =>
  semS Tryd.prog (Builtin.append_ #[22, 22] 22 #[(.slice x1.a x1.len x1.cap), (.slice p0.a p0.len p0.cap)]) (.one .slc) (fun r2 w =>
  semS Tryd.prog (Instr.buildSlice 22 1 #[(0, (.int .u8 128))]) (.one .slc) (fun x3 w =>
  semS Tryd.prog (Builtin.append_ #[22, 22] 22 #[(.slice r2.a r2.len r2.cap), (.slice x3.a x3.len x3.cap)]) (.one .slc) (fun r4 w =>
  loopS (σ := Sl) (fun x5 w again6 =>
    cond ((Int.tmod (x5.len : Int) 128) != 112)
      (semS Tryd.prog (Instr.buildSlice 22 1 #[(0, (.int .u8 0))]) (.one .slc) (fun x7 w =>
      semS Tryd.prog (Builtin.append_ #[22, 22] 22 #[(.slice x5.a x5.len x5.cap), (.slice x7.a x7.len x7.cap)]) (.one .slc) (fun r8 w =>
      again6 r8 w) w) w)
      (loopS (σ := Sl × Int) (fun s9 w again10 =>
        cond (decide (s9.2 < 8))
          (semS Tryd.prog (Instr.buildSlice 22 1 #[(0, (.int .u8 0))]) (.one .slc) (fun x11 w =>
          semS Tryd.prog (Builtin.append_ #[22, 22] 22 #[(.slice s9.1.a s9.1.len s9.1.cap), (.slice x11.a x11.len x11.cap)]) (.one .slc) (fun r12 w =>
          again10 (r12, IntKind.wrap .i64 (s9.2 + 1)) w) w) w)
          (loopS (σ := Sl × Int) (fun s13 w again14 =>
            cond (decide (s13.2 ≥ 0))
              (semS Tryd.prog (binS .shr 87 (.tmp 36) (.tmp 38) (.int .u64 (IntKind.wrap .u64 ((IntKind.wrap .u64 (p0.len : Int)) * 8))) (.int .i64 (IntKind.wrap .i64 (8 * s13.2)))) (.one (.int .u64)) (fun x15 w =>
              semS Tryd.prog (Instr.buildSlice 22 1 #[(0, (.int .u8 (IntKind.wrap .u8 x15)))]) (.one .slc) (fun x16 w =>
              semS Tryd.prog (Builtin.append_ #[22, 22] 22 #[(.slice s13.1.a s13.1.len s13.1.cap), (.slice x16.a x16.len x16.cap)]) (.one .slc) (fun r17 w =>
              again14 (r17, IntKind.wrap .i64 (s13.2 - 1)) w) w) w) w)
              (K s13.1 w)) (s9.1, 7) w)) (x5, 0) w)) r4 w) w) w) w) w
theorem f52_ok {p0 : Sl} {K : Sl → World → Prop} {w : World} (h : f52 p0 K w) : callS Tryd.prog 52 #[(.slice p0.a p0.len p0.cap)] [(.one .slc)] K w :=
  calls_of_fn (args := [(.slice p0.a p0.len p0.cap)]) Tryd.f52 [] [] [] (.two .nil (.two .nil (.two .nil (.two (.one (.loop [(3, .slc)] .nil)) (.two (.two .nil (.one (.loop [(3, .slc), (4, (.int .i64))] .nil))) (.two .nil (.two (.two .nil (.one (.loop [(3, .slc), (6, (.int .i64))] .nil))) .nil))))))) (by kernel_rfl) (by kernel_rfl)
    (Eq.mp (by kernel_rfl : f52 p0 K w = evFn Tryd.prog Tryd.f52 [] [] [] (.two .nil (.two .nil (.two .nil (.two (.one (.loop [(3, .slc)] .nil)) (.two (.two .nil (.one (.loop [(3, .slc), (4, (.int .i64))] .nil))) (.two .nil (.two (.two .nil (.one (.loop [(3, .slc), (6, (.int .i64))] .nil))) .nil))))))) [(.slice p0.a p0.len p0.cap)] [(.one .slc)] K w) h)

/-- sallyport/sallyportref03.right -/
def f72 (p0 : Int) (p1 : Int) (K : Int → World → Prop) (w : World) : Prop :=
  drawS w fun C w =>
  semQ Tryd.prog C (binS .shr 87 (.tmp 5) (.tmp 6) (.int .u64 p0) (.int .i64 p1)) (.one (.int .u64)) (fun x1 =>
  semQ Tryd.prog C (binS .shl 87 (.tmp 8) (.tmp 10) (.int .u64 p0) (.int .i64 (IntKind.wrap .i64 (64 - p1)))) (.one (.int .u64)) (fun x2 =>
  K (orI .u64 x1 x2) w))
theorem f72_ok {p0 : Int} {p1 : Int} {K : Int → World → Prop} {w : World} (h : f72 p0 p1 K w) : callS Tryd.prog 72 #[(.int .u64 p0), (.int .i64 p1)] [(.one (.int .u64))] K w :=
  calls_of_fn (args := [(.int .u64 p0), (.int .i64 p1)]) Tryd.f72 [] [] [] (.two .nil (.two (.draw [0, 0, 3, 0, 0, 16, 56, 127, 255]) .nil)) (by kernel_rfl) (by kernel_rfl)
    (Eq.mp (by kernel_rfl : f72 p0 p1 K w = evFn Tryd.prog Tryd.f72 [] [] [] (.two .nil (.two (.draw [0, 0, 3, 0, 0, 16, 56, 127, 255]) .nil)) [(.int .u64 p0), (.int .i64 p1)] [(.one (.int .u64))] K w) h)

/-- sallyport/sallyportref03.words -/
def f70 (p0 : Sl) (K : Sl → World → Prop) (w : World) : Prop :=
  loopS (σ := Sl × Int) (fun s1 w again2 =>
    cond (decide (s1.2 < 16))
      (loopS (σ := Int × Int) (fun s3 w again4 =>
        cond (decide (s3.2 < 8))
          (semS Tryd.prog (Instr.indexAt 22 (.slice p0.a p0.len p0.cap) (.int .i64 (IntKind.wrap .i64 ((IntKind.wrap .i64 (8 * s1.2)) + s3.2)))) (.one .adr) (fun x5 w =>
          semS Tryd.prog (Instr.loadAt 5 (.pointer (some x5))) (.one (.int .u8)) (fun x6 w =>
          again4 (IntKind.wrap .u64 ((IntKind.wrap .u64 (s3.1 * 256)) + (IntKind.wrap .u64 x6)), IntKind.wrap .i64 (s3.2 + 1)) w) w) w)
          (semS Tryd.prog (Instr.buildSlice 88 1 #[(0, (.int .u64 s3.1))]) (.one .slc) (fun x7 w =>
          semS Tryd.prog (Builtin.append_ #[88, 88] 88 #[(.slice s1.1.a s1.1.len s1.1.cap), (.slice x7.a x7.len x7.cap)]) (.one .slc) (fun r8 w =>
          again2 (r8, IntKind.wrap .i64 (s1.2 + 1)) w) w) w)) (0, 0) w)
      (loopS (σ := Sl × Int) (fun s9 w again10 =>
        cond (decide (s9.2 < 80))
          (drawS w fun C w =>
          semQ Tryd.prog C (Instr.indexAt 88 (.slice s9.1.a s9.1.len s9.1.cap) (.int .i64 (IntKind.wrap .i64 (s9.2 - 15)))) (.one .adr) (fun x11 =>
          semQ Tryd.prog C (Instr.loadAt 87 (.pointer (some x11))) (.one (.int .u64)) (fun x12 =>
          semQ Tryd.prog C (Instr.indexAt 88 (.slice s9.1.a s9.1.len s9.1.cap) (.int .i64 (IntKind.wrap .i64 (s9.2 - 15)))) (.one .adr) (fun x13 =>
          semQ Tryd.prog C (Instr.loadAt 87 (.pointer (some x13))) (.one (.int .u64)) (fun x14 =>
          semQ Tryd.prog C (Instr.indexAt 88 (.slice s9.1.a s9.1.len s9.1.cap) (.int .i64 (IntKind.wrap .i64 (s9.2 - 15)))) (.one .adr) (fun x15 =>
          semQ Tryd.prog C (Instr.loadAt 87 (.pointer (some x15))) (.one (.int .u64)) (fun x16 =>
          callS Tryd.prog 72 #[(.int .u64 x12), (.int .i64 1)] [(.one (.int .u64))] (fun r17 w =>
          moreS C w (fun C =>
          callS Tryd.prog 72 #[(.int .u64 x14), (.int .i64 8)] [(.one (.int .u64))] (fun r18 w =>
          moreS C w (fun C =>
          drawS w fun C w =>
          semQ Tryd.prog C (Instr.indexAt 88 (.slice s9.1.a s9.1.len s9.1.cap) (.int .i64 (IntKind.wrap .i64 (s9.2 - 2)))) (.one .adr) (fun x19 =>
          semQ Tryd.prog C (Instr.loadAt 87 (.pointer (some x19))) (.one (.int .u64)) (fun x20 =>
          semQ Tryd.prog C (Instr.indexAt 88 (.slice s9.1.a s9.1.len s9.1.cap) (.int .i64 (IntKind.wrap .i64 (s9.2 - 2)))) (.one .adr) (fun x21 =>
          semQ Tryd.prog C (Instr.loadAt 87 (.pointer (some x21))) (.one (.int .u64)) (fun x22 =>
          semQ Tryd.prog C (Instr.indexAt 88 (.slice s9.1.a s9.1.len s9.1.cap) (.int .i64 (IntKind.wrap .i64 (s9.2 - 2)))) (.one .adr) (fun x23 =>
          semQ Tryd.prog C (Instr.loadAt 87 (.pointer (some x23))) (.one (.int .u64)) (fun x24 =>
          callS Tryd.prog 72 #[(.int .u64 x20), (.int .i64 19)] [(.one (.int .u64))] (fun r25 w =>
          moreS C w (fun C =>
          callS Tryd.prog 72 #[(.int .u64 x22), (.int .i64 61)] [(.one (.int .u64))] (fun r26 w =>
          moreS C w (fun C =>
          drawS w fun C w =>
          semQ Tryd.prog C (Instr.indexAt 88 (.slice s9.1.a s9.1.len s9.1.cap) (.int .i64 (IntKind.wrap .i64 (s9.2 - 16)))) (.one .adr) (fun x27 =>
          semQ Tryd.prog C (Instr.loadAt 87 (.pointer (some x27))) (.one (.int .u64)) (fun x28 =>
          semQ Tryd.prog C (Instr.indexAt 88 (.slice s9.1.a s9.1.len s9.1.cap) (.int .i64 (IntKind.wrap .i64 (s9.2 - 7)))) (.one .adr) (fun x29 =>
          semQ Tryd.prog C (Instr.loadAt 87 (.pointer (some x29))) (.one (.int .u64)) (fun x30 =>
          semS Tryd.prog (Instr.buildSlice 88 1 #[(0, (.int .u64 (IntKind.wrap .u64 ((IntKind.wrap .u64 ((IntKind.wrap .u64 (x28 + (xorI .u64 (xorI .u64 r17 r18) (shrI .u64 x16 7)))) + x30)) + (xorI .u64 (xorI .u64 r25 r26) (shrI .u64 x24 6))))))]) (.one .slc) (fun x31 w =>
          semS Tryd.prog (Builtin.append_ #[88, 88] 88 #[(.slice s9.1.a s9.1.len s9.1.cap), (.slice x31.a x31.len x31.cap)]) (.one .slc) (fun r32 w =>
          again10 (r32, IntKind.wrap .i64 (s9.2 + 1)) w) w) w)))))) w)) w)))))))) w)) w)))))))
          (K s9.1 w)) (s1.1, 16) w)) (⟨none, 0, 0⟩, 0) w
theorem f70_ok {p0 : Sl} {K : Sl → World → Prop} {w : World} (h : f70 p0 K w) : callS Tryd.prog 70 #[(.slice p0.a p0.len p0.cap)] [(.one .slc)] K w :=
  calls_of_fn (args := [(.slice p0.a p0.len p0.cap)]) Tryd.f70 [] [] [] (.two .nil (.two .nil (.two (.two .nil (.one (.loop [(3, .slc), (4, (.int .i64))] (.two .nil (.two (.one (.two .nil (.two (.two .nil (.one (.loop [(5, (.int .u64)), (6, (.int .i64))] .nil))) .nil))) .nil))))) (.two (.two .nil (.one (.loop [(3, .slc), (7, (.int .i64))] (.two .nil (.two (.one (.two (.draw [0, 0, 2, 7, 15, 31, 0, 0, 128, 448, 960, 2047, 4095, 0, 0, 16384, 57344, 122880, 253952, 524287, 1048575]) (.two (.draw [0, 0, 2, 7, 15, 31, 0, 0, 128, 448, 960, 2047, 4095, 0, 0, 16384, 57344, 122880, 253952, 524287, 1048575]) (.draw [0, 0, 0, 4, 14, 30, 0, 126, 0, 0, 512, 1792, 3840, 8190, 0, 32766, 65534, 131071, 262143])))) .nil))))) .nil)))) (by kernel_rfl) (by kernel_rfl)
    (Eq.mp (by kernel_rfl : f70 p0 K w = evFn Tryd.prog Tryd.f70 [] [] [] (.two .nil (.two .nil (.two (.two .nil (.one (.loop [(3, .slc), (4, (.int .i64))] (.two .nil (.two (.one (.two .nil (.two (.two .nil (.one (.loop [(5, (.int .u64)), (6, (.int .i64))] .nil))) .nil))) .nil))))) (.two (.two .nil (.one (.loop [(3, .slc), (7, (.int .i64))] (.two .nil (.two (.one (.two (.draw [0, 0, 2, 7, 15, 31, 0, 0, 128, 448, 960, 2047, 4095, 0, 0, 16384, 57344, 122880, 253952, 524287, 1048575]) (.two (.draw [0, 0, 2, 7, 15, 31, 0, 0, 128, 448, 960, 2047, 4095, 0, 0, 16384, 57344, 122880, 253952, 524287, 1048575]) (.draw [0, 0, 0, 4, 14, 30, 0, 126, 0, 0, 512, 1792, 3840, 8190, 0, 32766, 65534, 131071, 262143])))) .nil))))) .nil)))) [(.slice p0.a p0.len p0.cap)] [(.one .slc)] K w) h)

/-- sallyport/sallyportref03.constants -/
def f71  (K : Sl → World → Prop) (w : World) : Prop :=
  semS Tryd.prog (Instr.buildSlice 88 80 #[(0, (.int .u64 4794697086780616226)), (1, (.int .u64 8158064640168781261)), (2, (.int .u64 13096744586834688815)), (3, (.int .u64 16840607885511220156)), (4, (.int .u64 4131703408338449720)), (5, (.int .u64 6480981068601479193)), (6, (.int .u64 10538285296894168987)), (7, (.int .u64 12329834152419229976)), (8, (.int .u64 15566598209576043074)), (9, (.int .u64 1334009975649890238)), (10, (.int .u64 2608012711638119052)), (11, (.int .u64 6128411473006802146)), (12, (.int .u64 8268148722764581231)), (13, (.int .u64 9286055187155687089)), (14, (.int .u64 11230858885718282805)), (15, (.int .u64 13951009754708518548)), (16, (.int .u64 16472876342353939154)), (17, (.int .u64 17275323862435702243)), (18, (.int .u64 1135362057144423861)), (19, (.int .u64 2597628984639134821)), (20, (.int .u64 3308224258029322869)), (21, (.int .u64 5365058923640841347)), (22, (.int .u64 6679025012923562964)), (23, (.int .u64 8573033837759648693)), (24, (.int .u64 10970295158949994411)), (25, (.int .u64 12119686244451234320)), (26, (.int .u64 12683024718118986047)), (27, (.int .u64 13788192230050041572)), (28, (.int .u64 14330467153632333762)), (29, (.int .u64 15395433587784984357)), (30, (.int .u64 489312712824947311)), (31, (.int .u64 1452737877330783856)), (32, (.int .u64 2861767655752347644)), (33, (.int .u64 3322285676063803686)), (34, (.int .u64 5560940570517711597)), (35, (.int .u64 5996557281743188959)), (36, (.int .u64 7280758554555802590)), (37, (.int .u64 8532644243296465576)), (38, (.int .u64 9350256976987008742)), (39, (.int .u64 10552545826968843579)), (40, (.int .u64 11727347734174303076)), (41, (.int .u64 12113106623233404929)), (42, (.int .u64 14000437183269869457)), (43, (.int .u64 14369950271660146224)), (44, (.int .u64 15101387698204529176)), (45, (.int .u64 15463397548674623760)), (46, (.int .u64 17586052441742319658)), (47, (.int .u64 1182934255886127544)), (48, (.int .u64 1847814050463011016)), (49, (.int .u64 2177327727835720531)), (50, (.int .u64 2830643537854262169)), (51, (.int .u64 3796741975233480872)), (52, (.int .u64 4115178125766777443)), (53, (.int .u64 5681478168544905931)), (54, (.int .u64 6601373596472566643)), (55, (.int .u64 7507060721942968483)), (56, (.int .u64 8399075790359081724)), (57, (.int .u64 8693463985226723168)), (58, (.int .u64 9568029438360202098)), (59, (.int .u64 10144078919501101548)), (60, (.int .u64 10430055236837252648)), (61, (.int .u64 11840083180663258601)), (62, (.int .u64 13761210420658862357)), (63, (.int .u64 14299343276471374635)), (64, (.int .u64 14566680578165727644)), (65, (.int .u64 15097957966210449927)), (66, (.int .u64 16922976911328602910)), (67, (.int .u64 17689382322260857208)), (68, (.int .u64 500013540394364858)), (69, (.int .u64 748580250866718886)), (70, (.int .u64 1242879168328830382)), (71, (.int .u64 1977374033974150939)), (72, (.int .u64 2944078676154940804)), (73, (.int .u64 3659926193048069267)), (74, (.int .u64 4368137639120453308)), (75, (.int .u64 4836135668995329356)), (76, (.int .u64 5532061633213252278)), (77, (.int .u64 6448918945643986474)), (78, (.int .u64 6902733635092675308)), (79, (.int .u64 7801388544844847127))]) (.one .slc) (fun x1 w =>
  K x1 w) w
theorem f71_ok  {K : Sl → World → Prop} {w : World} (h : f71  K w) : callS Tryd.prog 71 #[] [(.one .slc)] K w :=
  calls_of_fn (args := []) Tryd.f71 [] [] [] .nil (by kernel_rfl) (by kernel_rfl)
    (Eq.mp (by kernel_rfl : f71  K w = evFn Tryd.prog Tryd.f71 [] [] [] .nil [] [(.one .slc)] K w) h)

/-- sallyport/sallyportref03.block -/
def f53 (p0 : Sl) (p1 : Sl) (K : Sl → World → Prop) (w : World) : Prop :=
  callS Tryd.prog 70 #[(.slice p1.a p1.len p1.cap)] [(.one .slc)] (fun r1 w =>
  callS Tryd.prog 71 #[] [(.one .slc)] (fun r2 w =>
  semS Tryd.prog (Instr.buildSlice 88 0 #[]) (.one .slc) (fun x3 w =>
  semS Tryd.prog (Builtin.append_ #[88, 88] 88 #[(.slice x3.a x3.len x3.cap), (.slice p0.a p0.len p0.cap)]) (.one .slc) (fun r4 w =>
  loopS (σ := Sl × Int) (fun s5 w again6 =>
    cond (decide (s5.2 < 80))
      (drawS w fun C w =>
      semQ Tryd.prog C (Instr.indexAt 88 (.slice s5.1.a s5.1.len s5.1.cap) (.int .i64 4)) (.one .adr) (fun x7 =>
      semQ Tryd.prog C (Instr.loadAt 87 (.pointer (some x7))) (.one (.int .u64)) (fun x8 =>
      semQ Tryd.prog C (Instr.indexAt 88 (.slice s5.1.a s5.1.len s5.1.cap) (.int .i64 4)) (.one .adr) (fun x9 =>
      semQ Tryd.prog C (Instr.loadAt 87 (.pointer (some x9))) (.one (.int .u64)) (fun x10 =>
      semQ Tryd.prog C (Instr.indexAt 88 (.slice s5.1.a s5.1.len s5.1.cap) (.int .i64 4)) (.one .adr) (fun x11 =>
      semQ Tryd.prog C (Instr.loadAt 87 (.pointer (some x11))) (.one (.int .u64)) (fun x12 =>
      callS Tryd.prog 72 #[(.int .u64 x8), (.int .i64 14)] [(.one (.int .u64))] (fun r13 w =>
      moreS C w (fun C =>
      callS Tryd.prog 72 #[(.int .u64 x10), (.int .i64 18)] [(.one (.int .u64))] (fun r14 w =>
      moreS C w (fun C =>
      callS Tryd.prog 72 #[(.int .u64 x12), (.int .i64 41)] [(.one (.int .u64))] (fun r15 w =>
      drawS w fun C w =>
      semQ Tryd.prog C (Instr.indexAt 88 (.slice s5.1.a s5.1.len s5.1.cap) (.int .i64 4)) (.one .adr) (fun x16 =>
      semQ Tryd.prog C (Instr.loadAt 87 (.pointer (some x16))) (.one (.int .u64)) (fun x17 =>
      semQ Tryd.prog C (Instr.indexAt 88 (.slice s5.1.a s5.1.len s5.1.cap) (.int .i64 5)) (.one .adr) (fun x18 =>
      semQ Tryd.prog C (Instr.loadAt 87 (.pointer (some x18))) (.one (.int .u64)) (fun x19 =>
      semQ Tryd.prog C (Instr.indexAt 88 (.slice s5.1.a s5.1.len s5.1.cap) (.int .i64 4)) (.one .adr) (fun x20 =>
      semQ Tryd.prog C (Instr.loadAt 87 (.pointer (some x20))) (.one (.int .u64)) (fun x21 =>
      semQ Tryd.prog C (Instr.indexAt 88 (.slice s5.1.a s5.1.len s5.1.cap) (.int .i64 6)) (.one .adr) (fun x22 =>
      semQ Tryd.prog C (Instr.loadAt 87 (.pointer (some x22))) (.one (.int .u64)) (fun x23 =>
      drawS w fun C w =>
      semQ Tryd.prog C (Instr.indexAt 88 (.slice s5.1.a s5.1.len s5.1.cap) (.int .i64 7)) (.one .adr) (fun x24 =>
      semQ Tryd.prog C (Instr.loadAt 87 (.pointer (some x24))) (.one (.int .u64)) (fun x25 =>
      semQ Tryd.prog C (Instr.indexAt 88 (.slice r2.a r2.len r2.cap) (.int .i64 s5.2)) (.one .adr) (fun x26 =>
      semQ Tryd.prog C (Instr.loadAt 87 (.pointer (some x26))) (.one (.int .u64)) (fun x27 =>
      semQ Tryd.prog C (Instr.indexAt 88 (.slice r1.a r1.len r1.cap) (.int .i64 s5.2)) (.one .adr) (fun x28 =>
      semQ Tryd.prog C (Instr.loadAt 87 (.pointer (some x28))) (.one (.int .u64)) (fun x29 =>
      drawS w fun C w =>
      semQ Tryd.prog C (Instr.indexAt 88 (.slice s5.1.a s5.1.len s5.1.cap) (.int .i64 0)) (.one .adr) (fun x30 =>
      semQ Tryd.prog C (Instr.loadAt 87 (.pointer (some x30))) (.one (.int .u64)) (fun x31 =>
      semQ Tryd.prog C (Instr.indexAt 88 (.slice s5.1.a s5.1.len s5.1.cap) (.int .i64 0)) (.one .adr) (fun x32 =>
      semQ Tryd.prog C (Instr.loadAt 87 (.pointer (some x32))) (.one (.int .u64)) (fun x33 =>
      semQ Tryd.prog C (Instr.indexAt 88 (.slice s5.1.a s5.1.len s5.1.cap) (.int .i64 0)) (.one .adr) (fun x34 =>
      semQ Tryd.prog C (Instr.loadAt 87 (.pointer (some x34))) (.one (.int .u64)) (fun x35 =>
      callS Tryd.prog 72 #[(.int .u64 x31), (.int .i64 28)] [(.one (.int .u64))] (fun r36 w =>
      moreS C w (fun C =>
      callS Tryd.prog 72 #[(.int .u64 x33), (.int .i64 34)] [(.one (.int .u64))] (fun r37 w =>
      moreS C w (fun C =>
      callS Tryd.prog 72 #[(.int .u64 x35), (.int .i64 39)] [(.one (.int .u64))] (fun r38 w =>
      drawS w fun C w =>
      semQ Tryd.prog C (Instr.indexAt 88 (.slice s5.1.a s5.1.len s5.1.cap) (.int .i64 0)) (.one .adr) (fun x39 =>
      semQ Tryd.prog C (Instr.loadAt 87 (.pointer (some x39))) (.one (.int .u64)) (fun x40 =>
      semQ Tryd.prog C (Instr.indexAt 88 (.slice s5.1.a s5.1.len s5.1.cap) (.int .i64 1)) (.one .adr) (fun x41 =>
      semQ Tryd.prog C (Instr.loadAt 87 (.pointer (some x41))) (.one (.int .u64)) (fun x42 =>
      semQ Tryd.prog C (Instr.indexAt 88 (.slice s5.1.a s5.1.len s5.1.cap) (.int .i64 0)) (.one .adr) (fun x43 =>
      semQ Tryd.prog C (Instr.loadAt 87 (.pointer (some x43))) (.one (.int .u64)) (fun x44 =>
      semQ Tryd.prog C (Instr.indexAt 88 (.slice s5.1.a s5.1.len s5.1.cap) (.int .i64 2)) (.one .adr) (fun x45 =>
      semQ Tryd.prog C (Instr.loadAt 87 (.pointer (some x45))) (.one (.int .u64)) (fun x46 =>
      semQ Tryd.prog C (Instr.indexAt 88 (.slice s5.1.a s5.1.len s5.1.cap) (.int .i64 1)) (.one .adr) (fun x47 =>
      semQ Tryd.prog C (Instr.loadAt 87 (.pointer (some x47))) (.one (.int .u64)) (fun x48 =>
      semQ Tryd.prog C (Instr.indexAt 88 (.slice s5.1.a s5.1.len s5.1.cap) (.int .i64 2)) (.one .adr) (fun x49 =>
      semQ Tryd.prog C (Instr.loadAt 87 (.pointer (some x49))) (.one (.int .u64)) (fun x50 =>
      drawS w fun C w =>
      semQ Tryd.prog C (Instr.indexAt 88 (.slice s5.1.a s5.1.len s5.1.cap) (.int .i64 0)) (.one .adr) (fun x51 =>
      semQ Tryd.prog C (Instr.loadAt 87 (.pointer (some x51))) (.one (.int .u64)) (fun x52 =>
      semQ Tryd.prog C (Instr.indexAt 88 (.slice s5.1.a s5.1.len s5.1.cap) (.int .i64 1)) (.one .adr) (fun x53 =>
      semQ Tryd.prog C (Instr.loadAt 87 (.pointer (some x53))) (.one (.int .u64)) (fun x54 =>
      semQ Tryd.prog C (Instr.indexAt 88 (.slice s5.1.a s5.1.len s5.1.cap) (.int .i64 2)) (.one .adr) (fun x55 =>
      semQ Tryd.prog C (Instr.loadAt 87 (.pointer (some x55))) (.one (.int .u64)) (fun x56 =>
      semQ Tryd.prog C (Instr.indexAt 88 (.slice s5.1.a s5.1.len s5.1.cap) (.int .i64 3)) (.one .adr) (fun x57 =>
      semQ Tryd.prog C (Instr.loadAt 87 (.pointer (some x57))) (.one (.int .u64)) (fun x58 =>
      semQ Tryd.prog C (Instr.indexAt 88 (.slice s5.1.a s5.1.len s5.1.cap) (.int .i64 4)) (.one .adr) (fun x59 =>
      semQ Tryd.prog C (Instr.loadAt 87 (.pointer (some x59))) (.one (.int .u64)) (fun x60 =>
      semQ Tryd.prog C (Instr.indexAt 88 (.slice s5.1.a s5.1.len s5.1.cap) (.int .i64 5)) (.one .adr) (fun x61 =>
      semQ Tryd.prog C (Instr.loadAt 87 (.pointer (some x61))) (.one (.int .u64)) (fun x62 =>
      semQ Tryd.prog C (Instr.indexAt 88 (.slice s5.1.a s5.1.len s5.1.cap) (.int .i64 6)) (.one .adr) (fun x63 =>
      semQ Tryd.prog C (Instr.loadAt 87 (.pointer (some x63))) (.one (.int .u64)) (fun x64 =>
      semS Tryd.prog (Instr.buildSlice 88 8 #[(0, (.int .u64 (IntKind.wrap .u64 ((IntKind.wrap .u64 ((IntKind.wrap .u64 ((IntKind.wrap .u64 ((IntKind.wrap .u64 ((IntKind.wrap .u64 (x25 + (xorI .u64 (xorI .u64 r13 r14) r15))) + (xorI .u64 (andI .u64 x17 x19) (andI .u64 (xorI .u64 (IntKind.max .u64) x21) x23)))) + x27)) + x29)) + (xorI .u64 (xorI .u64 r36 r37) r38))) + (xorI .u64 (xorI .u64 (andI .u64 x40 x42) (andI .u64 x44 x46)) (andI .u64 x48 x50)))))), (1, (.int .u64 x52)), (2, (.int .u64 x54)), (3, (.int .u64 x56)), (4, (.int .u64 (IntKind.wrap .u64 (x58 + (IntKind.wrap .u64 ((IntKind.wrap .u64 ((IntKind.wrap .u64 ((IntKind.wrap .u64 (x25 + (xorI .u64 (xorI .u64 r13 r14) r15))) + (xorI .u64 (andI .u64 x17 x19) (andI .u64 (xorI .u64 (IntKind.max .u64) x21) x23)))) + x27)) + x29)))))), (5, (.int .u64 x60)), (6, (.int .u64 x62)), (7, (.int .u64 x64))]) (.one .slc) (fun x65 w =>
      again6 (x65, IntKind.wrap .i64 (s5.2 + 1)) w) w))))))))))))))))))))))))))) w)) w)) w))))))))))))))))))))) w)) w)) w)))))))
      (loopS (σ := Sl × Int) (fun s66 w again67 =>
        cond (decide (s66.2 < 8))
          (drawS w fun C w =>
          semQ Tryd.prog C (Instr.indexAt 88 (.slice p0.a p0.len p0.cap) (.int .i64 s66.2)) (.one .adr) (fun x68 =>
          semQ Tryd.prog C (Instr.loadAt 87 (.pointer (some x68))) (.one (.int .u64)) (fun x69 =>
          semQ Tryd.prog C (Instr.indexAt 88 (.slice s5.1.a s5.1.len s5.1.cap) (.int .i64 s66.2)) (.one .adr) (fun x70 =>
          semQ Tryd.prog C (Instr.loadAt 87 (.pointer (some x70))) (.one (.int .u64)) (fun x71 =>
          semS Tryd.prog (Instr.buildSlice 88 1 #[(0, (.int .u64 (IntKind.wrap .u64 (x69 + x71))))]) (.one .slc) (fun x72 w =>
          semS Tryd.prog (Builtin.append_ #[88, 88] 88 #[(.slice s66.1.a s66.1.len s66.1.cap), (.slice x72.a x72.len x72.cap)]) (.one .slc) (fun r73 w =>
          again67 (r73, IntKind.wrap .i64 (s66.2 + 1)) w) w) w)))))
          (K s66.1 w)) (⟨none, 0, 0⟩, 0) w)) (r4, 0) w) w) w) w) w
theorem f53_ok {p0 : Sl} {p1 : Sl} {K : Sl → World → Prop} {w : World} (h : f53 p0 p1 K w) : callS Tryd.prog 53 #[(.slice p0.a p0.len p0.cap), (.slice p1.a p1.len p1.cap)] [(.one .slc)] K w :=
  calls_of_fn (args := [(.slice p0.a p0.len p0.cap), (.slice p1.a p1.len p1.cap)]) Tryd.f53 [] [] [] (.two .nil (.two .nil (.two .nil (.two .nil (.two (.two .nil (.one (.loop [(7, .slc), (8, (.int .i64))] (.two .nil (.two (.one (.two (.draw [0, 1, 3, 7, 0, 16, 48, 127, 255, 0, 512, 1536, 3839, 8191, 16383]) (.two (.draw [0, 1, 3, 0, 8, 24, 63, 0, 128, 384, 896, 0, 2048, 6144, 16256, 32767, 65535]) (.two (.draw [0, 1, 3, 0, 15, 0, 63, 0, 0, 384, 896, 2047, 0, 0, 12288, 28672, 65535, 131071]) (.two (.draw [0, 1, 3, 7, 0, 16, 48, 127, 255, 0, 512, 1536, 3839, 8191, 16383]) (.two (.draw [0, 1, 3, 0, 8, 24, 63, 0, 128, 384, 0, 1024, 3072, 8064, 16383, 0, 32768, 98304, 0, 262144, 786432, 2064384, 4194303, 8388607]) (.draw [0, 0, 3, 0, 15, 0, 32, 96, 0, 256, 768, 0, 2048, 6144, 0, 16384, 49152, 0, 245760, 0, 524288, 1572864, 0, 4194304, 12582912, 0, 33554432, 100663296, 268435455, 536870911]))))))) .nil))))) (.two .nil (.two (.two .nil (.one (.loop [(14, .slc), (15, (.int .i64))] (.two .nil (.two (.one (.draw [0, 0, 0, 6, 14, 0, 0, 96, 224, 510, 1022, 2047, 4095])) .nil))))) .nil))))))) (by kernel_rfl) (by kernel_rfl)
    (Eq.mp (by kernel_rfl : f53 p0 p1 K w = evFn Tryd.prog Tryd.f53 [] [] [] (.two .nil (.two .nil (.two .nil (.two .nil (.two (.two .nil (.one (.loop [(7, .slc), (8, (.int .i64))] (.two .nil (.two (.one (.two (.draw [0, 1, 3, 7, 0, 16, 48, 127, 255, 0, 512, 1536, 3839, 8191, 16383]) (.two (.draw [0, 1, 3, 0, 8, 24, 63, 0, 128, 384, 896, 0, 2048, 6144, 16256, 32767, 65535]) (.two (.draw [0, 1, 3, 0, 15, 0, 63, 0, 0, 384, 896, 2047, 0, 0, 12288, 28672, 65535, 131071]) (.two (.draw [0, 1, 3, 7, 0, 16, 48, 127, 255, 0, 512, 1536, 3839, 8191, 16383]) (.two (.draw [0, 1, 3, 0, 8, 24, 63, 0, 128, 384, 0, 1024, 3072, 8064, 16383, 0, 32768, 98304, 0, 262144, 786432, 2064384, 4194303, 8388607]) (.draw [0, 0, 3, 0, 15, 0, 32, 96, 0, 256, 768, 0, 2048, 6144, 0, 16384, 49152, 0, 245760, 0, 524288, 1572864, 0, 4194304, 12582912, 0, 33554432, 100663296, 268435455, 536870911]))))))) .nil))))) (.two .nil (.two (.two .nil (.one (.loop [(14, .slc), (15, (.int .i64))] (.two .nil (.two (.one (.draw [0, 0, 0, 6, 14, 0, 0, 96, 224, 510, 1022, 2047, 4095])) .nil))))) .nil))))))) [(.slice p0.a p0.len p0.cap), (.slice p1.a p1.len p1.cap)] [(.one .slc)] K w) h)

/-- sallyport/sallyportref03.Sum -/
def f37 (p0 : Sl) (K : Sl → World → Prop) (w : World) : Prop :=
  semS Tryd.prog (Instr.buildSlice 88 8 #[(0, (.int .u64 7640891576956012808)), (1, (.int .u64 13503953896175478587)), (2, (.int .u64 4354685564936845355)), (3, (.int .u64 11912009170470909681)), (4, (.int .u64 5840696475078001361)), (5, (.int .u64 11170449401992604703)), (6, (.int .u64 2270897969802886507)), (7, (.int .u64 6620516959819538809))]) (.one .slc) (fun x1 w =>
  callS Tryd.prog 52 #[(.slice p0.a p0.len p0.cap)] [(.one .slc)] (fun r2 w =>
  loopS (σ := Sl × Int) (fun s3 w again4 =>
    cond (decide (s3.2 < (r2.len : Int)))
      (semS Tryd.prog (Instr.sliceAt 22 (.slice r2.a r2.len r2.cap) (some (.int .i64 s3.2)) (some (.int .i64 (IntKind.wrap .i64 (s3.2 + 128)))) none) (.one .slc) (fun x5 w =>
      callS Tryd.prog 53 #[(.slice s3.1.a s3.1.len s3.1.cap), (.slice x5.a x5.len x5.cap)] [(.one .slc)] (fun r6 w =>
      again4 (r6, IntKind.wrap .i64 (s3.2 + 128)) w) w) w)
      (loopS (σ := Sl × Int) (fun s7 w again8 =>
        cond (decide (s7.2 < 8))
          (loopS (σ := Sl × Int) (fun s9 w again10 =>
            cond (decide (s9.2 ≥ 0))
              (semS Tryd.prog (Instr.indexAt 88 (.slice s3.1.a s3.1.len s3.1.cap) (.int .i64 s7.2)) (.one .adr) (fun x11 w =>
              semS Tryd.prog (Instr.loadAt 87 (.pointer (some x11))) (.one (.int .u64)) (fun x12 w =>
              semS Tryd.prog (binS .shr 87 (.tmp 37) (.tmp 39) (.int .u64 x12) (.int .i64 (IntKind.wrap .i64 (8 * s9.2)))) (.one (.int .u64)) (fun x13 w =>
              semS Tryd.prog (Instr.buildSlice 22 1 #[(0, (.int .u8 (IntKind.wrap .u8 x13)))]) (.one .slc) (fun x14 w =>
              semS Tryd.prog (Builtin.append_ #[22, 22] 22 #[(.slice s9.1.a s9.1.len s9.1.cap), (.slice x14.a x14.len x14.cap)]) (.one .slc) (fun r15 w =>
              again10 (r15, IntKind.wrap .i64 (s9.2 - 1)) w) w) w) w) w) w)
              (again8 (s9.1, IntKind.wrap .i64 (s7.2 + 1)) w)) (s7.1, 7) w)
          (K s7.1 w)) (⟨none, 0, 0⟩, 0) w)) (x1, 0) w) w) w
theorem f37_ok {p0 : Sl} {K : Sl → World → Prop} {w : World} (h : f37 p0 K w) : callS Tryd.prog 37 #[(.slice p0.a p0.len p0.cap)] [(.one .slc)] K w :=
  calls_of_fn (args := [(.slice p0.a p0.len p0.cap)]) Tryd.f37 [] [] [] (.two .nil (.two .nil (.two .nil (.two (.two .nil (.one (.loop [(3, .slc), (5, (.int .i64))] .nil))) (.two .nil (.two (.two .nil (.one (.loop [(6, .slc), (7, (.int .i64))] (.two .nil (.two (.one (.two .nil (.one (.loop [(6, .slc), (8, (.int .i64))] .nil)))) .nil))))) .nil)))))) (by kernel_rfl) (by kernel_rfl)
    (Eq.mp (by kernel_rfl : f37 p0 K w = evFn Tryd.prog Tryd.f37 [] [] [] (.two .nil (.two .nil (.two .nil (.two (.two .nil (.one (.loop [(3, .slc), (5, (.int .i64))] .nil))) (.two .nil (.two (.two .nil (.one (.loop [(6, .slc), (7, (.int .i64))] (.two .nil (.two (.one (.two .nil (.one (.loop [(6, .slc), (8, (.int .i64))] .nil)))) .nil))))) .nil)))))) [(.slice p0.a p0.len p0.cap)] [(.one .slc)] K w) h)

/-- sallyport/sallyportref07.Digest -/
def f20 (p0 : Int) (p1 : Sl) (p2 : Sl) (K : Sl → World → Prop) (w : World) : Prop :=
  semS Tryd.prog (Instr.buildSlice 22 0 #[]) (.one .slc) (fun x1 w =>
  semS Tryd.prog (Builtin.append_ #[22, 22] 22 #[(.slice x1.a x1.len x1.cap), (.slice p1.a p1.len p1.cap)]) (.one .slc) (fun r2 w =>
  semS Tryd.prog (Builtin.append_ #[22, 22] 22 #[(.slice r2.a r2.len r2.cap), (.slice p2.a p2.len p2.cap)]) (.one .slc) (fun r3 w =>
  cond (p0 == 1)
    (callS Tryd.prog 36 #[(.slice r3.a r3.len r3.cap)] [(.one .slc)] (fun r4 w =>
    K r4 w) w)
    (callS Tryd.prog 37 #[(.slice r3.a r3.len r3.cap)] [(.one .slc)] (fun r5 w =>
    K r5 w) w)) w) w) w
theorem f20_ok {p0 : Int} {p1 : Sl} {p2 : Sl} {K : Sl → World → Prop} {w : World} (h : f20 p0 p1 p2 K w) : callS Tryd.prog 20 #[(.int .i64 p0), (.slice p1.a p1.len p1.cap), (.slice p2.a p2.len p2.cap)] [(.one .slc)] K w :=
  calls_of_fn (args := [(.int .i64 p0), (.slice p1.a p1.len p1.cap), (.slice p2.a p2.len p2.cap)]) Tryd.f20 [] [] [] .nil (by kernel_rfl) (by kernel_rfl)
    (Eq.mp (by kernel_rfl : f20 p0 p1 p2 K w = evFn Tryd.prog Tryd.f20 [] [] [] .nil [(.int .i64 p0), (.slice p1.a p1.len p1.cap), (.slice p2.a p2.len p2.cap)] [(.one .slc)] K w) h)

/-- sallyport/sallyportlaw09.anchor -/
def f11  (K : Bool → World → Prop) (w : World) : Prop :=
  semS Tryd.prog (Instr.buildSlice 22 3 #[(0, (.int .u8 97)), (1, (.int .u8 98)), (2, (.int .u8 99))]) (.one .slc) (fun x1 w =>
  semS Tryd.prog (convert 22 22 (.slice x1.a x1.len x1.cap)) (.one .slc) (fun x2 w =>
  callS Tryd.prog 14 #[(.int .i64 1), (.slice none 0 0), (.int .i64 64), (.slice x2.a x2.len x2.cap)] [(.one .slc), (.one .slc), (.one (.int .i64))] (fun r3 r4 r5 w =>
  semS Tryd.prog (Instr.makeSlice 22 (.int .i64 65) (.int .i64 65)) (.one .slc) (fun x6 w =>
  callS Tryd.prog 14 #[(.int .i64 1), (.slice none 0 0), (.int .i64 64), (.slice x6.a x6.len x6.cap)] [(.one .slc), (.one .slc), (.one (.int .i64))] (fun r7 r8 r9 w =>
  semS Tryd.prog (Instr.makeSlice 22 (.int .i64 64) (.int .i64 64)) (.one .slc) (fun x10 w =>
  semS Tryd.prog (Builtin.copy_ #[22, 9] 3 #[(.slice x10.a x10.len x10.cap), (.string (ByteArray.mk #[97, 98, 99]))]) (.one (.int .i64)) (fun r11 w =>
  drawS w fun C w =>
  cond (r5 == 0)
    (cond ((r3.len : Int) == 0)
      (semQ Tryd.prog C (convert 22 9 (.slice r4.a r4.len r4.cap)) (.one .str) (fun x12 =>
      callS Tryd.prog 20 #[(.int .i64 1), (.slice none 0 0), (.slice x10.a x10.len x10.cap)] [(.one .slc)] (fun r13 w =>
      moreS C w (fun C =>
      semQ Tryd.prog C (convert 22 9 (.slice r13.a r13.len r13.cap)) (.one .str) (fun x14 =>
      cond (x12.toList == x14.toList)
        (cond (r9 == 0)
          (K ((r7.len : Int) == 64) w)
          (K false w))
        (K false w)))) w))
      (K false w))
    (K false w)) w) w) w) w) w) w) w
theorem f11_ok  {K : Bool → World → Prop} {w : World} (h : f11  K w) : callS Tryd.prog 11 #[] [(.one .bool)] K w :=
  calls_of_fn (args := []) Tryd.f11 [] [] [] (.two .nil (.two .nil (.two .nil (.two .nil (.two .nil (.two (.draw [0, 1, 3, 7, 15, 31, 63, 127, 255, 511, 255, 1279, 3327, 8191, 16383, 32767, 65535, 131071, 262143, 524287, 1048575, 2097151, 4194303, 8388607, 16777215]) .nil)))))) (by kernel_rfl) (by kernel_rfl)
    (Eq.mp (by kernel_rfl : f11  K w = evFn Tryd.prog Tryd.f11 [] [] [] (.two .nil (.two .nil (.two .nil (.two .nil (.two .nil (.two (.draw [0, 1, 3, 7, 15, 31, 63, 127, 255, 511, 255, 1279, 3327, 8191, 16383, 32767, 65535, 131071, 262143, 524287, 1048575, 2097151, 4194303, 8388607, 16777215]) .nil)))))) [] [(.one .bool)] K w) h)

/-- sallyport/sallyportref07.Size -/
def f16 (p0 : Int) (K : Int → World → Prop) (w : World) : Prop :=
  cond (p0 == 1)
    (K 32 w)
    (cond (p0 == 2)
      (K 64 w)
      (K 0 w))
theorem f16_ok {p0 : Int} {K : Int → World → Prop} {w : World} (h : f16 p0 K w) : callS Tryd.prog 16 #[(.int .i64 p0)] [(.one (.int .i64))] K w :=
  calls_of_fn (args := [(.int .i64 p0)]) Tryd.f16 [] [] [] .nil (by kernel_rfl) (by kernel_rfl)
    (Eq.mp (by kernel_rfl : f16 p0 K w = evFn Tryd.prog Tryd.f16 [] [] [] .nil [(.int .i64 p0)] [(.one (.int .i64))] K w) h)

/-- (sallyport/sallyportref08.Shape).Right -/
def f26 (p0_0 : Int) (p0_1 : Int) (p0_2 : Int) (K : Bool → World → Prop) (w : World) : Prop :=
  semS Tryd.prog (Instr.box 27 (.agg #[(.int .i64 p0_0), (.int .i64 p0_1), (.int .i64 p0_2)])) (.one .adr) (fun x1 w =>
  semS Tryd.prog (Instr.loadAt 3 (.pointer (some (x1.add 0)))) (.one (.int .i64)) (fun x2 w =>
  joinS (σ := Bool) (fun b3 w =>
    joinS (σ := Bool) (fun b5 w =>
      joinS (σ := Bool) (fun b7 w =>
        cond b7
          (K false w)
          (loopS (σ := Int) (fun x9 w again10 =>
            cond (decide (x9 ≤ 4096))
              (semS Tryd.prog (Instr.loadAt 3 (.pointer (some (x1.add 1)))) (.one (.int .i64)) (fun x11 w =>
              cond (x11 == x9)
                (K true w)
                (again10 (IntKind.wrap .i64 (2 * x9)) w)) w)
              (K false w)) 64 w)) fun J8 =>
      cond b5
        (J8 true w)
        (semS Tryd.prog (Instr.loadAt 3 (.pointer (some (x1.add 1)))) (.one (.int .i64)) (fun x12 w =>
          semS Tryd.prog (Instr.loadAt 3 (.pointer (some (x1.add 2)))) (.one (.int .i64)) (fun x13 w =>
          J8 (decide (x12 < (IntKind.wrap .i64 (2 * x13)))) w) w) w)) fun J6 =>
    cond b3
      (J6 true w)
      (semS Tryd.prog (Instr.loadAt 3 (.pointer (some (x1.add 2)))) (.one (.int .i64)) (fun x14 w =>
        joinS (σ := Bool) (fun b15 w =>
          J6 b15 w) fun J16 =>
        cond (x14 != 32)
          (semS Tryd.prog (Instr.loadAt 3 (.pointer (some (x1.add 2)))) (.one (.int .i64)) (fun x17 w =>
            J16 (x17 != 64) w) w)
          (J16 false w)) w)) fun J4 =>
  cond (decide (x2 < 1))
    (J4 true w)
    (semS Tryd.prog (Instr.loadAt 3 (.pointer (some (x1.add 0)))) (.one (.int .i64)) (fun x18 w =>
      J4 (decide (x18 > 1099511627776)) w) w)) w) w
theorem f26_ok {p0_0 : Int} {p0_1 : Int} {p0_2 : Int} {K : Bool → World → Prop} {w : World} (h : f26 p0_0 p0_1 p0_2 K w) : callS Tryd.prog 26 #[(.agg #[(.int .i64 p0_0), (.int .i64 p0_1), (.int .i64 p0_2)])] [(.one .bool)] K w :=
  calls_of_fn (args := [(.agg #[(.int .i64 p0_0), (.int .i64 p0_1), (.int .i64 p0_2)])]) Tryd.f26 [] [] [] (.two .nil (.two .nil (.two (.two .nil (.one (.loop [(3, (.int .i64))] .nil))) .nil))) (by kernel_rfl) (by kernel_rfl)
    (Eq.mp (by kernel_rfl : f26 p0_0 p0_1 p0_2 K w = evFn Tryd.prog Tryd.f26 [] [] [] (.two .nil (.two .nil (.two (.two .nil (.one (.loop [(3, (.int .i64))] .nil))) .nil))) [(.agg #[(.int .i64 p0_0), (.int .i64 p0_1), (.int .i64 p0_2)])] [(.one .bool)] K w) h)

def f12_t1 (x2 : Addr) (z19 : Bool) (K : Int → Int → Int → Bool → World → Prop) (w : World) : Prop :=
  ∃ v20, (loadVar 27 x2).run Tryd.prog w = .ok v20 w ∧ decR [(.agg [(.int .i64), (.int .i64), (.int .i64)]), (.one .bool)] (.tuple #[v20, (.bool z19)]) K fun r => r w

def f12_t2 (z10 : Addr) (x1 : Addr) (x2 : Addr) (K : Int → Int → Int → Bool → World → Prop) (w : World) : Prop :=
  drawS w fun C w =>
  semQ Tryd.prog C (Instr.loadAt 27 (.pointer (some z10))) (.agg [(.int .i64), (.int .i64), (.int .i64)]) (fun x11 x12 x13 =>
  semQ Tryd.prog C (Instr.loadAt 27 (.pointer (some z10))) (.agg [(.int .i64), (.int .i64), (.int .i64)]) (fun x14 x15 x16 =>
  callS Tryd.prog 26 #[(.agg #[(.int .i64 x14), (.int .i64 x15), (.int .i64 x16)])] [(.one .bool)] (fun r17 w =>
  moreS C w (fun C =>
  cond r17
    (semQ Tryd.prog C (Instr.loadAt 22 (.pointer (some (x1.add 2)))) (.one .slc) (fun x18 =>
    semU Tryd.prog (Instr.storeAt 27 (.pointer (some x2)) (.agg #[(.int .i64 x11), (.int .i64 x12), (.int .i64 x13)])) (fun w =>
    moreS C w (fun C =>
    f12_t1 x2 (decide ((x18.len : Int) ≤ 64)) K w)) w))
    (semU Tryd.prog (Instr.storeAt 27 (.pointer (some x2)) (.agg #[(.int .i64 x11), (.int .i64 x12), (.int .i64 x13)])) (fun w =>
    moreS C w (fun C =>
    f12_t1 x2 false K w)) w))) w))

/-- (sallyport/sallyportlaw09.Seed).shape -/
def f12 (p0_0 : Int) (p0_1 : Int) (p0_2 : Sl) (p0_3 : Sl) (K : Int → Int → Int → Bool → World → Prop) (w : World) : Prop :=
  semS Tryd.prog (Instr.box 24 (.agg #[(.int .i64 p0_0), (.int .i64 p0_1), (.slice p0_2.a p0_2.len p0_2.cap), (.slice p0_3.a p0_3.len p0_3.cap)])) (.one .adr) (fun x1 w =>
  semS Tryd.prog (Instr.alloc 27 true (.tuple #[])) (.one .adr) (fun x2 w =>
  drawS w fun C w =>
  semQ Tryd.prog C (Instr.loadAt 22 (.pointer (some (x1.add 3)))) (.one .slc) (fun x3 =>
  semQ Tryd.prog C (Instr.loadAt 3 (.pointer (some (x1.add 1)))) (.one (.int .i64)) (fun x4 =>
  semQ Tryd.prog C (Instr.loadAt 3 (.pointer (some (x1.add 0)))) (.one (.int .i64)) (fun x5 =>
  (callS Tryd.prog 16 #[(.int .i64 x5)] [(.one (.int .i64))] (fun r6 w =>
  moreS C w (fun C =>
  semS Tryd.prog (Instr.alloc 27 true (.tuple #[])) (.one .adr) (fun x7 w =>
    moreS C w (fun C =>
    semU Tryd.prog (Instr.storeAt 27 (.pointer (some x7)) (.agg #[(.int .i64 (x3.len : Int)), (.int .i64 x4), (.int .i64 r6)])) (fun w =>
    f12_t2 x7 x1 x2 K w) w)) w)) w) ∧
  (semS Tryd.prog (Instr.alloc 27 true (.tuple #[])) (.one .adr) (fun x8 w =>
  moreS C w (fun C =>
  callS Tryd.prog 16 #[(.int .i64 x5)] [(.one (.int .i64))] (fun r9 w =>
    moreS C w (fun C =>
    semU Tryd.prog (Instr.storeAt 27 (.pointer (some x8)) (.agg #[(.int .i64 (x3.len : Int)), (.int .i64 x4), (.int .i64 r9)])) (fun w =>
    f12_t2 x8 x1 x2 K w) w)) w)) w))))) w) w
theorem f12_ok {p0_0 : Int} {p0_1 : Int} {p0_2 : Sl} {p0_3 : Sl} {K : Int → Int → Int → Bool → World → Prop} {w : World} (h : f12 p0_0 p0_1 p0_2 p0_3 K w) : callS Tryd.prog 12 #[(.agg #[(.int .i64 p0_0), (.int .i64 p0_1), (.slice p0_2.a p0_2.len p0_2.cap), (.slice p0_3.a p0_3.len p0_3.cap)])] [(.agg [(.int .i64), (.int .i64), (.int .i64)]), (.one .bool)] K w :=
  calls_of_fn (args := [(.agg #[(.int .i64 p0_0), (.int .i64 p0_1), (.slice p0_2.a p0_2.len p0_2.cap), (.slice p0_3.a p0_3.len p0_3.cap)])]) Tryd.f12 [] [] [] (.two .nil (.two (.draw [0, 1, 3, 0, 8, 0, 32, 96, 255, 0, 1023]) (.two (.draw [0, 0, 2, 6, 14, 30, 62, 126, 254, 15, 1023]) .nil))) (by kernel_rfl) (by kernel_rfl)
    (Eq.mp (by kernel_rfl : f12 p0_0 p0_1 p0_2 p0_3 K w = evFn Tryd.prog Tryd.f12 [] [] [] (.two .nil (.two (.draw [0, 1, 3, 0, 8, 0, 32, 96, 255, 0, 1023]) (.two (.draw [0, 0, 2, 6, 14, 30, 62, 126, 254, 15, 1023]) .nil))) [(.agg #[(.int .i64 p0_0), (.int .i64 p0_1), (.slice p0_2.a p0_2.len p0_2.cap), (.slice p0_3.a p0_3.len p0_3.cap)])] [(.agg [(.int .i64), (.int .i64), (.int .i64)]), (.one .bool)] K w) h)

/-- (sallyport/sallyportlaw09.Seed).small -/
def f13 (p0_0 : Int) (p0_1 : Int) (p0_2 : Sl) (p0_3 : Sl) (K : Bool → World → Prop) (w : World) : Prop :=
  semS Tryd.prog (Instr.box 24 (.agg #[(.int .i64 p0_0), (.int .i64 p0_1), (.slice p0_2.a p0_2.len p0_2.cap), (.slice p0_3.a p0_3.len p0_3.cap)])) (.one .adr) (fun x1 w =>
  semS Tryd.prog (Instr.loadAt 22 (.pointer (some (x1.add 2)))) (.one .slc) (fun x2 w =>
  joinS (σ := Bool) (fun b3 w =>
    K b3 w) fun J4 =>
  cond (decide ((x2.len : Int) ≤ 100))
    (semS Tryd.prog (Instr.loadAt 22 (.pointer (some (x1.add 3)))) (.one .slc) (fun x5 w =>
      J4 (decide ((x5.len : Int) ≤ 1500)) w) w)
    (J4 false w)) w) w
theorem f13_ok {p0_0 : Int} {p0_1 : Int} {p0_2 : Sl} {p0_3 : Sl} {K : Bool → World → Prop} {w : World} (h : f13 p0_0 p0_1 p0_2 p0_3 K w) : callS Tryd.prog 13 #[(.agg #[(.int .i64 p0_0), (.int .i64 p0_1), (.slice p0_2.a p0_2.len p0_2.cap), (.slice p0_3.a p0_3.len p0_3.cap)])] [(.one .bool)] K w :=
  calls_of_fn (args := [(.agg #[(.int .i64 p0_0), (.int .i64 p0_1), (.slice p0_2.a p0_2.len p0_2.cap), (.slice p0_3.a p0_3.len p0_3.cap)])]) Tryd.f13 [] [] [] .nil (by kernel_rfl) (by kernel_rfl)
    (Eq.mp (by kernel_rfl : f13 p0_0 p0_1 p0_2 p0_3 K w = evFn Tryd.prog Tryd.f13 [] [] [] .nil [(.agg #[(.int .i64 p0_0), (.int .i64 p0_1), (.slice p0_2.a p0_2.len p0_2.cap), (.slice p0_3.a p0_3.len p0_3.cap)])] [(.one .bool)] K w) h)

def f3_t1 (z23 : Bool) (K : Bool → World → Prop) (x1 : Addr) (p1 : Int) (w : World) : Prop :=
  cond z23
    (K true w)
    (semS Tryd.prog (Instr.loadAt 3 (.pointer (some (x1.add 0)))) (.one (.int .i64)) (fun x24 w =>
    semS Tryd.prog (Instr.loadAt 22 (.pointer (some (x1.add 2)))) (.one .slc) (fun x25 w =>
    semS Tryd.prog (Instr.loadAt 3 (.pointer (some (x1.add 1)))) (.one (.int .i64)) (fun x26 w =>
    semS Tryd.prog (Instr.loadAt 22 (.pointer (some (x1.add 3)))) (.one .slc) (fun x27 w =>
    callS Tryd.prog 14 #[(.int .i64 x24), (.slice x25.a x25.len x25.cap), (.int .i64 x26), (.slice x27.a x27.len x27.cap)] [(.one .slc), (.one .slc), (.one (.int .i64))] (fun r28 r29 r30 w =>
    drawS w fun C w =>
    semQ Tryd.prog C (Instr.loadAt 3 (.pointer (some (x1.add 0)))) (.one (.int .i64)) (fun x31 =>
    semQ Tryd.prog C (Instr.loadAt 22 (.pointer (some (x1.add 2)))) (.one .slc) (fun x32 =>
    semQ Tryd.prog C (Instr.loadAt 3 (.pointer (some (x1.add 1)))) (.one (.int .i64)) (fun x33 =>
    semQ Tryd.prog C (Instr.loadAt 22 (.pointer (some (x1.add 3)))) (.one .slc) (fun x34 =>
    semS Tryd.prog (Instr.buildSlice 22 0 #[]) (.one .slc) (fun x35 w =>
    moreS C w (fun C =>
    semS Tryd.prog (Builtin.append_ #[22, 22] 22 #[(.slice x35.a x35.len x35.cap), (.slice x34.a x34.len x34.cap)]) (.one .slc) (fun r36 w =>
    moreS C w (fun C =>
    semS Tryd.prog (Builtin.append_ #[22, 3] 22 #[(.slice r36.a r36.len r36.cap), (.int .i64 p1)]) (.one .slc) (fun r37 w =>
    moreS C w (fun C =>
    callS Tryd.prog 14 #[(.int .i64 x31), (.slice x32.a x32.len x32.cap), (.int .i64 x33), (.slice r37.a r37.len r37.cap)] [(.one .slc), (.one .slc), (.one (.int .i64))] (fun r38 r39 r40 w =>
    joinS (σ := Bool) (fun b41 w =>
      joinS (σ := Bool) (fun b43 w =>
        K b43 w) fun J44 =>
      cond b41
        (semS Tryd.prog (convert 22 9 (.slice r29.a r29.len r29.cap)) (.one .str) (fun x45 w =>
          semS Tryd.prog (convert 22 9 (.slice r39.a r39.len r39.cap)) (.one .str) (fun x46 w =>
          J44 (x45.toList == x46.toList) w) w) w)
        (J44 false w)) fun J42 =>
    cond ((r30 == 0) && (r40 == 0))
      (semS Tryd.prog (convert 22 9 (.slice r28.a r28.len r28.cap)) (.one .str) (fun x47 w =>
        semS Tryd.prog (convert 22 9 (.slice r38.a r38.len r38.cap)) (.one .str) (fun x48 w =>
        J42 (x47.toList == x48.toList) w) w) w)
      (J42 false w)) w)) w)) w)) w))))) w) w) w) w) w)

/-- sallyport/sallyportlaw09.GrovePads -/
def f3 (p0_0 : Int) (p0_1 : Int) (p0_2 : Sl) (p0_3 : Sl) (p1 : Int) (K : Bool → World → Prop) (w : World) : Prop :=
  semS Tryd.prog (Instr.box 24 (.agg #[(.int .i64 p0_0), (.int .i64 p0_1), (.slice p0_2.a p0_2.len p0_2.cap), (.slice p0_3.a p0_3.len p0_3.cap)])) (.one .adr) (fun x1 w =>
  callS Tryd.prog 11 #[] [(.one .bool)] (fun r2 w =>
  cond (!r2)
    (K false w)
    (semS Tryd.prog (Instr.loadAt 24 (.pointer (some x1))) (.agg [(.int .i64), (.int .i64), .slc, .slc]) (fun x3 x4 x5 x6 w =>
    callS Tryd.prog 12 #[(.agg #[(.int .i64 x3), (.int .i64 x4), (.slice x5.a x5.len x5.cap), (.slice x6.a x6.len x6.cap)])] [(.agg [(.int .i64), (.int .i64), (.int .i64)]), (.one .bool)] (fun r7 r8 r9 r10 w =>
    semS Tryd.prog (Instr.alloc 27 true (.tuple #[])) (.one .adr) (fun x11 w =>
    semU Tryd.prog (Instr.storeAt 27 (.pointer (some x11)) (.agg #[(.int .i64 r7), (.int .i64 r8), (.int .i64 r9)])) (fun w =>
    drawS w fun C w =>
    semQ Tryd.prog C (Instr.loadAt 24 (.pointer (some x1))) (.agg [(.int .i64), (.int .i64), .slc, .slc]) (fun x12 x13 x14 x15 =>
    callS Tryd.prog 13 #[(.agg #[(.int .i64 x12), (.int .i64 x13), (.slice x14.a x14.len x14.cap), (.slice x15.a x15.len x15.cap)])] [(.one .bool)] (fun r16 w =>
    moreS C w (fun C =>
    cond (!r16)
      (f3_t1 true K x1 p1 w)
      (cond (!r10)
        (f3_t1 true K x1 p1 w)
        (cond (decide (p1 < 0))
          (f3_t1 true K x1 p1 w)
          (semQ Tryd.prog C (Instr.loadAt 3 (.pointer (some (x1.add 1)))) (.one (.int .i64)) (fun x17 =>
          semQ Tryd.prog C (Instr.loadAt 22 (.pointer (some (x1.add 3)))) (.one .slc) (fun x18 =>
          semQ Tryd.prog C (Instr.loadAt 3 (.pointer (some (x1.add 1)))) (.one (.int .i64)) (fun x19 =>
          semQ Tryd.prog C (binS .rem 3 (.tmp 37) (.tmp 39) (.int .i64 (x18.len : Int)) (.int .i64 x19)) (.one (.int .i64)) (fun x20 =>
          semQ Tryd.prog C (Instr.loadAt 3 (.pointer (some (x1.add 1)))) (.one (.int .i64)) (fun x21 =>
          semQ Tryd.prog C (binS .rem 3 (.tmp 41) (.tmp 43) (.int .i64 (IntKind.wrap .i64 (x17 - x20))) (.int .i64 x21)) (.one (.int .i64)) (fun x22 =>
          f3_t1 (decide (p1 > x22)) K x1 p1 w))))))))))) w)) w) w) w) w)) w) w
theorem f3_ok {p0_0 : Int} {p0_1 : Int} {p0_2 : Sl} {p0_3 : Sl} {p1 : Int} {K : Bool → World → Prop} {w : World} (h : f3 p0_0 p0_1 p0_2 p0_3 p1 K w) : callS Tryd.prog 3 #[(.agg #[(.int .i64 p0_0), (.int .i64 p0_1), (.slice p0_2.a p0_2.len p0_2.cap), (.slice p0_3.a p0_3.len p0_3.cap)]), (.int .i64 p1)] [(.one .bool)] K w :=
  calls_of_fn (args := [(.agg #[(.int .i64 p0_0), (.int .i64 p0_1), (.slice p0_2.a p0_2.len p0_2.cap), (.slice p0_3.a p0_3.len p0_3.cap)]), (.int .i64 p1)]) Tryd.f3 [] [] [] (.two .nil (.two .nil (.two (.two .nil (.two (.draw [0, 1, 3, 7, 15, 31, 63, 127, 255, 511, 1023, 2047, 4095, 4095, 12287, 4095, 36863, 102399, 4095, 266239, 1019903, 2093055, 4095, 4198399, 16773119, 33554431, 67108863]) .nil)) (.two .nil (.two (.draw [0, 1, 0, 4, 0, 16, 0, 0, 128, 448, 0, 1984, 4095, 8191, 16383, 16383, 16383, 32767, 196607, 524287]) .nil))))) (by kernel_rfl) (by kernel_rfl)
    (Eq.mp (by kernel_rfl : f3 p0_0 p0_1 p0_2 p0_3 p1 K w = evFn Tryd.prog Tryd.f3 [] [] [] (.two .nil (.two .nil (.two (.two .nil (.two (.draw [0, 1, 3, 7, 15, 31, 63, 127, 255, 511, 1023, 2047, 4095, 4095, 12287, 4095, 36863, 102399, 4095, 266239, 1019903, 2093055, 4095, 4198399, 16773119, 33554431, 67108863]) .nil)) (.two .nil (.two (.draw [0, 1, 0, 4, 0, 16, 0, 0, 128, 448, 0, 1984, 4095, 8191, 16383, 16383, 16383, 32767, 196607, 524287]) .nil))))) [(.agg #[(.int .i64 p0_0), (.int .i64 p0_1), (.slice p0_2.a p0_2.len p0_2.cap), (.slice p0_3.a p0_3.len p0_3.cap)]), (.int .i64 p1)] [(.one .bool)] K w) h)

/-- sallyport/grove.Root -/
def f15 (p0 : Int) (p1 : Sl) (p2 : Int) (p3 : Sl) (K : Sl → Int → World → Prop) (w : World) : Prop :=
  callS Tryd.prog 14 #[(.int .i64 p0), (.slice p1.a p1.len p1.cap), (.int .i64 p2), (.slice p3.a p3.len p3.cap)] [(.one .slc), (.one .slc), (.one (.int .i64))] (fun r1 r2 r3 w =>
  K r2 r3 w) w
theorem f15_ok {p0 : Int} {p1 : Sl} {p2 : Int} {p3 : Sl} {K : Sl → Int → World → Prop} {w : World} (h : f15 p0 p1 p2 p3 K w) : callS Tryd.prog 15 #[(.int .i64 p0), (.slice p1.a p1.len p1.cap), (.int .i64 p2), (.slice p3.a p3.len p3.cap)] [(.one .slc), (.one (.int .i64))] K w :=
  calls_of_fn (args := [(.int .i64 p0), (.slice p1.a p1.len p1.cap), (.int .i64 p2), (.slice p3.a p3.len p3.cap)]) Tryd.f15 [] [] [] .nil (by kernel_rfl) (by kernel_rfl)
    (Eq.mp (by kernel_rfl : f15 p0 p1 p2 p3 K w = evFn Tryd.prog Tryd.f15 [] [] [] .nil [(.int .i64 p0), (.slice p1.a p1.len p1.cap), (.int .i64 p2), (.slice p3.a p3.len p3.cap)] [(.one .slc), (.one (.int .i64))] K w) h)

/-- sallyport/sallyportref08.up -/
def f39 (p0 : Int) (p1 : Int) (K : Int → World → Prop) (w : World) : Prop :=
  semS Tryd.prog (binS .rem 3 (.tmp 5) (.tmp 6) (.int .i64 p0) (.int .i64 p1)) (.one (.int .i64)) (fun x1 w =>
  cond (x1 == 0)
    (semS Tryd.prog (binS .quo 3 (.tmp 9) (.tmp 10) (.int .i64 p0) (.int .i64 p1)) (.one (.int .i64)) (fun x2 w =>
    K x2 w) w)
    (semS Tryd.prog (binS .quo 3 (.tmp 12) (.tmp 13) (.int .i64 p0) (.int .i64 p1)) (.one (.int .i64)) (fun x3 w =>
    K (IntKind.wrap .i64 (x3 + 1)) w) w)) w
theorem f39_ok {p0 : Int} {p1 : Int} {K : Int → World → Prop} {w : World} (h : f39 p0 p1 K w) : callS Tryd.prog 39 #[(.int .i64 p0), (.int .i64 p1)] [(.one (.int .i64))] K w :=
  calls_of_fn (args := [(.int .i64 p0), (.int .i64 p1)]) Tryd.f39 [] [] [] .nil (by kernel_rfl) (by kernel_rfl)
    (Eq.mp (by kernel_rfl : f39 p0 p1 K w = evFn Tryd.prog Tryd.f39 [] [] [] .nil [(.int .i64 p0), (.int .i64 p1)] [(.one (.int .i64))] K w) h)

/-- (sallyport/sallyportref08.Shape).Counts -/
def f22 (p0_0 : Int) (p0_1 : Int) (p0_2 : Int) (K : Sl → World → Prop) (w : World) : Prop :=
  semS Tryd.prog (Instr.box 27 (.agg #[(.int .i64 p0_0), (.int .i64 p0_1), (.int .i64 p0_2)])) (.one .adr) (fun x1 w =>
  semS Tryd.prog (Instr.loadAt 3 (.pointer (some (x1.add 0)))) (.one (.int .i64)) (fun x2 w =>
  semS Tryd.prog (Instr.loadAt 3 (.pointer (some (x1.add 1)))) (.one (.int .i64)) (fun x3 w =>
  callS Tryd.prog 39 #[(.int .i64 x2), (.int .i64 x3)] [(.one (.int .i64))] (fun r4 w =>
  semS Tryd.prog (Instr.buildSlice 49 1 #[(0, (.int .i64 r4))]) (.one .slc) (fun x5 w =>
  loopS (σ := Int × Sl) (fun s6 w again7 =>
    cond (decide (s6.1 > 1))
      (semS Tryd.prog (Instr.loadAt 3 (.pointer (some (x1.add 1)))) (.one (.int .i64)) (fun x8 w =>
      semS Tryd.prog (Instr.loadAt 3 (.pointer (some (x1.add 2)))) (.one (.int .i64)) (fun x9 w =>
      semS Tryd.prog (binS .quo 3 (.tmp 16) (.tmp 18) (.int .i64 x8) (.int .i64 x9)) (.one (.int .i64)) (fun x10 w =>
      callS Tryd.prog 39 #[(.int .i64 s6.1), (.int .i64 x10)] [(.one (.int .i64))] (fun r11 w =>
      semS Tryd.prog (Instr.buildSlice 49 1 #[(0, (.int .i64 r11))]) (.one .slc) (fun x12 w =>
      semS Tryd.prog (Builtin.append_ #[49, 49] 49 #[(.slice s6.2.a s6.2.len s6.2.cap), (.slice x12.a x12.len x12.cap)]) (.one .slc) (fun r13 w =>
      again7 (r11, r13) w) w) w) w) w) w) w)
      (K s6.2 w)) (r4, x5) w) w) w) w) w) w
theorem f22_ok {p0_0 : Int} {p0_1 : Int} {p0_2 : Int} {K : Sl → World → Prop} {w : World} (h : f22 p0_0 p0_1 p0_2 K w) : callS Tryd.prog 22 #[(.agg #[(.int .i64 p0_0), (.int .i64 p0_1), (.int .i64 p0_2)])] [(.one .slc)] K w :=
  calls_of_fn (args := [(.agg #[(.int .i64 p0_0), (.int .i64 p0_1), (.int .i64 p0_2)])]) Tryd.f22 [] [] [] (.two .nil (.two .nil (.two .nil (.two (.one (.loop [(3, (.int .i64)), (4, .slc)] .nil)) .nil)))) (by kernel_rfl) (by kernel_rfl)
    (Eq.mp (by kernel_rfl : f22 p0_0 p0_1 p0_2 K w = evFn Tryd.prog Tryd.f22 [] [] [] (.two .nil (.two .nil (.two .nil (.two (.one (.loop [(3, (.int .i64)), (4, .slc)] .nil)) .nil)))) [(.agg #[(.int .i64 p0_0), (.int .i64 p0_1), (.int .i64 p0_2)])] [(.one .slc)] K w) h)

/-- sallyport/sallyportref09.Block -/
def f33 (p0 : Int) (p1 : Sl) (p2_0 : Int) (p2_1 : Int) (p2_2 : Int) (p3 : Sl) (p4_0 : Int) (p4_1 : Int) (K : Sl → World → Prop) (w : World) : Prop :=
  semS Tryd.prog (Instr.box 27 (.agg #[(.int .i64 p2_0), (.int .i64 p2_1), (.int .i64 p2_2)])) (.one .adr) (fun x1 w =>
  semS Tryd.prog (Instr.box 55 (.agg #[(.int .i64 p4_0), (.int .i64 p4_1)])) (.one .adr) (fun x2 w =>
  semS Tryd.prog (Instr.loadAt 3 (.pointer (some (x1.add 1)))) (.one (.int .i64)) (fun x3 w =>
  semS Tryd.prog (Instr.makeSlice 22 (.int .i64 x3) (.int .i64 x3)) (.one .slc) (fun x4 w =>
  semS Tryd.prog (Instr.loadAt 3 (.pointer (some (x2.add 1)))) (.one (.int .i64)) (fun x5 w =>
  cond (x5 == 0)
    (loopS (σ := Int) (fun x6 w again7 =>
      semS Tryd.prog (Instr.loadAt 3 (.pointer (some (x1.add 1)))) (.one (.int .i64)) (fun x8 w =>
      joinS (σ := Bool) (fun b9 w =>
        cond b9
          (semS Tryd.prog (Instr.loadAt 3 (.pointer (some (x2.add 0)))) (.one (.int .i64)) (fun x11 w =>
          semS Tryd.prog (Instr.loadAt 3 (.pointer (some (x1.add 1)))) (.one (.int .i64)) (fun x12 w =>
          semS Tryd.prog (Instr.indexAt 22 (.slice p3.a p3.len p3.cap) (.int .i64 (IntKind.wrap .i64 ((IntKind.wrap .i64 (x11 * x12)) + x6)))) (.one .adr) (fun x13 w =>
          semS Tryd.prog (Instr.loadAt 5 (.pointer (some x13))) (.one (.int .u8)) (fun x14 w =>
          semS Tryd.prog (Instr.indexAt 22 (.slice x4.a x4.len x4.cap) (.int .i64 x6)) (.one .adr) (fun x15 w =>
          semU Tryd.prog (Instr.storeAt 5 (.pointer (some x15)) (.int .u8 x14)) (fun w =>
          again7 (IntKind.wrap .i64 (x6 + 1)) w) w) w) w) w) w) w)
          (K x4 w)) fun J10 =>
      cond (decide (x6 < x8))
        (semS Tryd.prog (Instr.loadAt 3 (.pointer (some (x2.add 0)))) (.one (.int .i64)) (fun x16 w =>
          semS Tryd.prog (Instr.loadAt 3 (.pointer (some (x1.add 1)))) (.one (.int .i64)) (fun x17 w =>
          J10 (decide ((IntKind.wrap .i64 ((IntKind.wrap .i64 (x16 * x17)) + x6)) < (p3.len : Int))) w) w) w)
        (J10 false w)) w) 0 w)
    (drawS w fun C w =>
    semQ Tryd.prog C (Instr.loadAt 27 (.pointer (some x1))) (.agg [(.int .i64), (.int .i64), (.int .i64)]) (fun x18 x19 x20 =>
    semQ Tryd.prog C (Instr.loadAt 3 (.pointer (some (x2.add 1)))) (.one (.int .i64)) (fun x21 =>
    callS Tryd.prog 22 #[(.agg #[(.int .i64 x18), (.int .i64 x19), (.int .i64 x20)])] [(.one .slc)] (fun r22 w =>
    moreS C w (fun C =>
    semQ Tryd.prog C (Instr.indexAt 49 (.slice r22.a r22.len r22.cap) (.int .i64 (IntKind.wrap .i64 (x21 - 1)))) (.one .adr) (fun x23 =>
    semQ Tryd.prog C (Instr.loadAt 3 (.pointer (some x23))) (.one (.int .i64)) (fun x24 =>
    semS Tryd.prog (Instr.loadAt 3 (.pointer (some (x1.add 1)))) (.one (.int .i64)) (fun x25 w =>
    semS Tryd.prog (Instr.loadAt 3 (.pointer (some (x1.add 2)))) (.one (.int .i64)) (fun x26 w =>
    semS Tryd.prog (binS .quo 3 (.tmp 65) (.tmp 67) (.int .i64 x25) (.int .i64 x26)) (.one (.int .i64)) (fun x27 w =>
    loopS (σ := Int) (fun x28 w again29 =>
      joinS (σ := Bool) (fun b30 w =>
        cond b30
          (semS Tryd.prog (Instr.loadAt 27 (.pointer (some x1))) (.agg [(.int .i64), (.int .i64), (.int .i64)]) (fun x32 x33 x34 w =>
          semS Tryd.prog (Instr.loadAt 3 (.pointer (some (x2.add 0)))) (.one (.int .i64)) (fun x35 w =>
          semS Tryd.prog (Instr.loadAt 3 (.pointer (some (x2.add 1)))) (.one (.int .i64)) (fun x36 w =>
          callS Tryd.prog 33 #[(.int .i64 p0), (.slice p1.a p1.len p1.cap), (.agg #[(.int .i64 x32), (.int .i64 x33), (.int .i64 x34)]), (.slice p3.a p3.len p3.cap), (.agg #[(.int .i64 (IntKind.wrap .i64 ((IntKind.wrap .i64 (x35 * x27)) + x28))), (.int .i64 (IntKind.wrap .i64 (x36 - 1)))])] [(.one .slc)] (fun r37 w =>
          callS Tryd.prog 20 #[(.int .i64 p0), (.slice p1.a p1.len p1.cap), (.slice r37.a r37.len r37.cap)] [(.one .slc)] (fun r38 w =>
          loopS (σ := Int) (fun x39 w again40 =>
            cond (decide (x39 < (r38.len : Int)))
              (drawS w fun C w =>
              semQ Tryd.prog C (Instr.loadAt 3 (.pointer (some (x1.add 2)))) (.one (.int .i64)) (fun x41 =>
              semQ Tryd.prog C (Instr.indexAt 22 (.slice r38.a r38.len r38.cap) (.int .i64 x39)) (.one .adr) (fun x42 =>
              semQ Tryd.prog C (Instr.loadAt 5 (.pointer (some x42))) (.one (.int .u8)) (fun x43 =>
              semQ Tryd.prog C (Instr.indexAt 22 (.slice x4.a x4.len x4.cap) (.int .i64 (IntKind.wrap .i64 ((IntKind.wrap .i64 (x28 * x41)) + x39)))) (.one .adr) (fun x44 =>
              semU Tryd.prog (Instr.storeAt 5 (.pointer (some x44)) (.int .u8 x43)) (fun w =>
              again40 (IntKind.wrap .i64 (x39 + 1)) w) w)))))
              (again29 (IntKind.wrap .i64 (x28 + 1)) w)) 0 w) w) w) w) w) w)
          (K x4 w)) fun J31 =>
      cond (decide (x28 < x27))
        (semS Tryd.prog (Instr.loadAt 3 (.pointer (some (x2.add 0)))) (.one (.int .i64)) (fun x45 w =>
          J31 (decide ((IntKind.wrap .i64 ((IntKind.wrap .i64 (x45 * x27)) + x28)) < x24)) w) w)
        (J31 false w)) 0 w) w) w) w)))) w)))) w) w) w) w) w
theorem f33_ok {p0 : Int} {p1 : Sl} {p2_0 : Int} {p2_1 : Int} {p2_2 : Int} {p3 : Sl} {p4_0 : Int} {p4_1 : Int} {K : Sl → World → Prop} {w : World} (h : f33 p0 p1 p2_0 p2_1 p2_2 p3 p4_0 p4_1 K w) : callS Tryd.prog 33 #[(.int .i64 p0), (.slice p1.a p1.len p1.cap), (.agg #[(.int .i64 p2_0), (.int .i64 p2_1), (.int .i64 p2_2)]), (.slice p3.a p3.len p3.cap), (.agg #[(.int .i64 p4_0), (.int .i64 p4_1)])] [(.one .slc)] K w :=
  calls_of_fn (args := [(.int .i64 p0), (.slice p1.a p1.len p1.cap), (.agg #[(.int .i64 p2_0), (.int .i64 p2_1), (.int .i64 p2_2)]), (.slice p3.a p3.len p3.cap), (.agg #[(.int .i64 p4_0), (.int .i64 p4_1)])]) Tryd.f33 [] [] [] (.two .nil (.two .nil (.two (.two .nil (.two (.two (.two .nil (.one (.loop [(12, (.int .i64))] .nil))) .nil) .nil)) (.two (.draw [0, 1, 0, 4, 12, 31, 63, 127]) (.two .nil (.two (.two .nil (.one (.loop [(15, (.int .i64))] (.two .nil (.two (.one (.two .nil (.two .nil (.two .nil (.one (.loop [(18, (.int .i64))] (.two .nil (.two (.one (.draw [0, 0, 0, 4, 14, 0, 62, 0, 0, 384, 896, 2047, 4095])) .nil)))))))) .nil))))) .nil)))))) (by kernel_rfl) (by kernel_rfl)
    (Eq.mp (by kernel_rfl : f33 p0 p1 p2_0 p2_1 p2_2 p3 p4_0 p4_1 K w = evFn Tryd.prog Tryd.f33 [] [] [] (.two .nil (.two .nil (.two (.two .nil (.two (.two (.two .nil (.one (.loop [(12, (.int .i64))] .nil))) .nil) .nil)) (.two (.draw [0, 1, 0, 4, 12, 31, 63, 127]) (.two .nil (.two (.two .nil (.one (.loop [(15, (.int .i64))] (.two .nil (.two (.one (.two .nil (.two .nil (.two .nil (.one (.loop [(18, (.int .i64))] (.two .nil (.two (.one (.draw [0, 0, 0, 4, 14, 0, 62, 0, 0, 384, 896, 2047, 4095])) .nil)))))))) .nil))))) .nil)))))) [(.int .i64 p0), (.slice p1.a p1.len p1.cap), (.agg #[(.int .i64 p2_0), (.int .i64 p2_1), (.int .i64 p2_2)]), (.slice p3.a p3.len p3.cap), (.agg #[(.int .i64 p4_0), (.int .i64 p4_1)])] [(.one .slc)] K w) h)

/-- sallyport/sallyportref09.Tree -/
def f17 (p0 : Int) (p1 : Sl) (p2_0 : Int) (p2_1 : Int) (p2_2 : Int) (p3 : Sl) (K : Sl → Sl → World → Prop) (w : World) : Prop :=
  semS Tryd.prog (Instr.box 27 (.agg #[(.int .i64 p2_0), (.int .i64 p2_1), (.int .i64 p2_2)])) (.one .adr) (fun x1 w =>
  semS Tryd.prog (Instr.loadAt 27 (.pointer (some x1))) (.agg [(.int .i64), (.int .i64), (.int .i64)]) (fun x2 x3 x4 w =>
  callS Tryd.prog 22 #[(.agg #[(.int .i64 x2), (.int .i64 x3), (.int .i64 x4)])] [(.one .slc)] (fun r5 w =>
  loopS (σ := Sl × Int) (fun s6 w again7 =>
    cond (decide (s6.2 ≥ 1))
      (loopS (σ := Sl × Int) (fun s8 w again9 =>
        semS Tryd.prog (Instr.indexAt 49 (.slice r5.a r5.len r5.cap) (.int .i64 s6.2)) (.one .adr) (fun x10 w =>
        semS Tryd.prog (Instr.loadAt 3 (.pointer (some x10))) (.one (.int .i64)) (fun x11 w =>
        cond (decide (s8.2 < x11))
          (semS Tryd.prog (Instr.loadAt 27 (.pointer (some x1))) (.agg [(.int .i64), (.int .i64), (.int .i64)]) (fun x12 x13 x14 w =>
          callS Tryd.prog 33 #[(.int .i64 p0), (.slice p1.a p1.len p1.cap), (.agg #[(.int .i64 x12), (.int .i64 x13), (.int .i64 x14)]), (.slice p3.a p3.len p3.cap), (.agg #[(.int .i64 s8.2), (.int .i64 s6.2)])] [(.one .slc)] (fun r15 w =>
          semS Tryd.prog (Builtin.append_ #[22, 22] 22 #[(.slice s8.1.a s8.1.len s8.1.cap), (.slice r15.a r15.len r15.cap)]) (.one .slc) (fun r16 w =>
          again9 (r16, IntKind.wrap .i64 (s8.2 + 1)) w) w) w) w)
          (again7 (s8.1, IntKind.wrap .i64 (s6.2 - 1)) w)) w) w) (s6.1, 0) w)
      (semS Tryd.prog (Instr.loadAt 27 (.pointer (some x1))) (.agg [(.int .i64), (.int .i64), (.int .i64)]) (fun x17 x18 x19 w =>
      callS Tryd.prog 33 #[(.int .i64 p0), (.slice p1.a p1.len p1.cap), (.agg #[(.int .i64 x17), (.int .i64 x18), (.int .i64 x19)]), (.slice p3.a p3.len p3.cap), (.agg #[(.int .i64 0), (.int .i64 (IntKind.wrap .i64 ((r5.len : Int) - 1)))])] [(.one .slc)] (fun r20 w =>
      callS Tryd.prog 20 #[(.int .i64 p0), (.slice p1.a p1.len p1.cap), (.slice r20.a r20.len r20.cap)] [(.one .slc)] (fun r21 w =>
      K s6.1 r21 w) w) w) w)) (⟨none, 0, 0⟩, IntKind.wrap .i64 ((r5.len : Int) - 1)) w) w) w) w
theorem f17_ok {p0 : Int} {p1 : Sl} {p2_0 : Int} {p2_1 : Int} {p2_2 : Int} {p3 : Sl} {K : Sl → Sl → World → Prop} {w : World} (h : f17 p0 p1 p2_0 p2_1 p2_2 p3 K w) : callS Tryd.prog 17 #[(.int .i64 p0), (.slice p1.a p1.len p1.cap), (.agg #[(.int .i64 p2_0), (.int .i64 p2_1), (.int .i64 p2_2)]), (.slice p3.a p3.len p3.cap)] [(.one .slc), (.one .slc)] K w :=
  calls_of_fn (args := [(.int .i64 p0), (.slice p1.a p1.len p1.cap), (.agg #[(.int .i64 p2_0), (.int .i64 p2_1), (.int .i64 p2_2)]), (.slice p3.a p3.len p3.cap)]) Tryd.f17 [] [] [] (.two .nil (.two .nil (.two .nil (.two (.two .nil (.one (.loop [(11, .slc), (12, (.int .i64))] (.two .nil (.two (.one (.two .nil (.one (.loop [(11, .slc), (13, (.int .i64))] .nil)))) .nil))))) .nil)))) (by kernel_rfl) (by kernel_rfl)
    (Eq.mp (by kernel_rfl : f17 p0 p1 p2_0 p2_1 p2_2 p3 K w = evFn Tryd.prog Tryd.f17 [] [] [] (.two .nil (.two .nil (.two .nil (.two (.two .nil (.one (.loop [(11, .slc), (12, (.int .i64))] (.two .nil (.two (.one (.two .nil (.one (.loop [(11, .slc), (13, (.int .i64))] .nil)))) .nil))))) .nil)))) [(.int .i64 p0), (.slice p1.a p1.len p1.cap), (.agg #[(.int .i64 p2_0), (.int .i64 p2_1), (.int .i64 p2_2)]), (.slice p3.a p3.len p3.cap)] [(.one .slc), (.one .slc)] K w) h)

/-- sallyport/sallyportlaw09.GroveMakes -/
def f4 (p0_0 : Int) (p0_1 : Int) (p0_2 : Sl) (p0_3 : Sl) (K : Bool → World → Prop) (w : World) : Prop :=
  semS Tryd.prog (Instr.box 24 (.agg #[(.int .i64 p0_0), (.int .i64 p0_1), (.slice p0_2.a p0_2.len p0_2.cap), (.slice p0_3.a p0_3.len p0_3.cap)])) (.one .adr) (fun x1 w =>
  callS Tryd.prog 11 #[] [(.one .bool)] (fun r2 w =>
  cond (!r2)
    (K false w)
    (semS Tryd.prog (Instr.loadAt 24 (.pointer (some x1))) (.agg [(.int .i64), (.int .i64), .slc, .slc]) (fun x3 x4 x5 x6 w =>
    callS Tryd.prog 13 #[(.agg #[(.int .i64 x3), (.int .i64 x4), (.slice x5.a x5.len x5.cap), (.slice x6.a x6.len x6.cap)])] [(.one .bool)] (fun r7 w =>
    cond (!r7)
      (K true w)
      (semS Tryd.prog (Instr.loadAt 3 (.pointer (some (x1.add 0)))) (.one (.int .i64)) (fun x8 w =>
      semS Tryd.prog (Instr.loadAt 22 (.pointer (some (x1.add 2)))) (.one .slc) (fun x9 w =>
      semS Tryd.prog (Instr.loadAt 3 (.pointer (some (x1.add 1)))) (.one (.int .i64)) (fun x10 w =>
      semS Tryd.prog (Instr.loadAt 22 (.pointer (some (x1.add 3)))) (.one .slc) (fun x11 w =>
      callS Tryd.prog 14 #[(.int .i64 x8), (.slice x9.a x9.len x9.cap), (.int .i64 x10), (.slice x11.a x11.len x11.cap)] [(.one .slc), (.one .slc), (.one (.int .i64))] (fun r12 r13 r14 w =>
      semS Tryd.prog (Instr.loadAt 3 (.pointer (some (x1.add 0)))) (.one (.int .i64)) (fun x15 w =>
      semS Tryd.prog (Instr.loadAt 22 (.pointer (some (x1.add 2)))) (.one .slc) (fun x16 w =>
      semS Tryd.prog (Instr.loadAt 3 (.pointer (some (x1.add 1)))) (.one (.int .i64)) (fun x17 w =>
      semS Tryd.prog (Instr.loadAt 22 (.pointer (some (x1.add 3)))) (.one .slc) (fun x18 w =>
      callS Tryd.prog 15 #[(.int .i64 x15), (.slice x16.a x16.len x16.cap), (.int .i64 x17), (.slice x18.a x18.len x18.cap)] [(.one .slc), (.one (.int .i64))] (fun r19 r20 w =>
      semS Tryd.prog (Instr.loadAt 24 (.pointer (some x1))) (.agg [(.int .i64), (.int .i64), .slc, .slc]) (fun x21 x22 x23 x24 w =>
      callS Tryd.prog 12 #[(.agg #[(.int .i64 x21), (.int .i64 x22), (.slice x23.a x23.len x23.cap), (.slice x24.a x24.len x24.cap)])] [(.agg [(.int .i64), (.int .i64), (.int .i64)]), (.one .bool)] (fun r25 r26 r27 r28 w =>
      semS Tryd.prog (Instr.alloc 27 true (.tuple #[])) (.one .adr) (fun x29 w =>
      semU Tryd.prog (Instr.storeAt 27 (.pointer (some x29)) (.agg #[(.int .i64 r25), (.int .i64 r26), (.int .i64 r27)])) (fun w =>
      joinS (σ := Int) (fun x30 w =>
        cond (x30 != 0)
          (K (((r14 == x30) && (r20 == x30)) && ((IntKind.wrap .i64 ((IntKind.wrap .i64 ((r12.len : Int) + (r13.len : Int))) + (r19.len : Int))) == 0)) w)
          (semS Tryd.prog (Instr.loadAt 3 (.pointer (some (x1.add 0)))) (.one (.int .i64)) (fun x32 w =>
          semS Tryd.prog (Instr.loadAt 22 (.pointer (some (x1.add 2)))) (.one .slc) (fun x33 w =>
          semS Tryd.prog (Instr.loadAt 27 (.pointer (some x29))) (.agg [(.int .i64), (.int .i64), (.int .i64)]) (fun x34 x35 x36 w =>
          semS Tryd.prog (Instr.loadAt 22 (.pointer (some (x1.add 3)))) (.one .slc) (fun x37 w =>
          callS Tryd.prog 17 #[(.int .i64 x32), (.slice x33.a x33.len x33.cap), (.agg #[(.int .i64 x34), (.int .i64 x35), (.int .i64 x36)]), (.slice x37.a x37.len x37.cap)] [(.one .slc), (.one .slc)] (fun r38 r39 w =>
          joinS (σ := Bool) (fun b40 w =>
            joinS (σ := Bool) (fun b42 w =>
              joinS (σ := Bool) (fun b44 w =>
                K b44 w) fun J45 =>
              cond b42
                (semS Tryd.prog (convert 22 9 (.slice r19.a r19.len r19.cap)) (.one .str) (fun x46 w =>
                  semS Tryd.prog (convert 22 9 (.slice r39.a r39.len r39.cap)) (.one .str) (fun x47 w =>
                  J45 (x46.toList == x47.toList) w) w) w)
                (J45 false w)) fun J43 =>
            cond b40
              (semS Tryd.prog (convert 22 9 (.slice r13.a r13.len r13.cap)) (.one .str) (fun x48 w =>
                semS Tryd.prog (convert 22 9 (.slice r39.a r39.len r39.cap)) (.one .str) (fun x49 w =>
                J43 (x48.toList == x49.toList) w) w) w)
              (J43 false w)) fun J41 =>
          cond ((r14 == 0) && (r20 == 0))
            (semS Tryd.prog (convert 22 9 (.slice r12.a r12.len r12.cap)) (.one .str) (fun x50 w =>
              semS Tryd.prog (convert 22 9 (.slice r38.a r38.len r38.cap)) (.one .str) (fun x51 w =>
              J41 (x50.toList == x51.toList) w) w) w)
            (J41 false w)) w) w) w) w) w)) fun J31 =>
      semS Tryd.prog (Instr.loadAt 3 (.pointer (some (x1.add 0)))) (.one (.int .i64)) (fun x52 w =>
      callS Tryd.prog 16 #[(.int .i64 x52)] [(.one (.int .i64))] (fun r53 w =>
      cond (r53 == 0)
        (J31 20 w)
        (semS Tryd.prog (Instr.loadAt 22 (.pointer (some (x1.add 2)))) (.one .slc) (fun x54 w =>
        cond (decide ((x54.len : Int) > 64))
          (J31 11 w)
          (cond (!r28)
            (J31 24 w)
            (J31 0 w))) w)) w) w) w) w) w) w) w) w) w) w) w) w) w) w) w) w)) w) w)) w) w
theorem f4_ok {p0_0 : Int} {p0_1 : Int} {p0_2 : Sl} {p0_3 : Sl} {K : Bool → World → Prop} {w : World} (h : f4 p0_0 p0_1 p0_2 p0_3 K w) : callS Tryd.prog 4 #[(.agg #[(.int .i64 p0_0), (.int .i64 p0_1), (.slice p0_2.a p0_2.len p0_2.cap), (.slice p0_3.a p0_3.len p0_3.cap)])] [(.one .bool)] K w :=
  calls_of_fn (args := [(.agg #[(.int .i64 p0_0), (.int .i64 p0_1), (.slice p0_2.a p0_2.len p0_2.cap), (.slice p0_3.a p0_3.len p0_3.cap)])]) Tryd.f4 [] [] [] (.two .nil (.two .nil (.two .nil (.two .nil (.two .nil (.two .nil (.two .nil (.join [(8, (.int .i64))] .nil .nil)))))))) (by kernel_rfl) (by kernel_rfl)
    (Eq.mp (by kernel_rfl : f4 p0_0 p0_1 p0_2 p0_3 K w = evFn Tryd.prog Tryd.f4 [] [] [] (.two .nil (.two .nil (.two .nil (.two .nil (.two .nil (.two .nil (.two .nil (.join [(8, (.int .i64))] .nil .nil)))))))) [(.agg #[(.int .i64 p0_0), (.int .i64 p0_1), (.slice p0_2.a p0_2.len p0_2.cap), (.slice p0_3.a p0_3.len p0_3.cap)])] [(.one .bool)] K w) h)

/-- bytes.Equal -/
def f34 (p0 : Sl) (p1 : Sl) (K : Bool → World → Prop) (w : World) : Prop :=
  semS Tryd.prog (convert 22 9 (.slice p0.a p0.len p0.cap)) (.one .str) (fun x1 w =>
  semS Tryd.prog (convert 22 9 (.slice p1.a p1.len p1.cap)) (.one .str) (fun x2 w =>
  K (x1.toList == x2.toList) w) w) w
theorem f34_ok {p0 : Sl} {p1 : Sl} {K : Bool → World → Prop} {w : World} (h : f34 p0 p1 K w) : callS Tryd.prog 34 #[(.slice p0.a p0.len p0.cap), (.slice p1.a p1.len p1.cap)] [(.one .bool)] K w :=
  calls_of_fn (args := [(.slice p0.a p0.len p0.cap), (.slice p1.a p1.len p1.cap)]) Tryd.f34 [] [] [] .nil (by kernel_rfl) (by kernel_rfl)
    (Eq.mp (by kernel_rfl : f34 p0 p1 K w = evFn Tryd.prog Tryd.f34 [] [] [] .nil [(.slice p0.a p0.len p0.cap), (.slice p1.a p1.len p1.cap)] [(.one .bool)] K w) h)

/-- sallyport/grove.Differ -/
def f18 (p0 : Sl) (p1 : Sl) (K : Sl → Sl → Bool → World → Prop) (w : World) : Prop :=
  loopS (σ := Int) (fun x1 w again2 =>
    cond (decide (x1 ≤ (if (p1.len : Int) < (p0.len : Int) then (p1.len : Int) else (p0.len : Int))))
      (drawS w fun C w =>
      semQ Tryd.prog C (Instr.indexAt 40 (.slice p0.a p0.len p0.cap) (.int .i64 (IntKind.wrap .i64 ((p0.len : Int) - x1)))) (.one .adr) (fun x3 =>
      semQ Tryd.prog C (Instr.loadAt 22 (.pointer (some x3))) (.one .slc) (fun x4 =>
      semQ Tryd.prog C (Instr.indexAt 40 (.slice p1.a p1.len p1.cap) (.int .i64 (IntKind.wrap .i64 ((p1.len : Int) - x1)))) (.one .adr) (fun x5 =>
      semQ Tryd.prog C (Instr.loadAt 22 (.pointer (some x5))) (.one .slc) (fun x6 =>
      callS Tryd.prog 34 #[(.slice x4.a x4.len x4.cap), (.slice x6.a x6.len x6.cap)] [(.one .bool)] (fun r7 w =>
      cond (!r7)
        (callS Tryd.prog 35 #[(.slice x4.a x4.len x4.cap)] [(.one .slc)] (fun r8 w =>
        callS Tryd.prog 35 #[(.slice x6.a x6.len x6.cap)] [(.one .slc)] (fun r9 w =>
        K r8 r9 true w) w) w)
        (again2 (IntKind.wrap .i64 (x1 + 1)) w)) w)))))
      (K (⟨none, 0, 0⟩) (⟨none, 0, 0⟩) false w)) 1 w
theorem f18_ok {p0 : Sl} {p1 : Sl} {K : Sl → Sl → Bool → World → Prop} {w : World} (h : f18 p0 p1 K w) : callS Tryd.prog 18 #[(.slice p0.a p0.len p0.cap), (.slice p1.a p1.len p1.cap)] [(.one .slc), (.one .slc), (.one .bool)] K w :=
  calls_of_fn (args := [(.slice p0.a p0.len p0.cap), (.slice p1.a p1.len p1.cap)]) Tryd.f18 [] [] [] (.two .nil (.two (.two .nil (.one (.loop [(7, (.int .i64))] (.two .nil (.two (.one (.two (.draw [0, 0, 2, 0, 14, 31, 63, 0, 0, 256, 0, 1792, 3968, 8064, 127, 32767]) .nil)) .nil))))) .nil)) (by kernel_rfl) (by kernel_rfl)
    (Eq.mp (by kernel_rfl : f18 p0 p1 K w = evFn Tryd.prog Tryd.f18 [] [] [] (.two .nil (.two (.two .nil (.one (.loop [(7, (.int .i64))] (.two .nil (.two (.one (.two (.draw [0, 0, 2, 0, 14, 31, 63, 0, 0, 256, 0, 1792, 3968, 8064, 127, 32767]) .nil)) .nil))))) .nil)) [(.slice p0.a p0.len p0.cap), (.slice p1.a p1.len p1.cap)] [(.one .slc), (.one .slc), (.one .bool)] K w) h)

/-- sallyport/sallyportlaw09.GroveDiffers -/
def f5 (p0 : Sl) (p1 : Sl) (K : Bool → World → Prop) (w : World) : Prop :=
  callS Tryd.prog 11 #[] [(.one .bool)] (fun r1 w =>
  cond (!r1)
    (K false w)
    (cond ((decide ((p0.len : Int) > 20)) || (decide ((p1.len : Int) > 20)))
      (K true w)
      (callS Tryd.prog 18 #[(.slice p0.a p0.len p0.cap), (.slice p1.a p1.len p1.cap)] [(.one .slc), (.one .slc), (.one .bool)] (fun r2 r3 r4 w =>
      loopS (σ := Int) (fun x5 w again6 =>
        cond (decide (x5 < (if (p1.len : Int) < (p0.len : Int) then (p1.len : Int) else (p0.len : Int))))
          (drawS w fun C w =>
          semQ Tryd.prog C (Instr.indexAt 40 (.slice p0.a p0.len p0.cap) (.int .i64 (IntKind.wrap .i64 ((IntKind.wrap .i64 ((p0.len : Int) - 1)) - x5)))) (.one .adr) (fun x7 =>
          semQ Tryd.prog C (Instr.loadAt 22 (.pointer (some x7))) (.one .slc) (fun x8 =>
          semQ Tryd.prog C (Instr.indexAt 40 (.slice p1.a p1.len p1.cap) (.int .i64 (IntKind.wrap .i64 ((IntKind.wrap .i64 ((p1.len : Int) - 1)) - x5)))) (.one .adr) (fun x9 =>
          semQ Tryd.prog C (Instr.loadAt 22 (.pointer (some x9))) (.one .slc) (fun x10 =>
          cond ((decide ((x8.len : Int) > 500)) || (decide ((x10.len : Int) > 500)))
            (K true w)
            (semS Tryd.prog (convert 22 9 (.slice x8.a x8.len x8.cap)) (.one .str) (fun x11 w =>
            semS Tryd.prog (convert 22 9 (.slice x10.a x10.len x10.cap)) (.one .str) (fun x12 w =>
            cond (!(x11.toList == x12.toList))
              (joinS (σ := Bool) (fun b13 w =>
                joinS (σ := Bool) (fun b15 w =>
                  K b15 w) fun J16 =>
                cond b13
                  (semS Tryd.prog (convert 22 9 (.slice r3.a r3.len r3.cap)) (.one .str) (fun x17 w =>
                    semS Tryd.prog (convert 22 9 (.slice x10.a x10.len x10.cap)) (.one .str) (fun x18 w =>
                    J16 (x17.toList == x18.toList) w) w) w)
                  (J16 false w)) fun J14 =>
              cond r4
                (semS Tryd.prog (convert 22 9 (.slice r2.a r2.len r2.cap)) (.one .str) (fun x19 w =>
                  semS Tryd.prog (convert 22 9 (.slice x8.a x8.len x8.cap)) (.one .str) (fun x20 w =>
                  J14 (x19.toList == x20.toList) w) w) w)
                (J14 false w))
              (again6 (IntKind.wrap .i64 (x5 + 1)) w)) w) w))))))
          (K ((!r4) && ((IntKind.wrap .i64 ((r2.len : Int) + (r3.len : Int))) == 0)) w)) 0 w) w))) w
theorem f5_ok {p0 : Sl} {p1 : Sl} {K : Bool → World → Prop} {w : World} (h : f5 p0 p1 K w) : callS Tryd.prog 5 #[(.slice p0.a p0.len p0.cap), (.slice p1.a p1.len p1.cap)] [(.one .bool)] K w :=
  calls_of_fn (args := [(.slice p0.a p0.len p0.cap), (.slice p1.a p1.len p1.cap)]) Tryd.f5 [] [] [] (.two .nil (.two .nil (.two .nil (.two .nil (.two (.two .nil (.one (.loop [(33, (.int .i64))] (.two .nil (.two .nil (.two (.one (.two .nil (.two (.draw [0, 0, 2, 6, 0, 30, 63, 127, 0, 0, 512, 1536, 0, 7680, 16128, 32512, 255, 131071]) .nil))) .nil)))))) .nil))))) (by kernel_rfl) (by kernel_rfl)
    (Eq.mp (by kernel_rfl : f5 p0 p1 K w = evFn Tryd.prog Tryd.f5 [] [] [] (.two .nil (.two .nil (.two .nil (.two .nil (.two (.two .nil (.one (.loop [(33, (.int .i64))] (.two .nil (.two .nil (.two (.one (.two .nil (.two (.draw [0, 0, 2, 6, 0, 30, 63, 127, 0, 0, 512, 1536, 0, 7680, 16128, 32512, 255, 131071]) .nil))) .nil)))))) .nil))))) [(.slice p0.a p0.len p0.cap), (.slice p1.a p1.len p1.cap)] [(.one .bool)] K w) h)

/-- (sallyport/sallyportref08.Shape).Above -/
def f25 (p0_0 : Int) (p0_1 : Int) (p0_2 : Int) (p1_0 : Int) (p1_1 : Int) (K : Int → Int → Int → World → Prop) (w : World) : Prop :=
  semS Tryd.prog (Instr.box 27 (.agg #[(.int .i64 p0_0), (.int .i64 p0_1), (.int .i64 p0_2)])) (.one .adr) (fun x1 w =>
  semS Tryd.prog (Instr.box 55 (.agg #[(.int .i64 p1_0), (.int .i64 p1_1)])) (.one .adr) (fun x2 w =>
  semS Tryd.prog (Instr.alloc 55 true (.tuple #[])) (.one .adr) (fun x3 w =>
  semS Tryd.prog (Instr.loadAt 3 (.pointer (some (x1.add 1)))) (.one (.int .i64)) (fun x4 w =>
  semS Tryd.prog (Instr.loadAt 3 (.pointer (some (x1.add 2)))) (.one (.int .i64)) (fun x5 w =>
  semS Tryd.prog (binS .quo 3 (.tmp 8) (.tmp 10) (.int .i64 x4) (.int .i64 x5)) (.one (.int .i64)) (fun x6 w =>
  drawS w fun C w =>
  semQ Tryd.prog C (Instr.loadAt 3 (.pointer (some (x2.add 0)))) (.one (.int .i64)) (fun x7 =>
  semQ Tryd.prog C (binS .quo 3 (.tmp 13) (.tmp 14) (.int .i64 x7) (.int .i64 x6)) (.one (.int .i64)) (fun x8 =>
  semQ Tryd.prog C (Instr.loadAt 3 (.pointer (some (x2.add 1)))) (.one (.int .i64)) (fun x9 =>
  semQ Tryd.prog C (Instr.loadAt 3 (.pointer (some (x2.add 0)))) (.one (.int .i64)) (fun x10 =>
  semQ Tryd.prog C (binS .rem 3 (.tmp 21) (.tmp 22) (.int .i64 x10) (.int .i64 x6)) (.one (.int .i64)) (fun x11 =>
  semQ Tryd.prog C (Instr.loadAt 3 (.pointer (some (x1.add 2)))) (.one (.int .i64)) (fun x12 =>
  semU Tryd.prog (Instr.storeAt 55 (.pointer (some x3)) (.agg #[(.int .i64 x8), (.int .i64 (IntKind.wrap .i64 (x9 + 1)))])) (fun w =>
  moreS C w (fun C =>
  ∃ v13, (loadVar 55 x3).run Tryd.prog w = .ok v13 w ∧ decR [(.agg [(.int .i64), (.int .i64)]), (.one (.int .i64))] (.tuple #[v13, (.int .i64 (IntKind.wrap .i64 (x11 * x12)))]) K fun r => r w)) w))))))) w) w) w) w) w) w
theorem f25_ok {p0_0 : Int} {p0_1 : Int} {p0_2 : Int} {p1_0 : Int} {p1_1 : Int} {K : Int → Int → Int → World → Prop} {w : World} (h : f25 p0_0 p0_1 p0_2 p1_0 p1_1 K w) : callS Tryd.prog 25 #[(.agg #[(.int .i64 p0_0), (.int .i64 p0_1), (.int .i64 p0_2)]), (.agg #[(.int .i64 p1_0), (.int .i64 p1_1)])] [(.agg [(.int .i64), (.int .i64)]), (.one (.int .i64))] K w :=
  calls_of_fn (args := [(.agg #[(.int .i64 p0_0), (.int .i64 p0_1), (.int .i64 p0_2)]), (.agg #[(.int .i64 p1_0), (.int .i64 p1_1)])]) Tryd.f25 [] [] [] (.two .nil (.two .nil (.two (.draw [0, 1, 0, 7, 0, 16, 48, 127, 0, 256, 0, 1792, 0, 4096, 16128, 255, 65535]) .nil))) (by kernel_rfl) (by kernel_rfl)
    (Eq.mp (by kernel_rfl : f25 p0_0 p0_1 p0_2 p1_0 p1_1 K w = evFn Tryd.prog Tryd.f25 [] [] [] (.two .nil (.two .nil (.two (.draw [0, 1, 0, 7, 0, 16, 48, 127, 0, 256, 0, 1792, 0, 4096, 16128, 255, 65535]) .nil))) [(.agg #[(.int .i64 p0_0), (.int .i64 p0_1), (.int .i64 p0_2)]), (.agg #[(.int .i64 p1_0), (.int .i64 p1_1)])] [(.agg [(.int .i64), (.int .i64)]), (.one (.int .i64))] K w) h)

/-- sallyport/sallyportlaw09.blocks -/
def f23 (p0_0 : Int) (p0_1 : Int) (p0_2 : Sl) (p0_3 : Sl) (p1_0 : Int) (p1_1 : Int) (p1_2 : Int) (p2 : Int) (K : Sl → World → Prop) (w : World) : Prop :=
  semS Tryd.prog (Instr.box 24 (.agg #[(.int .i64 p0_0), (.int .i64 p0_1), (.slice p0_2.a p0_2.len p0_2.cap), (.slice p0_3.a p0_3.len p0_3.cap)])) (.one .adr) (fun x1 w =>
  semS Tryd.prog (Instr.box 27 (.agg #[(.int .i64 p1_0), (.int .i64 p1_1), (.int .i64 p1_2)])) (.one .adr) (fun x2 w =>
  semS Tryd.prog (Instr.alloc 55 true (.tuple #[])) (.one .adr) (fun x3 w =>
  semU Tryd.prog (Instr.storeAt 55 (.pointer (some x3)) (.agg #[(.int .i64 p2), (.int .i64 0)])) (fun w =>
  semS Tryd.prog (Instr.loadAt 27 (.pointer (some x2))) (.agg [(.int .i64), (.int .i64), (.int .i64)]) (fun x4 x5 x6 w =>
  callS Tryd.prog 22 #[(.agg #[(.int .i64 x4), (.int .i64 x5), (.int .i64 x6)])] [(.one .slc)] (fun r7 w =>
  loopS (σ := Sl × Int) (fun s8 w again9 =>
    cond (decide (s8.2 < (r7.len : Int)))
      (semS Tryd.prog (Instr.loadAt 3 (.pointer (some (x1.add 0)))) (.one (.int .i64)) (fun x10 w =>
      semS Tryd.prog (Instr.loadAt 22 (.pointer (some (x1.add 2)))) (.one .slc) (fun x11 w =>
      semS Tryd.prog (Instr.loadAt 27 (.pointer (some x2))) (.agg [(.int .i64), (.int .i64), (.int .i64)]) (fun x12 x13 x14 w =>
      semS Tryd.prog (Instr.loadAt 22 (.pointer (some (x1.add 3)))) (.one .slc) (fun x15 w =>
      semS Tryd.prog (Instr.loadAt 55 (.pointer (some x3))) (.agg [(.int .i64), (.int .i64)]) (fun x16 x17 w =>
      callS Tryd.prog 33 #[(.int .i64 x10), (.slice x11.a x11.len x11.cap), (.agg #[(.int .i64 x12), (.int .i64 x13), (.int .i64 x14)]), (.slice x15.a x15.len x15.cap), (.agg #[(.int .i64 x16), (.int .i64 x17)])] [(.one .slc)] (fun r18 w =>
      semS Tryd.prog (Instr.buildSlice 40 1 #[(0, (.slice r18.a r18.len r18.cap))]) (.one .slc) (fun x19 w =>
      semS Tryd.prog (Builtin.append_ #[40, 40] 40 #[(.slice s8.1.a s8.1.len s8.1.cap), (.slice x19.a x19.len x19.cap)]) (.one .slc) (fun r20 w =>
      semS Tryd.prog (Instr.loadAt 27 (.pointer (some x2))) (.agg [(.int .i64), (.int .i64), (.int .i64)]) (fun x21 x22 x23 w =>
      semS Tryd.prog (Instr.loadAt 55 (.pointer (some x3))) (.agg [(.int .i64), (.int .i64)]) (fun x24 x25 w =>
      callS Tryd.prog 25 #[(.agg #[(.int .i64 x21), (.int .i64 x22), (.int .i64 x23)]), (.agg #[(.int .i64 x24), (.int .i64 x25)])] [(.agg [(.int .i64), (.int .i64)]), (.one (.int .i64))] (fun r26 r27 r28 w =>
      semU Tryd.prog (Instr.storeAt 55 (.pointer (some x3)) (.agg #[(.int .i64 r26), (.int .i64 r27)])) (fun w =>
      again9 (r20, IntKind.wrap .i64 (s8.2 + 1)) w) w) w) w) w) w) w) w) w) w) w) w) w)
      (K s8.1 w)) (⟨none, 0, 0⟩, 0) w) w) w) w) w) w) w
theorem f23_ok {p0_0 : Int} {p0_1 : Int} {p0_2 : Sl} {p0_3 : Sl} {p1_0 : Int} {p1_1 : Int} {p1_2 : Int} {p2 : Int} {K : Sl → World → Prop} {w : World} (h : f23 p0_0 p0_1 p0_2 p0_3 p1_0 p1_1 p1_2 p2 K w) : callS Tryd.prog 23 #[(.agg #[(.int .i64 p0_0), (.int .i64 p0_1), (.slice p0_2.a p0_2.len p0_2.cap), (.slice p0_3.a p0_3.len p0_3.cap)]), (.agg #[(.int .i64 p1_0), (.int .i64 p1_1), (.int .i64 p1_2)]), (.int .i64 p2)] [(.one .slc)] K w :=
  calls_of_fn (args := [(.agg #[(.int .i64 p0_0), (.int .i64 p0_1), (.slice p0_2.a p0_2.len p0_2.cap), (.slice p0_3.a p0_3.len p0_3.cap)]), (.agg #[(.int .i64 p1_0), (.int .i64 p1_1), (.int .i64 p1_2)]), (.int .i64 p2)]) Tryd.f23 [] [] [] (.two .nil (.two .nil (.two .nil (.two (.two .nil (.one (.loop [(7, .slc), (14, (.int .i64))] .nil))) .nil)))) (by kernel_rfl) (by kernel_rfl)
    (Eq.mp (by kernel_rfl : f23 p0_0 p0_1 p0_2 p0_3 p1_0 p1_1 p1_2 p2 K w = evFn Tryd.prog Tryd.f23 [] [] [] (.two .nil (.two .nil (.two .nil (.two (.two .nil (.one (.loop [(7, .slc), (14, (.int .i64))] .nil))) .nil)))) [(.agg #[(.int .i64 p0_0), (.int .i64 p0_1), (.slice p0_2.a p0_2.len p0_2.cap), (.slice p0_3.a p0_3.len p0_3.cap)]), (.agg #[(.int .i64 p1_0), (.int .i64 p1_1), (.int .i64 p1_2)]), (.int .i64 p2)] [(.one .slc)] K w) h)

/-- sallyport/sallyportlaw09.pair -/
def f19 (p0_0 : Int) (p0_1 : Int) (p0_2 : Sl) (p0_3 : Sl) (p1_0 : Int) (p1_1 : Int) (p1_2 : Sl) (p1_3 : Sl) (p2 : Int) (K : Bool → World → Prop) (w : World) : Prop :=
  semS Tryd.prog (Instr.box 24 (.agg #[(.int .i64 p0_0), (.int .i64 p0_1), (.slice p0_2.a p0_2.len p0_2.cap), (.slice p0_3.a p0_3.len p0_3.cap)])) (.one .adr) (fun x1 w =>
  semS Tryd.prog (Instr.box 24 (.agg #[(.int .i64 p1_0), (.int .i64 p1_1), (.slice p1_2.a p1_2.len p1_2.cap), (.slice p1_3.a p1_3.len p1_3.cap)])) (.one .adr) (fun x2 w =>
  semS Tryd.prog (Instr.loadAt 24 (.pointer (some x1))) (.agg [(.int .i64), (.int .i64), .slc, .slc]) (fun x3 x4 x5 x6 w =>
  callS Tryd.prog 12 #[(.agg #[(.int .i64 x3), (.int .i64 x4), (.slice x5.a x5.len x5.cap), (.slice x6.a x6.len x6.cap)])] [(.agg [(.int .i64), (.int .i64), (.int .i64)]), (.one .bool)] (fun r7 r8 r9 r10 w =>
  semS Tryd.prog (Instr.alloc 27 true (.tuple #[])) (.one .adr) (fun x11 w =>
  semU Tryd.prog (Instr.storeAt 27 (.pointer (some x11)) (.agg #[(.int .i64 r7), (.int .i64 r8), (.int .i64 r9)])) (fun w =>
  cond (!r10)
    (K false w)
    (drawS w fun C w =>
    semQ Tryd.prog C (Instr.loadAt 24 (.pointer (some x1))) (.agg [(.int .i64), (.int .i64), .slc, .slc]) (fun x12 x13 x14 x15 =>
    semQ Tryd.prog C (Instr.loadAt 27 (.pointer (some x11))) (.agg [(.int .i64), (.int .i64), (.int .i64)]) (fun x16 x17 x18 =>
    semQ Tryd.prog C (Instr.loadAt 24 (.pointer (some x2))) (.agg [(.int .i64), (.int .i64), .slc, .slc]) (fun x19 x20 x21 x22 =>
    semQ Tryd.prog C (Instr.loadAt 27 (.pointer (some x11))) (.agg [(.int .i64), (.int .i64), (.int .i64)]) (fun x23 x24 x25 =>
    callS Tryd.prog 23 #[(.agg #[(.int .i64 x12), (.int .i64 x13), (.slice x14.a x14.len x14.cap), (.slice x15.a x15.len x15.cap)]), (.agg #[(.int .i64 x16), (.int .i64 x17), (.int .i64 x18)]), (.int .i64 p2)] [(.one .slc)] (fun r26 w =>
    moreS C w (fun C =>
    callS Tryd.prog 23 #[(.agg #[(.int .i64 x19), (.int .i64 x20), (.slice x21.a x21.len x21.cap), (.slice x22.a x22.len x22.cap)]), (.agg #[(.int .i64 x23), (.int .i64 x24), (.int .i64 x25)]), (.int .i64 p2)] [(.one .slc)] (fun r27 w =>
    callS Tryd.prog 18 #[(.slice r26.a r26.len r26.cap), (.slice r27.a r27.len r27.cap)] [(.one .slc), (.one .slc), (.one .bool)] (fun r28 r29 r30 w =>
    drawS w fun C w =>
    cond r30
      (semQ Tryd.prog C (convert 22 9 (.slice r28.a r28.len r28.cap)) (.one .str) (fun x31 =>
      semQ Tryd.prog C (convert 22 9 (.slice r29.a r29.len r29.cap)) (.one .str) (fun x32 =>
      cond (!(x31.toList == x32.toList))
        (cond ((r28.len : Int) == (r29.len : Int))
          (semQ Tryd.prog C (Instr.loadAt 3 (.pointer (some (x1.add 0)))) (.one (.int .i64)) (fun x33 =>
          semQ Tryd.prog C (Instr.loadAt 22 (.pointer (some (x1.add 2)))) (.one .slc) (fun x34 =>
          semQ Tryd.prog C (Instr.loadAt 3 (.pointer (some (x1.add 0)))) (.one (.int .i64)) (fun x35 =>
          semQ Tryd.prog C (Instr.loadAt 22 (.pointer (some (x1.add 2)))) (.one .slc) (fun x36 =>
          callS Tryd.prog 20 #[(.int .i64 x33), (.slice x34.a x34.len x34.cap), (.slice r28.a r28.len r28.cap)] [(.one .slc)] (fun r37 w =>
          moreS C w (fun C =>
          semQ Tryd.prog C (convert 22 9 (.slice r37.a r37.len r37.cap)) (.one .str) (fun x38 =>
          callS Tryd.prog 20 #[(.int .i64 x35), (.slice x36.a x36.len x36.cap), (.slice r29.a r29.len r29.cap)] [(.one .slc)] (fun r39 w =>
          moreS C w (fun C =>
          semQ Tryd.prog C (convert 22 9 (.slice r39.a r39.len r39.cap)) (.one .str) (fun x40 =>
          K (x38.toList == x40.toList) w))) w))) w)))))
          (K false w))
        (K false w))))
      (K false w)) w) w)) w)))))) w) w) w) w) w) w
theorem f19_ok {p0_0 : Int} {p0_1 : Int} {p0_2 : Sl} {p0_3 : Sl} {p1_0 : Int} {p1_1 : Int} {p1_2 : Sl} {p1_3 : Sl} {p2 : Int} {K : Bool → World → Prop} {w : World} (h : f19 p0_0 p0_1 p0_2 p0_3 p1_0 p1_1 p1_2 p1_3 p2 K w) : callS Tryd.prog 19 #[(.agg #[(.int .i64 p0_0), (.int .i64 p0_1), (.slice p0_2.a p0_2.len p0_2.cap), (.slice p0_3.a p0_3.len p0_3.cap)]), (.agg #[(.int .i64 p1_0), (.int .i64 p1_1), (.slice p1_2.a p1_2.len p1_2.cap), (.slice p1_3.a p1_3.len p1_3.cap)]), (.int .i64 p2)] [(.one .bool)] K w :=
  calls_of_fn (args := [(.agg #[(.int .i64 p0_0), (.int .i64 p0_1), (.slice p0_2.a p0_2.len p0_2.cap), (.slice p0_3.a p0_3.len p0_3.cap)]), (.agg #[(.int .i64 p1_0), (.int .i64 p1_1), (.slice p1_2.a p1_2.len p1_2.cap), (.slice p1_3.a p1_3.len p1_3.cap)]), (.int .i64 p2)]) Tryd.f19 [] [] [] (.two .nil (.two .nil (.two .nil (.two (.draw [0, 0, 0, 7, 0, 0, 0, 127, 255, 511, 1023, 1023, 1023, 2047, 12287, 32767]) (.two (.draw [0, 1, 3, 7, 3, 19, 63, 127, 255, 511, 1023, 511, 2559, 8191, 16383, 32767, 65535, 131071, 65535, 327679, 65535, 2097151, 4194303, 65535, 8454143, 65535, 33619967, 65535, 264241151, 532676607, 1073741823, 2147483647, 4294967295]) .nil))))) (by kernel_rfl) (by kernel_rfl)
    (Eq.mp (by kernel_rfl : f19 p0_0 p0_1 p0_2 p0_3 p1_0 p1_1 p1_2 p1_3 p2 K w = evFn Tryd.prog Tryd.f19 [] [] [] (.two .nil (.two .nil (.two .nil (.two (.draw [0, 0, 0, 7, 0, 0, 0, 127, 255, 511, 1023, 1023, 1023, 2047, 12287, 32767]) (.two (.draw [0, 1, 3, 7, 3, 19, 63, 127, 255, 511, 1023, 511, 2559, 8191, 16383, 32767, 65535, 131071, 65535, 327679, 65535, 2097151, 4194303, 65535, 8454143, 65535, 33619967, 65535, 264241151, 532676607, 1073741823, 2147483647, 4294967295]) .nil))))) [(.agg #[(.int .i64 p0_0), (.int .i64 p0_1), (.slice p0_2.a p0_2.len p0_2.cap), (.slice p0_3.a p0_3.len p0_3.cap)]), (.agg #[(.int .i64 p1_0), (.int .i64 p1_1), (.slice p1_2.a p1_2.len p1_2.cap), (.slice p1_3.a p1_3.len p1_3.cap)]), (.int .i64 p2)] [(.one .bool)] K w) h)

/-- sallyport/sallyportlaw09.GroveTurned -/
def f6 (p0_0 : Int) (p0_1 : Int) (p0_2 : Sl) (p0_3 : Sl) (p1 : Int) (p2 : Int) (K : Bool → World → Prop) (w : World) : Prop :=
  semS Tryd.prog (Instr.box 24 (.agg #[(.int .i64 p0_0), (.int .i64 p0_1), (.slice p0_2.a p0_2.len p0_2.cap), (.slice p0_3.a p0_3.len p0_3.cap)])) (.one .adr) (fun x1 w =>
  callS Tryd.prog 11 #[] [(.one .bool)] (fun r2 w =>
  cond (!r2)
    (K false w)
    (semS Tryd.prog (Instr.loadAt 24 (.pointer (some x1))) (.agg [(.int .i64), (.int .i64), .slc, .slc]) (fun x3 x4 x5 x6 w =>
    callS Tryd.prog 12 #[(.agg #[(.int .i64 x3), (.int .i64 x4), (.slice x5.a x5.len x5.cap), (.slice x6.a x6.len x6.cap)])] [(.agg [(.int .i64), (.int .i64), (.int .i64)]), (.one .bool)] (fun r7 r8 r9 r10 w =>
    semS Tryd.prog (Instr.alloc 27 true (.tuple #[])) (.one .adr) (fun x11 w =>
    semU Tryd.prog (Instr.storeAt 27 (.pointer (some x11)) (.agg #[(.int .i64 r7), (.int .i64 r8), (.int .i64 r9)])) (fun w =>
    semS Tryd.prog (Instr.loadAt 24 (.pointer (some x1))) (.agg [(.int .i64), (.int .i64), .slc, .slc]) (fun x12 x13 x14 x15 w =>
    callS Tryd.prog 13 #[(.agg #[(.int .i64 x12), (.int .i64 x13), (.slice x14.a x14.len x14.cap), (.slice x15.a x15.len x15.cap)])] [(.one .bool)] (fun r16 w =>
    joinS (σ := Bool) (fun b17 w =>
      cond ((b17 || (decide (p2 < 1))) || (decide (p2 > 255)))
        (K true w)
        (semS Tryd.prog (Instr.loadAt 24 (.pointer (some x1))) (.agg [(.int .i64), (.int .i64), .slc, .slc]) (fun x19 x20 x21 x22 w =>
        semS Tryd.prog (Instr.alloc 24 true (.tuple #[])) (.one .adr) (fun x23 w =>
        semU Tryd.prog (Instr.storeAt 24 (.pointer (some x23)) (.agg #[(.int .i64 x19), (.int .i64 x20), (.slice x21.a x21.len x21.cap), (.slice x22.a x22.len x22.cap)])) (fun w =>
        semS Tryd.prog (Instr.buildSlice 22 0 #[]) (.one .slc) (fun x24 w =>
        semS Tryd.prog (Instr.loadAt 22 (.pointer (some (x1.add 3)))) (.one .slc) (fun x25 w =>
        semS Tryd.prog (Builtin.append_ #[22, 22] 22 #[(.slice x24.a x24.len x24.cap), (.slice x25.a x25.len x25.cap)]) (.one .slc) (fun r26 w =>
        semU Tryd.prog (Instr.storeAt 22 (.pointer (some (x23.add 3))) (.slice r26.a r26.len r26.cap)) (fun w =>
        semS Tryd.prog (Instr.loadAt 22 (.pointer (some (x23.add 3)))) (.one .slc) (fun x27 w =>
        semS Tryd.prog (Instr.indexAt 22 (.slice x27.a x27.len x27.cap) (.int .i64 p1)) (.one .adr) (fun x28 w =>
        semS Tryd.prog (Instr.loadAt 5 (.pointer (some x28))) (.one (.int .u8)) (fun x29 w =>
        semS Tryd.prog (Instr.indexAt 22 (.slice x27.a x27.len x27.cap) (.int .i64 p1)) (.one .adr) (fun x30 w =>
        semU Tryd.prog (Instr.storeAt 5 (.pointer (some x30)) (.int .u8 (xorI .u8 x29 (IntKind.wrap .u8 p2)))) (fun w =>
        semS Tryd.prog (Instr.loadAt 3 (.pointer (some (x1.add 0)))) (.one (.int .i64)) (fun x31 w =>
        semS Tryd.prog (Instr.loadAt 22 (.pointer (some (x1.add 2)))) (.one .slc) (fun x32 w =>
        semS Tryd.prog (Instr.loadAt 3 (.pointer (some (x1.add 1)))) (.one (.int .i64)) (fun x33 w =>
        semS Tryd.prog (Instr.loadAt 22 (.pointer (some (x1.add 3)))) (.one .slc) (fun x34 w =>
        callS Tryd.prog 15 #[(.int .i64 x31), (.slice x32.a x32.len x32.cap), (.int .i64 x33), (.slice x34.a x34.len x34.cap)] [(.one .slc), (.one (.int .i64))] (fun r35 r36 w =>
        semS Tryd.prog (Instr.loadAt 3 (.pointer (some (x23.add 0)))) (.one (.int .i64)) (fun x37 w =>
        semS Tryd.prog (Instr.loadAt 22 (.pointer (some (x23.add 2)))) (.one .slc) (fun x38 w =>
        semS Tryd.prog (Instr.loadAt 3 (.pointer (some (x23.add 1)))) (.one (.int .i64)) (fun x39 w =>
        semS Tryd.prog (Instr.loadAt 22 (.pointer (some (x23.add 3)))) (.one .slc) (fun x40 w =>
        callS Tryd.prog 15 #[(.int .i64 x37), (.slice x38.a x38.len x38.cap), (.int .i64 x39), (.slice x40.a x40.len x40.cap)] [(.one .slc), (.one (.int .i64))] (fun r41 r42 w =>
        cond ((r36 != 0) || (r42 != 0))
          (K false w)
          (drawS w fun C w =>
          semQ Tryd.prog C (convert 22 9 (.slice r35.a r35.len r35.cap)) (.one .str) (fun x43 =>
          semQ Tryd.prog C (convert 22 9 (.slice r41.a r41.len r41.cap)) (.one .str) (fun x44 =>
          cond (!(x43.toList == x44.toList))
            (K true w)
            (semQ Tryd.prog C (Instr.loadAt 24 (.pointer (some x1))) (.agg [(.int .i64), (.int .i64), .slc, .slc]) (fun x45 x46 x47 x48 =>
            semQ Tryd.prog C (Instr.loadAt 24 (.pointer (some x23))) (.agg [(.int .i64), (.int .i64), .slc, .slc]) (fun x49 x50 x51 x52 =>
            semQ Tryd.prog C (Instr.loadAt 3 (.pointer (some (x1.add 1)))) (.one (.int .i64)) (fun x53 =>
            semQ Tryd.prog C (binS .quo 3 (.tmp 100) (.tmp 102) (.int .i64 p1) (.int .i64 x53)) (.one (.int .i64)) (fun x54 =>
            callS Tryd.prog 19 #[(.agg #[(.int .i64 x45), (.int .i64 x46), (.slice x47.a x47.len x47.cap), (.slice x48.a x48.len x48.cap)]), (.agg #[(.int .i64 x49), (.int .i64 x50), (.slice x51.a x51.len x51.cap), (.slice x52.a x52.len x52.cap)]), (.int .i64 x54)] [(.one .bool)] (fun r55 w =>
            K r55 w) w))))))))) w) w) w) w) w) w) w) w) w) w) w) w) w) w) w) w) w) w) w) w) w) w)) fun J18 =>
    cond (((!r16) || (!r10)) || (decide (p1 < 0)))
      (J18 true w)
      (semS Tryd.prog (Instr.loadAt 22 (.pointer (some (x1.add 3)))) (.one .slc) (fun x57 w =>
        J18 (decide (p1 ≥ (x57.len : Int))) w) w)) w) w) w) w) w) w)) w) w
theorem f6_ok {p0_0 : Int} {p0_1 : Int} {p0_2 : Sl} {p0_3 : Sl} {p1 : Int} {p2 : Int} {K : Bool → World → Prop} {w : World} (h : f6 p0_0 p0_1 p0_2 p0_3 p1 p2 K w) : callS Tryd.prog 6 #[(.agg #[(.int .i64 p0_0), (.int .i64 p0_1), (.slice p0_2.a p0_2.len p0_2.cap), (.slice p0_3.a p0_3.len p0_3.cap)]), (.int .i64 p1), (.int .i64 p2)] [(.one .bool)] K w :=
  calls_of_fn (args := [(.agg #[(.int .i64 p0_0), (.int .i64 p0_1), (.slice p0_2.a p0_2.len p0_2.cap), (.slice p0_3.a p0_3.len p0_3.cap)]), (.int .i64 p1), (.int .i64 p2)]) Tryd.f6 [] [] [] (.two .nil (.two .nil (.two .nil (.two .nil (.two .nil (.two .nil (.two .nil (.two .nil (.two .nil (.two (.draw [0, 1, 0, 4, 15, 31, 63, 63, 63, 63, 575, 1855, 4095, 8191, 16383]) .nil)))))))))) (by kernel_rfl) (by kernel_rfl)
    (Eq.mp (by kernel_rfl : f6 p0_0 p0_1 p0_2 p0_3 p1 p2 K w = evFn Tryd.prog Tryd.f6 [] [] [] (.two .nil (.two .nil (.two .nil (.two .nil (.two .nil (.two .nil (.two .nil (.two .nil (.two .nil (.two (.draw [0, 1, 0, 4, 15, 31, 63, 63, 63, 63, 575, 1855, 4095, 8191, 16383]) .nil)))))))))) [(.agg #[(.int .i64 p0_0), (.int .i64 p0_1), (.slice p0_2.a p0_2.len p0_2.cap), (.slice p0_3.a p0_3.len p0_3.cap)]), (.int .i64 p1), (.int .i64 p2)] [(.one .bool)] K w) h)

/-- sallyport/span.Within -/
def f54 (p0 : Int) (p1 : Int) (p2 : Int) (K : Bool → World → Prop) (w : World) : Prop :=
  K (((((decide (p0 ≥ 0)) && (decide (p1 ≥ 0))) && (decide (p2 ≥ 0))) && (decide (p0 ≤ p2))) && (decide (p1 ≤ (IntKind.wrap .i64 (p2 - p0))))) w
theorem f54_ok {p0 : Int} {p1 : Int} {p2 : Int} {K : Bool → World → Prop} {w : World} (h : f54 p0 p1 p2 K w) : callS Tryd.prog 54 #[(.int .i64 p0), (.int .i64 p1), (.int .i64 p2)] [(.one .bool)] K w :=
  calls_of_fn (args := [(.int .i64 p0), (.int .i64 p1), (.int .i64 p2)]) Tryd.f54 [] [] [] .nil (by kernel_rfl) (by kernel_rfl)
    (Eq.mp (by kernel_rfl : f54 p0 p1 p2 K w = evFn Tryd.prog Tryd.f54 [] [] [] .nil [(.int .i64 p0), (.int .i64 p1), (.int .i64 p2)] [(.one .bool)] K w) h)

/-- sallyport/span.Cut -/
def f38 (p0 : Sl) (p1 : Int) (p2 : Int) (K : Sl → Int → World → Prop) (w : World) : Prop :=
  callS Tryd.prog 54 #[(.int .i64 p1), (.int .i64 p2), (.int .i64 (p0.len : Int))] [(.one .bool)] (fun r1 w =>
  cond (!r1)
    (K (⟨none, 0, 0⟩) 10 w)
    (semS Tryd.prog (Instr.sliceAt 22 (.slice p0.a p0.len p0.cap) (some (.int .i64 p1)) (some (.int .i64 (IntKind.wrap .i64 (p1 + p2)))) none) (.one .slc) (fun x2 w =>
    callS Tryd.prog 35 #[(.slice x2.a x2.len x2.cap)] [(.one .slc)] (fun r3 w =>
    K r3 0 w) w) w)) w
theorem f38_ok {p0 : Sl} {p1 : Int} {p2 : Int} {K : Sl → Int → World → Prop} {w : World} (h : f38 p0 p1 p2 K w) : callS Tryd.prog 38 #[(.slice p0.a p0.len p0.cap), (.int .i64 p1), (.int .i64 p2)] [(.one .slc), (.one (.int .i64))] K w :=
  calls_of_fn (args := [(.slice p0.a p0.len p0.cap), (.int .i64 p1), (.int .i64 p2)]) Tryd.f38 [] [] [] .nil (by kernel_rfl) (by kernel_rfl)
    (Eq.mp (by kernel_rfl : f38 p0 p1 p2 K w = evFn Tryd.prog Tryd.f38 [] [] [] .nil [(.slice p0.a p0.len p0.cap), (.int .i64 p1), (.int .i64 p2)] [(.one .slc), (.one (.int .i64))] K w) h)

/-- sallyport/grove.Check -/
def f21 (p0 : Int) (p1 : Sl) (p2 : Sl) (p3 : Int) (p4 : Sl) (K : Bool → World → Prop) (w : World) : Prop :=
  callS Tryd.prog 27 #[(.int .i64 p0)] [(.one (.int .i64))] (fun r1 w =>
  callS Tryd.prog 38 #[(.slice p2.a p2.len p2.cap), (.int .i64 p3), (.int .i64 r1)] [(.one .slc), (.one (.int .i64))] (fun r2 r3 w =>
  semS Tryd.prog (Instr.buildSlice 40 1 #[(0, (.slice p4.a p4.len p4.cap))]) (.one .slc) (fun x4 w =>
  callS Tryd.prog 31 #[(.int .i64 p0), (.slice p1.a p1.len p1.cap), (.slice x4.a x4.len x4.cap)] [(.one .slc), (.one (.int .i64))] (fun r5 r6 w =>
  joinS (σ := Bool) (fun b7 w =>
    K b7 w) fun J8 =>
  cond ((r3 == 0) && (r6 == 0))
    (callS Tryd.prog 34 #[(.slice r5.a r5.len r5.cap), (.slice r2.a r2.len r2.cap)] [(.one .bool)] (fun r9 w =>
      J8 r9 w) w)
    (J8 false w)) w) w) w) w
theorem f21_ok {p0 : Int} {p1 : Sl} {p2 : Sl} {p3 : Int} {p4 : Sl} {K : Bool → World → Prop} {w : World} (h : f21 p0 p1 p2 p3 p4 K w) : callS Tryd.prog 21 #[(.int .i64 p0), (.slice p1.a p1.len p1.cap), (.slice p2.a p2.len p2.cap), (.int .i64 p3), (.slice p4.a p4.len p4.cap)] [(.one .bool)] K w :=
  calls_of_fn (args := [(.int .i64 p0), (.slice p1.a p1.len p1.cap), (.slice p2.a p2.len p2.cap), (.int .i64 p3), (.slice p4.a p4.len p4.cap)]) Tryd.f21 [] [] [] .nil (by kernel_rfl) (by kernel_rfl)
    (Eq.mp (by kernel_rfl : f21 p0 p1 p2 p3 p4 K w = evFn Tryd.prog Tryd.f21 [] [] [] .nil [(.int .i64 p0), (.slice p1.a p1.len p1.cap), (.slice p2.a p2.len p2.cap), (.int .i64 p3), (.slice p4.a p4.len p4.cap)] [(.one .bool)] K w) h)

/-- sallyport/sallyportlaw09.GroveChecks -/
def f7 (p0_0 : Int) (p0_1 : Int) (p0_2 : Sl) (p0_3 : Sl) (p1 : Sl) (p2 : Int) (p3 : Sl) (K : Bool → World → Prop) (w : World) : Prop :=
  semS Tryd.prog (Instr.box 24 (.agg #[(.int .i64 p0_0), (.int .i64 p0_1), (.slice p0_2.a p0_2.len p0_2.cap), (.slice p0_3.a p0_3.len p0_3.cap)])) (.one .adr) (fun x1 w =>
  callS Tryd.prog 11 #[] [(.one .bool)] (fun r2 w =>
  cond (!r2)
    (K false w)
    (semS Tryd.prog (Instr.loadAt 22 (.pointer (some (x1.add 2)))) (.one .slc) (fun x3 w =>
    cond (((decide ((x3.len : Int) > 200)) || (decide ((p1.len : Int) > 500))) || (decide ((p3.len : Int) > 500)))
      (K true w)
      (semS Tryd.prog (Instr.loadAt 3 (.pointer (some (x1.add 0)))) (.one (.int .i64)) (fun x4 w =>
      callS Tryd.prog 16 #[(.int .i64 x4)] [(.one (.int .i64))] (fun r5 w =>
      joinS (σ := Bool) (fun b6 w =>
        joinS (σ := Bool) (fun x8 w =>
          semS Tryd.prog (Instr.loadAt 3 (.pointer (some (x1.add 0)))) (.one (.int .i64)) (fun x10 w =>
          semS Tryd.prog (Instr.loadAt 22 (.pointer (some (x1.add 2)))) (.one .slc) (fun x11 w =>
          callS Tryd.prog 21 #[(.int .i64 x10), (.slice x11.a x11.len x11.cap), (.slice p1.a p1.len p1.cap), (.int .i64 p2), (.slice p3.a p3.len p3.cap)] [(.one .bool)] (fun r12 w =>
          K (r12 == x8) w) w) w) w) fun J9 =>
        cond (((b6 && (decide (p2 ≥ 0))) && (decide (r5 ≤ (p1.len : Int)))) && (decide (p2 ≤ (IntKind.wrap .i64 ((p1.len : Int) - r5)))))
          (drawS w fun C w =>
          semQ Tryd.prog C (Instr.sliceAt 22 (.slice p1.a p1.len p1.cap) (some (.int .i64 p2)) (some (.int .i64 (IntKind.wrap .i64 (p2 + r5)))) none) (.one .slc) (fun x13 =>
          semQ Tryd.prog C (convert 22 9 (.slice x13.a x13.len x13.cap)) (.one .str) (fun x14 =>
          semQ Tryd.prog C (Instr.loadAt 3 (.pointer (some (x1.add 0)))) (.one (.int .i64)) (fun x15 =>
          semQ Tryd.prog C (Instr.loadAt 22 (.pointer (some (x1.add 2)))) (.one .slc) (fun x16 =>
          callS Tryd.prog 20 #[(.int .i64 x15), (.slice x16.a x16.len x16.cap), (.slice p3.a p3.len p3.cap)] [(.one .slc)] (fun r17 w =>
          moreS C w (fun C =>
          semQ Tryd.prog C (convert 22 9 (.slice r17.a r17.len r17.cap)) (.one .str) (fun x18 =>
          J9 (x14.toList == x18.toList) w))) w)))))
          (J9 (((b6 && (decide (p2 ≥ 0))) && (decide (r5 ≤ (p1.len : Int)))) && (decide (p2 ≤ (IntKind.wrap .i64 ((p1.len : Int) - r5))))) w)) fun J7 =>
      cond (decide (r5 > 0))
        (semS Tryd.prog (Instr.loadAt 22 (.pointer (some (x1.add 2)))) (.one .slc) (fun x19 w =>
          J7 (decide ((x19.len : Int) ≤ 64)) w) w)
        (J7 false w)) w) w)) w)) w) w
theorem f7_ok {p0_0 : Int} {p0_1 : Int} {p0_2 : Sl} {p0_3 : Sl} {p1 : Sl} {p2 : Int} {p3 : Sl} {K : Bool → World → Prop} {w : World} (h : f7 p0_0 p0_1 p0_2 p0_3 p1 p2 p3 K w) : callS Tryd.prog 7 #[(.agg #[(.int .i64 p0_0), (.int .i64 p0_1), (.slice p0_2.a p0_2.len p0_2.cap), (.slice p0_3.a p0_3.len p0_3.cap)]), (.slice p1.a p1.len p1.cap), (.int .i64 p2), (.slice p3.a p3.len p3.cap)] [(.one .bool)] K w :=
  calls_of_fn (args := [(.agg #[(.int .i64 p0_0), (.int .i64 p0_1), (.slice p0_2.a p0_2.len p0_2.cap), (.slice p0_3.a p0_3.len p0_3.cap)]), (.slice p1.a p1.len p1.cap), (.int .i64 p2), (.slice p3.a p3.len p3.cap)]) Tryd.f7 [] [] [] (.two .nil (.two .nil (.two .nil (.two .nil (.two .nil (.join [(10, .bool)] (.two .nil (.two (.draw [0, 0, 0, 0, 12, 31, 63, 0, 128, 0, 512, 0, 3968, 8064, 16383, 32767]) .nil)) .nil)))))) (by kernel_rfl) (by kernel_rfl)
    (Eq.mp (by kernel_rfl : f7 p0_0 p0_1 p0_2 p0_3 p1 p2 p3 K w = evFn Tryd.prog Tryd.f7 [] [] [] (.two .nil (.two .nil (.two .nil (.two .nil (.two .nil (.join [(10, .bool)] (.two .nil (.two (.draw [0, 0, 0, 0, 12, 31, 63, 0, 128, 0, 512, 0, 3968, 8064, 16383, 32767]) .nil)) .nil)))))) [(.agg #[(.int .i64 p0_0), (.int .i64 p0_1), (.slice p0_2.a p0_2.len p0_2.cap), (.slice p0_3.a p0_3.len p0_3.cap)]), (.slice p1.a p1.len p1.cap), (.int .i64 p2), (.slice p3.a p3.len p3.cap)] [(.one .bool)] K w) h)

/-- (sallyport/place.Shape).arity -/
def f59 (p0_0 : Int) (p0_1 : Int) (p0_2 : Int) (K : Int → World → Prop) (w : World) : Prop :=
  semS Tryd.prog (Instr.box 53 (.agg #[(.int .i64 p0_0), (.int .i64 p0_1), (.int .i64 p0_2)])) (.one .adr) (fun x1 w =>
  semS Tryd.prog (Instr.loadAt 3 (.pointer (some (x1.add 1)))) (.one (.int .i64)) (fun x2 w =>
  semS Tryd.prog (Instr.loadAt 3 (.pointer (some (x1.add 2)))) (.one (.int .i64)) (fun x3 w =>
  semS Tryd.prog (binS .quo 3 (.tmp 4) (.tmp 6) (.int .i64 x2) (.int .i64 x3)) (.one (.int .i64)) (fun x4 w =>
  K x4 w) w) w) w) w
theorem f59_ok {p0_0 : Int} {p0_1 : Int} {p0_2 : Int} {K : Int → World → Prop} {w : World} (h : f59 p0_0 p0_1 p0_2 K w) : callS Tryd.prog 59 #[(.agg #[(.int .i64 p0_0), (.int .i64 p0_1), (.int .i64 p0_2)])] [(.one (.int .i64))] K w :=
  calls_of_fn (args := [(.agg #[(.int .i64 p0_0), (.int .i64 p0_1), (.int .i64 p0_2)])]) Tryd.f59 [] [] [] .nil (by kernel_rfl) (by kernel_rfl)
    (Eq.mp (by kernel_rfl : f59 p0_0 p0_1 p0_2 K w = evFn Tryd.prog Tryd.f59 [] [] [] .nil [(.agg #[(.int .i64 p0_0), (.int .i64 p0_1), (.int .i64 p0_2)])] [(.one (.int .i64))] K w) h)

/-- (sallyport/place.Shape).counts -/
def f55 (p0_0 : Int) (p0_1 : Int) (p0_2 : Int) (K : Sl → World → Prop) (w : World) : Prop :=
  semS Tryd.prog (Instr.box 53 (.agg #[(.int .i64 p0_0), (.int .i64 p0_1), (.int .i64 p0_2)])) (.one .adr) (fun x1 w =>
  semS Tryd.prog (Instr.loadAt 3 (.pointer (some (x1.add 0)))) (.one (.int .i64)) (fun x2 w =>
  semS Tryd.prog (Instr.loadAt 3 (.pointer (some (x1.add 1)))) (.one (.int .i64)) (fun x3 w =>
  semS Tryd.prog (Instr.loadAt 3 (.pointer (some (x1.add 1)))) (.one (.int .i64)) (fun x4 w =>
  semS Tryd.prog (binS .quo 3 (.tmp 10) (.tmp 12) (.int .i64 (IntKind.wrap .i64 ((IntKind.wrap .i64 (x2 + x3)) - 1))) (.int .i64 x4)) (.one (.int .i64)) (fun x5 w =>
  semS Tryd.prog (Instr.buildSlice 49 1 #[(0, (.int .i64 x5))]) (.one .slc) (fun x6 w =>
  loopS (σ := Int × Sl) (fun s7 w again8 =>
    cond (decide (s7.1 > 1))
      (drawS w fun C w =>
      semQ Tryd.prog C (Instr.loadAt 53 (.pointer (some x1))) (.agg [(.int .i64), (.int .i64), (.int .i64)]) (fun x9 x10 x11 =>
      semQ Tryd.prog C (Instr.loadAt 53 (.pointer (some x1))) (.agg [(.int .i64), (.int .i64), (.int .i64)]) (fun x12 x13 x14 =>
      callS Tryd.prog 59 #[(.agg #[(.int .i64 x9), (.int .i64 x10), (.int .i64 x11)])] [(.one (.int .i64))] (fun r15 w =>
      moreS C w (fun C =>
      callS Tryd.prog 59 #[(.agg #[(.int .i64 x12), (.int .i64 x13), (.int .i64 x14)])] [(.one (.int .i64))] (fun r16 w =>
      moreS C w (fun C =>
      semQ Tryd.prog C (binS .quo 3 (.tmp 22) (.tmp 24) (.int .i64 (IntKind.wrap .i64 ((IntKind.wrap .i64 (s7.1 + r15)) - 1))) (.int .i64 r16)) (.one (.int .i64)) (fun x17 =>
      semS Tryd.prog (Instr.buildSlice 49 1 #[(0, (.int .i64 x17))]) (.one .slc) (fun x18 w =>
      semS Tryd.prog (Builtin.append_ #[49, 49] 49 #[(.slice s7.2.a s7.2.len s7.2.cap), (.slice x18.a x18.len x18.cap)]) (.one .slc) (fun r19 w =>
      again8 (x17, r19) w) w) w))) w)) w)))
      (K s7.2 w)) (x5, x6) w) w) w) w) w) w) w
theorem f55_ok {p0_0 : Int} {p0_1 : Int} {p0_2 : Int} {K : Sl → World → Prop} {w : World} (h : f55 p0_0 p0_1 p0_2 K w) : callS Tryd.prog 55 #[(.agg #[(.int .i64 p0_0), (.int .i64 p0_1), (.int .i64 p0_2)])] [(.one .slc)] K w :=
  calls_of_fnS (args := [(.agg #[(.int .i64 p0_0), (.int .i64 p0_1), (.int .i64 p0_2)])]) Tryd.f55 [] [(3, (.int .i64)), (4, .slc)] [.nil, .nil] (.two (.two .nil (.two (.two (.draw [0, 0, 2, 7, 15, 0, 38, 127, 255]) .nil) .nil)) .nil) .nil (by kernel_rfl) (by kernel_rfl)
    (Eq.mp (by kernel_rfl : f55 p0_0 p0_1 p0_2 K w = evFnS Tryd.prog Tryd.f55 [] [(3, (.int .i64)), (4, .slc)] [.nil, .nil] (.two (.two .nil (.two (.two (.draw [0, 0, 2, 7, 15, 0, 38, 127, 255]) .nil) .nil)) .nil) .nil [(.agg #[(.int .i64 p0_0), (.int .i64 p0_1), (.int .i64 p0_2)])] [(.one .slc)] K w) h)

/-- (sallyport/place.Shape).parts -/
def f58 (p0_0 : Int) (p0_1 : Int) (p0_2 : Int) (p1 : Cx) (K : Int → Int → Int → World → Prop) (w : World) : Prop :=
  semS Tryd.prog (Instr.box 53 (.agg #[(.int .i64 p0_0), (.int .i64 p0_1), (.int .i64 p0_2)])) (.one .adr) (fun x1 w =>
  semS Tryd.prog (Instr.loadAt 53 (.pointer (some x1))) (.agg [(.int .i64), (.int .i64), (.int .i64)]) (fun x2 x3 x4 w =>
  callS Tryd.prog 55 #[(.agg #[(.int .i64 x2), (.int .i64 x3), (.int .i64 x4)])] [(.one .slc)] (fun r5 w =>
  cond (!(((((fOrd p1.re 0) == some .gt || (fOrd p1.re 0) == some .eq) && ((fOrd p1.re 4787326403894837248) == some .lt || (fOrd p1.re 4787326403894837248) == some .eq)) && ((fOrd p1.im 0) == some .gt || (fOrd p1.im 0) == some .eq)) && ((fOrd p1.im (FloatKind.nearest .f64 (r5.len : Int))) == some .lt)))
    (K 0 0 13 w)
    (semS Tryd.prog (convert 91 3 (.float .f64 p1.re)) (.one (.int .i64)) (fun x6 w =>
    semS Tryd.prog (convert 91 3 (.float .f64 p1.im)) (.one (.int .i64)) (fun x7 w =>
    joinS (σ := Bool) (fun b8 w =>
      cond b8
        (K 0 0 13 w)
        (K x6 x7 0 w)) fun J9 =>
    cond (!(fcEq (FloatKind.nearest .f64 x6) p1.re && fcEq (FloatKind.nearest .f64 x7) p1.im))
      (J9 true w)
      (semS Tryd.prog (Instr.indexAt 49 (.slice r5.a r5.len r5.cap) (.int .i64 x7)) (.one .adr) (fun x10 w =>
        semS Tryd.prog (Instr.loadAt 3 (.pointer (some x10))) (.one (.int .i64)) (fun x11 w =>
        J9 (decide (x6 ≥ x11)) w) w) w)) w) w)) w) w) w
theorem f58_ok {p0_0 : Int} {p0_1 : Int} {p0_2 : Int} {p1 : Cx} {K : Int → Int → Int → World → Prop} {w : World} (h : f58 p0_0 p0_1 p0_2 p1 K w) : callS Tryd.prog 58 #[(.agg #[(.int .i64 p0_0), (.int .i64 p0_1), (.int .i64 p0_2)]), (.complex .f64 p1.re p1.im)] [(.one (.int .i64)), (.one (.int .i64)), (.one (.int .i64))] K w :=
  calls_of_fn (args := [(.agg #[(.int .i64 p0_0), (.int .i64 p0_1), (.int .i64 p0_2)]), (.complex .f64 p1.re p1.im)]) Tryd.f58 [] [] [] .nil (by kernel_rfl) (by kernel_rfl)
    (Eq.mp (by kernel_rfl : f58 p0_0 p0_1 p0_2 p1 K w = evFn Tryd.prog Tryd.f58 [] [] [] .nil [(.agg #[(.int .i64 p0_0), (.int .i64 p0_1), (.int .i64 p0_2)]), (.complex .f64 p1.re p1.im)] [(.one (.int .i64)), (.one (.int .i64)), (.one (.int .i64))] K w) h)

/-- (sallyport/place.Shape).Above -/
def f43 (p0_0 : Int) (p0_1 : Int) (p0_2 : Int) (p1 : Cx) (K : Cx → Int → Int → World → Prop) (w : World) : Prop :=
  semS Tryd.prog (Instr.box 53 (.agg #[(.int .i64 p0_0), (.int .i64 p0_1), (.int .i64 p0_2)])) (.one .adr) (fun x1 w =>
  semS Tryd.prog (Instr.loadAt 53 (.pointer (some x1))) (.agg [(.int .i64), (.int .i64), (.int .i64)]) (fun x2 x3 x4 w =>
  callS Tryd.prog 44 #[(.agg #[(.int .i64 x2), (.int .i64 x3), (.int .i64 x4)])] [(.one .bool)] (fun r5 w =>
  cond (!r5)
    (K (⟨0, 0⟩) 0 24 w)
    (semS Tryd.prog (Instr.loadAt 53 (.pointer (some x1))) (.agg [(.int .i64), (.int .i64), (.int .i64)]) (fun x6 x7 x8 w =>
    callS Tryd.prog 58 #[(.agg #[(.int .i64 x6), (.int .i64 x7), (.int .i64 x8)]), (.complex .f64 p1.re p1.im)] [(.one (.int .i64)), (.one (.int .i64)), (.one (.int .i64))] (fun r9 r10 r11 w =>
    cond (r11 != 0)
      (K (⟨0, 0⟩) 0 r11 w)
      (semS Tryd.prog (Instr.loadAt 53 (.pointer (some x1))) (.agg [(.int .i64), (.int .i64), (.int .i64)]) (fun x12 x13 x14 w =>
      callS Tryd.prog 55 #[(.agg #[(.int .i64 x12), (.int .i64 x13), (.int .i64 x14)])] [(.one .slc)] (fun r15 w =>
      semS Tryd.prog (Instr.indexAt 49 (.slice r15.a r15.len r15.cap) (.int .i64 r10)) (.one .adr) (fun x16 w =>
      semS Tryd.prog (Instr.loadAt 3 (.pointer (some x16))) (.one (.int .i64)) (fun x17 w =>
      cond (x17 == 1)
        (K (⟨0, 0⟩) 0 51 w)
        (drawS w fun C w =>
        semQ Tryd.prog C (Instr.loadAt 53 (.pointer (some x1))) (.agg [(.int .i64), (.int .i64), (.int .i64)]) (fun x18 x19 x20 =>
        semQ Tryd.prog C (Instr.loadAt 53 (.pointer (some x1))) (.agg [(.int .i64), (.int .i64), (.int .i64)]) (fun x21 x22 x23 =>
        semQ Tryd.prog C (Instr.loadAt 3 (.pointer (some (x1.add 2)))) (.one (.int .i64)) (fun x24 =>
        callS Tryd.prog 59 #[(.agg #[(.int .i64 x18), (.int .i64 x19), (.int .i64 x20)])] [(.one (.int .i64))] (fun r25 w =>
        moreS C w (fun C =>
        semQ Tryd.prog C (binS .quo 3 (.tmp 30) (.tmp 32) (.int .i64 r9) (.int .i64 r25)) (.one (.int .i64)) (fun x26 =>
        semQ Tryd.prog C (binS .add 78 (.tmp 37) (.const (Go.Value.complex Go.FloatKind.f64 0 4607182418800017408)) (.complex .f64 (FloatKind.nearest .f64 x26) (FloatKind.nearest .f64 r10)) (.complex .f64 0 4607182418800017408)) (.one .cpx) (fun x27 =>
        callS Tryd.prog 59 #[(.agg #[(.int .i64 x21), (.int .i64 x22), (.int .i64 x23)])] [(.one (.int .i64))] (fun r28 w =>
        moreS C w (fun C =>
        semQ Tryd.prog C (binS .rem 3 (.tmp 39) (.tmp 41) (.int .i64 r9) (.int .i64 r28)) (.one (.int .i64)) (fun x29 =>
        K (⟨x27.re, x27.im⟩) (IntKind.wrap .i64 (x29 * x24)) 0 w))) w)))) w))))) w) w) w) w)) w) w)) w) w) w
theorem f43_ok {p0_0 : Int} {p0_1 : Int} {p0_2 : Int} {p1 : Cx} {K : Cx → Int → Int → World → Prop} {w : World} (h : f43 p0_0 p0_1 p0_2 p1 K w) : callS Tryd.prog 43 #[(.agg #[(.int .i64 p0_0), (.int .i64 p0_1), (.int .i64 p0_2)]), (.complex .f64 p1.re p1.im)] [(.one .cpx), (.one (.int .i64)), (.one (.int .i64))] K w :=
  calls_of_fn (args := [(.agg #[(.int .i64 p0_0), (.int .i64 p0_1), (.int .i64 p0_2)]), (.complex .f64 p1.re p1.im)]) Tryd.f43 [] [] [] (.two .nil (.two .nil (.two .nil (.two .nil (.two (.draw [0, 0, 2, 7, 15, 0, 32, 127, 255, 0, 0, 1030, 3590, 0, 8192, 32262, 3583, 131071, 262143]) .nil))))) (by kernel_rfl) (by kernel_rfl)
    (Eq.mp (by kernel_rfl : f43 p0_0 p0_1 p0_2 p1 K w = evFn Tryd.prog Tryd.f43 [] [] [] (.two .nil (.two .nil (.two .nil (.two .nil (.two (.draw [0, 0, 2, 7, 15, 0, 32, 127, 255, 0, 0, 1030, 3590, 0, 8192, 32262, 3583, 131071, 262143]) .nil))))) [(.agg #[(.int .i64 p0_0), (.int .i64 p0_1), (.int .i64 p0_2)]), (.complex .f64 p1.re p1.im)] [(.one .cpx), (.one (.int .i64)), (.one (.int .i64))] K w) h)

/-- slices.Clip[[]complex128,complex128] -/
def f56 (p0 : Sl) (K : Sl → World → Prop) (w : World) : Prop :=
  semS Tryd.prog (Instr.sliceAt 73 (.slice p0.a p0.len p0.cap) none (some (.int .i64 (p0.len : Int))) (some (.int .i64 (p0.len : Int)))) (.one .slc) (fun x1 w =>
  K x1 w) w
theorem f56_ok {p0 : Sl} {K : Sl → World → Prop} {w : World} (h : f56 p0 K w) : callS Tryd.prog 56 #[(.slice p0.a p0.len p0.cap)] [(.one .slc)] K w :=
  calls_of_fn (args := [(.slice p0.a p0.len p0.cap)]) Tryd.f56 [] [] [] .nil (by kernel_rfl) (by kernel_rfl)
    (Eq.mp (by kernel_rfl : f56 p0 K w = evFn Tryd.prog Tryd.f56 [] [] [] .nil [(.slice p0.a p0.len p0.cap)] [(.one .slc)] K w) h)

/-- (sallyport/place.Shape).Path -/
def f40 (p0_0 : Int) (p0_1 : Int) (p0_2 : Int) (p1 : Int) (K : Sl → Int → World → Prop) (w : World) : Prop :=
  semS Tryd.prog (Instr.box 53 (.agg #[(.int .i64 p0_0), (.int .i64 p0_1), (.int .i64 p0_2)])) (.one .adr) (fun x1 w =>
  semS Tryd.prog (Instr.loadAt 53 (.pointer (some x1))) (.agg [(.int .i64), (.int .i64), (.int .i64)]) (fun x2 x3 x4 w =>
  callS Tryd.prog 44 #[(.agg #[(.int .i64 x2), (.int .i64 x3), (.int .i64 x4)])] [(.one .bool)] (fun r5 w =>
  cond (!r5)
    (K (⟨none, 0, 0⟩) 24 w)
    (joinS (σ := Bool) (fun b6 w =>
      cond b6
        (K (⟨none, 0, 0⟩) 13 w)
        (semS Tryd.prog (Instr.buildSlice 73 1 #[(0, (.complex .f64 (FloatKind.nearest .f64 p1) 0))]) (.one .slc) (fun x8 w =>
        loopS (σ := Cx × Sl) (fun s9 w again10 =>
          semS Tryd.prog (Instr.loadAt 53 (.pointer (some x1))) (.agg [(.int .i64), (.int .i64), (.int .i64)]) (fun x11 x12 x13 w =>
          callS Tryd.prog 43 #[(.agg #[(.int .i64 x11), (.int .i64 x12), (.int .i64 x13)]), (.complex .f64 s9.1.re s9.1.im)] [(.one .cpx), (.one (.int .i64)), (.one (.int .i64))] (fun r14 r15 r16 w =>
          cond (r16 == 0)
            (semS Tryd.prog (Instr.buildSlice 73 1 #[(0, (.complex .f64 r14.re r14.im))]) (.one .slc) (fun x17 w =>
            semS Tryd.prog (Builtin.append_ #[73, 73] 73 #[(.slice s9.2.a s9.2.len s9.2.cap), (.slice x17.a x17.len x17.cap)]) (.one .slc) (fun r18 w =>
            again10 (⟨r14.re, r14.im⟩, r18) w) w) w)
            (callS Tryd.prog 56 #[(.slice s9.2.a s9.2.len s9.2.cap)] [(.one .slc)] (fun r19 w =>
            K r19 0 w) w)) w) w) (⟨FloatKind.nearest .f64 p1, 0⟩, x8) w) w)) fun J7 =>
    cond (decide (p1 < 0))
      (J7 true w)
      (semS Tryd.prog (Instr.loadAt 53 (.pointer (some x1))) (.agg [(.int .i64), (.int .i64), (.int .i64)]) (fun x20 x21 x22 w =>
        callS Tryd.prog 55 #[(.agg #[(.int .i64 x20), (.int .i64 x21), (.int .i64 x22)])] [(.one .slc)] (fun r23 w =>
        semS Tryd.prog (Instr.indexAt 49 (.slice r23.a r23.len r23.cap) (.int .i64 0)) (.one .adr) (fun x24 w =>
        semS Tryd.prog (Instr.loadAt 3 (.pointer (some x24))) (.one (.int .i64)) (fun x25 w =>
        J7 (decide (p1 ≥ x25)) w) w) w) w) w))) w) w) w
theorem f40_ok {p0_0 : Int} {p0_1 : Int} {p0_2 : Int} {p1 : Int} {K : Sl → Int → World → Prop} {w : World} (h : f40 p0_0 p0_1 p0_2 p1 K w) : callS Tryd.prog 40 #[(.agg #[(.int .i64 p0_0), (.int .i64 p0_1), (.int .i64 p0_2)]), (.int .i64 p1)] [(.one .slc), (.one (.int .i64))] K w :=
  calls_of_fnS (args := [(.agg #[(.int .i64 p0_0), (.int .i64 p0_1), (.int .i64 p0_2)]), (.int .i64 p1)]) Tryd.f40 [] [(6, .cpx), (7, .slc)] [.nil, .nil, .nil] .nil .nil (by kernel_rfl) (by kernel_rfl)
    (Eq.mp (by kernel_rfl : f40 p0_0 p0_1 p0_2 p1 K w = evFnS Tryd.prog Tryd.f40 [] [(6, .cpx), (7, .slc)] [.nil, .nil, .nil] .nil .nil [(.agg #[(.int .i64 p0_0), (.int .i64 p0_1), (.int .i64 p0_2)]), (.int .i64 p1)] [(.one .slc), (.one (.int .i64))] K w) h)

/-- slices.IndexFunc[[][]byte,[]byte] -/
def f57 (p0 : Sl) (p1 : Value) (K : Int → World → Prop) (w : World) : Prop :=
  loopS (σ := Int) (fun x1 w again2 =>
    cond (decide (x1 < (p0.len : Int)))
      (semS Tryd.prog (Instr.indexAt 40 (.slice p0.a p0.len p0.cap) (.int .i64 x1)) (.one .adr) (fun x3 w =>
      semS Tryd.prog (Instr.loadAt 22 (.pointer (some x3))) (.one .slc) (fun x4 w =>
      callY Tryd.prog (callSem p1 #[(.slice x4.a x4.len x4.cap)]) [(.one .bool)] (fun r5 w =>
      cond r5
        (K x1 w)
        (again2 (IntKind.wrap .i64 (x1 + 1)) w)) w) w) w)
      (K (-1) w)) 0 w
theorem f57_ok {p0 : Sl} {p1 : Value} {K : Int → World → Prop} {w : World} (h : f57 p0 p1 K w) : callS Tryd.prog 57 #[(.slice p0.a p0.len p0.cap), p1] [(.one (.int .i64))] K w :=
  calls_of_fn (args := [(.slice p0.a p0.len p0.cap), p1]) Tryd.f57 [1, 11] [] [] (.two .nil (.two (.two .nil (.one (.loop [(8, (.int .i64))] .nil))) .nil)) (by kernel_rfl) (by kernel_rfl)
    (Eq.mp (by kernel_rfl : f57 p0 p1 K w = evFn Tryd.prog Tryd.f57 [1, 11] [] [] (.two .nil (.two (.two .nil (.one (.loop [(8, (.int .i64))] .nil))) .nil)) [(.slice p0.a p0.len p0.cap), p1] [(.one (.int .i64))] K w) h)

/-- slices.ContainsFunc[[][]byte,[]byte] -/
def f41 (p0 : Sl) (p1 : Value) (K : Bool → World → Prop) (w : World) : Prop :=
  callS Tryd.prog 57 #[(.slice p0.a p0.len p0.cap), p1] [(.one (.int .i64))] (fun r1 w =>
  K (decide (r1 ≥ 0)) w) w
theorem f41_ok {p0 : Sl} {p1 : Value} {K : Bool → World → Prop} {w : World} (h : f41 p0 p1 K w) : callS Tryd.prog 41 #[(.slice p0.a p0.len p0.cap), p1] [(.one .bool)] K w :=
  calls_of_fn (args := [(.slice p0.a p0.len p0.cap), p1]) Tryd.f41 [1, 6] [] [] .nil (by kernel_rfl) (by kernel_rfl)
    (Eq.mp (by kernel_rfl : f41 p0 p1 K w = evFn Tryd.prog Tryd.f41 [1, 6] [] [] .nil [(.slice p0.a p0.len p0.cap), p1] [(.one .bool)] K w) h)

/-- sallyport/grove.Climb$1 -/
def f42 (p0 : Sl) (c0 : Addr) (K : Bool → World → Prop) (w : World) : Prop :=
  semS Tryd.prog (Instr.loadAt 3 (.pointer (some (c0.add 1)))) (.one (.int .i64)) (fun x1 w =>
  K ((p0.len : Int) != x1) w) w
theorem f42_ok {p0 : Sl} {c0 : Addr} {K : Bool → World → Prop} {w : World} (h : f42 p0 c0 K w) : callS Tryd.prog 42 #[(.slice p0.a p0.len p0.cap), (.pointer (some c0))] [(.one .bool)] K w :=
  calls_of_fn (args := [(.slice p0.a p0.len p0.cap), (.pointer (some c0))]) Tryd.f42 [] [] [] .nil (by kernel_rfl) (by kernel_rfl)
    (Eq.mp (by kernel_rfl : f42 p0 c0 K w = evFn Tryd.prog Tryd.f42 [] [] [] .nil [(.slice p0.a p0.len p0.cap), (.pointer (some c0))] [(.one .bool)] K w) h)

/-- sallyport/grove.Climb -/
def f24 (p0 : Int) (p1 : Sl) (p2_0 : Int) (p2_1 : Int) (p2_2 : Int) (p3 : Int) (p4 : Sl) (p5 : Sl) (K : Int → World → Prop) (w : World) : Prop :=
  semS Tryd.prog (Instr.box 53 (.agg #[(.int .i64 p2_0), (.int .i64 p2_1), (.int .i64 p2_2)])) (.one .adr) (fun x1 w =>
  semS Tryd.prog (Instr.loadAt 53 (.pointer (some x1))) (.agg [(.int .i64), (.int .i64), (.int .i64)]) (fun x2 x3 x4 w =>
  callS Tryd.prog 28 #[(.int .i64 p0), (.slice p1.a p1.len p1.cap), (.agg #[(.int .i64 x2), (.int .i64 x3), (.int .i64 x4)])] [(.one (.int .i64))] (fun r5 w =>
  cond (r5 != 0)
    (K r5 w)
    (semS Tryd.prog (Instr.loadAt 53 (.pointer (some x1))) (.agg [(.int .i64), (.int .i64), (.int .i64)]) (fun x6 x7 x8 w =>
    callS Tryd.prog 40 #[(.agg #[(.int .i64 x6), (.int .i64 x7), (.int .i64 x8)]), (.int .i64 p3)] [(.one .slc), (.one (.int .i64))] (fun r9 r10 w =>
    cond (r10 != 0)
      (K r10 w)
      (joinS (σ := Bool) (fun b11 w =>
        cond b11
          (K 12 w)
          (semS Tryd.prog (Instr.sliceAt 73 (.slice r9.a r9.len r9.cap) none (some (.int .i64 (IntKind.wrap .i64 ((r9.len : Int) - 1)))) none) (.one .slc) (fun x13 w =>
          loopS (σ := Int) (fun x14 w again15 =>
            cond (decide (x14 < (x13.len : Int)))
              (semS Tryd.prog (Instr.indexAt 73 (.slice x13.a x13.len x13.cap) (.int .i64 x14)) (.one .adr) (fun x16 w =>
              semS Tryd.prog (Instr.loadAt 78 (.pointer (some x16))) (.one .cpx) (fun x17 w =>
              semS Tryd.prog (Instr.loadAt 53 (.pointer (some x1))) (.agg [(.int .i64), (.int .i64), (.int .i64)]) (fun x18 x19 x20 w =>
              callS Tryd.prog 43 #[(.agg #[(.int .i64 x18), (.int .i64 x19), (.int .i64 x20)]), (.complex .f64 x17.re x17.im)] [(.one .cpx), (.one (.int .i64)), (.one (.int .i64))] (fun r21 r22 r23 w =>
              drawS w fun C w =>
              cond (r23 != 0)
                (K 54 w)
                (semQ Tryd.prog C (Instr.indexAt 40 (.slice p4.a p4.len p4.cap) (.int .i64 (IntKind.wrap .i64 (x14 + 1)))) (.one .adr) (fun x24 =>
                semQ Tryd.prog C (Instr.loadAt 22 (.pointer (some x24))) (.one .slc) (fun x25 =>
                semQ Tryd.prog C (Instr.indexAt 40 (.slice p4.a p4.len p4.cap) (.int .i64 x14)) (.one .adr) (fun x26 =>
                semQ Tryd.prog C (Instr.loadAt 22 (.pointer (some x26))) (.one .slc) (fun x27 =>
                callS Tryd.prog 21 #[(.int .i64 p0), (.slice p1.a p1.len p1.cap), (.slice x25.a x25.len x25.cap), (.int .i64 r22), (.slice x27.a x27.len x27.cap)] [(.one .bool)] (fun r28 w =>
                cond (!r28)
    (K 54 w)
    (again15 (IntKind.wrap .i64 (x14 + 1)) w)) w)))))) w) w) w) w)
              (semS Tryd.prog (Instr.indexAt 40 (.slice p4.a p4.len p4.cap) (.int .i64 (IntKind.wrap .i64 ((p4.len : Int) - 1)))) (.one .adr) (fun x30 w =>
              semS Tryd.prog (Instr.loadAt 22 (.pointer (some x30))) (.one .slc) (fun x31 w =>
              semS Tryd.prog (Instr.buildSlice 40 1 #[(0, (.slice x31.a x31.len x31.cap))]) (.one .slc) (fun x32 w =>
              callS Tryd.prog 31 #[(.int .i64 p0), (.slice p1.a p1.len p1.cap), (.slice x32.a x32.len x32.cap)] [(.one .slc), (.one (.int .i64))] (fun r33 r34 w =>
              callS Tryd.prog 34 #[(.slice r33.a r33.len r33.cap), (.slice p5.a p5.len p5.cap)] [(.one .bool)] (fun r35 w =>
              cond (!r35)
                (K 51 w)
                (K 0 w)) w) w) w) w) w)) 0 w) w)) fun J12 =>
      cond ((p4.len : Int) != (r9.len : Int))
        (J12 true w)
        (callS Tryd.prog 41 #[(.slice p4.a p4.len p4.cap), (.func (.func 42) #[] #[(.pointer (some x1))])] [(.one .bool)] (fun r36 w =>
          J12 r36 w) w))) w) w)) w) w) w
theorem f24_ok {p0 : Int} {p1 : Sl} {p2_0 : Int} {p2_1 : Int} {p2_2 : Int} {p3 : Int} {p4 : Sl} {p5 : Sl} {K : Int → World → Prop} {w : World} (h : f24 p0 p1 p2_0 p2_1 p2_2 p3 p4 p5 K w) : callS Tryd.prog 24 #[(.int .i64 p0), (.slice p1.a p1.len p1.cap), (.agg #[(.int .i64 p2_0), (.int .i64 p2_1), (.int .i64 p2_2)]), (.int .i64 p3), (.slice p4.a p4.len p4.cap), (.slice p5.a p5.len p5.cap)] [(.one (.int .i64))] K w :=
  calls_of_fn (args := [(.int .i64 p0), (.slice p1.a p1.len p1.cap), (.agg #[(.int .i64 p2_0), (.int .i64 p2_1), (.int .i64 p2_2)]), (.int .i64 p3), (.slice p4.a p4.len p4.cap), (.slice p5.a p5.len p5.cap)]) Tryd.f24 [] [] [] (.two .nil (.two .nil (.two .nil (.two .nil (.two .nil (.two (.two .nil (.one (.loop [(55, (.int .i64))] (.two .nil (.two .nil (.two (.one (.two .nil (.two .nil (.two (.draw [0, 1, 3, 7, 7, 7, 7, 71, 231, 487, 7, 7, 7, 6151, 14343, 32767, 65535, 131071]) .nil)))) .nil)))))) .nil)))))) (by kernel_rfl) (by kernel_rfl)
    (Eq.mp (by kernel_rfl : f24 p0 p1 p2_0 p2_1 p2_2 p3 p4 p5 K w = evFn Tryd.prog Tryd.f24 [] [] [] (.two .nil (.two .nil (.two .nil (.two .nil (.two .nil (.two (.two .nil (.one (.loop [(55, (.int .i64))] (.two .nil (.two .nil (.two (.one (.two .nil (.two .nil (.two (.draw [0, 1, 3, 7, 7, 7, 7, 71, 231, 487, 7, 7, 7, 6151, 14343, 32767, 65535, 131071]) .nil)))) .nil)))))) .nil)))))) [(.int .i64 p0), (.slice p1.a p1.len p1.cap), (.agg #[(.int .i64 p2_0), (.int .i64 p2_1), (.int .i64 p2_2)]), (.int .i64 p3), (.slice p4.a p4.len p4.cap), (.slice p5.a p5.len p5.cap)] [(.one (.int .i64))] K w) h)

/-- sallyport/sallyportlaw09.GroveClimbs -/
def f8 (p0_0 : Int) (p0_1 : Int) (p0_2 : Sl) (p0_3 : Sl) (p1 : Int) (p2 : Int) (p3 : Int) (K : Bool → World → Prop) (w : World) : Prop :=
  semS Tryd.prog (Instr.box 24 (.agg #[(.int .i64 p0_0), (.int .i64 p0_1), (.slice p0_2.a p0_2.len p0_2.cap), (.slice p0_3.a p0_3.len p0_3.cap)])) (.one .adr) (fun x1 w =>
  callS Tryd.prog 11 #[] [(.one .bool)] (fun r2 w =>
  cond (!r2)
    (K false w)
    (semS Tryd.prog (Instr.loadAt 24 (.pointer (some x1))) (.agg [(.int .i64), (.int .i64), .slc, .slc]) (fun x3 x4 x5 x6 w =>
    callS Tryd.prog 12 #[(.agg #[(.int .i64 x3), (.int .i64 x4), (.slice x5.a x5.len x5.cap), (.slice x6.a x6.len x6.cap)])] [(.agg [(.int .i64), (.int .i64), (.int .i64)]), (.one .bool)] (fun r7 r8 r9 r10 w =>
    semS Tryd.prog (Instr.alloc 27 true (.tuple #[])) (.one .adr) (fun x11 w =>
    semU Tryd.prog (Instr.storeAt 27 (.pointer (some x11)) (.agg #[(.int .i64 r7), (.int .i64 r8), (.int .i64 r9)])) (fun w =>
    semS Tryd.prog (Instr.loadAt 24 (.pointer (some x1))) (.agg [(.int .i64), (.int .i64), .slc, .slc]) (fun x12 x13 x14 x15 w =>
    callS Tryd.prog 13 #[(.agg #[(.int .i64 x12), (.int .i64 x13), (.slice x14.a x14.len x14.cap), (.slice x15.a x15.len x15.cap)])] [(.one .bool)] (fun r16 w =>
    joinS (σ := Bool) (fun b17 w =>
      cond ((b17 || (decide (p2 < 0))) || (decide (p3 < 0)))
        (K true w)
        (semS Tryd.prog (Instr.loadAt 3 (.pointer (some (x1.add 0)))) (.one (.int .i64)) (fun x19 w =>
        semS Tryd.prog (Instr.loadAt 22 (.pointer (some (x1.add 2)))) (.one .slc) (fun x20 w =>
        semS Tryd.prog (Instr.loadAt 3 (.pointer (some (x1.add 1)))) (.one (.int .i64)) (fun x21 w =>
        semS Tryd.prog (Instr.loadAt 22 (.pointer (some (x1.add 3)))) (.one .slc) (fun x22 w =>
        callS Tryd.prog 14 #[(.int .i64 x19), (.slice x20.a x20.len x20.cap), (.int .i64 x21), (.slice x22.a x22.len x22.cap)] [(.one .slc), (.one .slc), (.one (.int .i64))] (fun r23 r24 r25 w =>
        semS Tryd.prog (Instr.loadAt 24 (.pointer (some x1))) (.agg [(.int .i64), (.int .i64), .slc, .slc]) (fun x26 x27 x28 x29 w =>
        semS Tryd.prog (Instr.loadAt 27 (.pointer (some x11))) (.agg [(.int .i64), (.int .i64), (.int .i64)]) (fun x30 x31 x32 w =>
        callS Tryd.prog 23 #[(.agg #[(.int .i64 x26), (.int .i64 x27), (.slice x28.a x28.len x28.cap), (.slice x29.a x29.len x29.cap)]), (.agg #[(.int .i64 x30), (.int .i64 x31), (.int .i64 x32)]), (.int .i64 p1)] [(.one .slc)] (fun r33 w =>
        joinS (σ := Bool) (fun b34 w =>
          cond b34
            (K false w)
            (semS Tryd.prog (binS .rem 3 (.tmp 88) (.tmp 90) (.int .i64 p2) (.int .i64 (r33.len : Int))) (.one (.int .i64)) (fun x36 w =>
            semS Tryd.prog (Instr.buildSlice 22 0 #[]) (.one .slc) (fun x37 w =>
            semS Tryd.prog (Instr.indexAt 40 (.slice r33.a r33.len r33.cap) (.int .i64 x36)) (.one .adr) (fun x38 w =>
            semS Tryd.prog (Instr.loadAt 22 (.pointer (some x38))) (.one .slc) (fun x39 w =>
            semS Tryd.prog (Builtin.append_ #[22, 22] 22 #[(.slice x37.a x37.len x37.cap), (.slice x39.a x39.len x39.cap)]) (.one .slc) (fun r40 w =>
            drawS w fun C w =>
            semQ Tryd.prog C (binS .rem 3 (.tmp 100) (.tmp 102) (.int .i64 (IntKind.wrap .i64 (Int.tdiv p3 8))) (.int .i64 (r40.len : Int))) (.one (.int .i64)) (fun x41 =>
            semQ Tryd.prog C (Instr.indexAt 22 (.slice r40.a r40.len r40.cap) (.int .i64 x41)) (.one .adr) (fun x42 =>
            semQ Tryd.prog C (Instr.loadAt 5 (.pointer (some x42))) (.one (.int .u8)) (fun x43 =>
            semQ Tryd.prog C (binS .shl 5 (.const (Go.Value.int Go.IntKind.u8 1)) (.tmp 107) (.int .u8 1) (.int .i64 (Int.tmod p3 8))) (.one (.int .u8)) (fun x44 =>
            semQ Tryd.prog C (Instr.indexAt 22 (.slice r40.a r40.len r40.cap) (.int .i64 x41)) (.one .adr) (fun x45 =>
            semU Tryd.prog (Instr.storeAt 5 (.pointer (some x45)) (.int .u8 (xorI .u8 x43 x44))) (fun w =>
            semS Tryd.prog (Instr.indexAt 40 (.slice r33.a r33.len r33.cap) (.int .i64 x36)) (.one .adr) (fun x46 w =>
            semU Tryd.prog (Instr.storeAt 22 (.pointer (some x46)) (.slice r40.a r40.len r40.cap)) (fun w =>
            semS Tryd.prog (Instr.loadAt 3 (.pointer (some (x1.add 0)))) (.one (.int .i64)) (fun x47 w =>
            semS Tryd.prog (Instr.loadAt 22 (.pointer (some (x1.add 2)))) (.one .slc) (fun x48 w =>
            semS Tryd.prog (Instr.loadAt 27 (.pointer (some x11))) (.agg [(.int .i64), (.int .i64), (.int .i64)]) (fun x49 x50 x51 w =>
            callS Tryd.prog 24 #[(.int .i64 x47), (.slice x48.a x48.len x48.cap), (.agg #[(.int .i64 x49), (.int .i64 x50), (.int .i64 x51)]), (.int .i64 p1), (.slice r33.a r33.len r33.cap), (.slice r24.a r24.len r24.cap)] [(.one (.int .i64))] (fun r52 w =>
            semS Tryd.prog (Instr.alloc 55 true (.tuple #[])) (.one .adr) (fun x53 w =>
            semU Tryd.prog (Instr.storeAt 55 (.pointer (some x53)) (.agg #[(.int .i64 p1), (.int .i64 0)])) (fun w =>
            loopS (σ := Int × Int) (fun s54 w again55 =>
              cond ((decide ((IntKind.wrap .i64 (s54.2 + 1)) < (r33.len : Int))) && (s54.1 == 0))
                (semS Tryd.prog (Instr.loadAt 27 (.pointer (some x11))) (.agg [(.int .i64), (.int .i64), (.int .i64)]) (fun x56 x57 x58 w =>
                semS Tryd.prog (Instr.loadAt 55 (.pointer (some x53))) (.agg [(.int .i64), (.int .i64)]) (fun x59 x60 w =>
                callS Tryd.prog 25 #[(.agg #[(.int .i64 x56), (.int .i64 x57), (.int .i64 x58)]), (.agg #[(.int .i64 x59), (.int .i64 x60)])] [(.agg [(.int .i64), (.int .i64)]), (.one (.int .i64))] (fun r61 r62 r63 w =>
                semS Tryd.prog (Instr.alloc 55 true (.tuple #[])) (.one .adr) (fun x64 w =>
                semU Tryd.prog (Instr.storeAt 55 (.pointer (some x64)) (.agg #[(.int .i64 r61), (.int .i64 r62)])) (fun w =>
                drawS w fun C w =>
                semQ Tryd.prog C (Instr.indexAt 40 (.slice r33.a r33.len r33.cap) (.int .i64 (IntKind.wrap .i64 (s54.2 + 1)))) (.one .adr) (fun x65 =>
                semQ Tryd.prog C (Instr.loadAt 22 (.pointer (some x65))) (.one .slc) (fun x66 =>
                semQ Tryd.prog C (Instr.loadAt 3 (.pointer (some (x11.add 2)))) (.one (.int .i64)) (fun x67 =>
                semQ Tryd.prog C (Instr.sliceAt 22 (.slice x66.a x66.len x66.cap) (some (.int .i64 r63)) (some (.int .i64 (IntKind.wrap .i64 (r63 + x67)))) none) (.one .slc) (fun x68 =>
                semQ Tryd.prog C (convert 22 9 (.slice x68.a x68.len x68.cap)) (.one .str) (fun x69 =>
                semQ Tryd.prog C (Instr.loadAt 3 (.pointer (some (x1.add 0)))) (.one (.int .i64)) (fun x70 =>
                semQ Tryd.prog C (Instr.loadAt 22 (.pointer (some (x1.add 2)))) (.one .slc) (fun x71 =>
                semQ Tryd.prog C (Instr.indexAt 40 (.slice r33.a r33.len r33.cap) (.int .i64 s54.2)) (.one .adr) (fun x72 =>
                semQ Tryd.prog C (Instr.loadAt 22 (.pointer (some x72))) (.one .slc) (fun x73 =>
                callS Tryd.prog 20 #[(.int .i64 x70), (.slice x71.a x71.len x71.cap), (.slice x73.a x73.len x73.cap)] [(.one .slc)] (fun r74 w =>
                moreS C w (fun C =>
                semQ Tryd.prog C (convert 22 9 (.slice r74.a r74.len r74.cap)) (.one .str) (fun x75 =>
                cond (!(x69.toList == x75.toList))
                  (semS Tryd.prog (Instr.loadAt 55 (.pointer (some x64))) (.agg [(.int .i64), (.int .i64)]) (fun x76 x77 w =>
                  semU Tryd.prog (Instr.storeAt 55 (.pointer (some x53)) (.agg #[(.int .i64 x76), (.int .i64 x77)])) (fun w =>
                  again55 (54, IntKind.wrap .i64 (s54.2 + 1)) w) w) w)
                  (semS Tryd.prog (Instr.loadAt 55 (.pointer (some x64))) (.agg [(.int .i64), (.int .i64)]) (fun x78 x79 w =>
                  semU Tryd.prog (Instr.storeAt 55 (.pointer (some x53)) (.agg #[(.int .i64 x78), (.int .i64 x79)])) (fun w =>
                  again55 (s54.1, IntKind.wrap .i64 (s54.2 + 1)) w) w) w)))) w)))))))))) w) w) w) w) w)
                (drawS w fun C w =>
                cond (s54.1 == 0)
                  (semQ Tryd.prog C (Instr.loadAt 3 (.pointer (some (x1.add 0)))) (.one (.int .i64)) (fun x80 =>
                  semQ Tryd.prog C (Instr.loadAt 22 (.pointer (some (x1.add 2)))) (.one .slc) (fun x81 =>
                  semQ Tryd.prog C (Instr.indexAt 40 (.slice r33.a r33.len r33.cap) (.int .i64 (IntKind.wrap .i64 ((r33.len : Int) - 1)))) (.one .adr) (fun x82 =>
                  semQ Tryd.prog C (Instr.loadAt 22 (.pointer (some x82))) (.one .slc) (fun x83 =>
                  semQ Tryd.prog C (convert 22 9 (.slice r24.a r24.len r24.cap)) (.one .str) (fun x84 =>
                  callS Tryd.prog 20 #[(.int .i64 x80), (.slice x81.a x81.len x81.cap), (.slice x83.a x83.len x83.cap)] [(.one .slc)] (fun r85 w =>
                  moreS C w (fun C =>
                  semQ Tryd.prog C (convert 22 9 (.slice r85.a r85.len r85.cap)) (.one .str) (fun x86 =>
                  cond (!(x86.toList == x84.toList))
    (K (r52 == 51) w)
    (K (r52 == s54.1) w)))) w))))))
                  (K (r52 == s54.1) w))) (0, 0) w) w) w) w) w) w) w) w) w) w)))))) w) w) w) w) w)) fun J35 =>
        cond (r25 != 0)
          (J35 true w)
          (semS Tryd.prog (Instr.loadAt 3 (.pointer (some (x1.add 0)))) (.one (.int .i64)) (fun x88 w =>
            semS Tryd.prog (Instr.loadAt 22 (.pointer (some (x1.add 2)))) (.one .slc) (fun x89 w =>
            semS Tryd.prog (Instr.loadAt 27 (.pointer (some x11))) (.agg [(.int .i64), (.int .i64), (.int .i64)]) (fun x90 x91 x92 w =>
            callS Tryd.prog 24 #[(.int .i64 x88), (.slice x89.a x89.len x89.cap), (.agg #[(.int .i64 x90), (.int .i64 x91), (.int .i64 x92)]), (.int .i64 p1), (.slice r33.a r33.len r33.cap), (.slice r24.a r24.len r24.cap)] [(.one (.int .i64))] (fun r93 w =>
            J35 (r93 != 0) w) w) w) w) w)) w) w) w) w) w) w) w) w)) fun J18 =>
    cond (((!r16) || (!r10)) || (decide (p1 < 0)))
      (J18 true w)
      (semS Tryd.prog (Instr.loadAt 27 (.pointer (some x11))) (.agg [(.int .i64), (.int .i64), (.int .i64)]) (fun x94 x95 x96 w =>
        callS Tryd.prog 22 #[(.agg #[(.int .i64 x94), (.int .i64 x95), (.int .i64 x96)])] [(.one .slc)] (fun r97 w =>
        semS Tryd.prog (Instr.indexAt 49 (.slice r97.a r97.len r97.cap) (.int .i64 0)) (.one .adr) (fun x98 w =>
        semS Tryd.prog (Instr.loadAt 3 (.pointer (some x98))) (.one (.int .i64)) (fun x99 w =>
        J18 (decide (p1 ≥ x99)) w) w) w) w) w)) w) w) w) w) w) w)) w) w
theorem f8_ok {p0_0 : Int} {p0_1 : Int} {p0_2 : Sl} {p0_3 : Sl} {p1 : Int} {p2 : Int} {p3 : Int} {K : Bool → World → Prop} {w : World} (h : f8 p0_0 p0_1 p0_2 p0_3 p1 p2 p3 K w) : callS Tryd.prog 8 #[(.agg #[(.int .i64 p0_0), (.int .i64 p0_1), (.slice p0_2.a p0_2.len p0_2.cap), (.slice p0_3.a p0_3.len p0_3.cap)]), (.int .i64 p1), (.int .i64 p2), (.int .i64 p3)] [(.one .bool)] K w :=
  calls_of_fn (args := [(.agg #[(.int .i64 p0_0), (.int .i64 p0_1), (.slice p0_2.a p0_2.len p0_2.cap), (.slice p0_3.a p0_3.len p0_3.cap)]), (.int .i64 p1), (.int .i64 p2), (.int .i64 p3)]) Tryd.f8 [] [] [] (.two .nil (.two .nil (.two .nil (.two .nil (.two .nil (.two .nil (.two .nil (.two .nil (.two .nil (.two (.draw [0, 0, 2, 0, 8, 30, 63, 127, 0, 256, 768, 2047, 4095, 8191]) (.two .nil (.two .nil (.two .nil (.two .nil (.two (.two .nil (.one (.loop [(18, (.int .i64)), (20, (.int .i64))] (.two .nil (.two (.one (.two .nil (.two (.two (.draw [0, 0, 2, 7, 15, 0, 0, 0, 128, 448, 1023, 2047, 0, 4096, 0, 16384, 0, 0, 196608, 458752, 1044480, 2093056, 4194303]) .nil) .nil))) .nil))))) (.two (.two (.draw [0, 1, 3, 7, 15, 7, 39, 7, 7, 263, 775, 1927, 3975, 8191, 16383, 7, 32775, 131071, 262143]) .nil) .nil)))))))))))))))) (by kernel_rfl) (by kernel_rfl)
    (Eq.mp (by kernel_rfl : f8 p0_0 p0_1 p0_2 p0_3 p1 p2 p3 K w = evFn Tryd.prog Tryd.f8 [] [] [] (.two .nil (.two .nil (.two .nil (.two .nil (.two .nil (.two .nil (.two .nil (.two .nil (.two .nil (.two (.draw [0, 0, 2, 0, 8, 30, 63, 127, 0, 256, 768, 2047, 4095, 8191]) (.two .nil (.two .nil (.two .nil (.two .nil (.two (.two .nil (.one (.loop [(18, (.int .i64)), (20, (.int .i64))] (.two .nil (.two (.one (.two .nil (.two (.two (.draw [0, 0, 2, 7, 15, 0, 0, 0, 128, 448, 1023, 2047, 0, 4096, 0, 16384, 0, 0, 196608, 458752, 1044480, 2093056, 4194303]) .nil) .nil))) .nil))))) (.two (.two (.draw [0, 1, 3, 7, 15, 7, 39, 7, 7, 263, 775, 1927, 3975, 8191, 16383, 7, 32775, 131071, 262143]) .nil) .nil)))))))))))))))) [(.agg #[(.int .i64 p0_0), (.int .i64 p0_1), (.slice p0_2.a p0_2.len p0_2.cap), (.slice p0_3.a p0_3.len p0_3.cap)]), (.int .i64 p1), (.int .i64 p2), (.int .i64 p3)] [(.one .bool)] K w) h)

def f9_t1 (x1 : Addr) (z25 : Addr) (p1 : Int) (s8 : Sl × Bool × Int) (p3 : Sl) (K : Bool → World → Prop) (w : World) : Prop :=
  semS Tryd.prog (Instr.loadAt 3 (.pointer (some (x1.add 0)))) (.one (.int .i64)) (fun x26 w =>
  semS Tryd.prog (Instr.loadAt 22 (.pointer (some (x1.add 2)))) (.one .slc) (fun x27 w =>
  semS Tryd.prog (Instr.loadAt 27 (.pointer (some z25))) (.agg [(.int .i64), (.int .i64), (.int .i64)]) (fun x28 x29 x30 w =>
  callS Tryd.prog 24 #[(.int .i64 x26), (.slice x27.a x27.len x27.cap), (.agg #[(.int .i64 x28), (.int .i64 x29), (.int .i64 x30)]), (.int .i64 p1), (.slice s8.1.a s8.1.len s8.1.cap), (.slice p3.a p3.len p3.cap)] [(.one (.int .i64))] (fun r31 w =>
  semS Tryd.prog (Instr.loadAt 3 (.pointer (some (x1.add 0)))) (.one (.int .i64)) (fun x32 w =>
  callS Tryd.prog 16 #[(.int .i64 x32)] [(.one (.int .i64))] (fun r33 w =>
  cond (r33 == 0)
    (K (r31 == 20) w)
    (semS Tryd.prog (Instr.loadAt 22 (.pointer (some (x1.add 2)))) (.one .slc) (fun x34 w =>
    cond (decide ((x34.len : Int) > 64))
      (K (r31 == 11) w)
      (semS Tryd.prog (Instr.loadAt 27 (.pointer (some z25))) (.agg [(.int .i64), (.int .i64), (.int .i64)]) (fun x35 x36 x37 w =>
      callS Tryd.prog 26 #[(.agg #[(.int .i64 x35), (.int .i64 x36), (.int .i64 x37)])] [(.one .bool)] (fun r38 w =>
      cond (!r38)
        (K (r31 == 24) w)
        (joinS (σ := Bool) (fun b39 w =>
          cond b39
            (K (r31 == 13) w)
            (joinS (σ := Bool) (fun b41 w =>
              cond b41
                (K (r31 == 12) w)
                (K (((r31 == 54) || (r31 == 51)) || (r31 == 0)) w)) fun J42 =>
            cond (!s8.2.1)
              (J42 true w)
              (semS Tryd.prog (Instr.loadAt 27 (.pointer (some z25))) (.agg [(.int .i64), (.int .i64), (.int .i64)]) (fun x43 x44 x45 w =>
                callS Tryd.prog 22 #[(.agg #[(.int .i64 x43), (.int .i64 x44), (.int .i64 x45)])] [(.one .slc)] (fun r46 w =>
                J42 ((s8.1.len : Int) != (r46.len : Int)) w) w) w))) fun J40 =>
        cond (decide (p1 < 0))
          (J40 true w)
          (semS Tryd.prog (Instr.loadAt 27 (.pointer (some z25))) (.agg [(.int .i64), (.int .i64), (.int .i64)]) (fun x47 x48 x49 w =>
            callS Tryd.prog 22 #[(.agg #[(.int .i64 x47), (.int .i64 x48), (.int .i64 x49)])] [(.one .slc)] (fun r50 w =>
            semS Tryd.prog (Instr.indexAt 49 (.slice r50.a r50.len r50.cap) (.int .i64 0)) (.one .adr) (fun x51 w =>
            semS Tryd.prog (Instr.loadAt 3 (.pointer (some x51))) (.one (.int .i64)) (fun x52 w =>
            J40 (decide (p1 ≥ x52)) w) w) w) w) w))) w) w)) w)) w) w) w) w) w) w

/-- sallyport/sallyportlaw09.GroveRefuses -/
def f9 (p0_0 : Int) (p0_1 : Int) (p0_2 : Sl) (p0_3 : Sl) (p1 : Int) (p2 : Sl) (p3 : Sl) (K : Bool → World → Prop) (w : World) : Prop :=
  semS Tryd.prog (Instr.box 24 (.agg #[(.int .i64 p0_0), (.int .i64 p0_1), (.slice p0_2.a p0_2.len p0_2.cap), (.slice p0_3.a p0_3.len p0_3.cap)])) (.one .adr) (fun x1 w =>
  callS Tryd.prog 11 #[] [(.one .bool)] (fun r2 w =>
  cond (!r2)
    (K false w)
    (semS Tryd.prog (Instr.loadAt 24 (.pointer (some x1))) (.agg [(.int .i64), (.int .i64), .slc, .slc]) (fun x3 x4 x5 x6 w =>
    callS Tryd.prog 13 #[(.agg #[(.int .i64 x3), (.int .i64 x4), (.slice x5.a x5.len x5.cap), (.slice x6.a x6.len x6.cap)])] [(.one .bool)] (fun r7 w =>
    cond (((!r7) || (decide ((p2.len : Int) > 20))) || (decide ((p3.len : Int) > 100)))
      (K true w)
      (loopS (σ := Sl × Bool × Int) (fun s8 w again9 =>
        cond (decide (s8.2.2 < (p2.len : Int)))
          (semS Tryd.prog (Instr.indexAt 49 (.slice p2.a p2.len p2.cap) (.int .i64 s8.2.2)) (.one .adr) (fun x10 w =>
          semS Tryd.prog (Instr.loadAt 3 (.pointer (some x10))) (.one (.int .i64)) (fun x11 w =>
          cond ((decide (x11 < 0)) || (decide (x11 > 5000)))
            (K true w)
            (semS Tryd.prog (Instr.makeSlice 22 (.int .i64 x11) (.int .i64 x11)) (.one .slc) (fun x12 w =>
            semS Tryd.prog (Instr.buildSlice 40 1 #[(0, (.slice x12.a x12.len x12.cap))]) (.one .slc) (fun x13 w =>
            semS Tryd.prog (Builtin.append_ #[40, 40] 40 #[(.slice s8.1.a s8.1.len s8.1.cap), (.slice x13.a x13.len x13.cap)]) (.one .slc) (fun r14 w =>
            joinS (σ := Bool) (fun b15 w =>
              again9 (r14, b15, IntKind.wrap .i64 (s8.2.2 + 1)) w) fun J16 =>
            cond s8.2.1
              (semS Tryd.prog (Instr.loadAt 3 (.pointer (some (x1.add 1)))) (.one (.int .i64)) (fun x17 w =>
                J16 (x11 == x17) w) w)
              (J16 false w)) w) w) w)) w) w)
          (drawS w fun C w =>
          semQ Tryd.prog C (Instr.loadAt 22 (.pointer (some (x1.add 3)))) (.one .slc) (fun x18 =>
          semQ Tryd.prog C (Instr.loadAt 3 (.pointer (some (x1.add 1)))) (.one (.int .i64)) (fun x19 =>
          semQ Tryd.prog C (Instr.loadAt 3 (.pointer (some (x1.add 0)))) (.one (.int .i64)) (fun x20 =>
          (callS Tryd.prog 16 #[(.int .i64 x20)] [(.one (.int .i64))] (fun r21 w =>
          moreS C w (fun C =>
          semS Tryd.prog (Instr.alloc 27 true (.tuple #[])) (.one .adr) (fun x22 w =>
            moreS C w (fun C =>
            semU Tryd.prog (Instr.storeAt 27 (.pointer (some x22)) (.agg #[(.int .i64 (x18.len : Int)), (.int .i64 x19), (.int .i64 r21)])) (fun w =>
            f9_t1 x1 x22 p1 s8 p3 K w) w)) w)) w) ∧
          (semS Tryd.prog (Instr.alloc 27 true (.tuple #[])) (.one .adr) (fun x23 w =>
          moreS C w (fun C =>
          callS Tryd.prog 16 #[(.int .i64 x20)] [(.one (.int .i64))] (fun r24 w =>
            moreS C w (fun C =>
            semU Tryd.prog (Instr.storeAt 27 (.pointer (some x23)) (.agg #[(.int .i64 (x18.len : Int)), (.int .i64 x19), (.int .i64 r24)])) (fun w =>
            f9_t1 x1 x23 p1 s8 p3 K w) w)) w)) w)))))) (⟨none, 0, 0⟩, true, 0) w)) w) w)) w) w
theorem f9_ok {p0_0 : Int} {p0_1 : Int} {p0_2 : Sl} {p0_3 : Sl} {p1 : Int} {p2 : Sl} {p3 : Sl} {K : Bool → World → Prop} {w : World} (h : f9 p0_0 p0_1 p0_2 p0_3 p1 p2 p3 K w) : callS Tryd.prog 9 #[(.agg #[(.int .i64 p0_0), (.int .i64 p0_1), (.slice p0_2.a p0_2.len p0_2.cap), (.slice p0_3.a p0_3.len p0_3.cap)]), (.int .i64 p1), (.slice p2.a p2.len p2.cap), (.slice p3.a p3.len p3.cap)] [(.one .bool)] K w :=
  calls_of_fn (args := [(.agg #[(.int .i64 p0_0), (.int .i64 p0_1), (.slice p0_2.a p0_2.len p0_2.cap), (.slice p0_3.a p0_3.len p0_3.cap)]), (.int .i64 p1), (.slice p2.a p2.len p2.cap), (.slice p3.a p3.len p3.cap)]) Tryd.f9 [] [] [] (.two .nil (.two .nil (.two .nil (.two .nil (.two .nil (.two (.two .nil (.one (.loop [(9, .slc), (10, .bool), (32, (.int .i64))] .nil))) (.two (.draw [0, 1, 3, 0, 8, 0, 32, 96, 255, 0, 1023]) .nil))))))) (by kernel_rfl) (by kernel_rfl)
    (Eq.mp (by kernel_rfl : f9 p0_0 p0_1 p0_2 p0_3 p1 p2 p3 K w = evFn Tryd.prog Tryd.f9 [] [] [] (.two .nil (.two .nil (.two .nil (.two .nil (.two .nil (.two (.two .nil (.one (.loop [(9, .slc), (10, .bool), (32, (.int .i64))] .nil))) (.two (.draw [0, 1, 3, 0, 8, 0, 32, 96, 255, 0, 1023]) .nil))))))) [(.agg #[(.int .i64 p0_0), (.int .i64 p0_1), (.slice p0_2.a p0_2.len p0_2.cap), (.slice p0_3.a p0_3.len p0_3.cap)]), (.int .i64 p1), (.slice p2.a p2.len p2.cap), (.slice p3.a p3.len p3.cap)] [(.one .bool)] K w) h)

def f10_t1 (z50 : Bool) (K : Bool → World → Prop) (r37 : Sl) (p2 : Sl) (x1 : Addr) (w : World) : Prop :=
  cond z50
    (K true w)
    (callS Tryd.prog 18 #[(.slice r37.a r37.len r37.cap), (.slice p2.a p2.len p2.cap)] [(.one .slc), (.one .slc), (.one .bool)] (fun r51 r52 r53 w =>
    drawS w fun C w =>
    cond r53
      (semQ Tryd.prog C (convert 22 9 (.slice r51.a r51.len r51.cap)) (.one .str) (fun x54 =>
      semQ Tryd.prog C (convert 22 9 (.slice r52.a r52.len r52.cap)) (.one .str) (fun x55 =>
      cond (!(x54.toList == x55.toList))
        (cond ((r51.len : Int) == (r52.len : Int))
          (semQ Tryd.prog C (Instr.loadAt 3 (.pointer (some (x1.add 0)))) (.one (.int .i64)) (fun x56 =>
          semQ Tryd.prog C (Instr.loadAt 22 (.pointer (some (x1.add 2)))) (.one .slc) (fun x57 =>
          semQ Tryd.prog C (Instr.loadAt 3 (.pointer (some (x1.add 0)))) (.one (.int .i64)) (fun x58 =>
          semQ Tryd.prog C (Instr.loadAt 22 (.pointer (some (x1.add 2)))) (.one .slc) (fun x59 =>
          callS Tryd.prog 20 #[(.int .i64 x56), (.slice x57.a x57.len x57.cap), (.slice r51.a r51.len r51.cap)] [(.one .slc)] (fun r60 w =>
          moreS C w (fun C =>
          semQ Tryd.prog C (convert 22 9 (.slice r60.a r60.len r60.cap)) (.one .str) (fun x61 =>
          callS Tryd.prog 20 #[(.int .i64 x58), (.slice x59.a x59.len x59.cap), (.slice r52.a r52.len r52.cap)] [(.one .slc)] (fun r62 w =>
          moreS C w (fun C =>
          semQ Tryd.prog C (convert 22 9 (.slice r62.a r62.len r62.cap)) (.one .str) (fun x63 =>
          K (x61.toList == x63.toList) w))) w))) w)))))
          (K false w))
        (K false w))))
      (K false w)) w)

/-- sallyport/sallyportlaw09.GroveSame -/
def f10 (p0_0 : Int) (p0_1 : Int) (p0_2 : Sl) (p0_3 : Sl) (p1 : Int) (p2 : Sl) (K : Bool → World → Prop) (w : World) : Prop :=
  semS Tryd.prog (Instr.box 24 (.agg #[(.int .i64 p0_0), (.int .i64 p0_1), (.slice p0_2.a p0_2.len p0_2.cap), (.slice p0_3.a p0_3.len p0_3.cap)])) (.one .adr) (fun x1 w =>
  callS Tryd.prog 11 #[] [(.one .bool)] (fun r2 w =>
  cond (!r2)
    (K false w)
    (semS Tryd.prog (Instr.loadAt 24 (.pointer (some x1))) (.agg [(.int .i64), (.int .i64), .slc, .slc]) (fun x3 x4 x5 x6 w =>
    callS Tryd.prog 12 #[(.agg #[(.int .i64 x3), (.int .i64 x4), (.slice x5.a x5.len x5.cap), (.slice x6.a x6.len x6.cap)])] [(.agg [(.int .i64), (.int .i64), (.int .i64)]), (.one .bool)] (fun r7 r8 r9 r10 w =>
    semS Tryd.prog (Instr.alloc 27 true (.tuple #[])) (.one .adr) (fun x11 w =>
    semU Tryd.prog (Instr.storeAt 27 (.pointer (some x11)) (.agg #[(.int .i64 r7), (.int .i64 r8), (.int .i64 r9)])) (fun w =>
    semS Tryd.prog (Instr.loadAt 24 (.pointer (some x1))) (.agg [(.int .i64), (.int .i64), .slc, .slc]) (fun x12 x13 x14 x15 w =>
    callS Tryd.prog 13 #[(.agg #[(.int .i64 x12), (.int .i64 x13), (.slice x14.a x14.len x14.cap), (.slice x15.a x15.len x15.cap)])] [(.one .bool)] (fun r16 w =>
    joinS (σ := Bool) (fun b17 w =>
      cond (b17 || (decide ((p2.len : Int) > 30)))
        (K true w)
        (loopS (σ := Int) (fun x19 w again20 =>
          cond (decide (x19 < (p2.len : Int)))
            (semS Tryd.prog (Instr.indexAt 40 (.slice p2.a p2.len p2.cap) (.int .i64 x19)) (.one .adr) (fun x21 w =>
            semS Tryd.prog (Instr.loadAt 22 (.pointer (some x21))) (.one .slc) (fun x22 w =>
            cond (decide ((x22.len : Int) > 5000))
              (K true w)
              (again20 (IntKind.wrap .i64 (x19 + 1)) w)) w) w)
            (semS Tryd.prog (Instr.loadAt 3 (.pointer (some (x1.add 0)))) (.one (.int .i64)) (fun x23 w =>
            semS Tryd.prog (Instr.loadAt 22 (.pointer (some (x1.add 2)))) (.one .slc) (fun x24 w =>
            semS Tryd.prog (Instr.loadAt 3 (.pointer (some (x1.add 1)))) (.one (.int .i64)) (fun x25 w =>
            semS Tryd.prog (Instr.loadAt 22 (.pointer (some (x1.add 3)))) (.one .slc) (fun x26 w =>
            callS Tryd.prog 14 #[(.int .i64 x23), (.slice x24.a x24.len x24.cap), (.int .i64 x25), (.slice x26.a x26.len x26.cap)] [(.one .slc), (.one .slc), (.one (.int .i64))] (fun r27 r28 r29 w =>
            semS Tryd.prog (Instr.loadAt 24 (.pointer (some x1))) (.agg [(.int .i64), (.int .i64), .slc, .slc]) (fun x30 x31 x32 x33 w =>
            semS Tryd.prog (Instr.loadAt 27 (.pointer (some x11))) (.agg [(.int .i64), (.int .i64), (.int .i64)]) (fun x34 x35 x36 w =>
            callS Tryd.prog 23 #[(.agg #[(.int .i64 x30), (.int .i64 x31), (.slice x32.a x32.len x32.cap), (.slice x33.a x33.len x33.cap)]), (.agg #[(.int .i64 x34), (.int .i64 x35), (.int .i64 x36)]), (.int .i64 p1)] [(.one .slc)] (fun r37 w =>
            cond (r29 != 0)
              (K false w)
              (drawS w fun C w =>
              semQ Tryd.prog C (Instr.loadAt 3 (.pointer (some (x1.add 0)))) (.one (.int .i64)) (fun x38 =>
              semQ Tryd.prog C (Instr.loadAt 22 (.pointer (some (x1.add 2)))) (.one .slc) (fun x39 =>
              semQ Tryd.prog C (Instr.loadAt 27 (.pointer (some x11))) (.agg [(.int .i64), (.int .i64), (.int .i64)]) (fun x40 x41 x42 =>
              callS Tryd.prog 24 #[(.int .i64 x38), (.slice x39.a x39.len x39.cap), (.agg #[(.int .i64 x40), (.int .i64 x41), (.int .i64 x42)]), (.int .i64 p1), (.slice p2.a p2.len p2.cap), (.slice r28.a r28.len r28.cap)] [(.one (.int .i64))] (fun r43 w =>
              moreS C w (fun C =>
              cond (r43 != 0)
                (f10_t1 true K r37 p2 x1 w)
                (semQ Tryd.prog C (Instr.indexAt 40 (.slice p2.a p2.len p2.cap) (.int .i64 0)) (.one .adr) (fun x44 =>
                semQ Tryd.prog C (Instr.loadAt 22 (.pointer (some x44))) (.one .slc) (fun x45 =>
                semQ Tryd.prog C (convert 22 9 (.slice x45.a x45.len x45.cap)) (.one .str) (fun x46 =>
                semQ Tryd.prog C (Instr.indexAt 40 (.slice r37.a r37.len r37.cap) (.int .i64 0)) (.one .adr) (fun x47 =>
                semQ Tryd.prog C (Instr.loadAt 22 (.pointer (some x47))) (.one .slc) (fun x48 =>
                semQ Tryd.prog C (convert 22 9 (.slice x48.a x48.len x48.cap)) (.one .str) (fun x49 =>
                f10_t1 (x46.toList == x49.toList) K r37 p2 x1 w))))))))) w))))) w) w) w) w) w) w) w) w)) 0 w)) fun J18 =>
    cond (((!r16) || (!r10)) || (decide (p1 < 0)))
      (J18 true w)
      (semS Tryd.prog (Instr.loadAt 27 (.pointer (some x11))) (.agg [(.int .i64), (.int .i64), (.int .i64)]) (fun x65 x66 x67 w =>
        callS Tryd.prog 22 #[(.agg #[(.int .i64 x65), (.int .i64 x66), (.int .i64 x67)])] [(.one .slc)] (fun r68 w =>
        semS Tryd.prog (Instr.indexAt 49 (.slice r68.a r68.len r68.cap) (.int .i64 0)) (.one .adr) (fun x69 w =>
        semS Tryd.prog (Instr.loadAt 3 (.pointer (some x69))) (.one (.int .i64)) (fun x70 w =>
        J18 (decide (p1 ≥ x70)) w) w) w) w) w)) w) w) w) w) w) w)) w) w
theorem f10_ok {p0_0 : Int} {p0_1 : Int} {p0_2 : Sl} {p0_3 : Sl} {p1 : Int} {p2 : Sl} {K : Bool → World → Prop} {w : World} (h : f10 p0_0 p0_1 p0_2 p0_3 p1 p2 K w) : callS Tryd.prog 10 #[(.agg #[(.int .i64 p0_0), (.int .i64 p0_1), (.slice p0_2.a p0_2.len p0_2.cap), (.slice p0_3.a p0_3.len p0_3.cap)]), (.int .i64 p1), (.slice p2.a p2.len p2.cap)] [(.one .bool)] K w :=
  calls_of_fn (args := [(.agg #[(.int .i64 p0_0), (.int .i64 p0_1), (.slice p0_2.a p0_2.len p0_2.cap), (.slice p0_3.a p0_3.len p0_3.cap)]), (.int .i64 p1), (.slice p2.a p2.len p2.cap)]) Tryd.f10 [] [] [] (.two .nil (.two .nil (.two .nil (.two .nil (.two (.two .nil (.one (.loop [(51, (.int .i64))] .nil))) (.two .nil (.two .nil (.two .nil (.two (.two (.draw [0, 1, 0, 4, 0, 0, 0, 0, 255, 511, 1023, 2047, 4095, 8191, 16383, 2047, 34815, 100351, 231423, 524287, 1048575]) .nil) (.two .nil (.two (.draw [0, 1, 3, 7, 3, 19, 63, 127, 255, 511, 1023, 511, 2559, 8191, 16383, 32767, 65535, 131071, 65535, 327679, 65535, 2097151, 4194303, 65535, 8454143, 65535, 33619967, 65535, 264241151, 532676607, 1073741823, 2147483647, 4294967295]) .nil))))))))))) (by kernel_rfl) (by kernel_rfl)
    (Eq.mp (by kernel_rfl : f10 p0_0 p0_1 p0_2 p0_3 p1 p2 K w = evFn Tryd.prog Tryd.f10 [] [] [] (.two .nil (.two .nil (.two .nil (.two .nil (.two (.two .nil (.one (.loop [(51, (.int .i64))] .nil))) (.two .nil (.two .nil (.two .nil (.two (.two (.draw [0, 1, 0, 4, 0, 0, 0, 0, 255, 511, 1023, 2047, 4095, 8191, 16383, 2047, 34815, 100351, 231423, 524287, 1048575]) .nil) (.two .nil (.two (.draw [0, 1, 3, 7, 3, 19, 63, 127, 255, 511, 1023, 511, 2559, 8191, 16383, 32767, 65535, 131071, 65535, 327679, 65535, 2097151, 4194303, 65535, 8454143, 65535, 33619967, 65535, 264241151, 532676607, 1073741823, 2147483647, 4294967295]) .nil))))))))))) [(.agg #[(.int .i64 p0_0), (.int .i64 p0_1), (.slice p0_2.a p0_2.len p0_2.cap), (.slice p0_3.a p0_3.len p0_3.cap)]), (.int .i64 p1), (.slice p2.a p2.len p2.cap)] [(.one .bool)] K w) h)

end Go.Proofs.YtbmcbjmpogbmeaaDoor
