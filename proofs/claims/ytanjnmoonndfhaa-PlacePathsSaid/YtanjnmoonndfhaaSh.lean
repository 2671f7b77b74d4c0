/- The functions of the program, each as a plain statement, with the proof that it suffices for a call: printed by sh.py out of the loaded code. -/
import Derived.Test.YtanjnmoonndfhaaEng6
import Derived.Test.YtanjnmoonndfhaaProg
set_option maxRecDepth 100000
set_option linter.unusedVariables false
namespace Go.Proofs.Ytanjnmoonndfhaa
open Go Go.Eng

/-- math/bits.OnesCount32 -/
def f28 (p0 : Int) (K : Int → World → Prop) (w : World) : Prop :=
  drawS w fun C w =>
  semQ Try.prog C (Instr.index 9 (.string (ByteArray.mk #[0, 1, 1, 2, 1, 2, 2, 3, 1, 2, 2, 3, 2, 3, 3, 4, 1, 2, 2, 3, 2, 3, 3, 4, 2, 3, 3, 4, 3, 4, 4, 5, 1, 2, 2, 3, 2, 3, 3, 4, 2, 3, 3, 4, 3, 4, 4, 5, 2, 3, 3, 4, 3, 4, 4, 5, 3, 4, 4, 5, 4, 5, 5, 6, 1, 2, 2, 3, 2, 3, 3, 4, 2, 3, 3, 4, 3, 4, 4, 5, 2, 3, 3, 4, 3, 4, 4, 5, 3, 4, 4, 5, 4, 5, 5, 6, 2, 3, 3, 4, 3, 4, 4, 5, 3, 4, 4, 5, 4, 5, 5, 6, 3, 4, 4, 5, 4, 5, 5, 6, 4, 5, 5, 6, 5, 6, 6, 7, 1, 2, 2, 3, 2, 3, 3, 4, 2, 3, 3, 4, 3, 4, 4, 5, 2, 3, 3, 4, 3, 4, 4, 5, 3, 4, 4, 5, 4, 5, 5, 6, 2, 3, 3, 4, 3, 4, 4, 5, 3, 4, 4, 5, 4, 5, 5, 6, 3, 4, 4, 5, 4, 5, 5, 6, 4, 5, 5, 6, 5, 6, 6, 7, 2, 3, 3, 4, 3, 4, 4, 5, 3, 4, 4, 5, 4, 5, 5, 6, 3, 4, 4, 5, 4, 5, 5, 6, 4, 5, 5, 6, 5, 6, 6, 7, 3, 4, 4, 5, 4, 5, 5, 6, 4, 5, 5, 6, 5, 6, 6, 7, 4, 5, 5, 6, 5, 6, 6, 7, 5, 6, 6, 7, 6, 7, 7, 8])) (.int .u32 (shrI .u32 p0 24))) (.one (.int .u8)) (fun x1 =>
  semQ Try.prog C (Instr.index 9 (.string (ByteArray.mk #[0, 1, 1, 2, 1, 2, 2, 3, 1, 2, 2, 3, 2, 3, 3, 4, 1, 2, 2, 3, 2, 3, 3, 4, 2, 3, 3, 4, 3, 4, 4, 5, 1, 2, 2, 3, 2, 3, 3, 4, 2, 3, 3, 4, 3, 4, 4, 5, 2, 3, 3, 4, 3, 4, 4, 5, 3, 4, 4, 5, 4, 5, 5, 6, 1, 2, 2, 3, 2, 3, 3, 4, 2, 3, 3, 4, 3, 4, 4, 5, 2, 3, 3, 4, 3, 4, 4, 5, 3, 4, 4, 5, 4, 5, 5, 6, 2, 3, 3, 4, 3, 4, 4, 5, 3, 4, 4, 5, 4, 5, 5, 6, 3, 4, 4, 5, 4, 5, 5, 6, 4, 5, 5, 6, 5, 6, 6, 7, 1, 2, 2, 3, 2, 3, 3, 4, 2, 3, 3, 4, 3, 4, 4, 5, 2, 3, 3, 4, 3, 4, 4, 5, 3, 4, 4, 5, 4, 5, 5, 6, 2, 3, 3, 4, 3, 4, 4, 5, 3, 4, 4, 5, 4, 5, 5, 6, 3, 4, 4, 5, 4, 5, 5, 6, 4, 5, 5, 6, 5, 6, 6, 7, 2, 3, 3, 4, 3, 4, 4, 5, 3, 4, 4, 5, 4, 5, 5, 6, 3, 4, 4, 5, 4, 5, 5, 6, 4, 5, 5, 6, 5, 6, 6, 7, 3, 4, 4, 5, 4, 5, 5, 6, 4, 5, 5, 6, 5, 6, 6, 7, 4, 5, 5, 6, 5, 6, 6, 7, 5, 6, 6, 7, 6, 7, 7, 8])) (.int .u32 (andI .u32 (shrI .u32 p0 16) 255))) (.one (.int .u8)) (fun x2 =>
  semQ Try.prog C (Instr.index 9 (.string (ByteArray.mk #[0, 1, 1, 2, 1, 2, 2, 3, 1, 2, 2, 3, 2, 3, 3, 4, 1, 2, 2, 3, 2, 3, 3, 4, 2, 3, 3, 4, 3, 4, 4, 5, 1, 2, 2, 3, 2, 3, 3, 4, 2, 3, 3, 4, 3, 4, 4, 5, 2, 3, 3, 4, 3, 4, 4, 5, 3, 4, 4, 5, 4, 5, 5, 6, 1, 2, 2, 3, 2, 3, 3, 4, 2, 3, 3, 4, 3, 4, 4, 5, 2, 3, 3, 4, 3, 4, 4, 5, 3, 4, 4, 5, 4, 5, 5, 6, 2, 3, 3, 4, 3, 4, 4, 5, 3, 4, 4, 5, 4, 5, 5, 6, 3, 4, 4, 5, 4, 5, 5, 6, 4, 5, 5, 6, 5, 6, 6, 7, 1, 2, 2, 3, 2, 3, 3, 4, 2, 3, 3, 4, 3, 4, 4, 5, 2, 3, 3, 4, 3, 4, 4, 5, 3, 4, 4, 5, 4, 5, 5, 6, 2, 3, 3, 4, 3, 4, 4, 5, 3, 4, 4, 5, 4, 5, 5, 6, 3, 4, 4, 5, 4, 5, 5, 6, 4, 5, 5, 6, 5, 6, 6, 7, 2, 3, 3, 4, 3, 4, 4, 5, 3, 4, 4, 5, 4, 5, 5, 6, 3, 4, 4, 5, 4, 5, 5, 6, 4, 5, 5, 6, 5, 6, 6, 7, 3, 4, 4, 5, 4, 5, 5, 6, 4, 5, 5, 6, 5, 6, 6, 7, 4, 5, 5, 6, 5, 6, 6, 7, 5, 6, 6, 7, 6, 7, 7, 8])) (.int .u32 (andI .u32 (shrI .u32 p0 8) 255))) (.one (.int .u8)) (fun x3 =>
  semQ Try.prog C (Instr.index 9 (.string (ByteArray.mk #[0, 1, 1, 2, 1, 2, 2, 3, 1, 2, 2, 3, 2, 3, 3, 4, 1, 2, 2, 3, 2, 3, 3, 4, 2, 3, 3, 4, 3, 4, 4, 5, 1, 2, 2, 3, 2, 3, 3, 4, 2, 3, 3, 4, 3, 4, 4, 5, 2, 3, 3, 4, 3, 4, 4, 5, 3, 4, 4, 5, 4, 5, 5, 6, 1, 2, 2, 3, 2, 3, 3, 4, 2, 3, 3, 4, 3, 4, 4, 5, 2, 3, 3, 4, 3, 4, 4, 5, 3, 4, 4, 5, 4, 5, 5, 6, 2, 3, 3, 4, 3, 4, 4, 5, 3, 4, 4, 5, 4, 5, 5, 6, 3, 4, 4, 5, 4, 5, 5, 6, 4, 5, 5, 6, 5, 6, 6, 7, 1, 2, 2, 3, 2, 3, 3, 4, 2, 3, 3, 4, 3, 4, 4, 5, 2, 3, 3, 4, 3, 4, 4, 5, 3, 4, 4, 5, 4, 5, 5, 6, 2, 3, 3, 4, 3, 4, 4, 5, 3, 4, 4, 5, 4, 5, 5, 6, 3, 4, 4, 5, 4, 5, 5, 6, 4, 5, 5, 6, 5, 6, 6, 7, 2, 3, 3, 4, 3, 4, 4, 5, 3, 4, 4, 5, 4, 5, 5, 6, 3, 4, 4, 5, 4, 5, 5, 6, 4, 5, 5, 6, 5, 6, 6, 7, 3, 4, 4, 5, 4, 5, 5, 6, 4, 5, 5, 6, 5, 6, 6, 7, 4, 5, 5, 6, 5, 6, 6, 7, 5, 6, 6, 7, 6, 7, 7, 8])) (.int .u32 (andI .u32 p0 255))) (.one (.int .u8)) (fun x4 =>
  K (IntKind.wrap .i64 (IntKind.wrap .u8 ((IntKind.wrap .u8 ((IntKind.wrap .u8 (x1 + x2)) + x3)) + x4))) w))))
theorem f28_ok {p0 : Int} {K : Int → World → Prop} {w : World} (h : f28 p0 K w) : callS Try.prog 28 #[(.int .u32 p0)] [(.one (.int .i64))] K w :=
  calls_of_fn (args := [(.int .u32 p0)]) Try.f28 [] [] [] (.two .nil (.two (.draw [0, 1, 3, 0, 8, 24, 56, 127, 0, 256, 768, 1792, 4095, 0, 8192, 24576, 65535, 131071, 262143]) .nil)) (by kernel_rfl) (by kernel_rfl)
    (Eq.mp (by kernel_rfl : f28 p0 K w = evFn Try.prog Try.f28 [] [] [] (.two .nil (.two (.draw [0, 1, 3, 0, 8, 24, 56, 127, 0, 256, 768, 1792, 4095, 0, 8192, 24576, 65535, 131071, 262143]) .nil)) [(.int .u32 p0)] [(.one (.int .i64))] K w) h)

/-- math/bits.OnesCount64 -/
def f29 (p0 : Int) (K : Int → World → Prop) (w : World) : Prop :=
  K (andI .i64 (IntKind.wrap .i64 (IntKind.wrap .u64 ((IntKind.wrap .u64 ((IntKind.wrap .u64 ((andI .u64 (IntKind.wrap .u64 ((shrI .u64 (IntKind.wrap .u64 ((andI .u64 (shrI .u64 (IntKind.wrap .u64 ((andI .u64 (shrI .u64 p0 1) 6148914691236517205) + (andI .u64 p0 6148914691236517205))) 2) 3689348814741910323) + (andI .u64 (IntKind.wrap .u64 ((andI .u64 (shrI .u64 p0 1) 6148914691236517205) + (andI .u64 p0 6148914691236517205))) 3689348814741910323))) 4) + (IntKind.wrap .u64 ((andI .u64 (shrI .u64 (IntKind.wrap .u64 ((andI .u64 (shrI .u64 p0 1) 6148914691236517205) + (andI .u64 p0 6148914691236517205))) 2) 3689348814741910323) + (andI .u64 (IntKind.wrap .u64 ((andI .u64 (shrI .u64 p0 1) 6148914691236517205) + (andI .u64 p0 6148914691236517205))) 3689348814741910323))))) 1085102592571150095) + (shrI .u64 (andI .u64 (IntKind.wrap .u64 ((shrI .u64 (IntKind.wrap .u64 ((andI .u64 (shrI .u64 (IntKind.wrap .u64 ((andI .u64 (shrI .u64 p0 1) 6148914691236517205) + (andI .u64 p0 6148914691236517205))) 2) 3689348814741910323) + (andI .u64 (IntKind.wrap .u64 ((andI .u64 (shrI .u64 p0 1) 6148914691236517205) + (andI .u64 p0 6148914691236517205))) 3689348814741910323))) 4) + (IntKind.wrap .u64 ((andI .u64 (shrI .u64 (IntKind.wrap .u64 ((andI .u64 (shrI .u64 p0 1) 6148914691236517205) + (andI .u64 p0 6148914691236517205))) 2) 3689348814741910323) + (andI .u64 (IntKind.wrap .u64 ((andI .u64 (shrI .u64 p0 1) 6148914691236517205) + (andI .u64 p0 6148914691236517205))) 3689348814741910323))))) 1085102592571150095) 8))) + (shrI .u64 (IntKind.wrap .u64 ((andI .u64 (IntKind.wrap .u64 ((shrI .u64 (IntKind.wrap .u64 ((andI .u64 (shrI .u64 (IntKind.wrap .u64 ((andI .u64 (shrI .u64 p0 1) 6148914691236517205) + (andI .u64 p0 6148914691236517205))) 2) 3689348814741910323) + (andI .u64 (IntKind.wrap .u64 ((andI .u64 (shrI .u64 p0 1) 6148914691236517205) + (andI .u64 p0 6148914691236517205))) 3689348814741910323))) 4) + (IntKind.wrap .u64 ((andI .u64 (shrI .u64 (IntKind.wrap .u64 ((andI .u64 (shrI .u64 p0 1) 6148914691236517205) + (andI .u64 p0 6148914691236517205))) 2) 3689348814741910323) + (andI .u64 (IntKind.wrap .u64 ((andI .u64 (shrI .u64 p0 1) 6148914691236517205) + (andI .u64 p0 6148914691236517205))) 3689348814741910323))))) 1085102592571150095) + (shrI .u64 (andI .u64 (IntKind.wrap .u64 ((shrI .u64 (IntKind.wrap .u64 ((andI .u64 (shrI .u64 (IntKind.wrap .u64 ((andI .u64 (shrI .u64 p0 1) 6148914691236517205) + (andI .u64 p0 6148914691236517205))) 2) 3689348814741910323) + (andI .u64 (IntKind.wrap .u64 ((andI .u64 (shrI .u64 p0 1) 6148914691236517205) + (andI .u64 p0 6148914691236517205))) 3689348814741910323))) 4) + (IntKind.wrap .u64 ((andI .u64 (shrI .u64 (IntKind.wrap .u64 ((andI .u64 (shrI .u64 p0 1) 6148914691236517205) + (andI .u64 p0 6148914691236517205))) 2) 3689348814741910323) + (andI .u64 (IntKind.wrap .u64 ((andI .u64 (shrI .u64 p0 1) 6148914691236517205) + (andI .u64 p0 6148914691236517205))) 3689348814741910323))))) 1085102592571150095) 8))) 16))) + (shrI .u64 (IntKind.wrap .u64 ((IntKind.wrap .u64 ((andI .u64 (IntKind.wrap .u64 ((shrI .u64 (IntKind.wrap .u64 ((andI .u64 (shrI .u64 (IntKind.wrap .u64 ((andI .u64 (shrI .u64 p0 1) 6148914691236517205) + (andI .u64 p0 6148914691236517205))) 2) 3689348814741910323) + (andI .u64 (IntKind.wrap .u64 ((andI .u64 (shrI .u64 p0 1) 6148914691236517205) + (andI .u64 p0 6148914691236517205))) 3689348814741910323))) 4) + (IntKind.wrap .u64 ((andI .u64 (shrI .u64 (IntKind.wrap .u64 ((andI .u64 (shrI .u64 p0 1) 6148914691236517205) + (andI .u64 p0 6148914691236517205))) 2) 3689348814741910323) + (andI .u64 (IntKind.wrap .u64 ((andI .u64 (shrI .u64 p0 1) 6148914691236517205) + (andI .u64 p0 6148914691236517205))) 3689348814741910323))))) 1085102592571150095) + (shrI .u64 (andI .u64 (IntKind.wrap .u64 ((shrI .u64 (IntKind.wrap .u64 ((andI .u64 (shrI .u64 (IntKind.wrap .u64 ((andI .u64 (shrI .u64 p0 1) 6148914691236517205) + (andI .u64 p0 6148914691236517205))) 2) 3689348814741910323) + (andI .u64 (IntKind.wrap .u64 ((andI .u64 (shrI .u64 p0 1) 6148914691236517205) + (andI .u64 p0 6148914691236517205))) 3689348814741910323))) 4) + (IntKind.wrap .u64 ((andI .u64 (shrI .u64 (IntKind.wrap .u64 ((andI .u64 (shrI .u64 p0 1) 6148914691236517205) + (andI .u64 p0 6148914691236517205))) 2) 3689348814741910323) + (andI .u64 (IntKind.wrap .u64 ((andI .u64 (shrI .u64 p0 1) 6148914691236517205) + (andI .u64 p0 6148914691236517205))) 3689348814741910323))))) 1085102592571150095) 8))) + (shrI .u64 (IntKind.wrap .u64 ((andI .u64 (IntKind.wrap .u64 ((shrI .u64 (IntKind.wrap .u64 ((andI .u64 (shrI .u64 (IntKind.wrap .u64 ((andI .u64 (shrI .u64 p0 1) 6148914691236517205) + (andI .u64 p0 6148914691236517205))) 2) 3689348814741910323) + (andI .u64 (IntKind.wrap .u64 ((andI .u64 (shrI .u64 p0 1) 6148914691236517205) + (andI .u64 p0 6148914691236517205))) 3689348814741910323))) 4) + (IntKind.wrap .u64 ((andI .u64 (shrI .u64 (IntKind.wrap .u64 ((andI .u64 (shrI .u64 p0 1) 6148914691236517205) + (andI .u64 p0 6148914691236517205))) 2) 3689348814741910323) + (andI .u64 (IntKind.wrap .u64 ((andI .u64 (shrI .u64 p0 1) 6148914691236517205) + (andI .u64 p0 6148914691236517205))) 3689348814741910323))))) 1085102592571150095) + (shrI .u64 (andI .u64 (IntKind.wrap .u64 ((shrI .u64 (IntKind.wrap .u64 ((andI .u64 (shrI .u64 (IntKind.wrap .u64 ((andI .u64 (shrI .u64 p0 1) 6148914691236517205) + (andI .u64 p0 6148914691236517205))) 2) 3689348814741910323) + (andI .u64 (IntKind.wrap .u64 ((andI .u64 (shrI .u64 p0 1) 6148914691236517205) + (andI .u64 p0 6148914691236517205))) 3689348814741910323))) 4) + (IntKind.wrap .u64 ((andI .u64 (shrI .u64 (IntKind.wrap .u64 ((andI .u64 (shrI .u64 p0 1) 6148914691236517205) + (andI .u64 p0 6148914691236517205))) 2) 3689348814741910323) + (andI .u64 (IntKind.wrap .u64 ((andI .u64 (shrI .u64 p0 1) 6148914691236517205) + (andI .u64 p0 6148914691236517205))) 3689348814741910323))))) 1085102592571150095) 8))) 16))) 32)))) 127) w
theorem f29_ok {p0 : Int} {K : Int → World → Prop} {w : World} (h : f29 p0 K w) : callS Try.prog 29 #[(.int .u64 p0)] [(.one (.int .i64))] K w :=
  calls_of_fn (args := [(.int .u64 p0)]) Try.f29 [] [] [] .nil (by kernel_rfl) (by kernel_rfl)
    (Eq.mp (by kernel_rfl : f29 p0 K w = evFn Try.prog Try.f29 [] [] [] .nil [(.int .u64 p0)] [(.one (.int .i64))] K w) h)

/-- math/bits.OnesCount -/
def f23 (p0 : Int) (K : Int → World → Prop) (w : World) : Prop :=
  callS Try.prog 29 #[(.int .u64 p0)] [(.one (.int .i64))] (fun r1 w =>
  K r1 w) w
theorem f23_ok {p0 : Int} {K : Int → World → Prop} {w : World} (h : f23 p0 K w) : callS Try.prog 23 #[(.int .u64 p0)] [(.one (.int .i64))] K w :=
  calls_of_fn (args := [(.int .u64 p0)]) Try.f23 [] [] [] .nil (by kernel_rfl) (by kernel_rfl)
    (Eq.mp (by kernel_rfl : f23 p0 K w = evFn Try.prog Try.f23 [] [] [] .nil [(.int .u64 p0)] [(.one (.int .i64))] K w) h)

/-- (sallyport/place.Shape).Right -/
def f12 (p0_0 : Int) (p0_1 : Int) (p0_2 : Int) (K : Bool → World → Prop) (w : World) : Prop :=
  semS Try.prog (Instr.box 23 (.agg #[(.int .i64 p0_0), (.int .i64 p0_1), (.int .i64 p0_2)])) (.one .adr) (fun x1 w =>
  semS Try.prog (Instr.loadAt 3 (.pointer (some (x1.add 0)))) (.one (.int .i64)) (fun x2 w =>
  joinS (σ := Bool) (fun b3 w =>
    joinS (σ := Bool) (fun b5 w =>
      joinS (σ := Bool) (fun b7 w =>
        joinS (σ := Bool) (fun b9 w =>
          joinS (σ := Bool) (fun b11 w =>
            K b11 w) fun J12 =>
          cond b9
            (semS Try.prog (Instr.loadAt 3 (.pointer (some (x1.add 1)))) (.one (.int .i64)) (fun x13 w =>
              callS Try.prog 23 #[(.int .u64 (IntKind.wrap .u64 x13))] [(.one (.int .i64))] (fun r14 w =>
              J12 (r14 == 1) w) w) w)
            (J12 false w)) fun J10 =>
        cond b7
          (semS Try.prog (Instr.loadAt 3 (.pointer (some (x1.add 1)))) (.one (.int .i64)) (fun x15 w =>
            J10 (decide (x15 ≤ 4096)) w) w)
          (J10 false w)) fun J8 =>
      cond b5
        (semS Try.prog (Instr.loadAt 3 (.pointer (some (x1.add 1)))) (.one (.int .i64)) (fun x16 w =>
          semS Try.prog (Instr.loadAt 3 (.pointer (some (x1.add 2)))) (.one (.int .i64)) (fun x17 w =>
          J8 (decide (x16 ≥ (IntKind.wrap .i64 (2 * x17)))) w) w) w)
        (J8 false w)) fun J6 =>
    cond b3
      (semS Try.prog (Instr.loadAt 3 (.pointer (some (x1.add 2)))) (.one (.int .i64)) (fun x18 w =>
        joinS (σ := Bool) (fun b19 w =>
          J6 b19 w) fun J20 =>
        cond (x18 == 32)
          (J20 true w)
          (semS Try.prog (Instr.loadAt 3 (.pointer (some (x1.add 2)))) (.one (.int .i64)) (fun x21 w =>
            J20 (x21 == 64) w) w)) w)
      (J6 false w)) fun J4 =>
  cond (decide (x2 ≥ 1))
    (semS Try.prog (Instr.loadAt 3 (.pointer (some (x1.add 0)))) (.one (.int .i64)) (fun x22 w =>
      J4 (decide (x22 ≤ 1099511627776)) w) w)
    (J4 false w)) w) w
theorem f12_ok {p0_0 : Int} {p0_1 : Int} {p0_2 : Int} {K : Bool → World → Prop} {w : World} (h : f12 p0_0 p0_1 p0_2 K w) : callS Try.prog 12 #[(.agg #[(.int .i64 p0_0), (.int .i64 p0_1), (.int .i64 p0_2)])] [(.one .bool)] K w :=
  calls_of_fn (args := [(.agg #[(.int .i64 p0_0), (.int .i64 p0_1), (.int .i64 p0_2)])]) Try.f12 [] [] [] .nil (by kernel_rfl) (by kernel_rfl)
    (Eq.mp (by kernel_rfl : f12 p0_0 p0_1 p0_2 K w = evFn Try.prog Try.f12 [] [] [] .nil [(.agg #[(.int .i64 p0_0), (.int .i64 p0_1), (.int .i64 p0_2)])] [(.one .bool)] K w) h)

/-- (sallyport/place.Shape).arity -/
def f27 (p0_0 : Int) (p0_1 : Int) (p0_2 : Int) (K : Int → World → Prop) (w : World) : Prop :=
  semS Try.prog (Instr.box 23 (.agg #[(.int .i64 p0_0), (.int .i64 p0_1), (.int .i64 p0_2)])) (.one .adr) (fun x1 w =>
  semS Try.prog (Instr.loadAt 3 (.pointer (some (x1.add 1)))) (.one (.int .i64)) (fun x2 w =>
  semS Try.prog (Instr.loadAt 3 (.pointer (some (x1.add 2)))) (.one (.int .i64)) (fun x3 w =>
  semS Try.prog (binS .quo 3 (.tmp 4) (.tmp 6) (.int .i64 x2) (.int .i64 x3)) (.one (.int .i64)) (fun x4 w =>
  K x4 w) w) w) w) w
theorem f27_ok {p0_0 : Int} {p0_1 : Int} {p0_2 : Int} {K : Int → World → Prop} {w : World} (h : f27 p0_0 p0_1 p0_2 K w) : callS Try.prog 27 #[(.agg #[(.int .i64 p0_0), (.int .i64 p0_1), (.int .i64 p0_2)])] [(.one (.int .i64))] K w :=
  calls_of_fn (args := [(.agg #[(.int .i64 p0_0), (.int .i64 p0_1), (.int .i64 p0_2)])]) Try.f27 [] [] [] .nil (by kernel_rfl) (by kernel_rfl)
    (Eq.mp (by kernel_rfl : f27 p0_0 p0_1 p0_2 K w = evFn Try.prog Try.f27 [] [] [] .nil [(.agg #[(.int .i64 p0_0), (.int .i64 p0_1), (.int .i64 p0_2)])] [(.one (.int .i64))] K w) h)

/-- (sallyport/place.Shape).counts -/
def f22 (p0_0 : Int) (p0_1 : Int) (p0_2 : Int) (K : Sl → World → Prop) (w : World) : Prop :=
  semS Try.prog (Instr.box 23 (.agg #[(.int .i64 p0_0), (.int .i64 p0_1), (.int .i64 p0_2)])) (.one .adr) (fun x1 w =>
  semS Try.prog (Instr.loadAt 3 (.pointer (some (x1.add 0)))) (.one (.int .i64)) (fun x2 w =>
  semS Try.prog (Instr.loadAt 3 (.pointer (some (x1.add 1)))) (.one (.int .i64)) (fun x3 w =>
  semS Try.prog (Instr.loadAt 3 (.pointer (some (x1.add 1)))) (.one (.int .i64)) (fun x4 w =>
  semS Try.prog (binS .quo 3 (.tmp 10) (.tmp 12) (.int .i64 (IntKind.wrap .i64 ((IntKind.wrap .i64 (x2 + x3)) - 1))) (.int .i64 x4)) (.one (.int .i64)) (fun x5 w =>
  semS Try.prog (Instr.buildSlice 27 1 #[(0, (.int .i64 x5))]) (.one .slc) (fun x6 w =>
  loopS (σ := Int × Sl) (fun s7 w again8 =>
    cond (decide (s7.1 > 1))
      (drawS w fun C w =>
      semQ Try.prog C (Instr.loadAt 23 (.pointer (some x1))) (.agg [(.int .i64), (.int .i64), (.int .i64)]) (fun x9 x10 x11 =>
      semQ Try.prog C (Instr.loadAt 23 (.pointer (some x1))) (.agg [(.int .i64), (.int .i64), (.int .i64)]) (fun x12 x13 x14 =>
      callS Try.prog 27 #[(.agg #[(.int .i64 x9), (.int .i64 x10), (.int .i64 x11)])] [(.one (.int .i64))] (fun r15 w =>
      moreS C w (fun C =>
      callS Try.prog 27 #[(.agg #[(.int .i64 x12), (.int .i64 x13), (.int .i64 x14)])] [(.one (.int .i64))] (fun r16 w =>
      moreS C w (fun C =>
      semQ Try.prog C (binS .quo 3 (.tmp 22) (.tmp 24) (.int .i64 (IntKind.wrap .i64 ((IntKind.wrap .i64 (s7.1 + r15)) - 1))) (.int .i64 r16)) (.one (.int .i64)) (fun x17 =>
      semS Try.prog (Instr.buildSlice 27 1 #[(0, (.int .i64 x17))]) (.one .slc) (fun x18 w =>
      semS Try.prog (Builtin.append_ #[27, 27] 27 #[(.slice s7.2.a s7.2.len s7.2.cap), (.slice x18.a x18.len x18.cap)]) (.one .slc) (fun r19 w =>
      again8 (x17, r19) w) w) w))) w)) w)))
      (K s7.2 w)) (x5, x6) w) w) w) w) w) w) w
theorem f22_ok {p0_0 : Int} {p0_1 : Int} {p0_2 : Int} {K : Sl → World → Prop} {w : World} (h : f22 p0_0 p0_1 p0_2 K w) : callS Try.prog 22 #[(.agg #[(.int .i64 p0_0), (.int .i64 p0_1), (.int .i64 p0_2)])] [(.one .slc)] K w :=
  calls_of_fnS (args := [(.agg #[(.int .i64 p0_0), (.int .i64 p0_1), (.int .i64 p0_2)])]) Try.f22 [] [(3, (.int .i64)), (4, .slc)] [.nil, .nil] (.two (.two .nil (.two (.two (.draw [0, 0, 2, 7, 15, 0, 38, 127, 255]) .nil) .nil)) .nil) .nil (by kernel_rfl) (by kernel_rfl)
    (Eq.mp (by kernel_rfl : f22 p0_0 p0_1 p0_2 K w = evFnS Try.prog Try.f22 [] [(3, (.int .i64)), (4, .slc)] [.nil, .nil] (.two (.two .nil (.two (.two (.draw [0, 0, 2, 7, 15, 0, 38, 127, 255]) .nil) .nil)) .nil) .nil [(.agg #[(.int .i64 p0_0), (.int .i64 p0_1), (.int .i64 p0_2)])] [(.one .slc)] K w) h)

/-- (sallyport/place.Shape).Total -/
def f11 (p0_0 : Int) (p0_1 : Int) (p0_2 : Int) (K : Int → Int → World → Prop) (w : World) : Prop :=
  semS Try.prog (Instr.box 23 (.agg #[(.int .i64 p0_0), (.int .i64 p0_1), (.int .i64 p0_2)])) (.one .adr) (fun x1 w =>
  semS Try.prog (Instr.loadAt 23 (.pointer (some x1))) (.agg [(.int .i64), (.int .i64), (.int .i64)]) (fun x2 x3 x4 w =>
  callS Try.prog 12 #[(.agg #[(.int .i64 x2), (.int .i64 x3), (.int .i64 x4)])] [(.one .bool)] (fun r5 w =>
  cond (!r5)
    (K 0 24 w)
    (semS Try.prog (Instr.loadAt 23 (.pointer (some x1))) (.agg [(.int .i64), (.int .i64), (.int .i64)]) (fun x6 x7 x8 w =>
    callS Try.prog 22 #[(.agg #[(.int .i64 x6), (.int .i64 x7), (.int .i64 x8)])] [(.one .slc)] (fun r9 w =>
    semS Try.prog (Instr.sliceAt 27 (.slice r9.a r9.len r9.cap) (some (.int .i64 1)) none none) (.one .slc) (fun x10 w =>
    loopS (σ := Int × Int) (fun s11 w again12 =>
      cond (decide (s11.2 < (x10.len : Int)))
        (semS Try.prog (Instr.indexAt 27 (.slice x10.a x10.len x10.cap) (.int .i64 s11.2)) (.one .adr) (fun x13 w =>
        semS Try.prog (Instr.loadAt 3 (.pointer (some x13))) (.one (.int .i64)) (fun x14 w =>
        again12 (IntKind.wrap .i64 (s11.1 + x14), IntKind.wrap .i64 (s11.2 + 1)) w) w) w)
        (semS Try.prog (Instr.loadAt 3 (.pointer (some (x1.add 1)))) (.one (.int .i64)) (fun x15 w =>
        K (IntKind.wrap .i64 (s11.1 * x15)) 0 w) w)) (0, 0) w) w) w) w)) w) w) w
theorem f11_ok {p0_0 : Int} {p0_1 : Int} {p0_2 : Int} {K : Int → Int → World → Prop} {w : World} (h : f11 p0_0 p0_1 p0_2 K w) : callS Try.prog 11 #[(.agg #[(.int .i64 p0_0), (.int .i64 p0_1), (.int .i64 p0_2)])] [(.one (.int .i64)), (.one (.int .i64))] K w :=
  calls_of_fn (args := [(.agg #[(.int .i64 p0_0), (.int .i64 p0_1), (.int .i64 p0_2)])]) Try.f11 [] [] [] (.two .nil (.two .nil (.two .nil (.two (.two .nil (.one (.loop [(4, (.int .i64)), (14, (.int .i64))] .nil))) .nil)))) (by kernel_rfl) (by kernel_rfl)
    (Eq.mp (by kernel_rfl : f11 p0_0 p0_1 p0_2 K w = evFn Try.prog Try.f11 [] [] [] (.two .nil (.two .nil (.two .nil (.two (.two .nil (.one (.loop [(4, (.int .i64)), (14, (.int .i64))] .nil))) .nil)))) [(.agg #[(.int .i64 p0_0), (.int .i64 p0_1), (.int .i64 p0_2)])] [(.one (.int .i64)), (.one (.int .i64))] K w) h)

/-- (sallyport/place.Shape).parts -/
def f25 (p0_0 : Int) (p0_1 : Int) (p0_2 : Int) (p1 : Cx) (K : Int → Int → Int → World → Prop) (w : World) : Prop :=
  semS Try.prog (Instr.box 23 (.agg #[(.int .i64 p0_0), (.int .i64 p0_1), (.int .i64 p0_2)])) (.one .adr) (fun x1 w =>
  semS Try.prog (Instr.loadAt 23 (.pointer (some x1))) (.agg [(.int .i64), (.int .i64), (.int .i64)]) (fun x2 x3 x4 w =>
  callS Try.prog 22 #[(.agg #[(.int .i64 x2), (.int .i64 x3), (.int .i64 x4)])] [(.one .slc)] (fun r5 w =>
  cond (!(((((fOrd p1.re 0) == some .gt || (fOrd p1.re 0) == some .eq) && ((fOrd p1.re 4787326403894837248) == some .lt || (fOrd p1.re 4787326403894837248) == some .eq)) && ((fOrd p1.im 0) == some .gt || (fOrd p1.im 0) == some .eq)) && ((fOrd p1.im (FloatKind.nearest .f64 (r5.len : Int))) == some .lt)))
    (K 0 0 13 w)
    (semS Try.prog (convert 39 3 (.float .f64 p1.re)) (.one (.int .i64)) (fun x6 w =>
    semS Try.prog (convert 39 3 (.float .f64 p1.im)) (.one (.int .i64)) (fun x7 w =>
    joinS (σ := Bool) (fun b8 w =>
      cond b8
        (K 0 0 13 w)
        (K x6 x7 0 w)) fun J9 =>
    cond (!(fcEq (FloatKind.nearest .f64 x6) p1.re && fcEq (FloatKind.nearest .f64 x7) p1.im))
      (J9 true w)
      (semS Try.prog (Instr.indexAt 27 (.slice r5.a r5.len r5.cap) (.int .i64 x7)) (.one .adr) (fun x10 w =>
        semS Try.prog (Instr.loadAt 3 (.pointer (some x10))) (.one (.int .i64)) (fun x11 w =>
        J9 (decide (x6 ≥ x11)) w) w) w)) w) w)) w) w) w
theorem f25_ok {p0_0 : Int} {p0_1 : Int} {p0_2 : Int} {p1 : Cx} {K : Int → Int → Int → World → Prop} {w : World} (h : f25 p0_0 p0_1 p0_2 p1 K w) : callS Try.prog 25 #[(.agg #[(.int .i64 p0_0), (.int .i64 p0_1), (.int .i64 p0_2)]), (.complex .f64 p1.re p1.im)] [(.one (.int .i64)), (.one (.int .i64)), (.one (.int .i64))] K w :=
  calls_of_fn (args := [(.agg #[(.int .i64 p0_0), (.int .i64 p0_1), (.int .i64 p0_2)]), (.complex .f64 p1.re p1.im)]) Try.f25 [] [] [] .nil (by kernel_rfl) (by kernel_rfl)
    (Eq.mp (by kernel_rfl : f25 p0_0 p0_1 p0_2 p1 K w = evFn Try.prog Try.f25 [] [] [] .nil [(.agg #[(.int .i64 p0_0), (.int .i64 p0_1), (.int .i64 p0_2)]), (.complex .f64 p1.re p1.im)] [(.one (.int .i64)), (.one (.int .i64)), (.one (.int .i64))] K w) h)

/-- (sallyport/place.Shape).Offset -/
def f16 (p0_0 : Int) (p0_1 : Int) (p0_2 : Int) (p1 : Cx) (K : Int → Int → World → Prop) (w : World) : Prop :=
  semS Try.prog (Instr.box 23 (.agg #[(.int .i64 p0_0), (.int .i64 p0_1), (.int .i64 p0_2)])) (.one .adr) (fun x1 w =>
  semS Try.prog (Instr.loadAt 23 (.pointer (some x1))) (.agg [(.int .i64), (.int .i64), (.int .i64)]) (fun x2 x3 x4 w =>
  callS Try.prog 12 #[(.agg #[(.int .i64 x2), (.int .i64 x3), (.int .i64 x4)])] [(.one .bool)] (fun r5 w =>
  cond (!r5)
    (K 0 24 w)
    (semS Try.prog (Instr.loadAt 23 (.pointer (some x1))) (.agg [(.int .i64), (.int .i64), (.int .i64)]) (fun x6 x7 x8 w =>
    callS Try.prog 25 #[(.agg #[(.int .i64 x6), (.int .i64 x7), (.int .i64 x8)]), (.complex .f64 p1.re p1.im)] [(.one (.int .i64)), (.one (.int .i64)), (.one (.int .i64))] (fun r9 r10 r11 w =>
    cond ((r11 != 0) || (r10 == 0))
      (K 0 13 w)
      (semS Try.prog (Instr.loadAt 23 (.pointer (some x1))) (.agg [(.int .i64), (.int .i64), (.int .i64)]) (fun x12 x13 x14 w =>
      callS Try.prog 22 #[(.agg #[(.int .i64 x12), (.int .i64 x13), (.int .i64 x14)])] [(.one .slc)] (fun r15 w =>
      semS Try.prog (Instr.sliceAt 27 (.slice r15.a r15.len r15.cap) (some (.int .i64 (IntKind.wrap .i64 (r10 + 1)))) none none) (.one .slc) (fun x16 w =>
      loopS (σ := Int × Int) (fun s17 w again18 =>
        cond (decide (s17.2 < (x16.len : Int)))
          (semS Try.prog (Instr.indexAt 27 (.slice x16.a x16.len x16.cap) (.int .i64 s17.2)) (.one .adr) (fun x19 w =>
          semS Try.prog (Instr.loadAt 3 (.pointer (some x19))) (.one (.int .i64)) (fun x20 w =>
          again18 (IntKind.wrap .i64 (s17.1 + x20), IntKind.wrap .i64 (s17.2 + 1)) w) w) w)
          (semS Try.prog (Instr.loadAt 3 (.pointer (some (x1.add 1)))) (.one (.int .i64)) (fun x21 w =>
          K (IntKind.wrap .i64 (s17.1 * x21)) 0 w) w)) (r9, 0) w) w) w) w)) w) w)) w) w) w
theorem f16_ok {p0_0 : Int} {p0_1 : Int} {p0_2 : Int} {p1 : Cx} {K : Int → Int → World → Prop} {w : World} (h : f16 p0_0 p0_1 p0_2 p1 K w) : callS Try.prog 16 #[(.agg #[(.int .i64 p0_0), (.int .i64 p0_1), (.int .i64 p0_2)]), (.complex .f64 p1.re p1.im)] [(.one (.int .i64)), (.one (.int .i64))] K w :=
  calls_of_fn (args := [(.agg #[(.int .i64 p0_0), (.int .i64 p0_1), (.int .i64 p0_2)]), (.complex .f64 p1.re p1.im)]) Try.f16 [] [] [] (.two .nil (.two .nil (.two .nil (.two .nil (.two (.two .nil (.one (.loop [(6, (.int .i64)), (33, (.int .i64))] .nil))) .nil))))) (by kernel_rfl) (by kernel_rfl)
    (Eq.mp (by kernel_rfl : f16 p0_0 p0_1 p0_2 p1 K w = evFn Try.prog Try.f16 [] [] [] (.two .nil (.two .nil (.two .nil (.two .nil (.two (.two .nil (.one (.loop [(6, (.int .i64)), (33, (.int .i64))] .nil))) .nil))))) [(.agg #[(.int .i64 p0_0), (.int .i64 p0_1), (.int .i64 p0_2)]), (.complex .f64 p1.re p1.im)] [(.one (.int .i64)), (.one (.int .i64))] K w) h)

/-- (sallyport/place.Shape).Above -/
def f21 (p0_0 : Int) (p0_1 : Int) (p0_2 : Int) (p1 : Cx) (K : Cx → Int → Int → World → Prop) (w : World) : Prop :=
  semS Try.prog (Instr.box 23 (.agg #[(.int .i64 p0_0), (.int .i64 p0_1), (.int .i64 p0_2)])) (.one .adr) (fun x1 w =>
  semS Try.prog (Instr.loadAt 23 (.pointer (some x1))) (.agg [(.int .i64), (.int .i64), (.int .i64)]) (fun x2 x3 x4 w =>
  callS Try.prog 12 #[(.agg #[(.int .i64 x2), (.int .i64 x3), (.int .i64 x4)])] [(.one .bool)] (fun r5 w =>
  cond (!r5)
    (K (⟨0, 0⟩) 0 24 w)
    (semS Try.prog (Instr.loadAt 23 (.pointer (some x1))) (.agg [(.int .i64), (.int .i64), (.int .i64)]) (fun x6 x7 x8 w =>
    callS Try.prog 25 #[(.agg #[(.int .i64 x6), (.int .i64 x7), (.int .i64 x8)]), (.complex .f64 p1.re p1.im)] [(.one (.int .i64)), (.one (.int .i64)), (.one (.int .i64))] (fun r9 r10 r11 w =>
    cond (r11 != 0)
      (K (⟨0, 0⟩) 0 r11 w)
      (semS Try.prog (Instr.loadAt 23 (.pointer (some x1))) (.agg [(.int .i64), (.int .i64), (.int .i64)]) (fun x12 x13 x14 w =>
      callS Try.prog 22 #[(.agg #[(.int .i64 x12), (.int .i64 x13), (.int .i64 x14)])] [(.one .slc)] (fun r15 w =>
      semS Try.prog (Instr.indexAt 27 (.slice r15.a r15.len r15.cap) (.int .i64 r10)) (.one .adr) (fun x16 w =>
      semS Try.prog (Instr.loadAt 3 (.pointer (some x16))) (.one (.int .i64)) (fun x17 w =>
      cond (x17 == 1)
        (K (⟨0, 0⟩) 0 51 w)
        (drawS w fun C w =>
        semQ Try.prog C (Instr.loadAt 23 (.pointer (some x1))) (.agg [(.int .i64), (.int .i64), (.int .i64)]) (fun x18 x19 x20 =>
        semQ Try.prog C (Instr.loadAt 23 (.pointer (some x1))) (.agg [(.int .i64), (.int .i64), (.int .i64)]) (fun x21 x22 x23 =>
        semQ Try.prog C (Instr.loadAt 3 (.pointer (some (x1.add 2)))) (.one (.int .i64)) (fun x24 =>
        callS Try.prog 27 #[(.agg #[(.int .i64 x18), (.int .i64 x19), (.int .i64 x20)])] [(.one (.int .i64))] (fun r25 w =>
        moreS C w (fun C =>
        semQ Try.prog C (binS .quo 3 (.tmp 30) (.tmp 32) (.int .i64 r9) (.int .i64 r25)) (.one (.int .i64)) (fun x26 =>
        semQ Try.prog C (binS .add 38 (.tmp 37) (.const (Go.Value.complex Go.FloatKind.f64 0 4607182418800017408)) (.complex .f64 (FloatKind.nearest .f64 x26) (FloatKind.nearest .f64 r10)) (.complex .f64 0 4607182418800017408)) (.one .cpx) (fun x27 =>
        callS Try.prog 27 #[(.agg #[(.int .i64 x21), (.int .i64 x22), (.int .i64 x23)])] [(.one (.int .i64))] (fun r28 w =>
        moreS C w (fun C =>
        semQ Try.prog C (binS .rem 3 (.tmp 39) (.tmp 41) (.int .i64 r9) (.int .i64 r28)) (.one (.int .i64)) (fun x29 =>
        K (⟨x27.re, x27.im⟩) (IntKind.wrap .i64 (x29 * x24)) 0 w))) w)))) w))))) w) w) w) w)) w) w)) w) w) w
theorem f21_ok {p0_0 : Int} {p0_1 : Int} {p0_2 : Int} {p1 : Cx} {K : Cx → Int → Int → World → Prop} {w : World} (h : f21 p0_0 p0_1 p0_2 p1 K w) : callS Try.prog 21 #[(.agg #[(.int .i64 p0_0), (.int .i64 p0_1), (.int .i64 p0_2)]), (.complex .f64 p1.re p1.im)] [(.one .cpx), (.one (.int .i64)), (.one (.int .i64))] K w :=
  calls_of_fn (args := [(.agg #[(.int .i64 p0_0), (.int .i64 p0_1), (.int .i64 p0_2)]), (.complex .f64 p1.re p1.im)]) Try.f21 [] [] [] (.two .nil (.two .nil (.two .nil (.two .nil (.two (.draw [0, 0, 2, 7, 15, 0, 32, 127, 255, 0, 0, 1030, 3590, 0, 8192, 32262, 3583, 131071, 262143]) .nil))))) (by kernel_rfl) (by kernel_rfl)
    (Eq.mp (by kernel_rfl : f21 p0_0 p0_1 p0_2 p1 K w = evFn Try.prog Try.f21 [] [] [] (.two .nil (.two .nil (.two .nil (.two .nil (.two (.draw [0, 0, 2, 7, 15, 0, 32, 127, 255, 0, 0, 1030, 3590, 0, 8192, 32262, 3583, 131071, 262143]) .nil))))) [(.agg #[(.int .i64 p0_0), (.int .i64 p0_1), (.int .i64 p0_2)]), (.complex .f64 p1.re p1.im)] [(.one .cpx), (.one (.int .i64)), (.one (.int .i64))] K w) h)

/-- sallyport/sallyportlaw08.anchor -/
def f8  (K : Bool → World → Prop) (w : World) : Prop :=
  semS Try.prog (Instr.alloc 23 true (.tuple #[])) (.one .adr) (fun x1 w =>
  semU Try.prog (Instr.storeAt 23 (.pointer (some x1)) (.agg #[(.int .i64 1000), (.int .i64 64), (.int .i64 32)])) (fun w =>
  semS Try.prog (Instr.loadAt 23 (.pointer (some x1))) (.agg [(.int .i64), (.int .i64), (.int .i64)]) (fun x2 x3 x4 w =>
  callS Try.prog 11 #[(.agg #[(.int .i64 x2), (.int .i64 x3), (.int .i64 x4)])] [(.one (.int .i64)), (.one (.int .i64))] (fun r5 r6 w =>
  semS Try.prog (Instr.loadAt 23 (.pointer (some x1))) (.agg [(.int .i64), (.int .i64), (.int .i64)]) (fun x7 x8 x9 w =>
  callS Try.prog 21 #[(.agg #[(.int .i64 x7), (.int .i64 x8), (.int .i64 x9)]), (.complex .f64 4617315517961601024 0)] [(.one .cpx), (.one (.int .i64)), (.one (.int .i64))] (fun r10 r11 r12 w =>
  semS Try.prog (Instr.loadAt 23 (.pointer (some x1))) (.agg [(.int .i64), (.int .i64), (.int .i64)]) (fun x13 x14 x15 w =>
  callS Try.prog 16 #[(.agg #[(.int .i64 x13), (.int .i64 x14), (.int .i64 x15)]), (.complex .f64 0 4613937818241073152)] [(.one (.int .i64)), (.one (.int .i64))] (fun r16 r17 w =>
  K (((((((r6 == 0) && (r5 == 960)) && (r12 == 0)) && (fcEq r10.re 4611686018427387904 && fcEq r10.im 4607182418800017408)) && (r11 == 32)) && (r17 == 0)) && (r16 == 64)) w) w) w) w) w) w) w) w) w
theorem f8_ok  {K : Bool → World → Prop} {w : World} (h : f8  K w) : callS Try.prog 8 #[] [(.one .bool)] K w :=
  calls_of_fn (args := []) Try.f8 [] [] [] .nil (by kernel_rfl) (by kernel_rfl)
    (Eq.mp (by kernel_rfl : f8  K w = evFn Try.prog Try.f8 [] [] [] .nil [] [(.one .bool)] K w) h)

/-- sallyport/sallyportlaw08.shape -/
def f9 (p0_0 : Int) (p0_1 : Int) (p0_2 : Int) (K : Int → Int → Int → World → Prop) (w : World) : Prop :=
  semS Try.prog (Instr.box 23 (.agg #[(.int .i64 p0_0), (.int .i64 p0_1), (.int .i64 p0_2)])) (.one .adr) (fun x1 w =>
  semS Try.prog (Instr.alloc 25 true (.tuple #[])) (.one .adr) (fun x2 w =>
  semS Try.prog (Instr.loadAt 23 (.pointer (some x1))) (.agg [(.int .i64), (.int .i64), (.int .i64)]) (fun x3 x4 x5 w =>
  semU Try.prog (Instr.storeAt 25 (.pointer (some x2)) (.agg #[(.int .i64 x3), (.int .i64 x4), (.int .i64 x5)])) (fun w =>
  ∃ v6, (loadVar 25 x2).run Try.prog w = .ok v6 w ∧ decR [(.agg [(.int .i64), (.int .i64), (.int .i64)])] v6 K fun r => r w) w) w) w) w
theorem f9_ok {p0_0 : Int} {p0_1 : Int} {p0_2 : Int} {K : Int → Int → Int → World → Prop} {w : World} (h : f9 p0_0 p0_1 p0_2 K w) : callS Try.prog 9 #[(.agg #[(.int .i64 p0_0), (.int .i64 p0_1), (.int .i64 p0_2)])] [(.agg [(.int .i64), (.int .i64), (.int .i64)])] K w :=
  calls_of_fn (args := [(.agg #[(.int .i64 p0_0), (.int .i64 p0_1), (.int .i64 p0_2)])]) Try.f9 [] [] [] .nil (by kernel_rfl) (by kernel_rfl)
    (Eq.mp (by kernel_rfl : f9 p0_0 p0_1 p0_2 K w = evFn Try.prog Try.f9 [] [] [] .nil [(.agg #[(.int .i64 p0_0), (.int .i64 p0_1), (.int .i64 p0_2)])] [(.agg [(.int .i64), (.int .i64), (.int .i64)])] K w) h)

/-- (sallyport/place.Shape).Counts -/
def f10 (p0_0 : Int) (p0_1 : Int) (p0_2 : Int) (K : Sl → Int → World → Prop) (w : World) : Prop :=
  semS Try.prog (Instr.box 23 (.agg #[(.int .i64 p0_0), (.int .i64 p0_1), (.int .i64 p0_2)])) (.one .adr) (fun x1 w =>
  semS Try.prog (Instr.loadAt 23 (.pointer (some x1))) (.agg [(.int .i64), (.int .i64), (.int .i64)]) (fun x2 x3 x4 w =>
  callS Try.prog 12 #[(.agg #[(.int .i64 x2), (.int .i64 x3), (.int .i64 x4)])] [(.one .bool)] (fun r5 w =>
  cond (!r5)
    (K (⟨none, 0, 0⟩) 24 w)
    (semS Try.prog (Instr.loadAt 23 (.pointer (some x1))) (.agg [(.int .i64), (.int .i64), (.int .i64)]) (fun x6 x7 x8 w =>
    callS Try.prog 22 #[(.agg #[(.int .i64 x6), (.int .i64 x7), (.int .i64 x8)])] [(.one .slc)] (fun r9 w =>
    K r9 0 w) w) w)) w) w) w
theorem f10_ok {p0_0 : Int} {p0_1 : Int} {p0_2 : Int} {K : Sl → Int → World → Prop} {w : World} (h : f10 p0_0 p0_1 p0_2 K w) : callS Try.prog 10 #[(.agg #[(.int .i64 p0_0), (.int .i64 p0_1), (.int .i64 p0_2)])] [(.one .slc), (.one (.int .i64))] K w :=
  calls_of_fn (args := [(.agg #[(.int .i64 p0_0), (.int .i64 p0_1), (.int .i64 p0_2)])]) Try.f10 [] [] [] .nil (by kernel_rfl) (by kernel_rfl)
    (Eq.mp (by kernel_rfl : f10 p0_0 p0_1 p0_2 K w = evFn Try.prog Try.f10 [] [] [] .nil [(.agg #[(.int .i64 p0_0), (.int .i64 p0_1), (.int .i64 p0_2)])] [(.one .slc), (.one (.int .i64))] K w) h)

/-- (sallyport/sallyportref08.Shape).Right -/
def f13 (p0_0 : Int) (p0_1 : Int) (p0_2 : Int) (K : Bool → World → Prop) (w : World) : Prop :=
  semS Try.prog (Instr.box 25 (.agg #[(.int .i64 p0_0), (.int .i64 p0_1), (.int .i64 p0_2)])) (.one .adr) (fun x1 w =>
  semS Try.prog (Instr.loadAt 3 (.pointer (some (x1.add 0)))) (.one (.int .i64)) (fun x2 w =>
  joinS (σ := Bool) (fun b3 w =>
    joinS (σ := Bool) (fun b5 w =>
      joinS (σ := Bool) (fun b7 w =>
        cond b7
          (K false w)
          (loopS (σ := Int) (fun x9 w again10 =>
            cond (decide (x9 ≤ 4096))
              (semS Try.prog (Instr.loadAt 3 (.pointer (some (x1.add 1)))) (.one (.int .i64)) (fun x11 w =>
              cond (x11 == x9)
                (K true w)
                (again10 (IntKind.wrap .i64 (2 * x9)) w)) w)
              (K false w)) 64 w)) fun J8 =>
      cond b5
        (J8 true w)
        (semS Try.prog (Instr.loadAt 3 (.pointer (some (x1.add 1)))) (.one (.int .i64)) (fun x12 w =>
          semS Try.prog (Instr.loadAt 3 (.pointer (some (x1.add 2)))) (.one (.int .i64)) (fun x13 w =>
          J8 (decide (x12 < (IntKind.wrap .i64 (2 * x13)))) w) w) w)) fun J6 =>
    cond b3
      (J6 true w)
      (semS Try.prog (Instr.loadAt 3 (.pointer (some (x1.add 2)))) (.one (.int .i64)) (fun x14 w =>
        joinS (σ := Bool) (fun b15 w =>
          J6 b15 w) fun J16 =>
        cond (x14 != 32)
          (semS Try.prog (Instr.loadAt 3 (.pointer (some (x1.add 2)))) (.one (.int .i64)) (fun x17 w =>
            J16 (x17 != 64) w) w)
          (J16 false w)) w)) fun J4 =>
  cond (decide (x2 < 1))
    (J4 true w)
    (semS Try.prog (Instr.loadAt 3 (.pointer (some (x1.add 0)))) (.one (.int .i64)) (fun x18 w =>
      J4 (decide (x18 > 1099511627776)) w) w)) w) w
theorem f13_ok {p0_0 : Int} {p0_1 : Int} {p0_2 : Int} {K : Bool → World → Prop} {w : World} (h : f13 p0_0 p0_1 p0_2 K w) : callS Try.prog 13 #[(.agg #[(.int .i64 p0_0), (.int .i64 p0_1), (.int .i64 p0_2)])] [(.one .bool)] K w :=
  calls_of_fn (args := [(.agg #[(.int .i64 p0_0), (.int .i64 p0_1), (.int .i64 p0_2)])]) Try.f13 [] [] [] (.two .nil (.two .nil (.two (.two .nil (.one (.loop [(3, (.int .i64))] .nil))) .nil))) (by kernel_rfl) (by kernel_rfl)
    (Eq.mp (by kernel_rfl : f13 p0_0 p0_1 p0_2 K w = evFn Try.prog Try.f13 [] [] [] (.two .nil (.two .nil (.two (.two .nil (.one (.loop [(3, (.int .i64))] .nil))) .nil))) [(.agg #[(.int .i64 p0_0), (.int .i64 p0_1), (.int .i64 p0_2)])] [(.one .bool)] K w) h)

/-- sallyport/sallyportref08.up -/
def f24 (p0 : Int) (p1 : Int) (K : Int → World → Prop) (w : World) : Prop :=
  semS Try.prog (binS .rem 3 (.tmp 5) (.tmp 6) (.int .i64 p0) (.int .i64 p1)) (.one (.int .i64)) (fun x1 w =>
  cond (x1 == 0)
    (semS Try.prog (binS .quo 3 (.tmp 9) (.tmp 10) (.int .i64 p0) (.int .i64 p1)) (.one (.int .i64)) (fun x2 w =>
    K x2 w) w)
    (semS Try.prog (binS .quo 3 (.tmp 12) (.tmp 13) (.int .i64 p0) (.int .i64 p1)) (.one (.int .i64)) (fun x3 w =>
    K (IntKind.wrap .i64 (x3 + 1)) w) w)) w
theorem f24_ok {p0 : Int} {p1 : Int} {K : Int → World → Prop} {w : World} (h : f24 p0 p1 K w) : callS Try.prog 24 #[(.int .i64 p0), (.int .i64 p1)] [(.one (.int .i64))] K w :=
  calls_of_fn (args := [(.int .i64 p0), (.int .i64 p1)]) Try.f24 [] [] [] .nil (by kernel_rfl) (by kernel_rfl)
    (Eq.mp (by kernel_rfl : f24 p0 p1 K w = evFn Try.prog Try.f24 [] [] [] .nil [(.int .i64 p0), (.int .i64 p1)] [(.one (.int .i64))] K w) h)

/-- (sallyport/sallyportref08.Shape).Counts -/
def f14 (p0_0 : Int) (p0_1 : Int) (p0_2 : Int) (K : Sl → World → Prop) (w : World) : Prop :=
  semS Try.prog (Instr.box 25 (.agg #[(.int .i64 p0_0), (.int .i64 p0_1), (.int .i64 p0_2)])) (.one .adr) (fun x1 w =>
  semS Try.prog (Instr.loadAt 3 (.pointer (some (x1.add 0)))) (.one (.int .i64)) (fun x2 w =>
  semS Try.prog (Instr.loadAt 3 (.pointer (some (x1.add 1)))) (.one (.int .i64)) (fun x3 w =>
  callS Try.prog 24 #[(.int .i64 x2), (.int .i64 x3)] [(.one (.int .i64))] (fun r4 w =>
  semS Try.prog (Instr.buildSlice 27 1 #[(0, (.int .i64 r4))]) (.one .slc) (fun x5 w =>
  loopS (σ := Int × Sl) (fun s6 w again7 =>
    cond (decide (s6.1 > 1))
      (semS Try.prog (Instr.loadAt 3 (.pointer (some (x1.add 1)))) (.one (.int .i64)) (fun x8 w =>
      semS Try.prog (Instr.loadAt 3 (.pointer (some (x1.add 2)))) (.one (.int .i64)) (fun x9 w =>
      semS Try.prog (binS .quo 3 (.tmp 16) (.tmp 18) (.int .i64 x8) (.int .i64 x9)) (.one (.int .i64)) (fun x10 w =>
      callS Try.prog 24 #[(.int .i64 s6.1), (.int .i64 x10)] [(.one (.int .i64))] (fun r11 w =>
      semS Try.prog (Instr.buildSlice 27 1 #[(0, (.int .i64 r11))]) (.one .slc) (fun x12 w =>
      semS Try.prog (Builtin.append_ #[27, 27] 27 #[(.slice s6.2.a s6.2.len s6.2.cap), (.slice x12.a x12.len x12.cap)]) (.one .slc) (fun r13 w =>
      again7 (r11, r13) w) w) w) w) w) w) w)
      (K s6.2 w)) (r4, x5) w) w) w) w) w) w
theorem f14_ok {p0_0 : Int} {p0_1 : Int} {p0_2 : Int} {K : Sl → World → Prop} {w : World} (h : f14 p0_0 p0_1 p0_2 K w) : callS Try.prog 14 #[(.agg #[(.int .i64 p0_0), (.int .i64 p0_1), (.int .i64 p0_2)])] [(.one .slc)] K w :=
  calls_of_fn (args := [(.agg #[(.int .i64 p0_0), (.int .i64 p0_1), (.int .i64 p0_2)])]) Try.f14 [] [] [] (.two .nil (.two .nil (.two .nil (.two (.one (.loop [(3, (.int .i64)), (4, .slc)] .nil)) .nil)))) (by kernel_rfl) (by kernel_rfl)
    (Eq.mp (by kernel_rfl : f14 p0_0 p0_1 p0_2 K w = evFn Try.prog Try.f14 [] [] [] (.two .nil (.two .nil (.two .nil (.two (.one (.loop [(3, (.int .i64)), (4, .slc)] .nil)) .nil)))) [(.agg #[(.int .i64 p0_0), (.int .i64 p0_1), (.int .i64 p0_2)])] [(.one .slc)] K w) h)

/-- (sallyport/sallyportref08.Shape).Total -/
def f15 (p0_0 : Int) (p0_1 : Int) (p0_2 : Int) (K : Int → World → Prop) (w : World) : Prop :=
  semS Try.prog (Instr.box 25 (.agg #[(.int .i64 p0_0), (.int .i64 p0_1), (.int .i64 p0_2)])) (.one .adr) (fun x1 w =>
  semS Try.prog (Instr.loadAt 25 (.pointer (some x1))) (.agg [(.int .i64), (.int .i64), (.int .i64)]) (fun x2 x3 x4 w =>
  callS Try.prog 14 #[(.agg #[(.int .i64 x2), (.int .i64 x3), (.int .i64 x4)])] [(.one .slc)] (fun r5 w =>
  loopS (σ := Int × Int) (fun s6 w again7 =>
    cond (decide (s6.2 < (r5.len : Int)))
      (semS Try.prog (Instr.indexAt 27 (.slice r5.a r5.len r5.cap) (.int .i64 s6.2)) (.one .adr) (fun x8 w =>
      semS Try.prog (Instr.loadAt 3 (.pointer (some x8))) (.one (.int .i64)) (fun x9 w =>
      again7 (IntKind.wrap .i64 (s6.1 + x9), IntKind.wrap .i64 (s6.2 + 1)) w) w) w)
      (semS Try.prog (Instr.loadAt 3 (.pointer (some (x1.add 1)))) (.one (.int .i64)) (fun x10 w =>
      K (IntKind.wrap .i64 (s6.1 * x10)) w) w)) (0, 1) w) w) w) w
theorem f15_ok {p0_0 : Int} {p0_1 : Int} {p0_2 : Int} {K : Int → World → Prop} {w : World} (h : f15 p0_0 p0_1 p0_2 K w) : callS Try.prog 15 #[(.agg #[(.int .i64 p0_0), (.int .i64 p0_1), (.int .i64 p0_2)])] [(.one (.int .i64))] K w :=
  calls_of_fn (args := [(.agg #[(.int .i64 p0_0), (.int .i64 p0_1), (.int .i64 p0_2)])]) Try.f15 [] [] [] (.two .nil (.two .nil (.two .nil (.two (.two .nil (.one (.loop [(4, (.int .i64)), (5, (.int .i64))] .nil))) .nil)))) (by kernel_rfl) (by kernel_rfl)
    (Eq.mp (by kernel_rfl : f15 p0_0 p0_1 p0_2 K w = evFn Try.prog Try.f15 [] [] [] (.two .nil (.two .nil (.two .nil (.two (.two .nil (.one (.loop [(4, (.int .i64)), (5, (.int .i64))] .nil))) .nil)))) [(.agg #[(.int .i64 p0_0), (.int .i64 p0_1), (.int .i64 p0_2)])] [(.one (.int .i64))] K w) h)

/-- sallyport/sallyportlaw08.PlaceCounts -/
def f3 (p0_0 : Int) (p0_1 : Int) (p0_2 : Int) (K : Bool → World → Prop) (w : World) : Prop :=
  semS Try.prog (Instr.box 23 (.agg #[(.int .i64 p0_0), (.int .i64 p0_1), (.int .i64 p0_2)])) (.one .adr) (fun x1 w =>
  callS Try.prog 8 #[] [(.one .bool)] (fun r2 w =>
  cond (!r2)
    (K false w)
    (semS Try.prog (Instr.loadAt 23 (.pointer (some x1))) (.agg [(.int .i64), (.int .i64), (.int .i64)]) (fun x3 x4 x5 w =>
    callS Try.prog 9 #[(.agg #[(.int .i64 x3), (.int .i64 x4), (.int .i64 x5)])] [(.agg [(.int .i64), (.int .i64), (.int .i64)])] (fun r6 r7 r8 w =>
    semS Try.prog (Instr.alloc 25 true (.tuple #[])) (.one .adr) (fun x9 w =>
    semU Try.prog (Instr.storeAt 25 (.pointer (some x9)) (.agg #[(.int .i64 r6), (.int .i64 r7), (.int .i64 r8)])) (fun w =>
    semS Try.prog (Instr.loadAt 23 (.pointer (some x1))) (.agg [(.int .i64), (.int .i64), (.int .i64)]) (fun x10 x11 x12 w =>
    callS Try.prog 10 #[(.agg #[(.int .i64 x10), (.int .i64 x11), (.int .i64 x12)])] [(.one .slc), (.one (.int .i64))] (fun r13 r14 w =>
    semS Try.prog (Instr.loadAt 23 (.pointer (some x1))) (.agg [(.int .i64), (.int .i64), (.int .i64)]) (fun x15 x16 x17 w =>
    callS Try.prog 11 #[(.agg #[(.int .i64 x15), (.int .i64 x16), (.int .i64 x17)])] [(.one (.int .i64)), (.one (.int .i64))] (fun r18 r19 w =>
    drawS w fun C w =>
    semQ Try.prog C (Instr.loadAt 23 (.pointer (some x1))) (.agg [(.int .i64), (.int .i64), (.int .i64)]) (fun x20 x21 x22 =>
    semQ Try.prog C (Instr.loadAt 25 (.pointer (some x9))) (.agg [(.int .i64), (.int .i64), (.int .i64)]) (fun x23 x24 x25 =>
    callS Try.prog 12 #[(.agg #[(.int .i64 x20), (.int .i64 x21), (.int .i64 x22)])] [(.one .bool)] (fun r26 w =>
    moreS C w (fun C =>
    callS Try.prog 13 #[(.agg #[(.int .i64 x23), (.int .i64 x24), (.int .i64 x25)])] [(.one .bool)] (fun r27 w =>
    cond (!(r26 == r27))
      (K false w)
      (semS Try.prog (Instr.loadAt 25 (.pointer (some x9))) (.agg [(.int .i64), (.int .i64), (.int .i64)]) (fun x28 x29 x30 w =>
      callS Try.prog 13 #[(.agg #[(.int .i64 x28), (.int .i64 x29), (.int .i64 x30)])] [(.one .bool)] (fun r31 w =>
      cond (!r31)
        (K ((((r14 == 24) && (r19 == 24)) && ((r13.len : Int) == 0)) && (r18 == 0)) w)
        (semS Try.prog (Instr.loadAt 25 (.pointer (some x9))) (.agg [(.int .i64), (.int .i64), (.int .i64)]) (fun x32 x33 x34 w =>
        callS Try.prog 14 #[(.agg #[(.int .i64 x32), (.int .i64 x33), (.int .i64 x34)])] [(.one .slc)] (fun r35 w =>
        joinS (σ := Bool) (fun b36 w =>
          cond (b36 || ((r13.len : Int) != (r35.len : Int)))
            (K false w)
            (loopS (σ := Int) (fun x38 w again39 =>
              cond (decide (x38 < (r13.len : Int)))
                (semS Try.prog (Instr.indexAt 27 (.slice r13.a r13.len r13.cap) (.int .i64 x38)) (.one .adr) (fun x40 w =>
                semS Try.prog (Instr.loadAt 3 (.pointer (some x40))) (.one (.int .i64)) (fun x41 w =>
                semS Try.prog (Instr.indexAt 27 (.slice r35.a r35.len r35.cap) (.int .i64 x38)) (.one .adr) (fun x42 w =>
                semS Try.prog (Instr.loadAt 3 (.pointer (some x42))) (.one (.int .i64)) (fun x43 w =>
                cond (x41 != x43)
                  (K false w)
                  (again39 (IntKind.wrap .i64 (x38 + 1)) w)) w) w) w) w)
                (K true w)) 0 w)) fun J37 =>
        cond ((r14 != 0) || (r19 != 0))
          (J37 true w)
          (semS Try.prog (Instr.loadAt 25 (.pointer (some x9))) (.agg [(.int .i64), (.int .i64), (.int .i64)]) (fun x44 x45 x46 w =>
            callS Try.prog 15 #[(.agg #[(.int .i64 x44), (.int .i64 x45), (.int .i64 x46)])] [(.one (.int .i64))] (fun r47 w =>
            J37 (r18 != r47) w) w) w)) w) w)) w) w)) w)) w))) w) w) w) w) w) w) w) w)) w) w
theorem f3_ok {p0_0 : Int} {p0_1 : Int} {p0_2 : Int} {K : Bool → World → Prop} {w : World} (h : f3 p0_0 p0_1 p0_2 K w) : callS Try.prog 3 #[(.agg #[(.int .i64 p0_0), (.int .i64 p0_1), (.int .i64 p0_2)])] [(.one .bool)] K w :=
  calls_of_fn (args := [(.agg #[(.int .i64 p0_0), (.int .i64 p0_1), (.int .i64 p0_2)])]) Try.f3 [] [] [] (.two .nil (.two .nil (.two .nil (.two .nil (.two .nil (.two (.two (.draw [0, 1, 0, 7, 15]) .nil) (.two .nil (.two .nil (.two .nil (.two (.two .nil (.one (.loop [(71, (.int .i64))] .nil))) .nil)))))))))) (by kernel_rfl) (by kernel_rfl)
    (Eq.mp (by kernel_rfl : f3 p0_0 p0_1 p0_2 K w = evFn Try.prog Try.f3 [] [] [] (.two .nil (.two .nil (.two .nil (.two .nil (.two .nil (.two (.two (.draw [0, 1, 0, 7, 15]) .nil) (.two .nil (.two .nil (.two .nil (.two (.two .nil (.one (.loop [(71, (.int .i64))] .nil))) .nil)))))))))) [(.agg #[(.int .i64 p0_0), (.int .i64 p0_1), (.int .i64 p0_2)])] [(.one .bool)] K w) h)

/-- sallyport/sallyportlaw08.PlaceGrows -/
def f4 (p0_0 : Int) (p0_1 : Int) (p0_2 : Int) (p1 : Int) (K : Bool → World → Prop) (w : World) : Prop :=
  semS Try.prog (Instr.box 23 (.agg #[(.int .i64 p0_0), (.int .i64 p0_1), (.int .i64 p0_2)])) (.one .adr) (fun x1 w =>
  callS Try.prog 8 #[] [(.one .bool)] (fun r2 w =>
  cond (!r2)
    (K false w)
    (semS Try.prog (Instr.loadAt 23 (.pointer (some x1))) (.agg [(.int .i64), (.int .i64), (.int .i64)]) (fun x3 x4 x5 w =>
    callS Try.prog 9 #[(.agg #[(.int .i64 x3), (.int .i64 x4), (.int .i64 x5)])] [(.agg [(.int .i64), (.int .i64), (.int .i64)])] (fun r6 r7 r8 w =>
    callS Try.prog 13 #[(.agg #[(.int .i64 r6), (.int .i64 r7), (.int .i64 r8)])] [(.one .bool)] (fun r9 w =>
    joinS (σ := Bool) (fun b10 w =>
      cond b10
        (K true w)
        (semS Try.prog (Instr.loadAt 23 (.pointer (some x1))) (.agg [(.int .i64), (.int .i64), (.int .i64)]) (fun x12 x13 x14 w =>
        semS Try.prog (Instr.alloc 23 true (.tuple #[])) (.one .adr) (fun x15 w =>
        semU Try.prog (Instr.storeAt 23 (.pointer (some x15)) (.agg #[(.int .i64 x12), (.int .i64 x13), (.int .i64 x14)])) (fun w =>
        semS Try.prog (Instr.loadAt 3 (.pointer (some (x15.add 0)))) (.one (.int .i64)) (fun x16 w =>
        semU Try.prog (Instr.storeAt 3 (.pointer (some (x15.add 0))) (.int .i64 (IntKind.wrap .i64 (x16 + p1)))) (fun w =>
        semS Try.prog (Instr.loadAt 23 (.pointer (some x1))) (.agg [(.int .i64), (.int .i64), (.int .i64)]) (fun x17 x18 x19 w =>
        callS Try.prog 10 #[(.agg #[(.int .i64 x17), (.int .i64 x18), (.int .i64 x19)])] [(.one .slc), (.one (.int .i64))] (fun r20 r21 w =>
        semS Try.prog (Instr.loadAt 23 (.pointer (some x15))) (.agg [(.int .i64), (.int .i64), (.int .i64)]) (fun x22 x23 x24 w =>
        callS Try.prog 10 #[(.agg #[(.int .i64 x22), (.int .i64 x23), (.int .i64 x24)])] [(.one .slc), (.one (.int .i64))] (fun r25 r26 w =>
        cond (((r21 != 0) || (r26 != 0)) || (decide ((r25.len : Int) < (r20.len : Int))))
          (K false w)
          (loopS (σ := Int) (fun x27 w again28 =>
            cond (decide (x27 < (r20.len : Int)))
              (semS Try.prog (Instr.indexAt 27 (.slice r20.a r20.len r20.cap) (.int .i64 x27)) (.one .adr) (fun x29 w =>
              semS Try.prog (Instr.loadAt 3 (.pointer (some x29))) (.one (.int .i64)) (fun x30 w =>
              semS Try.prog (Instr.indexAt 27 (.slice r25.a r25.len r25.cap) (.int .i64 x27)) (.one .adr) (fun x31 w =>
              semS Try.prog (Instr.loadAt 3 (.pointer (some x31))) (.one (.int .i64)) (fun x32 w =>
              cond (decide (x32 < x30))
                (K false w)
                (again28 (IntKind.wrap .i64 (x27 + 1)) w)) w) w) w) w)
              (drawS w fun C w =>
              cond (p1 != 1)
                (K true w)
                (semQ Try.prog C (Instr.indexAt 27 (.slice r25.a r25.len r25.cap) (.int .i64 0)) (.one .adr) (fun x33 =>
                semQ Try.prog C (Instr.loadAt 3 (.pointer (some x33))) (.one (.int .i64)) (fun x34 =>
                semQ Try.prog C (Instr.indexAt 27 (.slice r20.a r20.len r20.cap) (.int .i64 0)) (.one .adr) (fun x35 =>
                semQ Try.prog C (Instr.loadAt 3 (.pointer (some x35))) (.one (.int .i64)) (fun x36 =>
                semQ Try.prog C (Instr.loadAt 3 (.pointer (some (x1.add 0)))) (.one (.int .i64)) (fun x37 =>
                semQ Try.prog C (Instr.loadAt 3 (.pointer (some (x1.add 1)))) (.one (.int .i64)) (fun x38 =>
                semQ Try.prog C (binS .rem 3 (.tmp 84) (.tmp 86) (.int .i64 x37) (.int .i64 x38)) (.one (.int .i64)) (fun x39 =>
                K ((x34 == (IntKind.wrap .i64 (x36 + 1))) == (x39 == 0)) w)))))))))) 0 w)) w) w) w) w) w) w) w) w) w)) fun J11 =>
    cond ((!r9) || (decide (p1 < 0)))
      (J11 true w)
      (semS Try.prog (Instr.loadAt 3 (.pointer (some (x1.add 0)))) (.one (.int .i64)) (fun x41 w =>
        J11 (decide (p1 > (IntKind.wrap .i64 (1099511627776 - x41)))) w) w)) w) w) w)) w) w
theorem f4_ok {p0_0 : Int} {p0_1 : Int} {p0_2 : Int} {p1 : Int} {K : Bool → World → Prop} {w : World} (h : f4 p0_0 p0_1 p0_2 p1 K w) : callS Try.prog 4 #[(.agg #[(.int .i64 p0_0), (.int .i64 p0_1), (.int .i64 p0_2)]), (.int .i64 p1)] [(.one .bool)] K w :=
  calls_of_fn (args := [(.agg #[(.int .i64 p0_0), (.int .i64 p0_1), (.int .i64 p0_2)]), (.int .i64 p1)]) Try.f4 [] [] [] (.two .nil (.two .nil (.two .nil (.two .nil (.two .nil (.two .nil (.two .nil (.two .nil (.two (.two .nil (.one (.loop [(60, (.int .i64))] .nil))) (.two (.draw [0, 1, 3, 7, 15, 31, 7, 71, 199, 455, 1023, 7, 2055, 7, 8199, 30727, 63495, 131071, 262143, 524287]) .nil)))))))))) (by kernel_rfl) (by kernel_rfl)
    (Eq.mp (by kernel_rfl : f4 p0_0 p0_1 p0_2 p1 K w = evFn Try.prog Try.f4 [] [] [] (.two .nil (.two .nil (.two .nil (.two .nil (.two .nil (.two .nil (.two .nil (.two .nil (.two (.two .nil (.one (.loop [(60, (.int .i64))] .nil))) (.two (.draw [0, 1, 3, 7, 15, 31, 7, 71, 199, 455, 1023, 7, 2055, 7, 8199, 30727, 63495, 131071, 262143, 524287]) .nil)))))))))) [(.agg #[(.int .i64 p0_0), (.int .i64 p0_1), (.int .i64 p0_2)]), (.int .i64 p1)] [(.one .bool)] K w) h)

/-- sallyport/sallyportlaw08.PlaceFills -/
def f5 (p0_0 : Int) (p0_1 : Int) (p0_2 : Int) (K : Bool → World → Prop) (w : World) : Prop :=
  semS Try.prog (Instr.box 23 (.agg #[(.int .i64 p0_0), (.int .i64 p0_1), (.int .i64 p0_2)])) (.one .adr) (fun x1 w =>
  callS Try.prog 8 #[] [(.one .bool)] (fun r2 w =>
  cond (!r2)
    (K false w)
    (semS Try.prog (Instr.loadAt 3 (.pointer (some (x1.add 0)))) (.one (.int .i64)) (fun x3 w =>
    cond (decide (x3 > 20000))
      (K true w)
      (semS Try.prog (Instr.loadAt 23 (.pointer (some x1))) (.agg [(.int .i64), (.int .i64), (.int .i64)]) (fun x4 x5 x6 w =>
      callS Try.prog 10 #[(.agg #[(.int .i64 x4), (.int .i64 x5), (.int .i64 x6)])] [(.one .slc), (.one (.int .i64))] (fun r7 r8 w =>
      semS Try.prog (Instr.loadAt 23 (.pointer (some x1))) (.agg [(.int .i64), (.int .i64), (.int .i64)]) (fun x9 x10 x11 w =>
      callS Try.prog 11 #[(.agg #[(.int .i64 x9), (.int .i64 x10), (.int .i64 x11)])] [(.one (.int .i64)), (.one (.int .i64))] (fun r12 r13 w =>
      cond (r8 != 0)
        (K (r13 == r8) w)
        (loopS (σ := Int × Int) (fun s14 w again15 =>
          cond (decide (s14.2 ≥ 1))
            (semS Try.prog (Instr.indexAt 27 (.slice r7.a r7.len r7.cap) (.int .i64 s14.2)) (.one .adr) (fun x16 w =>
            semS Try.prog (Instr.loadAt 3 (.pointer (some x16))) (.one (.int .i64)) (fun x17 w =>
            loopS (σ := Int × Int) (fun s18 w again19 =>
              cond (decide (s18.2 < x17))
                (semS Try.prog (Instr.loadAt 23 (.pointer (some x1))) (.agg [(.int .i64), (.int .i64), (.int .i64)]) (fun x20 x21 x22 w =>
                callS Try.prog 16 #[(.agg #[(.int .i64 x20), (.int .i64 x21), (.int .i64 x22)]), (.complex .f64 (FloatKind.nearest .f64 s18.2) (FloatKind.nearest .f64 s14.2))] [(.one (.int .i64)), (.one (.int .i64))] (fun r23 r24 w =>
                cond ((r24 != 0) || (r23 != s18.1))
                  (K false w)
                  (semS Try.prog (Instr.loadAt 3 (.pointer (some (x1.add 1)))) (.one (.int .i64)) (fun x25 w =>
                  again19 (IntKind.wrap .i64 (s18.1 + x25), IntKind.wrap .i64 (s18.2 + 1)) w) w)) w) w)
                (again15 (s18.1, IntKind.wrap .i64 (s14.2 - 1)) w)) (s14.1, 0) w) w) w)
            (K ((r13 == 0) && (s14.1 == r12)) w)) (0, IntKind.wrap .i64 ((r7.len : Int) - 1)) w)) w) w) w) w)) w)) w) w
theorem f5_ok {p0_0 : Int} {p0_1 : Int} {p0_2 : Int} {K : Bool → World → Prop} {w : World} (h : f5 p0_0 p0_1 p0_2 K w) : callS Try.prog 5 #[(.agg #[(.int .i64 p0_0), (.int .i64 p0_1), (.int .i64 p0_2)])] [(.one .bool)] K w :=
  calls_of_fn (args := [(.agg #[(.int .i64 p0_0), (.int .i64 p0_1), (.int .i64 p0_2)])]) Try.f5 [] [] [] (.two .nil (.two .nil (.two .nil (.two .nil (.two .nil (.two .nil (.two .nil (.two (.two .nil (.one (.loop [(7, (.int .i64)), (8, (.int .i64))] (.two .nil (.two (.one (.two .nil (.one (.loop [(7, (.int .i64)), (43, (.int .i64))] .nil)))) .nil))))) .nil)))))))) (by kernel_rfl) (by kernel_rfl)
    (Eq.mp (by kernel_rfl : f5 p0_0 p0_1 p0_2 K w = evFn Try.prog Try.f5 [] [] [] (.two .nil (.two .nil (.two .nil (.two .nil (.two .nil (.two .nil (.two .nil (.two (.two .nil (.one (.loop [(7, (.int .i64)), (8, (.int .i64))] (.two .nil (.two (.one (.two .nil (.one (.loop [(7, (.int .i64)), (43, (.int .i64))] .nil)))) .nil))))) .nil)))))))) [(.agg #[(.int .i64 p0_0), (.int .i64 p0_1), (.int .i64 p0_2)])] [(.one .bool)] K w) h)

/-- slices.Clip[[]complex128,complex128] -/
def f26 (p0 : Sl) (K : Sl → World → Prop) (w : World) : Prop :=
  semS Try.prog (Instr.sliceAt 40 (.slice p0.a p0.len p0.cap) none (some (.int .i64 (p0.len : Int))) (some (.int .i64 (p0.len : Int)))) (.one .slc) (fun x1 w =>
  K x1 w) w
theorem f26_ok {p0 : Sl} {K : Sl → World → Prop} {w : World} (h : f26 p0 K w) : callS Try.prog 26 #[(.slice p0.a p0.len p0.cap)] [(.one .slc)] K w :=
  calls_of_fn (args := [(.slice p0.a p0.len p0.cap)]) Try.f26 [] [] [] .nil (by kernel_rfl) (by kernel_rfl)
    (Eq.mp (by kernel_rfl : f26 p0 K w = evFn Try.prog Try.f26 [] [] [] .nil [(.slice p0.a p0.len p0.cap)] [(.one .slc)] K w) h)

/-- (sallyport/place.Shape).Path -/
def f17 (p0_0 : Int) (p0_1 : Int) (p0_2 : Int) (p1 : Int) (K : Sl → Int → World → Prop) (w : World) : Prop :=
  semS Try.prog (Instr.box 23 (.agg #[(.int .i64 p0_0), (.int .i64 p0_1), (.int .i64 p0_2)])) (.one .adr) (fun x1 w =>
  semS Try.prog (Instr.loadAt 23 (.pointer (some x1))) (.agg [(.int .i64), (.int .i64), (.int .i64)]) (fun x2 x3 x4 w =>
  callS Try.prog 12 #[(.agg #[(.int .i64 x2), (.int .i64 x3), (.int .i64 x4)])] [(.one .bool)] (fun r5 w =>
  cond (!r5)
    (K (⟨none, 0, 0⟩) 24 w)
    (joinS (σ := Bool) (fun b6 w =>
      cond b6
        (K (⟨none, 0, 0⟩) 13 w)
        (semS Try.prog (Instr.buildSlice 40 1 #[(0, (.complex .f64 (FloatKind.nearest .f64 p1) 0))]) (.one .slc) (fun x8 w =>
        loopS (σ := Cx × Sl) (fun s9 w again10 =>
          semS Try.prog (Instr.loadAt 23 (.pointer (some x1))) (.agg [(.int .i64), (.int .i64), (.int .i64)]) (fun x11 x12 x13 w =>
          callS Try.prog 21 #[(.agg #[(.int .i64 x11), (.int .i64 x12), (.int .i64 x13)]), (.complex .f64 s9.1.re s9.1.im)] [(.one .cpx), (.one (.int .i64)), (.one (.int .i64))] (fun r14 r15 r16 w =>
          cond (r16 == 0)
            (semS Try.prog (Instr.buildSlice 40 1 #[(0, (.complex .f64 r14.re r14.im))]) (.one .slc) (fun x17 w =>
            semS Try.prog (Builtin.append_ #[40, 40] 40 #[(.slice s9.2.a s9.2.len s9.2.cap), (.slice x17.a x17.len x17.cap)]) (.one .slc) (fun r18 w =>
            again10 (⟨r14.re, r14.im⟩, r18) w) w) w)
            (callS Try.prog 26 #[(.slice s9.2.a s9.2.len s9.2.cap)] [(.one .slc)] (fun r19 w =>
            K r19 0 w) w)) w) w) (⟨FloatKind.nearest .f64 p1, 0⟩, x8) w) w)) fun J7 =>
    cond (decide (p1 < 0))
      (J7 true w)
      (semS Try.prog (Instr.loadAt 23 (.pointer (some x1))) (.agg [(.int .i64), (.int .i64), (.int .i64)]) (fun x20 x21 x22 w =>
        callS Try.prog 22 #[(.agg #[(.int .i64 x20), (.int .i64 x21), (.int .i64 x22)])] [(.one .slc)] (fun r23 w =>
        semS Try.prog (Instr.indexAt 27 (.slice r23.a r23.len r23.cap) (.int .i64 0)) (.one .adr) (fun x24 w =>
        semS Try.prog (Instr.loadAt 3 (.pointer (some x24))) (.one (.int .i64)) (fun x25 w =>
        J7 (decide (p1 ≥ x25)) w) w) w) w) w))) w) w) w
theorem f17_ok {p0_0 : Int} {p0_1 : Int} {p0_2 : Int} {p1 : Int} {K : Sl → Int → World → Prop} {w : World} (h : f17 p0_0 p0_1 p0_2 p1 K w) : callS Try.prog 17 #[(.agg #[(.int .i64 p0_0), (.int .i64 p0_1), (.int .i64 p0_2)]), (.int .i64 p1)] [(.one .slc), (.one (.int .i64))] K w :=
  calls_of_fnS (args := [(.agg #[(.int .i64 p0_0), (.int .i64 p0_1), (.int .i64 p0_2)]), (.int .i64 p1)]) Try.f17 [] [(6, .cpx), (7, .slc)] [.nil, .nil, .nil] .nil .nil (by kernel_rfl) (by kernel_rfl)
    (Eq.mp (by kernel_rfl : f17 p0_0 p0_1 p0_2 p1 K w = evFnS Try.prog Try.f17 [] [(6, .cpx), (7, .slc)] [.nil, .nil, .nil] .nil .nil [(.agg #[(.int .i64 p0_0), (.int .i64 p0_1), (.int .i64 p0_2)]), (.int .i64 p1)] [(.one .slc), (.one (.int .i64))] K w) h)

/-- (sallyport/sallyportref08.Place).Number -/
def f18 (p0_0 : Int) (p0_1 : Int) (K : Cx → World → Prop) (w : World) : Prop :=
  semS Try.prog (Instr.box 44 (.agg #[(.int .i64 p0_0), (.int .i64 p0_1)])) (.one .adr) (fun x1 w =>
  semS Try.prog (Instr.loadAt 3 (.pointer (some (x1.add 0)))) (.one (.int .i64)) (fun x2 w =>
  semS Try.prog (Instr.loadAt 3 (.pointer (some (x1.add 1)))) (.one (.int .i64)) (fun x3 w =>
  K (⟨FloatKind.nearest .f64 x2, FloatKind.nearest .f64 x3⟩) w) w) w) w
theorem f18_ok {p0_0 : Int} {p0_1 : Int} {K : Cx → World → Prop} {w : World} (h : f18 p0_0 p0_1 K w) : callS Try.prog 18 #[(.agg #[(.int .i64 p0_0), (.int .i64 p0_1)])] [(.one .cpx)] K w :=
  calls_of_fn (args := [(.agg #[(.int .i64 p0_0), (.int .i64 p0_1)])]) Try.f18 [] [] [] .nil (by kernel_rfl) (by kernel_rfl)
    (Eq.mp (by kernel_rfl : f18 p0_0 p0_1 K w = evFn Try.prog Try.f18 [] [] [] .nil [(.agg #[(.int .i64 p0_0), (.int .i64 p0_1)])] [(.one .cpx)] K w) h)

/-- (sallyport/sallyportref08.Shape).In -/
def f19 (p0_0 : Int) (p0_1 : Int) (p0_2 : Int) (p1_0 : Int) (p1_1 : Int) (K : Bool → World → Prop) (w : World) : Prop :=
  semS Try.prog (Instr.box 25 (.agg #[(.int .i64 p0_0), (.int .i64 p0_1), (.int .i64 p0_2)])) (.one .adr) (fun x1 w =>
  semS Try.prog (Instr.box 44 (.agg #[(.int .i64 p1_0), (.int .i64 p1_1)])) (.one .adr) (fun x2 w =>
  semS Try.prog (Instr.loadAt 25 (.pointer (some x1))) (.agg [(.int .i64), (.int .i64), (.int .i64)]) (fun x3 x4 x5 w =>
  callS Try.prog 14 #[(.agg #[(.int .i64 x3), (.int .i64 x4), (.int .i64 x5)])] [(.one .slc)] (fun r6 w =>
  drawS w fun C w =>
  semQ Try.prog C (Instr.loadAt 3 (.pointer (some (x2.add 1)))) (.one (.int .i64)) (fun x7 =>
  cond (decide (x7 ≥ 0))
    (semQ Try.prog C (Instr.loadAt 3 (.pointer (some (x2.add 1)))) (.one (.int .i64)) (fun x8 =>
    cond (decide (x8 < (r6.len : Int)))
      (semQ Try.prog C (Instr.loadAt 3 (.pointer (some (x2.add 0)))) (.one (.int .i64)) (fun x9 =>
      cond (decide (x9 ≥ 0))
        (semQ Try.prog C (Instr.loadAt 3 (.pointer (some (x2.add 0)))) (.one (.int .i64)) (fun x10 =>
        semQ Try.prog C (Instr.loadAt 3 (.pointer (some (x2.add 1)))) (.one (.int .i64)) (fun x11 =>
        semQ Try.prog C (Instr.indexAt 27 (.slice r6.a r6.len r6.cap) (.int .i64 x11)) (.one .adr) (fun x12 =>
        semQ Try.prog C (Instr.loadAt 3 (.pointer (some x12))) (.one (.int .i64)) (fun x13 =>
        K (decide (x10 < x13)) w)))))
        (K false w)))
      (K false w)))
    (K false w))) w) w) w) w
theorem f19_ok {p0_0 : Int} {p0_1 : Int} {p0_2 : Int} {p1_0 : Int} {p1_1 : Int} {K : Bool → World → Prop} {w : World} (h : f19 p0_0 p0_1 p0_2 p1_0 p1_1 K w) : callS Try.prog 19 #[(.agg #[(.int .i64 p0_0), (.int .i64 p0_1), (.int .i64 p0_2)]), (.agg #[(.int .i64 p1_0), (.int .i64 p1_1)])] [(.one .bool)] K w :=
  calls_of_fn (args := [(.agg #[(.int .i64 p0_0), (.int .i64 p0_1), (.int .i64 p0_2)]), (.agg #[(.int .i64 p1_0), (.int .i64 p1_1)])]) Try.f19 [] [] [] (.two .nil (.two .nil (.two (.draw [0, 1, 3, 7, 15, 31, 15, 79, 255, 511, 1023, 2047, 4095, 8191, 16383, 32767, 65535, 131071, 65535, 65535, 589823, 1900543, 3997695, 8388607, 16777215, 33554431]) .nil))) (by kernel_rfl) (by kernel_rfl)
    (Eq.mp (by kernel_rfl : f19 p0_0 p0_1 p0_2 p1_0 p1_1 K w = evFn Try.prog Try.f19 [] [] [] (.two .nil (.two .nil (.two (.draw [0, 1, 3, 7, 15, 31, 15, 79, 255, 511, 1023, 2047, 4095, 8191, 16383, 32767, 65535, 131071, 65535, 65535, 589823, 1900543, 3997695, 8388607, 16777215, 33554431]) .nil))) [(.agg #[(.int .i64 p0_0), (.int .i64 p0_1), (.int .i64 p0_2)]), (.agg #[(.int .i64 p1_0), (.int .i64 p1_1)])] [(.one .bool)] K w) h)

/-- (sallyport/sallyportref08.Shape).Above -/
def f20 (p0_0 : Int) (p0_1 : Int) (p0_2 : Int) (p1_0 : Int) (p1_1 : Int) (K : Int → Int → Int → World → Prop) (w : World) : Prop :=
  semS Try.prog (Instr.box 25 (.agg #[(.int .i64 p0_0), (.int .i64 p0_1), (.int .i64 p0_2)])) (.one .adr) (fun x1 w =>
  semS Try.prog (Instr.box 44 (.agg #[(.int .i64 p1_0), (.int .i64 p1_1)])) (.one .adr) (fun x2 w =>
  semS Try.prog (Instr.alloc 44 true (.tuple #[])) (.one .adr) (fun x3 w =>
  semS Try.prog (Instr.loadAt 3 (.pointer (some (x1.add 1)))) (.one (.int .i64)) (fun x4 w =>
  semS Try.prog (Instr.loadAt 3 (.pointer (some (x1.add 2)))) (.one (.int .i64)) (fun x5 w =>
  semS Try.prog (binS .quo 3 (.tmp 8) (.tmp 10) (.int .i64 x4) (.int .i64 x5)) (.one (.int .i64)) (fun x6 w =>
  drawS w fun C w =>
  semQ Try.prog C (Instr.loadAt 3 (.pointer (some (x2.add 0)))) (.one (.int .i64)) (fun x7 =>
  semQ Try.prog C (binS .quo 3 (.tmp 13) (.tmp 14) (.int .i64 x7) (.int .i64 x6)) (.one (.int .i64)) (fun x8 =>
  semQ Try.prog C (Instr.loadAt 3 (.pointer (some (x2.add 1)))) (.one (.int .i64)) (fun x9 =>
  semQ Try.prog C (Instr.loadAt 3 (.pointer (some (x2.add 0)))) (.one (.int .i64)) (fun x10 =>
  semQ Try.prog C (binS .rem 3 (.tmp 21) (.tmp 22) (.int .i64 x10) (.int .i64 x6)) (.one (.int .i64)) (fun x11 =>
  semQ Try.prog C (Instr.loadAt 3 (.pointer (some (x1.add 2)))) (.one (.int .i64)) (fun x12 =>
  semU Try.prog (Instr.storeAt 44 (.pointer (some x3)) (.agg #[(.int .i64 x8), (.int .i64 (IntKind.wrap .i64 (x9 + 1)))])) (fun w =>
  moreS C w (fun C =>
  ∃ v13, (loadVar 44 x3).run Try.prog w = .ok v13 w ∧ decR [(.agg [(.int .i64), (.int .i64)]), (.one (.int .i64))] (.tuple #[v13, (.int .i64 (IntKind.wrap .i64 (x11 * x12)))]) K fun r => r w)) w))))))) w) w) w) w) w) w
theorem f20_ok {p0_0 : Int} {p0_1 : Int} {p0_2 : Int} {p1_0 : Int} {p1_1 : Int} {K : Int → Int → Int → World → Prop} {w : World} (h : f20 p0_0 p0_1 p0_2 p1_0 p1_1 K w) : callS Try.prog 20 #[(.agg #[(.int .i64 p0_0), (.int .i64 p0_1), (.int .i64 p0_2)]), (.agg #[(.int .i64 p1_0), (.int .i64 p1_1)])] [(.agg [(.int .i64), (.int .i64)]), (.one (.int .i64))] K w :=
  calls_of_fn (args := [(.agg #[(.int .i64 p0_0), (.int .i64 p0_1), (.int .i64 p0_2)]), (.agg #[(.int .i64 p1_0), (.int .i64 p1_1)])]) Try.f20 [] [] [] (.two .nil (.two .nil (.two (.draw [0, 1, 0, 7, 0, 16, 48, 127, 0, 256, 0, 1792, 0, 4096, 16128, 255, 65535]) .nil))) (by kernel_rfl) (by kernel_rfl)
    (Eq.mp (by kernel_rfl : f20 p0_0 p0_1 p0_2 p1_0 p1_1 K w = evFn Try.prog Try.f20 [] [] [] (.two .nil (.two .nil (.two (.draw [0, 1, 0, 7, 0, 16, 48, 127, 0, 256, 0, 1792, 0, 4096, 16128, 255, 65535]) .nil))) [(.agg #[(.int .i64 p0_0), (.int .i64 p0_1), (.int .i64 p0_2)]), (.agg #[(.int .i64 p1_0), (.int .i64 p1_1)])] [(.agg [(.int .i64), (.int .i64)]), (.one (.int .i64))] K w) h)

/-- sallyport/sallyportlaw08.PlacePaths -/
def f6 (p0_0 : Int) (p0_1 : Int) (p0_2 : Int) (p1 : Int) (K : Bool → World → Prop) (w : World) : Prop :=
  semS Try.prog (Instr.box 23 (.agg #[(.int .i64 p0_0), (.int .i64 p0_1), (.int .i64 p0_2)])) (.one .adr) (fun x1 w =>
  callS Try.prog 8 #[] [(.one .bool)] (fun r2 w =>
  cond (!r2)
    (K false w)
    (semS Try.prog (Instr.loadAt 23 (.pointer (some x1))) (.agg [(.int .i64), (.int .i64), (.int .i64)]) (fun x3 x4 x5 w =>
    callS Try.prog 9 #[(.agg #[(.int .i64 x3), (.int .i64 x4), (.int .i64 x5)])] [(.agg [(.int .i64), (.int .i64), (.int .i64)])] (fun r6 r7 r8 w =>
    semS Try.prog (Instr.alloc 25 true (.tuple #[])) (.one .adr) (fun x9 w =>
    semU Try.prog (Instr.storeAt 25 (.pointer (some x9)) (.agg #[(.int .i64 r6), (.int .i64 r7), (.int .i64 r8)])) (fun w =>
    semS Try.prog (Instr.loadAt 23 (.pointer (some x1))) (.agg [(.int .i64), (.int .i64), (.int .i64)]) (fun x10 x11 x12 w =>
    callS Try.prog 17 #[(.agg #[(.int .i64 x10), (.int .i64 x11), (.int .i64 x12)]), (.int .i64 p1)] [(.one .slc), (.one (.int .i64))] (fun r13 r14 w =>
    semS Try.prog (Instr.loadAt 25 (.pointer (some x9))) (.agg [(.int .i64), (.int .i64), (.int .i64)]) (fun x15 x16 x17 w =>
    callS Try.prog 13 #[(.agg #[(.int .i64 x15), (.int .i64 x16), (.int .i64 x17)])] [(.one .bool)] (fun r18 w =>
    cond (!r18)
      (K ((r14 == 24) && ((r13.len : Int) == 0)) w)
      (semS Try.prog (Instr.loadAt 25 (.pointer (some x9))) (.agg [(.int .i64), (.int .i64), (.int .i64)]) (fun x19 x20 x21 w =>
      callS Try.prog 14 #[(.agg #[(.int .i64 x19), (.int .i64 x20), (.int .i64 x21)])] [(.one .slc)] (fun r22 w =>
      joinS (σ := Bool) (fun b23 w =>
        cond b23
          (K ((r14 == 13) && ((r13.len : Int) == 0)) w)
          (cond ((r14 != 0) || ((r13.len : Int) != (r22.len : Int)))
            (K false w)
            (semS Try.prog (Instr.alloc 44 true (.tuple #[])) (.one .adr) (fun x25 w =>
            semU Try.prog (Instr.storeAt 44 (.pointer (some x25)) (.agg #[(.int .i64 p1), (.int .i64 0)])) (fun w =>
            loopS (σ := Int) (fun x26 w again27 =>
              cond (decide (x26 < (r13.len : Int)))
                (semS Try.prog (Instr.indexAt 40 (.slice r13.a r13.len r13.cap) (.int .i64 x26)) (.one .adr) (fun x28 w =>
                semS Try.prog (Instr.loadAt 38 (.pointer (some x28))) (.one .cpx) (fun x29 w =>
                semS Try.prog (Instr.loadAt 44 (.pointer (some x25))) (.agg [(.int .i64), (.int .i64)]) (fun x30 x31 w =>
                callS Try.prog 18 #[(.agg #[(.int .i64 x30), (.int .i64 x31)])] [(.one .cpx)] (fun r32 w =>
                joinS (σ := Bool) (fun b33 w =>
                  cond b33
                    (K false w)
                    (cond (decide ((IntKind.wrap .i64 (x26 + 1)) < (r13.len : Int)))
                      (semS Try.prog (Instr.loadAt 25 (.pointer (some x9))) (.agg [(.int .i64), (.int .i64), (.int .i64)]) (fun x35 x36 x37 w =>
                      semS Try.prog (Instr.loadAt 44 (.pointer (some x25))) (.agg [(.int .i64), (.int .i64)]) (fun x38 x39 w =>
                      callS Try.prog 20 #[(.agg #[(.int .i64 x35), (.int .i64 x36), (.int .i64 x37)]), (.agg #[(.int .i64 x38), (.int .i64 x39)])] [(.agg [(.int .i64), (.int .i64)]), (.one (.int .i64))] (fun r40 r41 r42 w =>
                      semU Try.prog (Instr.storeAt 44 (.pointer (some x25)) (.agg #[(.int .i64 r40), (.int .i64 r41)])) (fun w =>
                      again27 (IntKind.wrap .i64 (x26 + 1)) w) w) w) w) w)
                      (again27 (IntKind.wrap .i64 (x26 + 1)) w))) fun J34 =>
                cond (!(fcEq x29.re r32.re && fcEq x29.im r32.im))
                  (J34 true w)
                  (semS Try.prog (Instr.loadAt 25 (.pointer (some x9))) (.agg [(.int .i64), (.int .i64), (.int .i64)]) (fun x43 x44 x45 w =>
                    semS Try.prog (Instr.loadAt 44 (.pointer (some x25))) (.agg [(.int .i64), (.int .i64)]) (fun x46 x47 w =>
                    callS Try.prog 19 #[(.agg #[(.int .i64 x43), (.int .i64 x44), (.int .i64 x45)]), (.agg #[(.int .i64 x46), (.int .i64 x47)])] [(.one .bool)] (fun r48 w =>
                    J34 (!r48) w) w) w) w)) w) w) w) w)
                (semS Try.prog (Instr.loadAt 3 (.pointer (some (x25.add 1)))) (.one (.int .i64)) (fun x49 w =>
                semS Try.prog (Instr.indexAt 27 (.slice r22.a r22.len r22.cap) (.int .i64 x49)) (.one .adr) (fun x50 w =>
                semS Try.prog (Instr.loadAt 3 (.pointer (some x50))) (.one (.int .i64)) (fun x51 w =>
                K (x51 == 1) w) w) w) w)) 0 w) w) w))) fun J24 =>
      cond (decide (p1 < 0))
        (J24 true w)
        (semS Try.prog (Instr.indexAt 27 (.slice r22.a r22.len r22.cap) (.int .i64 0)) (.one .adr) (fun x52 w =>
          semS Try.prog (Instr.loadAt 3 (.pointer (some x52))) (.one (.int .i64)) (fun x53 w =>
          J24 (decide (p1 ≥ x53)) w) w) w)) w) w)) w) w) w) w) w) w) w) w)) w) w
theorem f6_ok {p0_0 : Int} {p0_1 : Int} {p0_2 : Int} {p1 : Int} {K : Bool → World → Prop} {w : World} (h : f6 p0_0 p0_1 p0_2 p1 K w) : callS Try.prog 6 #[(.agg #[(.int .i64 p0_0), (.int .i64 p0_1), (.int .i64 p0_2)]), (.int .i64 p1)] [(.one .bool)] K w :=
  calls_of_fn (args := [(.agg #[(.int .i64 p0_0), (.int .i64 p0_1), (.int .i64 p0_2)]), (.int .i64 p1)]) Try.f6 [] [] [] (.two .nil (.two .nil (.two .nil (.two .nil (.two .nil (.two .nil (.two .nil (.two .nil (.two .nil (.two (.two .nil (.one (.loop [(63, (.int .i64))] .nil))) .nil)))))))))) (by kernel_rfl) (by kernel_rfl)
    (Eq.mp (by kernel_rfl : f6 p0_0 p0_1 p0_2 p1 K w = evFn Try.prog Try.f6 [] [] [] (.two .nil (.two .nil (.two .nil (.two .nil (.two .nil (.two .nil (.two .nil (.two .nil (.two .nil (.two (.two .nil (.one (.loop [(63, (.int .i64))] .nil))) .nil)))))))))) [(.agg #[(.int .i64 p0_0), (.int .i64 p0_1), (.int .i64 p0_2)]), (.int .i64 p1)] [(.one .bool)] K w) h)

def f7_t1 (z19 : Bool) (K : Bool → World → Prop) (s13 : Bool × Int) (again14 : (Bool × Int) → World → Prop) (r6 : Sl) (r11 : Sl) (w : World) : Prop :=
  cond z19
    (K false w)
    (drawS w fun C w =>
    cond s13.1
      (again14 (true, IntKind.wrap .i64 (s13.2 + 1)) w)
      (semQ Try.prog C (Instr.indexAt 40 (.slice r6.a r6.len r6.cap) (.int .i64 s13.2)) (.one .adr) (fun x20 =>
      semQ Try.prog C (Instr.loadAt 38 (.pointer (some x20))) (.one .cpx) (fun x21 =>
      semQ Try.prog C (Instr.indexAt 40 (.slice r11.a r11.len r11.cap) (.int .i64 s13.2)) (.one .adr) (fun x22 =>
      semQ Try.prog C (Instr.loadAt 38 (.pointer (some x22))) (.one .cpx) (fun x23 =>
      again14 ((fcEq x21.re x23.re && fcEq x21.im x23.im), IntKind.wrap .i64 (s13.2 + 1)) w))))))

/-- sallyport/sallyportlaw08.PlaceMeets -/
def f7 (p0_0 : Int) (p0_1 : Int) (p0_2 : Int) (p1 : Int) (p2 : Int) (K : Bool → World → Prop) (w : World) : Prop :=
  semS Try.prog (Instr.box 23 (.agg #[(.int .i64 p0_0), (.int .i64 p0_1), (.int .i64 p0_2)])) (.one .adr) (fun x1 w =>
  callS Try.prog 8 #[] [(.one .bool)] (fun r2 w =>
  cond (!r2)
    (K false w)
    (semS Try.prog (Instr.loadAt 23 (.pointer (some x1))) (.agg [(.int .i64), (.int .i64), (.int .i64)]) (fun x3 x4 x5 w =>
    callS Try.prog 17 #[(.agg #[(.int .i64 x3), (.int .i64 x4), (.int .i64 x5)]), (.int .i64 p1)] [(.one .slc), (.one (.int .i64))] (fun r6 r7 w =>
    semS Try.prog (Instr.loadAt 23 (.pointer (some x1))) (.agg [(.int .i64), (.int .i64), (.int .i64)]) (fun x8 x9 x10 w =>
    callS Try.prog 17 #[(.agg #[(.int .i64 x8), (.int .i64 x9), (.int .i64 x10)]), (.int .i64 p2)] [(.one .slc), (.one (.int .i64))] (fun r11 r12 w =>
    cond ((r7 != 0) || (r12 != 0))
      (K true w)
      (loopS (σ := Bool × Int) (fun s13 w again14 =>
        cond (decide (s13.2 < (r6.len : Int)))
          (drawS w fun C w =>
          cond s13.1
            (semQ Try.prog C (Instr.indexAt 40 (.slice r6.a r6.len r6.cap) (.int .i64 s13.2)) (.one .adr) (fun x15 =>
            semQ Try.prog C (Instr.loadAt 38 (.pointer (some x15))) (.one .cpx) (fun x16 =>
            semQ Try.prog C (Instr.indexAt 40 (.slice r11.a r11.len r11.cap) (.int .i64 s13.2)) (.one .adr) (fun x17 =>
            semQ Try.prog C (Instr.loadAt 38 (.pointer (some x17))) (.one .cpx) (fun x18 =>
            f7_t1 (!(fcEq x16.re x18.re && fcEq x16.im x18.im)) K s13 again14 r6 r11 w)))))
            (f7_t1 false K s13 again14 r6 r11 w))
          (semS Try.prog (Instr.loadAt 3 (.pointer (some (x1.add 1)))) (.one (.int .i64)) (fun x25 w =>
          semS Try.prog (Instr.loadAt 3 (.pointer (some (x1.add 2)))) (.one (.int .i64)) (fun x26 w =>
          semS Try.prog (binS .quo 3 (.tmp 65) (.tmp 67) (.int .i64 x25) (.int .i64 x26)) (.one (.int .i64)) (fun x27 w =>
          drawS w fun C w =>
          cond s13.1
            (cond ((r6.len : Int) == (r11.len : Int))
              (cond ((r6.len : Int) == 1)
                (K true w)
                (semQ Try.prog C (Instr.indexAt 40 (.slice r6.a r6.len r6.cap) (.int .i64 1)) (.one .adr) (fun x28 =>
                semQ Try.prog C (Instr.loadAt 38 (.pointer (some x28))) (.one .cpx) (fun x29 =>
                semQ Try.prog C (Instr.indexAt 40 (.slice r11.a r11.len r11.cap) (.int .i64 1)) (.one .adr) (fun x30 =>
                semQ Try.prog C (Instr.loadAt 38 (.pointer (some x30))) (.one .cpx) (fun x31 =>
                semQ Try.prog C (binS .quo 3 (.tmp 89) (.tmp 90) (.int .i64 p1) (.int .i64 x27)) (.one (.int .i64)) (fun x32 =>
                semQ Try.prog C (binS .quo 3 (.tmp 92) (.tmp 93) (.int .i64 p2) (.int .i64 x27)) (.one (.int .i64)) (fun x33 =>
                K ((fcEq x29.re x31.re && fcEq x29.im x31.im) == (x32 == x33)) w))))))))
              (K false w))
            (K false w)) w) w) w)) (false, 0) w)) w) w) w) w)) w) w
theorem f7_ok {p0_0 : Int} {p0_1 : Int} {p0_2 : Int} {p1 : Int} {p2 : Int} {K : Bool → World → Prop} {w : World} (h : f7 p0_0 p0_1 p0_2 p1 p2 K w) : callS Try.prog 7 #[(.agg #[(.int .i64 p0_0), (.int .i64 p0_1), (.int .i64 p0_2)]), (.int .i64 p1), (.int .i64 p2)] [(.one .bool)] K w :=
  calls_of_fn (args := [(.agg #[(.int .i64 p0_0), (.int .i64 p0_1), (.int .i64 p0_2)]), (.int .i64 p1), (.int .i64 p2)]) Try.f7 [] [] [] (.two .nil (.two .nil (.two .nil (.two .nil (.two .nil (.two .nil (.two (.two .nil (.one (.loop [(11, .bool), (36, (.int .i64))] (.two .nil (.two .nil (.two (.one (.two .nil (.two (.two (.draw [0, 1, 3, 3, 15, 31, 3, 3, 195, 451, 1023, 2047]) .nil) (.draw [0, 1, 3, 3, 15, 31, 3, 3, 195, 451, 1023, 2047, 4095])))) .nil)))))) (.two .nil (.two (.draw [0, 1, 3, 7, 3, 19, 63, 127, 255, 511, 1023, 2047, 4095, 8191, 16383, 32767, 8191, 73727, 204799, 524287, 8191, 8191, 3153919, 8191, 8191, 25174015, 66068479, 134217727, 268435455, 536870911, 1073741823]) .nil))))))))) (by kernel_rfl) (by kernel_rfl)
    (Eq.mp (by kernel_rfl : f7 p0_0 p0_1 p0_2 p1 p2 K w = evFn Try.prog Try.f7 [] [] [] (.two .nil (.two .nil (.two .nil (.two .nil (.two .nil (.two .nil (.two (.two .nil (.one (.loop [(11, .bool), (36, (.int .i64))] (.two .nil (.two .nil (.two (.one (.two .nil (.two (.two (.draw [0, 1, 3, 3, 15, 31, 3, 3, 195, 451, 1023, 2047]) .nil) (.draw [0, 1, 3, 3, 15, 31, 3, 3, 195, 451, 1023, 2047, 4095])))) .nil)))))) (.two .nil (.two (.draw [0, 1, 3, 7, 3, 19, 63, 127, 255, 511, 1023, 2047, 4095, 8191, 16383, 32767, 8191, 73727, 204799, 524287, 8191, 8191, 3153919, 8191, 8191, 25174015, 66068479, 134217727, 268435455, 536870911, 1073741823]) .nil))))))))) [(.agg #[(.int .i64 p0_0), (.int .i64 p0_1), (.int .i64 p0_2)]), (.int .i64 p1), (.int .i64 p2)] [(.one .bool)] K w) h)

end Go.Proofs.Ytanjnmoonndfhaa
