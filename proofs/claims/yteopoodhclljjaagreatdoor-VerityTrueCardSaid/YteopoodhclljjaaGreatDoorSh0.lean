/- The functions of the program, each as a plain statement, with the proof that it suffices for a call: printed by sh.py out of the loaded code. -/
import Derived.Test.YteopoodhclljjaaGreatDoorEng6
import Derived.Test.YteopoodhclljjaaGreatDoorProg
set_option maxRecDepth 100000
set_option linter.unusedVariables false
namespace Go.Proofs.YteopoodhclljjaaGreatDoor
open Go Go.Eng

/-- sallyport/seal.Size -/
def f30 (p0 : Int) (K : Int → World → Prop) (w : World) : Prop :=
 cond (p0 == 1)
 (K 32 w)
 (cond (p0 == 2)
 (K 64 w)
 (K 0 w))
theorem f30_ok {p0 : Int} {K : Int → World → Prop} {w : World} (h : f30 p0 K w) : callS Tryz.prog 30 #[(.int .i64 p0)] [(.one (.int .i64))] K w :=
 calls_of_fn (args := [(.int .i64 p0)]) Tryz.f30 [] [] [] .nil (by kernel_rfl) (by kernel_rfl)
 (Eq.mp (by kernel_rfl) h)

/-- math/bits.OnesCount32 -/
def f101 (p0 : Int) (K : Int → World → Prop) (w : World) : Prop :=
 drawS w fun C w =>
 semQ Tryz.prog C (Instr.index 9 (.string (ByteArray.mk #[0, 1, 1, 2, 1, 2, 2, 3, 1, 2, 2, 3, 2, 3, 3, 4, 1, 2, 2, 3, 2, 3, 3, 4, 2, 3, 3, 4, 3, 4, 4, 5, 1, 2, 2, 3, 2, 3, 3, 4, 2, 3, 3, 4, 3, 4, 4, 5, 2, 3, 3, 4, 3, 4, 4, 5, 3, 4, 4, 5, 4, 5, 5, 6, 1, 2, 2, 3, 2, 3, 3, 4, 2, 3, 3, 4, 3, 4, 4, 5, 2, 3, 3, 4, 3, 4, 4, 5, 3, 4, 4, 5, 4, 5, 5, 6, 2, 3, 3, 4, 3, 4, 4, 5, 3, 4, 4, 5, 4, 5, 5, 6, 3, 4, 4, 5, 4, 5, 5, 6, 4, 5, 5, 6, 5, 6, 6, 7, 1, 2, 2, 3, 2, 3, 3, 4, 2, 3, 3, 4, 3, 4, 4, 5, 2, 3, 3, 4, 3, 4, 4, 5, 3, 4, 4, 5, 4, 5, 5, 6, 2, 3, 3, 4, 3, 4, 4, 5, 3, 4, 4, 5, 4, 5, 5, 6, 3, 4, 4, 5, 4, 5, 5, 6, 4, 5, 5, 6, 5, 6, 6, 7, 2, 3, 3, 4, 3, 4, 4, 5, 3, 4, 4, 5, 4, 5, 5, 6, 3, 4, 4, 5, 4, 5, 5, 6, 4, 5, 5, 6, 5, 6, 6, 7, 3, 4, 4, 5, 4, 5, 5, 6, 4, 5, 5, 6, 5, 6, 6, 7, 4, 5, 5, 6, 5, 6, 6, 7, 5, 6, 6, 7, 6, 7, 7, 8])) (.int .u32 (shrI .u32 p0 24))) (.one (.int .u8)) (fun x1 =>
 semQ Tryz.prog C (Instr.index 9 (.string (ByteArray.mk #[0, 1, 1, 2, 1, 2, 2, 3, 1, 2, 2, 3, 2, 3, 3, 4, 1, 2, 2, 3, 2, 3, 3, 4, 2, 3, 3, 4, 3, 4, 4, 5, 1, 2, 2, 3, 2, 3, 3, 4, 2, 3, 3, 4, 3, 4, 4, 5, 2, 3, 3, 4, 3, 4, 4, 5, 3, 4, 4, 5, 4, 5, 5, 6, 1, 2, 2, 3, 2, 3, 3, 4, 2, 3, 3, 4, 3, 4, 4, 5, 2, 3, 3, 4, 3, 4, 4, 5, 3, 4, 4, 5, 4, 5, 5, 6, 2, 3, 3, 4, 3, 4, 4, 5, 3, 4, 4, 5, 4, 5, 5, 6, 3, 4, 4, 5, 4, 5, 5, 6, 4, 5, 5, 6, 5, 6, 6, 7, 1, 2, 2, 3, 2, 3, 3, 4, 2, 3, 3, 4, 3, 4, 4, 5, 2, 3, 3, 4, 3, 4, 4, 5, 3, 4, 4, 5, 4, 5, 5, 6, 2, 3, 3, 4, 3, 4, 4, 5, 3, 4, 4, 5, 4, 5, 5, 6, 3, 4, 4, 5, 4, 5, 5, 6, 4, 5, 5, 6, 5, 6, 6, 7, 2, 3, 3, 4, 3, 4, 4, 5, 3, 4, 4, 5, 4, 5, 5, 6, 3, 4, 4, 5, 4, 5, 5, 6, 4, 5, 5, 6, 5, 6, 6, 7, 3, 4, 4, 5, 4, 5, 5, 6, 4, 5, 5, 6, 5, 6, 6, 7, 4, 5, 5, 6, 5, 6, 6, 7, 5, 6, 6, 7, 6, 7, 7, 8])) (.int .u32 (andI .u32 (shrI .u32 p0 16) 255))) (.one (.int .u8)) (fun x2 =>
 semQ Tryz.prog C (Instr.index 9 (.string (ByteArray.mk #[0, 1, 1, 2, 1, 2, 2, 3, 1, 2, 2, 3, 2, 3, 3, 4, 1, 2, 2, 3, 2, 3, 3, 4, 2, 3, 3, 4, 3, 4, 4, 5, 1, 2, 2, 3, 2, 3, 3, 4, 2, 3, 3, 4, 3, 4, 4, 5, 2, 3, 3, 4, 3, 4, 4, 5, 3, 4, 4, 5, 4, 5, 5, 6, 1, 2, 2, 3, 2, 3, 3, 4, 2, 3, 3, 4, 3, 4, 4, 5, 2, 3, 3, 4, 3, 4, 4, 5, 3, 4, 4, 5, 4, 5, 5, 6, 2, 3, 3, 4, 3, 4, 4, 5, 3, 4, 4, 5, 4, 5, 5, 6, 3, 4, 4, 5, 4, 5, 5, 6, 4, 5, 5, 6, 5, 6, 6, 7, 1, 2, 2, 3, 2, 3, 3, 4, 2, 3, 3, 4, 3, 4, 4, 5, 2, 3, 3, 4, 3, 4, 4, 5, 3, 4, 4, 5, 4, 5, 5, 6, 2, 3, 3, 4, 3, 4, 4, 5, 3, 4, 4, 5, 4, 5, 5, 6, 3, 4, 4, 5, 4, 5, 5, 6, 4, 5, 5, 6, 5, 6, 6, 7, 2, 3, 3, 4, 3, 4, 4, 5, 3, 4, 4, 5, 4, 5, 5, 6, 3, 4, 4, 5, 4, 5, 5, 6, 4, 5, 5, 6, 5, 6, 6, 7, 3, 4, 4, 5, 4, 5, 5, 6, 4, 5, 5, 6, 5, 6, 6, 7, 4, 5, 5, 6, 5, 6, 6, 7, 5, 6, 6, 7, 6, 7, 7, 8])) (.int .u32 (andI .u32 (shrI .u32 p0 8) 255))) (.one (.int .u8)) (fun x3 =>
 semQ Tryz.prog C (Instr.index 9 (.string (ByteArray.mk #[0, 1, 1, 2, 1, 2, 2, 3, 1, 2, 2, 3, 2, 3, 3, 4, 1, 2, 2, 3, 2, 3, 3, 4, 2, 3, 3, 4, 3, 4, 4, 5, 1, 2, 2, 3, 2, 3, 3, 4, 2, 3, 3, 4, 3, 4, 4, 5, 2, 3, 3, 4, 3, 4, 4, 5, 3, 4, 4, 5, 4, 5, 5, 6, 1, 2, 2, 3, 2, 3, 3, 4, 2, 3, 3, 4, 3, 4, 4, 5, 2, 3, 3, 4, 3, 4, 4, 5, 3, 4, 4, 5, 4, 5, 5, 6, 2, 3, 3, 4, 3, 4, 4, 5, 3, 4, 4, 5, 4, 5, 5, 6, 3, 4, 4, 5, 4, 5, 5, 6, 4, 5, 5, 6, 5, 6, 6, 7, 1, 2, 2, 3, 2, 3, 3, 4, 2, 3, 3, 4, 3, 4, 4, 5, 2, 3, 3, 4, 3, 4, 4, 5, 3, 4, 4, 5, 4, 5, 5, 6, 2, 3, 3, 4, 3, 4, 4, 5, 3, 4, 4, 5, 4, 5, 5, 6, 3, 4, 4, 5, 4, 5, 5, 6, 4, 5, 5, 6, 5, 6, 6, 7, 2, 3, 3, 4, 3, 4, 4, 5, 3, 4, 4, 5, 4, 5, 5, 6, 3, 4, 4, 5, 4, 5, 5, 6, 4, 5, 5, 6, 5, 6, 6, 7, 3, 4, 4, 5, 4, 5, 5, 6, 4, 5, 5, 6, 5, 6, 6, 7, 4, 5, 5, 6, 5, 6, 6, 7, 5, 6, 6, 7, 6, 7, 7, 8])) (.int .u32 (andI .u32 p0 255))) (.one (.int .u8)) (fun x4 =>
 K (IntKind.wrap .i64 (IntKind.wrap .u8 ((IntKind.wrap .u8 ((IntKind.wrap .u8 (x1 + x2)) + x3)) + x4))) w))))
theorem f101_ok {p0 : Int} {K : Int → World → Prop} {w : World} (h : f101 p0 K w) : callS Tryz.prog 101 #[(.int .u32 p0)] [(.one (.int .i64))] K w :=
 calls_of_fn (args := [(.int .u32 p0)]) Tryz.f101 [] [] [] (.two .nil (.two (.draw [0, 1, 3, 0, 8, 24, 56, 127, 0, 256, 768, 1792, 4095, 0, 8192, 24576, 65535, 131071, 262143]) .nil)) (by kernel_rfl) (by kernel_rfl)
 (Eq.mp (by kernel_rfl) h)

/-- math/bits.OnesCount64 -/
def f102 (p0 : Int) (K : Int → World → Prop) (w : World) : Prop :=
 K (andI .i64 (IntKind.wrap .i64 (IntKind.wrap .u64 ((IntKind.wrap .u64 ((IntKind.wrap .u64 ((andI .u64 (IntKind.wrap .u64 ((shrI .u64 (IntKind.wrap .u64 ((andI .u64 (shrI .u64 (IntKind.wrap .u64 ((andI .u64 (shrI .u64 p0 1) 6148914691236517205) + (andI .u64 p0 6148914691236517205))) 2) 3689348814741910323) + (andI .u64 (IntKind.wrap .u64 ((andI .u64 (shrI .u64 p0 1) 6148914691236517205) + (andI .u64 p0 6148914691236517205))) 3689348814741910323))) 4) + (IntKind.wrap .u64 ((andI .u64 (shrI .u64 (IntKind.wrap .u64 ((andI .u64 (shrI .u64 p0 1) 6148914691236517205) + (andI .u64 p0 6148914691236517205))) 2) 3689348814741910323) + (andI .u64 (IntKind.wrap .u64 ((andI .u64 (shrI .u64 p0 1) 6148914691236517205) + (andI .u64 p0 6148914691236517205))) 3689348814741910323))))) 1085102592571150095) + (shrI .u64 (andI .u64 (IntKind.wrap .u64 ((shrI .u64 (IntKind.wrap .u64 ((andI .u64 (shrI .u64 (IntKind.wrap .u64 ((andI .u64 (shrI .u64 p0 1) 6148914691236517205) + (andI .u64 p0 6148914691236517205))) 2) 3689348814741910323) + (andI .u64 (IntKind.wrap .u64 ((andI .u64 (shrI .u64 p0 1) 6148914691236517205) + (andI .u64 p0 6148914691236517205))) 3689348814741910323))) 4) + (IntKind.wrap .u64 ((andI .u64 (shrI .u64 (IntKind.wrap .u64 ((andI .u64 (shrI .u64 p0 1) 6148914691236517205) + (andI .u64 p0 6148914691236517205))) 2) 3689348814741910323) + (andI .u64 (IntKind.wrap .u64 ((andI .u64 (shrI .u64 p0 1) 6148914691236517205) + (andI .u64 p0 6148914691236517205))) 3689348814741910323))))) 1085102592571150095) 8))) + (shrI .u64 (IntKind.wrap .u64 ((andI .u64 (IntKind.wrap .u64 ((shrI .u64 (IntKind.wrap .u64 ((andI .u64 (shrI .u64 (IntKind.wrap .u64 ((andI .u64 (shrI .u64 p0 1) 6148914691236517205) + (andI .u64 p0 6148914691236517205))) 2) 3689348814741910323) + (andI .u64 (IntKind.wrap .u64 ((andI .u64 (shrI .u64 p0 1) 6148914691236517205) + (andI .u64 p0 6148914691236517205))) 3689348814741910323))) 4) + (IntKind.wrap .u64 ((andI .u64 (shrI .u64 (IntKind.wrap .u64 ((andI .u64 (shrI .u64 p0 1) 6148914691236517205) + (andI .u64 p0 6148914691236517205))) 2) 3689348814741910323) + (andI .u64 (IntKind.wrap .u64 ((andI .u64 (shrI .u64 p0 1) 6148914691236517205) + (andI .u64 p0 6148914691236517205))) 3689348814741910323))))) 1085102592571150095) + (shrI .u64 (andI .u64 (IntKind.wrap .u64 ((shrI .u64 (IntKind.wrap .u64 ((andI .u64 (shrI .u64 (IntKind.wrap .u64 ((andI .u64 (shrI .u64 p0 1) 6148914691236517205) + (andI .u64 p0 6148914691236517205))) 2) 3689348814741910323) + (andI .u64 (IntKind.wrap .u64 ((andI .u64 (shrI .u64 p0 1) 6148914691236517205) + (andI .u64 p0 6148914691236517205))) 3689348814741910323))) 4) + (IntKind.wrap .u64 ((andI .u64 (shrI .u64 (IntKind.wrap .u64 ((andI .u64 (shrI .u64 p0 1) 6148914691236517205) + (andI .u64 p0 6148914691236517205))) 2) 3689348814741910323) + (andI .u64 (IntKind.wrap .u64 ((andI .u64 (shrI .u64 p0 1) 6148914691236517205) + (andI .u64 p0 6148914691236517205))) 3689348814741910323))))) 1085102592571150095) 8))) 16))) + (shrI .u64 (IntKind.wrap .u64 ((IntKind.wrap .u64 ((andI .u64 (IntKind.wrap .u64 ((shrI .u64 (IntKind.wrap .u64 ((andI .u64 (shrI .u64 (IntKind.wrap .u64 ((andI .u64 (shrI .u64 p0 1) 6148914691236517205) + (andI .u64 p0 6148914691236517205))) 2) 3689348814741910323) + (andI .u64 (IntKind.wrap .u64 ((andI .u64 (shrI .u64 p0 1) 6148914691236517205) + (andI .u64 p0 6148914691236517205))) 3689348814741910323))) 4) + (IntKind.wrap .u64 ((andI .u64 (shrI .u64 (IntKind.wrap .u64 ((andI .u64 (shrI .u64 p0 1) 6148914691236517205) + (andI .u64 p0 6148914691236517205))) 2) 3689348814741910323) + (andI .u64 (IntKind.wrap .u64 ((andI .u64 (shrI .u64 p0 1) 6148914691236517205) + (andI .u64 p0 6148914691236517205))) 3689348814741910323))))) 1085102592571150095) + (shrI .u64 (andI .u64 (IntKind.wrap .u64 ((shrI .u64 (IntKind.wrap .u64 ((andI .u64 (shrI .u64 (IntKind.wrap .u64 ((andI .u64 (shrI .u64 p0 1) 6148914691236517205) + (andI .u64 p0 6148914691236517205))) 2) 3689348814741910323) + (andI .u64 (IntKind.wrap .u64 ((andI .u64 (shrI .u64 p0 1) 6148914691236517205) + (andI .u64 p0 6148914691236517205))) 3689348814741910323))) 4) + (IntKind.wrap .u64 ((andI .u64 (shrI .u64 (IntKind.wrap .u64 ((andI .u64 (shrI .u64 p0 1) 6148914691236517205) + (andI .u64 p0 6148914691236517205))) 2) 3689348814741910323) + (andI .u64 (IntKind.wrap .u64 ((andI .u64 (shrI .u64 p0 1) 6148914691236517205) + (andI .u64 p0 6148914691236517205))) 3689348814741910323))))) 1085102592571150095) 8))) + (shrI .u64 (IntKind.wrap .u64 ((andI .u64 (IntKind.wrap .u64 ((shrI .u64 (IntKind.wrap .u64 ((andI .u64 (shrI .u64 (IntKind.wrap .u64 ((andI .u64 (shrI .u64 p0 1) 6148914691236517205) + (andI .u64 p0 6148914691236517205))) 2) 3689348814741910323) + (andI .u64 (IntKind.wrap .u64 ((andI .u64 (shrI .u64 p0 1) 6148914691236517205) + (andI .u64 p0 6148914691236517205))) 3689348814741910323))) 4) + (IntKind.wrap .u64 ((andI .u64 (shrI .u64 (IntKind.wrap .u64 ((andI .u64 (shrI .u64 p0 1) 6148914691236517205) + (andI .u64 p0 6148914691236517205))) 2) 3689348814741910323) + (andI .u64 (IntKind.wrap .u64 ((andI .u64 (shrI .u64 p0 1) 6148914691236517205) + (andI .u64 p0 6148914691236517205))) 3689348814741910323))))) 1085102592571150095) + (shrI .u64 (andI .u64 (IntKind.wrap .u64 ((shrI .u64 (IntKind.wrap .u64 ((andI .u64 (shrI .u64 (IntKind.wrap .u64 ((andI .u64 (shrI .u64 p0 1) 6148914691236517205) + (andI .u64 p0 6148914691236517205))) 2) 3689348814741910323) + (andI .u64 (IntKind.wrap .u64 ((andI .u64 (shrI .u64 p0 1) 6148914691236517205) + (andI .u64 p0 6148914691236517205))) 3689348814741910323))) 4) + (IntKind.wrap .u64 ((andI .u64 (shrI .u64 (IntKind.wrap .u64 ((andI .u64 (shrI .u64 p0 1) 6148914691236517205) + (andI .u64 p0 6148914691236517205))) 2) 3689348814741910323) + (andI .u64 (IntKind.wrap .u64 ((andI .u64 (shrI .u64 p0 1) 6148914691236517205) + (andI .u64 p0 6148914691236517205))) 3689348814741910323))))) 1085102592571150095) 8))) 16))) 32)))) 127) w
theorem f102_ok {p0 : Int} {K : Int → World → Prop} {w : World} (h : f102 p0 K w) : callS Tryz.prog 102 #[(.int .u64 p0)] [(.one (.int .i64))] K w :=
 calls_of_fn (args := [(.int .u64 p0)]) Tryz.f102 [] [] [] .nil (by kernel_rfl) (by kernel_rfl)
 (Eq.mp (by kernel_rfl) h)

/-- math/bits.OnesCount -/
def f87 (p0 : Int) (K : Int → World → Prop) (w : World) : Prop :=
 callS Tryz.prog 102 #[(.int .u64 p0)] [(.one (.int .i64))] (fun r1 w =>
 K r1 w) w
theorem f87_ok {p0 : Int} {K : Int → World → Prop} {w : World} (h : f87 p0 K w) : callS Tryz.prog 87 #[(.int .u64 p0)] [(.one (.int .i64))] K w :=
 calls_of_fn (args := [(.int .u64 p0)]) Tryz.f87 [] [] [] .nil (by kernel_rfl) (by kernel_rfl)
 (Eq.mp (by kernel_rfl) h)

/-- (sallyport/place.Shape).Right -/
def f65 (p0_0 : Int) (p0_1 : Int) (p0_2 : Int) (K : Bool → World → Prop) (w : World) : Prop :=
 semS Tryz.prog (Instr.box 72 (.agg #[(.int .i64 p0_0), (.int .i64 p0_1), (.int .i64 p0_2)])) (.one .adr) (fun x1 w =>
 semS Tryz.prog (Instr.loadAt 3 (.pointer (some (x1.add 0)))) (.one (.int .i64)) (fun x2 w =>
 joinS (σ := Bool) (fun b3 w =>
 joinS (σ := Bool) (fun b5 w =>
 joinS (σ := Bool) (fun b7 w =>
 joinS (σ := Bool) (fun b9 w =>
 joinS (σ := Bool) (fun b11 w =>
 K b11 w) fun J12 =>
 cond b9
 (semS Tryz.prog (Instr.loadAt 3 (.pointer (some (x1.add 1)))) (.one (.int .i64)) (fun x13 w =>
 callS Tryz.prog 87 #[(.int .u64 (IntKind.wrap .u64 x13))] [(.one (.int .i64))] (fun r14 w =>
 J12 (r14 == 1) w) w) w)
 (J12 false w)) fun J10 =>
 cond b7
 (semS Tryz.prog (Instr.loadAt 3 (.pointer (some (x1.add 1)))) (.one (.int .i64)) (fun x15 w =>
 J10 (decide (x15 ≤ 4096)) w) w)
 (J10 false w)) fun J8 =>
 cond b5
 (semS Tryz.prog (Instr.loadAt 3 (.pointer (some (x1.add 1)))) (.one (.int .i64)) (fun x16 w =>
 semS Tryz.prog (Instr.loadAt 3 (.pointer (some (x1.add 2)))) (.one (.int .i64)) (fun x17 w =>
 J8 (decide (x16 ≥ (IntKind.wrap .i64 (2 * x17)))) w) w) w)
 (J8 false w)) fun J6 =>
 cond b3
 (semS Tryz.prog (Instr.loadAt 3 (.pointer (some (x1.add 2)))) (.one (.int .i64)) (fun x18 w =>
 joinS (σ := Bool) (fun b19 w =>
 J6 b19 w) fun J20 =>
 cond (x18 == 32)
 (J20 true w)
 (semS Tryz.prog (Instr.loadAt 3 (.pointer (some (x1.add 2)))) (.one (.int .i64)) (fun x21 w =>
 J20 (x21 == 64) w) w)) w)
 (J6 false w)) fun J4 =>
 cond (decide (x2 ≥ 1))
 (semS Tryz.prog (Instr.loadAt 3 (.pointer (some (x1.add 0)))) (.one (.int .i64)) (fun x22 w =>
 J4 (decide (x22 ≤ 1099511627776)) w) w)
 (J4 false w)) w) w
theorem f65_ok {p0_0 : Int} {p0_1 : Int} {p0_2 : Int} {K : Bool → World → Prop} {w : World} (h : f65 p0_0 p0_1 p0_2 K w) : callS Tryz.prog 65 #[(.agg #[(.int .i64 p0_0), (.int .i64 p0_1), (.int .i64 p0_2)])] [(.one .bool)] K w :=
 calls_of_fn (args := [(.agg #[(.int .i64 p0_0), (.int .i64 p0_1), (.int .i64 p0_2)])]) Tryz.f65 [] [] [] .nil (by kernel_rfl) (by kernel_rfl)
 (Eq.mp (by kernel_rfl) h)

/-- sallyport/grove.asked -/
def f45 (p0 : Int) (p1 : Sl) (p2_0 : Int) (p2_1 : Int) (p2_2 : Int) (K : Int → World → Prop) (w : World) : Prop :=
 semS Tryz.prog (Instr.box 72 (.agg #[(.int .i64 p2_0), (.int .i64 p2_1), (.int .i64 p2_2)])) (.one .adr) (fun x1 w =>
 callS Tryz.prog 30 #[(.int .i64 p0)] [(.one (.int .i64))] (fun r2 w =>
 cond (r2 == 0)
 (K 20 w)
 (cond (decide ((p1.len : Int) > 64))
 (K 11 w)
 (drawS w fun C w =>
 semQ Tryz.prog C (Instr.loadAt 72 (.pointer (some x1))) (.agg [(.int .i64), (.int .i64), (.int .i64)]) (fun x3 x4 x5 =>
 callS Tryz.prog 65 #[(.agg #[(.int .i64 x3), (.int .i64 x4), (.int .i64 x5)])] [(.one .bool)] (fun r6 w =>
 moreS C w (fun C =>
 cond (!r6)
 (K 24 w)
 (semQ Tryz.prog C (Instr.loadAt 3 (.pointer (some (x1.add 2)))) (.one (.int .i64)) (fun x7 =>
 callS Tryz.prog 30 #[(.int .i64 p0)] [(.one (.int .i64))] (fun r8 w =>
 moreS C w (fun C =>
 cond (x7 != r8)
 (K 24 w)
 (K 0 w))) w)))) w)))) w) w
theorem f45_ok {p0 : Int} {p1 : Sl} {p2_0 : Int} {p2_1 : Int} {p2_2 : Int} {K : Int → World → Prop} {w : World} (h : f45 p0 p1 p2_0 p2_1 p2_2 K w) : callS Tryz.prog 45 #[(.int .i64 p0), (.slice p1.a p1.len p1.cap), (.agg #[(.int .i64 p2_0), (.int .i64 p2_1), (.int .i64 p2_2)])] [(.one (.int .i64))] K w :=
 calls_of_fn (args := [(.int .i64 p0), (.slice p1.a p1.len p1.cap), (.agg #[(.int .i64 p2_0), (.int .i64 p2_1), (.int .i64 p2_2)])]) Tryz.f45 [] [] [] (.two .nil (.two (.one (.two .nil (.two .nil (.two .nil (.two .nil (.two (.draw [0, 1, 3, 7, 15, 31, 15, 79, 255, 511, 1023]) .nil)))))) .nil)) (by kernel_rfl) (by kernel_rfl)
 (Eq.mp (by kernel_rfl) h)

/-- sallyport/longsum.New -/
def f90  (K : (Option Addr) → World → Prop) (w : World) : Prop :=
 semS Tryz.prog (Instr.loadAt 168 (.pointer (some (⟨0, 0, none⟩)))) (.agg [(.int .u64), (.int .u64), (.int .u64), (.int .u64), (.int .u64), (.int .u64), (.int .u64), (.int .u64)]) (fun x1 x2 x3 x4 x5 x6 x7 x8 w =>
 semS Tryz.prog (Instr.box 170 (.agg #[(.int .u64 x1), (.int .u64 x2), (.int .u64 x3), (.int .u64 x4), (.int .u64 x5), (.int .u64 x6), (.int .u64 x7), (.int .u64 x8), (.slice none 0 0), (.int .u64 0)])) (.one .adr) (fun x9 w =>
 K (some x9) w) w) w
theorem f90_ok  {K : (Option Addr) → World → Prop} {w : World} (h : f90  K w) : callS Tryz.prog 90 #[] [(.one .ptr)] K w :=
 calls_of_fn (args := []) Tryz.f90 [] [] [] .nil (by kernel_rfl) (by kernel_rfl)
 (Eq.mp (by kernel_rfl) h)

/-- slices.Clone[[]byte,byte] -/
def f29 (p0 : Sl) (K : Sl → World → Prop) (w : World) : Prop :=
 semS Tryz.prog (binS .eql 22 (.tmp 3) (.const (Go.Value.slice none 0 0)) (.slice p0.a p0.len p0.cap) (.slice none 0 0)) (.one .bool) (fun x1 w =>
 cond x1
 (K (⟨none, 0, 0⟩) w)
 (semS Tryz.prog (Instr.buildSlice 22 0 #[]) (.one .slc) (fun x2 w =>
 semS Tryz.prog (Builtin.append_ #[22, 22] 22 #[(.slice x2.a x2.len x2.cap), (.slice p0.a p0.len p0.cap)]) (.one .slc) (fun r3 w =>
 K r3 w) w) w)) w
theorem f29_ok {p0 : Sl} {K : Sl → World → Prop} {w : World} (h : f29 p0 K w) : callS Tryz.prog 29 #[(.slice p0.a p0.len p0.cap)] [(.one .slc)] K w :=
 calls_of_fn (args := [(.slice p0.a p0.len p0.cap)]) Tryz.f29 [] [] [] .nil (by kernel_rfl) (by kernel_rfl)
 (Eq.mp (by kernel_rfl) h)

/-- math/bits.RotateLeft64 -/
def f116 (p0 : Int) (p1 : Int) (K : Int → World → Prop) (w : World) : Prop :=
 semS Tryz.prog (binS .shl 162 (.tmp 9) (.tmp 10) (.int .u64 p0) (.int .u64 (andI .u64 (IntKind.wrap .u64 p1) 63))) (.one (.int .u64)) (fun x1 w =>
 semS Tryz.prog (binS .shr 162 (.tmp 12) (.tmp 14) (.int .u64 p0) (.int .u64 (IntKind.wrap .u64 (64 - (andI .u64 (IntKind.wrap .u64 p1) 63))))) (.one (.int .u64)) (fun x2 w =>
 K (orI .u64 x1 x2) w) w) w
theorem f116_ok {p0 : Int} {p1 : Int} {K : Int → World → Prop} {w : World} (h : f116 p0 p1 K w) : callS Tryz.prog 116 #[(.int .u64 p0), (.int .i64 p1)] [(.one (.int .u64))] K w :=
 calls_of_fn (args := [(.int .u64 p0), (.int .i64 p1)]) Tryz.f116 [] [] [] .nil (by kernel_rfl) (by kernel_rfl)
 (Eq.mp (by kernel_rfl) h)

/-- sallyport/longsum.turn -/
def f113 (p0 : Int) (p1 : Int) (K : Int → World → Prop) (w : World) : Prop :=
 callS Tryz.prog 116 #[(.int .u64 p0), (.int .i64 (IntKind.wrap .i64 (0 - p1)))] [(.one (.int .u64))] (fun r1 w =>
 K r1 w) w
theorem f113_ok {p0 : Int} {p1 : Int} {K : Int → World → Prop} {w : World} (h : f113 p0 p1 K w) : callS Tryz.prog 113 #[(.int .u64 p0), (.int .i64 p1)] [(.one (.int .u64))] K w :=
 calls_of_fn (args := [(.int .u64 p0), (.int .i64 p1)]) Tryz.f113 [] [] [] .nil (by kernel_rfl) (by kernel_rfl)
 (Eq.mp (by kernel_rfl) h)

/-- sallyport/longsum.schedule -/
def f112 (p0 : Sl) (K : (List Int) → World → Prop) (w : World) : Prop :=
 semS Tryz.prog (Instr.alloc 181 true (.tuple #[])) (.one .adr) (fun x1 w =>
 loopS (σ := Int) (fun x2 w again3 =>
 cond (decide (x2 < 16))
 (semS Tryz.prog (Instr.sliceAt 22 (.slice p0.a p0.len p0.cap) (some (.int .i64 (IntKind.wrap .i64 (8 * x2)))) (some (.int .i64 (IntKind.wrap .i64 ((IntKind.wrap .i64 (8 * x2)) + 8)))) none) (.one .slc) (fun x4 w =>
 loopS (σ := Int) (fun x5 w again6 =>
 cond (decide (x5 < (x4.len : Int)))
 (semS Tryz.prog (Instr.indexAt 22 (.slice x4.a x4.len x4.cap) (.int .i64 x5)) (.one .adr) (fun x7 w =>
 semS Tryz.prog (Instr.loadAt 5 (.pointer (some x7))) (.one (.int .u8)) (fun x8 w =>
 semS Tryz.prog (Instr.indexAt 181 (.pointer (some x1)) (.int .i64 x2)) (.one .adr) (fun x9 w =>
 semS Tryz.prog (Instr.loadAt 162 (.pointer (some x9))) (.one (.int .u64)) (fun x10 w =>
 semS Tryz.prog (Instr.indexAt 181 (.pointer (some x1)) (.int .i64 x2)) (.one .adr) (fun x11 w =>
 semU Tryz.prog (Instr.storeAt 162 (.pointer (some x11)) (.int .u64 (orI .u64 (shlI .u64 x10 8) (IntKind.wrap .u64 x8)))) (fun w =>
 again6 (IntKind.wrap .i64 (x5 + 1)) w) w) w) w) w) w) w)
 (again3 (IntKind.wrap .i64 (x2 + 1)) w)) 0 w) w)
 (loopS (σ := Int) (fun x12 w again13 =>
 cond (decide (x12 < 80))
 (drawS w fun C w =>
 semQ Tryz.prog C (Instr.indexAt 181 (.pointer (some x1)) (.int .i64 (IntKind.wrap .i64 (x12 - 15)))) (.one .adr) (fun x14 =>
 semQ Tryz.prog C (Instr.loadAt 162 (.pointer (some x14))) (.one (.int .u64)) (fun x15 =>
 semQ Tryz.prog C (Instr.indexAt 181 (.pointer (some x1)) (.int .i64 (IntKind.wrap .i64 (x12 - 2)))) (.one .adr) (fun x16 =>
 semQ Tryz.prog C (Instr.loadAt 162 (.pointer (some x16))) (.one (.int .u64)) (fun x17 =>
 drawS w fun C w =>
 semQ Tryz.prog C (Instr.indexAt 181 (.pointer (some x1)) (.int .i64 (IntKind.wrap .i64 (x12 - 16)))) (.one .adr) (fun x18 =>
 semQ Tryz.prog C (Instr.loadAt 162 (.pointer (some x18))) (.one (.int .u64)) (fun x19 =>
 semQ Tryz.prog C (Instr.indexAt 181 (.pointer (some x1)) (.int .i64 (IntKind.wrap .i64 (x12 - 7)))) (.one .adr) (fun x20 =>
 semQ Tryz.prog C (Instr.loadAt 162 (.pointer (some x20))) (.one (.int .u64)) (fun x21 =>
 callS Tryz.prog 113 #[(.int .u64 x15), (.int .i64 1)] [(.one (.int .u64))] (fun r22 w =>
 moreS C w (fun C =>
 callS Tryz.prog 113 #[(.int .u64 x15), (.int .i64 8)] [(.one (.int .u64))] (fun r23 w =>
 moreS C w (fun C =>
 callS Tryz.prog 113 #[(.int .u64 x17), (.int .i64 19)] [(.one (.int .u64))] (fun r24 w =>
 moreS C w (fun C =>
 callS Tryz.prog 113 #[(.int .u64 x17), (.int .i64 61)] [(.one (.int .u64))] (fun r25 w =>
 moreS C w (fun C =>
 semQ Tryz.prog C (Instr.indexAt 181 (.pointer (some x1)) (.int .i64 x12)) (.one .adr) (fun x26 =>
 semU Tryz.prog (Instr.storeAt 162 (.pointer (some x26)) (.int .u64 (IntKind.wrap .u64 ((IntKind.wrap .u64 ((IntKind.wrap .u64 (x19 + (xorI .u64 (xorI .u64 r22 r23) (shrI .u64 x15 7)))) + x21)) + (xorI .u64 (xorI .u64 r24 r25) (shrI .u64 x17 6)))))) (fun w =>
 again13 (IntKind.wrap .i64 (x12 + 1)) w) w))) w)) w)) w)) w)))))))))
 (semS Tryz.prog (Instr.loadAt 181 (.pointer (some x1))) (.one (.arr .u64)) (fun x27 w =>
 semU Tryz.prog (Instr.storeAt 181 (.pointer (some x1)) (.agg (List.map (Value.int .u64) x27).toArray)) (fun w =>
 ∃ v28, (loadVar 181 x1).run Tryz.prog w = .ok v28 w ∧ decR [(.one (.arr .u64))] v28 K fun r => r w) w) w)) 16 w)) 0 w) w
theorem f112_ok {p0 : Sl} {K : (List Int) → World → Prop} {w : World} (h : f112 p0 K w) : callS Tryz.prog 112 #[(.slice p0.a p0.len p0.cap)] [(.one (.arr .u64))] K w :=
 calls_of_fn (args := [(.slice p0.a p0.len p0.cap)]) Tryz.f112 [] [] [] (.two .nil (.two (.two .nil (.one (.loop [(9, (.int .i64))] (.two .nil (.two .nil (.two (.one (.two .nil (.two .nil (.one (.loop [(20, (.int .i64))] .nil))))) .nil)))))) (.two (.two .nil (.one (.loop [(6, (.int .i64))] (.two .nil (.two (.one (.two (.draw [0, 1, 3, 7, 0, 16, 48, 112, 15, 511]) (.draw [0, 0, 2, 6, 14, 0, 32, 0, 224, 480, 0, 1024, 4064, 8190, 0, 16384, 49152, 114688, 262142, 0, 524768, 0, 3670496, 7864800, 0, 16777216, 66585056, 134217726, 268435455, 536870911]))) .nil))))) .nil))) (by kernel_rfl) (by kernel_rfl)
 (Eq.mp (by kernel_rfl) h)

/-- (*sallyport/longsum.Hash).take -/
def f103 (p0 : Option Addr) (p1 : Sl) (K : World → Prop) (w : World) : Prop :=
 callS Tryz.prog 112 #[(.slice p1.a p1.len p1.cap)] [(.one (.arr .u64))] (fun r1 w =>
 semS Tryz.prog (Instr.alloc 181 true (.tuple #[])) (.one .adr) (fun x2 w =>
 semU Tryz.prog (Instr.storeAt 181 (.pointer (some x2)) (.agg (List.map (Value.int .u64) r1).toArray)) (fun w =>
 nilS p0 fun a3 =>
 semS Tryz.prog (Instr.loadAt 168 (.pointer (some (a3.add 0)))) (.agg [(.int .u64), (.int .u64), (.int .u64), (.int .u64), (.int .u64), (.int .u64), (.int .u64), (.int .u64)]) (fun x4 x5 x6 x7 x8 x9 x10 x11 w =>
 semS Tryz.prog (Instr.alloc 168 true (.tuple #[])) (.one .adr) (fun x12 w =>
 semU Tryz.prog (Instr.storeAt 168 (.pointer (some x12)) (.agg #[(.int .u64 x4), (.int .u64 x5), (.int .u64 x6), (.int .u64 x7), (.int .u64 x8), (.int .u64 x9), (.int .u64 x10), (.int .u64 x11)])) (fun w =>
 semS Tryz.prog (Instr.loadAt 181 (.pointer (some (⟨2, 0, none⟩)))) (.one (.arr .u64)) (fun x13 w =>
 loopS (σ := Int) (fun x14 w again15 =>
 cond (decide (x14 < 80))
 (semS Tryz.prog (Instr.index 181 (.agg (List.map (Value.int .u64) x13).toArray) (.int .i64 x14)) (.one (.int .u64)) (fun x16 w =>
 drawS w fun C w =>
 semQ Tryz.prog C (Instr.indexAt 168 (.pointer (some x12)) (.int .i64 0)) (.one .adr) (fun x17 =>
 semQ Tryz.prog C (Instr.loadAt 162 (.pointer (some x17))) (.one (.int .u64)) (fun x18 =>
 semQ Tryz.prog C (Instr.indexAt 168 (.pointer (some x12)) (.int .i64 4)) (.one .adr) (fun x19 =>
 semQ Tryz.prog C (Instr.loadAt 162 (.pointer (some x19))) (.one (.int .u64)) (fun x20 =>
 drawS w fun C w =>
 semQ Tryz.prog C (Instr.indexAt 168 (.pointer (some x12)) (.int .i64 7)) (.one .adr) (fun x21 =>
 semQ Tryz.prog C (Instr.loadAt 162 (.pointer (some x21))) (.one (.int .u64)) (fun x22 =>
 semQ Tryz.prog C (Instr.indexAt 168 (.pointer (some x12)) (.int .i64 5)) (.one .adr) (fun x23 =>
 semQ Tryz.prog C (Instr.loadAt 162 (.pointer (some x23))) (.one (.int .u64)) (fun x24 =>
 semQ Tryz.prog C (Instr.indexAt 168 (.pointer (some x12)) (.int .i64 6)) (.one .adr) (fun x25 =>
 semQ Tryz.prog C (Instr.loadAt 162 (.pointer (some x25))) (.one (.int .u64)) (fun x26 =>
 semQ Tryz.prog C (Instr.indexAt 181 (.pointer (some x2)) (.int .i64 x14)) (.one .adr) (fun x27 =>
 semQ Tryz.prog C (Instr.loadAt 162 (.pointer (some x27))) (.one (.int .u64)) (fun x28 =>
 callS Tryz.prog 113 #[(.int .u64 x20), (.int .i64 14)] [(.one (.int .u64))] (fun r29 w =>
 moreS C w (fun C =>
 callS Tryz.prog 113 #[(.int .u64 x20), (.int .i64 18)] [(.one (.int .u64))] (fun r30 w =>
 moreS C w (fun C =>
 callS Tryz.prog 113 #[(.int .u64 x20), (.int .i64 41)] [(.one (.int .u64))] (fun r31 w =>
 moreS C w (fun C =>
 drawS w fun C w =>
 semQ Tryz.prog C (Instr.indexAt 168 (.pointer (some x12)) (.int .i64 1)) (.one .adr) (fun x32 =>
 semQ Tryz.prog C (Instr.loadAt 162 (.pointer (some x32))) (.one (.int .u64)) (fun x33 =>
 semQ Tryz.prog C (Instr.indexAt 168 (.pointer (some x12)) (.int .i64 2)) (.one .adr) (fun x34 =>
 semQ Tryz.prog C (Instr.loadAt 162 (.pointer (some x34))) (.one (.int .u64)) (fun x35 =>
 semQ Tryz.prog C (Instr.indexAt 168 (.pointer (some x12)) (.int .i64 1)) (.one .adr) (fun x36 =>
 semQ Tryz.prog C (Instr.loadAt 162 (.pointer (some x36))) (.one (.int .u64)) (fun x37 =>
 semQ Tryz.prog C (Instr.indexAt 168 (.pointer (some x12)) (.int .i64 2)) (.one .adr) (fun x38 =>
 semQ Tryz.prog C (Instr.loadAt 162 (.pointer (some x38))) (.one (.int .u64)) (fun x39 =>
 callS Tryz.prog 113 #[(.int .u64 x18), (.int .i64 28)] [(.one (.int .u64))] (fun r40 w =>
 moreS C w (fun C =>
 callS Tryz.prog 113 #[(.int .u64 x18), (.int .i64 34)] [(.one (.int .u64))] (fun r41 w =>
 moreS C w (fun C =>
 callS Tryz.prog 113 #[(.int .u64 x18), (.int .i64 39)] [(.one (.int .u64))] (fun r42 w =>
 moreS C w (fun C =>
 semS Tryz.prog (Instr.indexAt 168 (.pointer (some x12)) (.int .i64 1)) (.one .adr) (fun x43 w =>
 semS Tryz.prog (Instr.loadAt 162 (.pointer (some x43))) (.one (.int .u64)) (fun x44 w =>
 semS Tryz.prog (Instr.indexAt 168 (.pointer (some x12)) (.int .i64 2)) (.one .adr) (fun x45 w =>
 semS Tryz.prog (Instr.loadAt 162 (.pointer (some x45))) (.one (.int .u64)) (fun x46 w =>
 semS Tryz.prog (Instr.indexAt 168 (.pointer (some x12)) (.int .i64 3)) (.one .adr) (fun x47 w =>
 semS Tryz.prog (Instr.loadAt 162 (.pointer (some x47))) (.one (.int .u64)) (fun x48 w =>
 semS Tryz.prog (Instr.indexAt 168 (.pointer (some x12)) (.int .i64 5)) (.one .adr) (fun x49 w =>
 semS Tryz.prog (Instr.loadAt 162 (.pointer (some x49))) (.one (.int .u64)) (fun x50 w =>
 semS Tryz.prog (Instr.indexAt 168 (.pointer (some x12)) (.int .i64 6)) (.one .adr) (fun x51 w =>
 semS Tryz.prog (Instr.loadAt 162 (.pointer (some x51))) (.one (.int .u64)) (fun x52 w =>
 semU Tryz.prog (Instr.storeAt 168 (.pointer (some x12)) (.agg #[(.int .u64 (IntKind.wrap .u64 ((IntKind.wrap .u64 ((IntKind.wrap .u64 ((IntKind.wrap .u64 ((IntKind.wrap .u64 (x22 + (xorI .u64 (xorI .u64 r29 r30) r31))) + (xorI .u64 (andI .u64 x20 x24) (andI .u64 (xorI .u64 (IntKind.max .u64) x20) x26)))) + x16)) + x28)) + (IntKind.wrap .u64 ((xorI .u64 (xorI .u64 r40 r41) r42) + (xorI .u64 (xorI .u64 (andI .u64 x18 x33) (andI .u64 x18 x35)) (andI .u64 x37 x39))))))), (.int .u64 x18), (.int .u64 x44), (.int .u64 x46), (.int .u64 (IntKind.wrap .u64 (x48 + (IntKind.wrap .u64 ((IntKind.wrap .u64 ((IntKind.wrap .u64 ((IntKind.wrap .u64 (x22 + (xorI .u64 (xorI .u64 r29 r30) r31))) + (xorI .u64 (andI .u64 x20 x24) (andI .u64 (xorI .u64 (IntKind.max .u64) x20) x26)))) + x16)) + x28))))), (.int .u64 x20), (.int .u64 x50), (.int .u64 x52)])) (fun w =>
 again15 (IntKind.wrap .i64 (x14 + 1)) w) w) w) w) w) w) w) w) w) w) w) w)) w)) w)) w)))))))))) w)) w)) w))))))))))))) w)
 (semS Tryz.prog (Instr.loadAt 168 (.pointer (some x12))) (.agg [(.int .u64), (.int .u64), (.int .u64), (.int .u64), (.int .u64), (.int .u64), (.int .u64), (.int .u64)]) (fun x53 x54 x55 x56 x57 x58 x59 x60 w =>
 loopS (σ := Int) (fun x61 w again62 =>
 cond (decide (x61 < 8))
 (semS Tryz.prog (Instr.index 168 (.agg #[(.int .u64 x53), (.int .u64 x54), (.int .u64 x55), (.int .u64 x56), (.int .u64 x57), (.int .u64 x58), (.int .u64 x59), (.int .u64 x60)]) (.int .i64 x61)) (.one (.int .u64)) (fun x63 w =>
 drawS w fun C w =>
 nilS p0 fun a64 =>
 semQ Tryz.prog C (Instr.indexAt 168 (.pointer (some (a64.add 0))) (.int .i64 x61)) (.one .adr) (fun x65 =>
 semQ Tryz.prog C (Instr.loadAt 162 (.pointer (some x65))) (.one (.int .u64)) (fun x66 =>
 nilS p0 fun a67 =>
 semQ Tryz.prog C (Instr.indexAt 168 (.pointer (some (a67.add 0))) (.int .i64 x61)) (.one .adr) (fun x68 =>
 semU Tryz.prog (Instr.storeAt 162 (.pointer (some x68)) (.int .u64 (IntKind.wrap .u64 (x66 + x63)))) (fun w =>
 again62 (IntKind.wrap .i64 (x61 + 1)) w) w)))) w)
 (K w)) 0 w) w)) 0 w) w) w) w) w) w) w) w
theorem f103_ok {p0 : Option Addr} {p1 : Sl} {K : World → Prop} {w : World} (h : f103 p0 p1 K w) : callS Tryz.prog 103 #[(.pointer p0), (.slice p1.a p1.len p1.cap)] [] K w :=
 calls_of_fn (args := [(.pointer p0), (.slice p1.a p1.len p1.cap)]) Tryz.f103 [] [] [] (.two .nil (.two .nil (.two (.two .nil (.one (.loop [(21, (.int .i64))] (.two .nil (.two .nil (.two (.one (.two .nil (.two (.draw [0, 1, 0, 4, 3, 31]) (.two (.draw [0, 1, 0, 4, 0, 28, 60, 0, 188, 508, 1023, 0, 0, 4096, 14336, 0, 32768, 0, 131072, 491520, 1046528, 2097151, 0, 8388607, 0, 16777216, 50331648, 134217727, 268435455]) (.two (.draw [0, 1, 0, 7, 15, 0, 47, 127, 0, 0, 512, 1792, 0, 0, 8192, 28672, 65280, 0, 131072, 0, 524288, 1966080, 4194048, 8388607, 16777215]) .nil))))) .nil)))))) (.two .nil (.one (.loop [(101, (.int .i64))] (.two .nil (.two .nil (.two (.one (.two .nil (.draw [0, 0, 1, 5, 15, 31, 0, 127, 1, 257, 1023, 2047]))) .nil))))))))) (by kernel_rfl) (by kernel_rfl)
 (Eq.mp (by kernel_rfl) h)

/-- (*sallyport/longsum.Hash).Write -/
def f91 (p0 : Option Addr) (p1 : Sl) (K : World → Prop) (w : World) : Prop :=
 nilS p0 fun a1 =>
 semS Tryz.prog (Instr.loadAt 162 (.pointer (some (a1.add 9)))) (.one (.int .u64)) (fun x2 w =>
 nilS p0 fun a3 =>
 semU Tryz.prog (Instr.storeAt 162 (.pointer (some (a3.add 9))) (.int .u64 (IntKind.wrap .u64 (x2 + (IntKind.wrap .u64 (p1.len : Int)))))) (fun w =>
 nilS p0 fun a4 =>
 semS Tryz.prog (Instr.loadAt 22 (.pointer (some (a4.add 8)))) (.one .slc) (fun x5 w =>
 semS Tryz.prog (Builtin.append_ #[22, 22] 22 #[(.slice x5.a x5.len x5.cap), (.slice p1.a p1.len p1.cap)]) (.one .slc) (fun r6 w =>
 nilS p0 fun a7 =>
 semU Tryz.prog (Instr.storeAt 22 (.pointer (some (a7.add 8))) (.slice r6.a r6.len r6.cap)) (fun w =>
 loopS (σ := Unit) (fun _ w again8 =>
 nilS p0 fun a9 =>
 semS Tryz.prog (Instr.loadAt 22 (.pointer (some (a9.add 8)))) (.one .slc) (fun x10 w =>
 cond (decide ((x10.len : Int) ≥ 128))
 (nilS p0 fun a11 =>
 semS Tryz.prog (Instr.loadAt 22 (.pointer (some (a11.add 8)))) (.one .slc) (fun x12 w =>
 semS Tryz.prog (Instr.sliceAt 22 (.slice x12.a x12.len x12.cap) none (some (.int .i64 128)) none) (.one .slc) (fun x13 w =>
 callS Tryz.prog 103 #[(.pointer p0), (.slice x13.a x13.len x13.cap)] [] (fun w =>
 nilS p0 fun a14 =>
 semS Tryz.prog (Instr.loadAt 22 (.pointer (some (a14.add 8)))) (.one .slc) (fun x15 w =>
 semS Tryz.prog (Instr.sliceAt 22 (.slice x15.a x15.len x15.cap) (some (.int .i64 128)) none none) (.one .slc) (fun x16 w =>
 nilS p0 fun a17 =>
 semU Tryz.prog (Instr.storeAt 22 (.pointer (some (a17.add 8))) (.slice x16.a x16.len x16.cap)) (fun w =>
 again8 () w) w) w) w) w) w) w)
 (nilS p0 fun a18 =>
 semS Tryz.prog (Instr.loadAt 22 (.pointer (some (a18.add 8)))) (.one .slc) (fun x19 w =>
 callS Tryz.prog 29 #[(.slice x19.a x19.len x19.cap)] [(.one .slc)] (fun r20 w =>
 nilS p0 fun a21 =>
 semU Tryz.prog (Instr.storeAt 22 (.pointer (some (a21.add 8))) (.slice r20.a r20.len r20.cap)) (fun w =>
 K w) w) w) w)) w) () w) w) w) w) w) w
theorem f91_ok {p0 : Option Addr} {p1 : Sl} {K : World → Prop} {w : World} (h : f91 p0 p1 K w) : callS Tryz.prog 91 #[(.pointer p0), (.slice p1.a p1.len p1.cap)] [] K w :=
 calls_of_fn (args := [(.pointer p0), (.slice p1.a p1.len p1.cap)]) Tryz.f91 [] [] [.nil, .nil] .nil (by kernel_rfl) (by kernel_rfl)
 (Eq.mp (by kernel_rfl) h)

/-- slices.Chunk[[]byte,byte]$1 -/
def f82 (p0 : Value) (c0 : Addr) (c1 : Addr) (K : World → Prop) (w : World) : Prop :=
 loopS (σ := Int) (fun x1 w again2 =>
 semS Tryz.prog (Instr.loadAt 22 (.pointer (some c0))) (.one .slc) (fun x3 w =>
 cond (decide (x1 < (x3.len : Int)))
 (drawS w fun C w =>
 semQ Tryz.prog C (Instr.loadAt 3 (.pointer (some c1))) (.one (.int .i64)) (fun x4 =>
 semQ Tryz.prog C (Instr.loadAt 22 (.pointer (some c0))) (.one .slc) (fun x5 =>
 semQ Tryz.prog C (Instr.sliceAt 22 (.slice x5.a x5.len x5.cap) (some (.int .i64 x1)) none none) (.one .slc) (fun x6 =>
 semS Tryz.prog (Instr.loadAt 22 (.pointer (some c0))) (.one .slc) (fun x7 w =>
 semS Tryz.prog (Instr.sliceAt 22 (.slice x7.a x7.len x7.cap) (some (.int .i64 x1)) (some (.int .i64 (IntKind.wrap .i64 (x1 + (if (x6.len : Int) < x4 then (x6.len : Int) else x4))))) (some (.int .i64 (IntKind.wrap .i64 (x1 + (if (x6.len : Int) < x4 then (x6.len : Int) else x4)))))) (.one .slc) (fun x8 w =>
 callY Tryz.prog (callSem p0 #[(.slice x8.a x8.len x8.cap)]) [(.one .bool)] (fun r9 w =>
 cond (!r9)
 (K w)
 (semS Tryz.prog (Instr.loadAt 3 (.pointer (some c1))) (.one (.int .i64)) (fun x10 w =>
 again2 (IntKind.wrap .i64 (x1 + x10)) w) w)) w) w) w))))
 (K w)) w) 0 w
theorem f82_ok {p0 : Value} {c0 : Addr} {c1 : Addr} {K : World → Prop} {w : World} (h : f82 p0 c0 c1 K w) : callS Tryz.prog 82 #[p0, (.pointer (some c0)), (.pointer (some c1))] [] K w :=
 calls_of_fn (args := [p0, (.pointer (some c0)), (.pointer (some c1))]) Tryz.f82 [0, 19] [] [] (.two .nil (.one (.loop [(4, (.int .i64))] (.two .nil (.two (.one (.two (.draw [0, 0, 0, 6, 14, 31, 63]) .nil)) .nil))))) (by kernel_rfl) (by kernel_rfl)
 (Eq.mp (by kernel_rfl) h)

/-- slices.Chunk[[]byte,byte] -/
def f55 (p0 : Sl) (p1 : Int) (K : Value → World → Prop) (w : World) : Prop :=
 semS Tryz.prog (Instr.box 22 (.slice p0.a p0.len p0.cap)) (.one .adr) (fun x1 w =>
 semS Tryz.prog (Instr.box 3 (.int .i64 p1)) (.one .adr) (fun x2 w =>
 semS Tryz.prog (Instr.loadAt 3 (.pointer (some x2))) (.one (.int .i64)) (fun x3 w =>
 cond (decide (x3 < 1))
 (False)
 (K (.func (.func 82) #[] #[(.pointer (some x1)), (.pointer (some x2))]) w)) w) w) w
theorem f55_ok {p0 : Sl} {p1 : Int} {K : Value → World → Prop} {w : World} (h : f55 p0 p1 K w) : callS Tryz.prog 55 #[(.slice p0.a p0.len p0.cap), (.int .i64 p1)] [(.one .any)] K w :=
 calls_of_fn (args := [(.slice p0.a p0.len p0.cap), (.int .i64 p1)]) Tryz.f55 [] [] [] .nil (by kernel_rfl) (by kernel_rfl)
 (Eq.mp (by kernel_rfl) h)

def f92_t1 (z37 : Addr) (p0 : Option Addr) (K : Sl → World → Prop) (w : World) : Prop :=
 loopS (σ := Unit) (fun _ w again38 =>
 semS Tryz.prog (Instr.loadAt 22 (.pointer (some (z37.add 8)))) (.one .slc) (fun x39 w =>
 cond ((Int.tmod (x39.len : Int) 128) != 112)
 (semS Tryz.prog (Instr.loadAt 22 (.pointer (some (z37.add 8)))) (.one .slc) (fun x40 w =>
 semS Tryz.prog (Instr.buildSlice 22 1 #[(0, (.int .u8 0))]) (.one .slc) (fun x41 w =>
 semS Tryz.prog (Builtin.append_ #[22, 22] 22 #[(.slice x40.a x40.len x40.cap), (.slice x41.a x41.len x41.cap)]) (.one .slc) (fun r42 w =>
 semU Tryz.prog (Instr.storeAt 22 (.pointer (some (z37.add 8))) (.slice r42.a r42.len r42.cap)) (fun w =>
 again38 () w) w) w) w) w)
 (semS Tryz.prog (Instr.loadAt 22 (.pointer (some (z37.add 8)))) (.one .slc) (fun x43 w =>
 semS Tryz.prog (Builtin.append_ #[22, 3] 22 #[(.slice x43.a x43.len x43.cap), (.int .i64 8)]) (.one .slc) (fun r44 w =>
 semU Tryz.prog (Instr.storeAt 22 (.pointer (some (z37.add 8))) (.slice r44.a r44.len r44.cap)) (fun w =>
 loopS (σ := Int) (fun x45 w again46 =>
 cond (decide (x45 ≥ 0))
 (drawS w fun C w =>
 semQ Tryz.prog C (Instr.loadAt 22 (.pointer (some (z37.add 8)))) (.one .slc) (fun x47 =>
 nilS p0 fun a48 =>
 semQ Tryz.prog C (Instr.loadAt 162 (.pointer (some (a48.add 9)))) (.one (.int .u64)) (fun x49 =>
 semQ Tryz.prog C (binS .shr 162 (.tmp 46) (.tmp 47) (.int .u64 (IntKind.wrap .u64 (8 * x49))) (.int .i64 x45)) (.one (.int .u64)) (fun x50 =>
 semS Tryz.prog (Instr.buildSlice 22 1 #[(0, (.int .u8 (IntKind.wrap .u8 x50)))]) (.one .slc) (fun x51 w =>
 moreS C w (fun C =>
 semS Tryz.prog (Builtin.append_ #[22, 22] 22 #[(.slice x47.a x47.len x47.cap), (.slice x51.a x51.len x51.cap)]) (.one .slc) (fun r52 w =>
 semU Tryz.prog (Instr.storeAt 22 (.pointer (some (z37.add 8))) (.slice r52.a r52.len r52.cap)) (fun w =>
 again46 (IntKind.wrap .i64 (x45 - 8)) w) w) w)) w))))
 (semS Tryz.prog (Instr.loadAt 22 (.pointer (some (z37.add 8)))) (.one .slc) (fun x53 w =>
 callS Tryz.prog 55 #[(.slice x53.a x53.len x53.cap), (.int .i64 128)] [(.one .any)] (fun r54 w =>
 rangeS Tryz.prog r54 w (fun l55 oR56 oB57 xs58 w R59 =>
 decL (R := Prop) [.slc] xs58 (fun x61 =>
 w.heap[l55]? = some oR56 ∧ ((fun w =>
 callS Tryz.prog 103 #[(.pointer (some z37)), (.slice x61.a x61.len x61.cap)] [] (fun w =>
 w.heap[l55]? = some oB57 ∧ R59 (w.putObj l55 oR56)) w) (w.putObj l55 oB57))) (fun r => r)) (fun D60 w =>
 semS Tryz.prog (Instr.loadAt 168 (.pointer (some (z37.add 0)))) (.agg [(.int .u64), (.int .u64), (.int .u64), (.int .u64), (.int .u64), (.int .u64), (.int .u64), (.int .u64)]) (fun x62 x63 x64 x65 x66 x67 x68 x69 w =>
 loopS (σ := Sl × Int) (fun s70 w again71 =>
 cond (decide (s70.2 < 8))
 (semS Tryz.prog (Instr.index 168 (.agg #[(.int .u64 x62), (.int .u64 x63), (.int .u64 x64), (.int .u64 x65), (.int .u64 x66), (.int .u64 x67), (.int .u64 x68), (.int .u64 x69)]) (.int .i64 s70.2)) (.one (.int .u64)) (fun x72 w =>
 loopS (σ := Sl × Int) (fun s73 w again74 =>
 cond (decide (s73.2 ≥ 0))
 (semS Tryz.prog (binS .shr 162 (.tmp 69) (.tmp 70) (.int .u64 x72) (.int .i64 s73.2)) (.one (.int .u64)) (fun x75 w =>
 semS Tryz.prog (Instr.buildSlice 22 1 #[(0, (.int .u8 (IntKind.wrap .u8 x75)))]) (.one .slc) (fun x76 w =>
 semS Tryz.prog (Builtin.append_ #[22, 22] 22 #[(.slice s73.1.a s73.1.len s73.1.cap), (.slice x76.a x76.len x76.cap)]) (.one .slc) (fun r77 w =>
 again74 (r77, IntKind.wrap .i64 (s73.2 - 8)) w) w) w) w)
 (again71 (s73.1, IntKind.wrap .i64 (s70.2 + 1)) w)) (s70.1, 56) w) w)
 (w.heap[D60]? = some (.deferred (some [])) ∧ ((fun w => K s70.1 w) (w.putObj D60 (.deferred none))))) (⟨none, 0, 0⟩, 0) w) w)) w) w)) 56 w) w) w) w)) w) () w

/-- (*sallyport/longsum.Hash).Sum -/
def f92 (p0 : Option Addr) (K : Sl → World → Prop) (w : World) : Prop :=
 drawS w fun C w =>
 nilS p0 fun a1 =>
 semQ Tryz.prog C (Instr.loadAt 168 (.pointer (some (a1.add 0)))) (.agg [(.int .u64), (.int .u64), (.int .u64), (.int .u64), (.int .u64), (.int .u64), (.int .u64), (.int .u64)]) (fun x2 x3 x4 x5 x6 x7 x8 x9 =>
 nilS p0 fun a10 =>
 semQ Tryz.prog C (Instr.loadAt 22 (.pointer (some (a10.add 8)))) (.one .slc) (fun x11 =>
 (callS Tryz.prog 29 #[(.slice x11.a x11.len x11.cap)] [(.one .slc)] (fun r12 w =>
 moreS C w (fun C =>
 (semS Tryz.prog (Instr.buildSlice 22 1 #[(0, (.int .u8 128))]) (.one .slc) (fun x13 w =>
 moreS C w (fun C =>
 (semS Tryz.prog (Builtin.append_ #[22, 22] 22 #[(.slice r12.a r12.len r12.cap), (.slice x13.a x13.len x13.cap)]) (.one .slc) (fun r14 w =>
 moreS C w (fun C =>
 semS Tryz.prog (Instr.alloc 170 true (.tuple #[])) (.one .adr) (fun x15 w =>
 moreS C w (fun C =>
 semU Tryz.prog (Instr.storeAt 170 (.pointer (some x15)) (.agg #[(.int .u64 x2), (.int .u64 x3), (.int .u64 x4), (.int .u64 x5), (.int .u64 x6), (.int .u64 x7), (.int .u64 x8), (.int .u64 x9), (.slice r14.a r14.len r14.cap), (.int .u64 0)])) (fun w =>
 f92_t1 x15 p0 K w) w)) w)) w) ∧
 (semS Tryz.prog (Instr.alloc 170 true (.tuple #[])) (.one .adr) (fun x16 w =>
 moreS C w (fun C =>
 semS Tryz.prog (Builtin.append_ #[22, 22] 22 #[(.slice r12.a r12.len r12.cap), (.slice x13.a x13.len x13.cap)]) (.one .slc) (fun r17 w =>
 moreS C w (fun C =>
 semU Tryz.prog (Instr.storeAt 170 (.pointer (some x16)) (.agg #[(.int .u64 x2), (.int .u64 x3), (.int .u64 x4), (.int .u64 x5), (.int .u64 x6), (.int .u64 x7), (.int .u64 x8), (.int .u64 x9), (.slice r17.a r17.len r17.cap), (.int .u64 0)])) (fun w =>
 f92_t1 x16 p0 K w) w)) w)) w))) w) ∧
 (semS Tryz.prog (Instr.alloc 170 true (.tuple #[])) (.one .adr) (fun x18 w =>
 moreS C w (fun C =>
 semS Tryz.prog (Instr.buildSlice 22 1 #[(0, (.int .u8 128))]) (.one .slc) (fun x19 w =>
 moreS C w (fun C =>
 semS Tryz.prog (Builtin.append_ #[22, 22] 22 #[(.slice r12.a r12.len r12.cap), (.slice x19.a x19.len x19.cap)]) (.one .slc) (fun r20 w =>
 moreS C w (fun C =>
 semU Tryz.prog (Instr.storeAt 170 (.pointer (some x18)) (.agg #[(.int .u64 x2), (.int .u64 x3), (.int .u64 x4), (.int .u64 x5), (.int .u64 x6), (.int .u64 x7), (.int .u64 x8), (.int .u64 x9), (.slice r20.a r20.len r20.cap), (.int .u64 0)])) (fun w =>
 f92_t1 x18 p0 K w) w)) w)) w)) w))) w) ∧
 ((semS Tryz.prog (Instr.buildSlice 22 1 #[(0, (.int .u8 128))]) (.one .slc) (fun x21 w =>
 moreS C w (fun C =>
 (callS Tryz.prog 29 #[(.slice x11.a x11.len x11.cap)] [(.one .slc)] (fun r22 w =>
 moreS C w (fun C =>
 (semS Tryz.prog (Builtin.append_ #[22, 22] 22 #[(.slice r22.a r22.len r22.cap), (.slice x21.a x21.len x21.cap)]) (.one .slc) (fun r23 w =>
 moreS C w (fun C =>
 semS Tryz.prog (Instr.alloc 170 true (.tuple #[])) (.one .adr) (fun x24 w =>
 moreS C w (fun C =>
 semU Tryz.prog (Instr.storeAt 170 (.pointer (some x24)) (.agg #[(.int .u64 x2), (.int .u64 x3), (.int .u64 x4), (.int .u64 x5), (.int .u64 x6), (.int .u64 x7), (.int .u64 x8), (.int .u64 x9), (.slice r23.a r23.len r23.cap), (.int .u64 0)])) (fun w =>
 f92_t1 x24 p0 K w) w)) w)) w) ∧
 (semS Tryz.prog (Instr.alloc 170 true (.tuple #[])) (.one .adr) (fun x25 w =>
 moreS C w (fun C =>
 semS Tryz.prog (Builtin.append_ #[22, 22] 22 #[(.slice r22.a r22.len r22.cap), (.slice x21.a x21.len x21.cap)]) (.one .slc) (fun r26 w =>
 moreS C w (fun C =>
 semU Tryz.prog (Instr.storeAt 170 (.pointer (some x25)) (.agg #[(.int .u64 x2), (.int .u64 x3), (.int .u64 x4), (.int .u64 x5), (.int .u64 x6), (.int .u64 x7), (.int .u64 x8), (.int .u64 x9), (.slice r26.a r26.len r26.cap), (.int .u64 0)])) (fun w =>
 f92_t1 x25 p0 K w) w)) w)) w))) w) ∧
 (semS Tryz.prog (Instr.alloc 170 true (.tuple #[])) (.one .adr) (fun x27 w =>
 moreS C w (fun C =>
 callS Tryz.prog 29 #[(.slice x11.a x11.len x11.cap)] [(.one .slc)] (fun r28 w =>
 moreS C w (fun C =>
 semS Tryz.prog (Builtin.append_ #[22, 22] 22 #[(.slice r28.a r28.len r28.cap), (.slice x21.a x21.len x21.cap)]) (.one .slc) (fun r29 w =>
 moreS C w (fun C =>
 semU Tryz.prog (Instr.storeAt 170 (.pointer (some x27)) (.agg #[(.int .u64 x2), (.int .u64 x3), (.int .u64 x4), (.int .u64 x5), (.int .u64 x6), (.int .u64 x7), (.int .u64 x8), (.int .u64 x9), (.slice r29.a r29.len r29.cap), (.int .u64 0)])) (fun w =>
 f92_t1 x27 p0 K w) w)) w)) w)) w))) w) ∧
 (semS Tryz.prog (Instr.alloc 170 true (.tuple #[])) (.one .adr) (fun x30 w =>
 moreS C w (fun C =>
 (callS Tryz.prog 29 #[(.slice x11.a x11.len x11.cap)] [(.one .slc)] (fun r31 w =>
 moreS C w (fun C =>
 semS Tryz.prog (Instr.buildSlice 22 1 #[(0, (.int .u8 128))]) (.one .slc) (fun x32 w =>
 moreS C w (fun C =>
 semS Tryz.prog (Builtin.append_ #[22, 22] 22 #[(.slice r31.a r31.len r31.cap), (.slice x32.a x32.len x32.cap)]) (.one .slc) (fun r33 w =>
 moreS C w (fun C =>
 semU Tryz.prog (Instr.storeAt 170 (.pointer (some x30)) (.agg #[(.int .u64 x2), (.int .u64 x3), (.int .u64 x4), (.int .u64 x5), (.int .u64 x6), (.int .u64 x7), (.int .u64 x8), (.int .u64 x9), (.slice r33.a r33.len r33.cap), (.int .u64 0)])) (fun w =>
 f92_t1 x30 p0 K w) w)) w)) w)) w) ∧
 (semS Tryz.prog (Instr.buildSlice 22 1 #[(0, (.int .u8 128))]) (.one .slc) (fun x34 w =>
 moreS C w (fun C =>
 callS Tryz.prog 29 #[(.slice x11.a x11.len x11.cap)] [(.one .slc)] (fun r35 w =>
 moreS C w (fun C =>
 semS Tryz.prog (Builtin.append_ #[22, 22] 22 #[(.slice r35.a r35.len r35.cap), (.slice x34.a x34.len x34.cap)]) (.one .slc) (fun r36 w =>
 moreS C w (fun C =>
 semU Tryz.prog (Instr.storeAt 170 (.pointer (some x30)) (.agg #[(.int .u64 x2), (.int .u64 x3), (.int .u64 x4), (.int .u64 x5), (.int .u64 x6), (.int .u64 x7), (.int .u64 x8), (.int .u64 x9), (.slice r36.a r36.len r36.cap), (.int .u64 0)])) (fun w =>
 f92_t1 x30 p0 K w) w)) w)) w)) w))) w))))
theorem f92_ok {p0 : Option Addr} {K : Sl → World → Prop} {w : World} (h : f92 p0 K w) : callS Tryz.prog 92 #[(.pointer p0)] [(.one .slc)] K w :=
 calls_of_fnR (args := [(.pointer p0)]) Tryz.f92 [] (.two .nil (.two (.draw [0, 1, 3, 7, 0, 16, 48, 112, 240, 0, 1008, 2047, 0, 8191]) (.two (.one (.loop [] .nil)) (.two .nil (.two (.two .nil (.one (.loop [(4, (.int .i64))] (.two .nil (.two (.one (.draw [0, 1, 0, 4, 12, 28, 60, 0, 252, 508, 1020, 2047, 4095, 8191])) .nil))))) (.two (.two .nil (.one (.join [(56, .slc)] .nil .nil))) (.two .nil (.two (.two .nil (.one (.loop [(6, .slc), (61, (.int .i64))] (.two .nil (.two .nil (.two (.one (.two .nil (.two .nil (.one (.loop [(6, .slc), (9, (.int .i64))] .nil))))) .nil)))))) .nil)))))))) (by kernel_rfl) (by kernel_rfl)
 (Eq.mp (by kernel_rfl) h)

/-- sallyport/longsum.Of -/
def f77 (p0 : Sl) (K : Sl → World → Prop) (w : World) : Prop :=
 callS Tryz.prog 90 #[] [(.one .ptr)] (fun r1 w =>
 loopS (σ := Int) (fun x2 w again3 =>
 cond (decide (x2 < (p0.len : Int)))
 (semS Tryz.prog (Instr.indexAt 45 (.slice p0.a p0.len p0.cap) (.int .i64 x2)) (.one .adr) (fun x4 w =>
 semS Tryz.prog (Instr.loadAt 22 (.pointer (some x4))) (.one .slc) (fun x5 w =>
 callS Tryz.prog 91 #[(.pointer r1), (.slice x5.a x5.len x5.cap)] [] (fun w =>
 again3 (IntKind.wrap .i64 (x2 + 1)) w) w) w) w)
 (callS Tryz.prog 92 #[(.pointer r1)] [(.one .slc)] (fun r6 w =>
 K r6 w) w)) 0 w) w
theorem f77_ok {p0 : Sl} {K : Sl → World → Prop} {w : World} (h : f77 p0 K w) : callS Tryz.prog 77 #[(.slice p0.a p0.len p0.cap)] [(.one .slc)] K w :=
 calls_of_fn (args := [(.slice p0.a p0.len p0.cap)]) Tryz.f77 [] [] [] (.two .nil (.two .nil (.two (.two .nil (.one (.loop [(9, (.int .i64))] .nil))) .nil))) (by kernel_rfl) (by kernel_rfl)
 (Eq.mp (by kernel_rfl) h)

/-- sallyport/shortsum.New -/
def f93  (K : (Option Addr) → World → Prop) (w : World) : Prop :=
 semS Tryz.prog (Instr.loadAt 171 (.pointer (some (⟨1, 0, none⟩)))) (.agg [(.int .u32), (.int .u32), (.int .u32), (.int .u32), (.int .u32), (.int .u32), (.int .u32), (.int .u32)]) (fun x1 x2 x3 x4 x5 x6 x7 x8 w =>
 semS Tryz.prog (Instr.box 173 (.agg #[(.int .u32 x1), (.int .u32 x2), (.int .u32 x3), (.int .u32 x4), (.int .u32 x5), (.int .u32 x6), (.int .u32 x7), (.int .u32 x8), (.slice none 0 0), (.int .u64 0)])) (.one .adr) (fun x9 w =>
 K (some x9) w) w) w
theorem f93_ok  {K : (Option Addr) → World → Prop} {w : World} (h : f93  K w) : callS Tryz.prog 93 #[] [(.one .ptr)] K w :=
 calls_of_fn (args := []) Tryz.f93 [] [] [] .nil (by kernel_rfl) (by kernel_rfl)
 (Eq.mp (by kernel_rfl) h)

/-- math/bits.RotateLeft32 -/
def f117 (p0 : Int) (p1 : Int) (K : Int → World → Prop) (w : World) : Prop :=
 semS Tryz.prog (binS .shl 159 (.tmp 9) (.tmp 10) (.int .u32 p0) (.int .u64 (andI .u64 (IntKind.wrap .u64 p1) 31))) (.one (.int .u32)) (fun x1 w =>
 semS Tryz.prog (binS .shr 159 (.tmp 12) (.tmp 14) (.int .u32 p0) (.int .u64 (IntKind.wrap .u64 (32 - (andI .u64 (IntKind.wrap .u64 p1) 31))))) (.one (.int .u32)) (fun x2 w =>
 K (orI .u32 x1 x2) w) w) w
theorem f117_ok {p0 : Int} {p1 : Int} {K : Int → World → Prop} {w : World} (h : f117 p0 p1 K w) : callS Tryz.prog 117 #[(.int .u32 p0), (.int .i64 p1)] [(.one (.int .u32))] K w :=
 calls_of_fn (args := [(.int .u32 p0), (.int .i64 p1)]) Tryz.f117 [] [] [] .nil (by kernel_rfl) (by kernel_rfl)
 (Eq.mp (by kernel_rfl) h)

/-- sallyport/shortsum.turn -/
def f115 (p0 : Int) (p1 : Int) (K : Int → World → Prop) (w : World) : Prop :=
 callS Tryz.prog 117 #[(.int .u32 p0), (.int .i64 (IntKind.wrap .i64 (0 - p1)))] [(.one (.int .u32))] (fun r1 w =>
 K r1 w) w
theorem f115_ok {p0 : Int} {p1 : Int} {K : Int → World → Prop} {w : World} (h : f115 p0 p1 K w) : callS Tryz.prog 115 #[(.int .u32 p0), (.int .i64 p1)] [(.one (.int .u32))] K w :=
 calls_of_fn (args := [(.int .u32 p0), (.int .i64 p1)]) Tryz.f115 [] [] [] .nil (by kernel_rfl) (by kernel_rfl)
 (Eq.mp (by kernel_rfl) h)

/-- sallyport/shortsum.schedule -/
def f114 (p0 : Sl) (K : (List Int) → World → Prop) (w : World) : Prop :=
 semS Tryz.prog (Instr.alloc 183 true (.tuple #[])) (.one .adr) (fun x1 w =>
 loopS (σ := Int) (fun x2 w again3 =>
 cond (decide (x2 < 16))
 (semS Tryz.prog (Instr.sliceAt 22 (.slice p0.a p0.len p0.cap) (some (.int .i64 (IntKind.wrap .i64 (4 * x2)))) (some (.int .i64 (IntKind.wrap .i64 ((IntKind.wrap .i64 (4 * x2)) + 4)))) none) (.one .slc) (fun x4 w =>
 loopS (σ := Int) (fun x5 w again6 =>
 cond (decide (x5 < (x4.len : Int)))
 (semS Tryz.prog (Instr.indexAt 22 (.slice x4.a x4.len x4.cap) (.int .i64 x5)) (.one .adr) (fun x7 w =>
 semS Tryz.prog (Instr.loadAt 5 (.pointer (some x7))) (.one (.int .u8)) (fun x8 w =>
 semS Tryz.prog (Instr.indexAt 183 (.pointer (some x1)) (.int .i64 x2)) (.one .adr) (fun x9 w =>
 semS Tryz.prog (Instr.loadAt 159 (.pointer (some x9))) (.one (.int .u32)) (fun x10 w =>
 semS Tryz.prog (Instr.indexAt 183 (.pointer (some x1)) (.int .i64 x2)) (.one .adr) (fun x11 w =>
 semU Tryz.prog (Instr.storeAt 159 (.pointer (some x11)) (.int .u32 (orI .u32 (shlI .u32 x10 8) (IntKind.wrap .u32 x8)))) (fun w =>
 again6 (IntKind.wrap .i64 (x5 + 1)) w) w) w) w) w) w) w)
 (again3 (IntKind.wrap .i64 (x2 + 1)) w)) 0 w) w)
 (loopS (σ := Int) (fun x12 w again13 =>
 cond (decide (x12 < 64))
 (drawS w fun C w =>
 semQ Tryz.prog C (Instr.indexAt 183 (.pointer (some x1)) (.int .i64 (IntKind.wrap .i64 (x12 - 15)))) (.one .adr) (fun x14 =>
 semQ Tryz.prog C (Instr.loadAt 159 (.pointer (some x14))) (.one (.int .u32)) (fun x15 =>
 semQ Tryz.prog C (Instr.indexAt 183 (.pointer (some x1)) (.int .i64 (IntKind.wrap .i64 (x12 - 2)))) (.one .adr) (fun x16 =>
 semQ Tryz.prog C (Instr.loadAt 159 (.pointer (some x16))) (.one (.int .u32)) (fun x17 =>
 drawS w fun C w =>
 semQ Tryz.prog C (Instr.indexAt 183 (.pointer (some x1)) (.int .i64 (IntKind.wrap .i64 (x12 - 16)))) (.one .adr) (fun x18 =>
 semQ Tryz.prog C (Instr.loadAt 159 (.pointer (some x18))) (.one (.int .u32)) (fun x19 =>
 semQ Tryz.prog C (Instr.indexAt 183 (.pointer (some x1)) (.int .i64 (IntKind.wrap .i64 (x12 - 7)))) (.one .adr) (fun x20 =>
 semQ Tryz.prog C (Instr.loadAt 159 (.pointer (some x20))) (.one (.int .u32)) (fun x21 =>
 callS Tryz.prog 115 #[(.int .u32 x15), (.int .i64 7)] [(.one (.int .u32))] (fun r22 w =>
 moreS C w (fun C =>
 callS Tryz.prog 115 #[(.int .u32 x15), (.int .i64 18)] [(.one (.int .u32))] (fun r23 w =>
 moreS C w (fun C =>
 callS Tryz.prog 115 #[(.int .u32 x17), (.int .i64 17)] [(.one (.int .u32))] (fun r24 w =>
 moreS C w (fun C =>
 callS Tryz.prog 115 #[(.int .u32 x17), (.int .i64 19)] [(.one (.int .u32))] (fun r25 w =>
 moreS C w (fun C =>
 semQ Tryz.prog C (Instr.indexAt 183 (.pointer (some x1)) (.int .i64 x12)) (.one .adr) (fun x26 =>
 semU Tryz.prog (Instr.storeAt 159 (.pointer (some x26)) (.int .u32 (IntKind.wrap .u32 ((IntKind.wrap .u32 ((IntKind.wrap .u32 (x19 + (xorI .u32 (xorI .u32 r22 r23) (shrI .u32 x15 3)))) + x21)) + (xorI .u32 (xorI .u32 r24 r25) (shrI .u32 x17 10)))))) (fun w =>
 again13 (IntKind.wrap .i64 (x12 + 1)) w) w))) w)) w)) w)) w)))))))))
 (semS Tryz.prog (Instr.loadAt 183 (.pointer (some x1))) (.one (.arr .u32)) (fun x27 w =>
 semU Tryz.prog (Instr.storeAt 183 (.pointer (some x1)) (.agg (List.map (Value.int .u32) x27).toArray)) (fun w =>
 ∃ v28, (loadVar 183 x1).run Tryz.prog w = .ok v28 w ∧ decR [(.one (.arr .u32))] v28 K fun r => r w) w) w)) 16 w)) 0 w) w
theorem f114_ok {p0 : Sl} {K : (List Int) → World → Prop} {w : World} (h : f114 p0 K w) : callS Tryz.prog 114 #[(.slice p0.a p0.len p0.cap)] [(.one (.arr .u32))] K w :=
 calls_of_fn (args := [(.slice p0.a p0.len p0.cap)]) Tryz.f114 [] [] [] (.two .nil (.two (.two .nil (.one (.loop [(9, (.int .i64))] (.two .nil (.two .nil (.two (.one (.two .nil (.two .nil (.one (.loop [(20, (.int .i64))] .nil))))) .nil)))))) (.two (.two .nil (.one (.loop [(6, (.int .i64))] (.two .nil (.two (.one (.two (.draw [0, 1, 3, 7, 0, 16, 48, 112, 15, 511]) (.draw [0, 0, 2, 6, 14, 0, 32, 0, 224, 480, 0, 1024, 4064, 8190, 0, 16384, 49152, 114688, 262142, 0, 524768, 0, 3670496, 7864800, 0, 16777216, 66585056, 134217726, 268435455, 536870911]))) .nil))))) .nil))) (by kernel_rfl) (by kernel_rfl)
 (Eq.mp (by kernel_rfl) h)

/-- (*sallyport/shortsum.Hash).take -/
def f104 (p0 : Option Addr) (p1 : Sl) (K : World → Prop) (w : World) : Prop :=
 callS Tryz.prog 114 #[(.slice p1.a p1.len p1.cap)] [(.one (.arr .u32))] (fun r1 w =>
 semS Tryz.prog (Instr.alloc 183 true (.tuple #[])) (.one .adr) (fun x2 w =>
 semU Tryz.prog (Instr.storeAt 183 (.pointer (some x2)) (.agg (List.map (Value.int .u32) r1).toArray)) (fun w =>
 nilS p0 fun a3 =>
 semS Tryz.prog (Instr.loadAt 171 (.pointer (some (a3.add 0)))) (.agg [(.int .u32), (.int .u32), (.int .u32), (.int .u32), (.int .u32), (.int .u32), (.int .u32), (.int .u32)]) (fun x4 x5 x6 x7 x8 x9 x10 x11 w =>
 semS Tryz.prog (Instr.alloc 171 true (.tuple #[])) (.one .adr) (fun x12 w =>
 semU Tryz.prog (Instr.storeAt 171 (.pointer (some x12)) (.agg #[(.int .u32 x4), (.int .u32 x5), (.int .u32 x6), (.int .u32 x7), (.int .u32 x8), (.int .u32 x9), (.int .u32 x10), (.int .u32 x11)])) (fun w =>
 semS Tryz.prog (Instr.loadAt 183 (.pointer (some (⟨3, 0, none⟩)))) (.one (.arr .u32)) (fun x13 w =>
 loopS (σ := Int) (fun x14 w again15 =>
 cond (decide (x14 < 64))
 (semS Tryz.prog (Instr.index 183 (.agg (List.map (Value.int .u32) x13).toArray) (.int .i64 x14)) (.one (.int .u32)) (fun x16 w =>
 drawS w fun C w =>
 semQ Tryz.prog C (Instr.indexAt 171 (.pointer (some x12)) (.int .i64 0)) (.one .adr) (fun x17 =>
 semQ Tryz.prog C (Instr.loadAt 159 (.pointer (some x17))) (.one (.int .u32)) (fun x18 =>
 semQ Tryz.prog C (Instr.indexAt 171 (.pointer (some x12)) (.int .i64 4)) (.one .adr) (fun x19 =>
 semQ Tryz.prog C (Instr.loadAt 159 (.pointer (some x19))) (.one (.int .u32)) (fun x20 =>
 drawS w fun C w =>
 semQ Tryz.prog C (Instr.indexAt 171 (.pointer (some x12)) (.int .i64 7)) (.one .adr) (fun x21 =>
 semQ Tryz.prog C (Instr.loadAt 159 (.pointer (some x21))) (.one (.int .u32)) (fun x22 =>
 semQ Tryz.prog C (Instr.indexAt 171 (.pointer (some x12)) (.int .i64 5)) (.one .adr) (fun x23 =>
 semQ Tryz.prog C (Instr.loadAt 159 (.pointer (some x23))) (.one (.int .u32)) (fun x24 =>
 semQ Tryz.prog C (Instr.indexAt 171 (.pointer (some x12)) (.int .i64 6)) (.one .adr) (fun x25 =>
 semQ Tryz.prog C (Instr.loadAt 159 (.pointer (some x25))) (.one (.int .u32)) (fun x26 =>
 semQ Tryz.prog C (Instr.indexAt 183 (.pointer (some x2)) (.int .i64 x14)) (.one .adr) (fun x27 =>
 semQ Tryz.prog C (Instr.loadAt 159 (.pointer (some x27))) (.one (.int .u32)) (fun x28 =>
 callS Tryz.prog 115 #[(.int .u32 x20), (.int .i64 6)] [(.one (.int .u32))] (fun r29 w =>
 moreS C w (fun C =>
 callS Tryz.prog 115 #[(.int .u32 x20), (.int .i64 11)] [(.one (.int .u32))] (fun r30 w =>
 moreS C w (fun C =>
 callS Tryz.prog 115 #[(.int .u32 x20), (.int .i64 25)] [(.one (.int .u32))] (fun r31 w =>
 moreS C w (fun C =>
 drawS w fun C w =>
 semQ Tryz.prog C (Instr.indexAt 171 (.pointer (some x12)) (.int .i64 1)) (.one .adr) (fun x32 =>
 semQ Tryz.prog C (Instr.loadAt 159 (.pointer (some x32))) (.one (.int .u32)) (fun x33 =>
 semQ Tryz.prog C (Instr.indexAt 171 (.pointer (some x12)) (.int .i64 2)) (.one .adr) (fun x34 =>
 semQ Tryz.prog C (Instr.loadAt 159 (.pointer (some x34))) (.one (.int .u32)) (fun x35 =>
 semQ Tryz.prog C (Instr.indexAt 171 (.pointer (some x12)) (.int .i64 1)) (.one .adr) (fun x36 =>
 semQ Tryz.prog C (Instr.loadAt 159 (.pointer (some x36))) (.one (.int .u32)) (fun x37 =>
 semQ Tryz.prog C (Instr.indexAt 171 (.pointer (some x12)) (.int .i64 2)) (.one .adr) (fun x38 =>
 semQ Tryz.prog C (Instr.loadAt 159 (.pointer (some x38))) (.one (.int .u32)) (fun x39 =>
 callS Tryz.prog 115 #[(.int .u32 x18), (.int .i64 2)] [(.one (.int .u32))] (fun r40 w =>
 moreS C w (fun C =>
 callS Tryz.prog 115 #[(.int .u32 x18), (.int .i64 13)] [(.one (.int .u32))] (fun r41 w =>
 moreS C w (fun C =>
 callS Tryz.prog 115 #[(.int .u32 x18), (.int .i64 22)] [(.one (.int .u32))] (fun r42 w =>
 moreS C w (fun C =>
 semS Tryz.prog (Instr.indexAt 171 (.pointer (some x12)) (.int .i64 1)) (.one .adr) (fun x43 w =>
 semS Tryz.prog (Instr.loadAt 159 (.pointer (some x43))) (.one (.int .u32)) (fun x44 w =>
 semS Tryz.prog (Instr.indexAt 171 (.pointer (some x12)) (.int .i64 2)) (.one .adr) (fun x45 w =>
 semS Tryz.prog (Instr.loadAt 159 (.pointer (some x45))) (.one (.int .u32)) (fun x46 w =>
 semS Tryz.prog (Instr.indexAt 171 (.pointer (some x12)) (.int .i64 3)) (.one .adr) (fun x47 w =>
 semS Tryz.prog (Instr.loadAt 159 (.pointer (some x47))) (.one (.int .u32)) (fun x48 w =>
 semS Tryz.prog (Instr.indexAt 171 (.pointer (some x12)) (.int .i64 5)) (.one .adr) (fun x49 w =>
 semS Tryz.prog (Instr.loadAt 159 (.pointer (some x49))) (.one (.int .u32)) (fun x50 w =>
 semS Tryz.prog (Instr.indexAt 171 (.pointer (some x12)) (.int .i64 6)) (.one .adr) (fun x51 w =>
 semS Tryz.prog (Instr.loadAt 159 (.pointer (some x51))) (.one (.int .u32)) (fun x52 w =>
 semU Tryz.prog (Instr.storeAt 171 (.pointer (some x12)) (.agg #[(.int .u32 (IntKind.wrap .u32 ((IntKind.wrap .u32 ((IntKind.wrap .u32 ((IntKind.wrap .u32 ((IntKind.wrap .u32 (x22 + (xorI .u32 (xorI .u32 r29 r30) r31))) + (xorI .u32 (andI .u32 x20 x24) (andI .u32 (xorI .u32 (IntKind.max .u32) x20) x26)))) + x16)) + x28)) + (IntKind.wrap .u32 ((xorI .u32 (xorI .u32 r40 r41) r42) + (xorI .u32 (xorI .u32 (andI .u32 x18 x33) (andI .u32 x18 x35)) (andI .u32 x37 x39))))))), (.int .u32 x18), (.int .u32 x44), (.int .u32 x46), (.int .u32 (IntKind.wrap .u32 (x48 + (IntKind.wrap .u32 ((IntKind.wrap .u32 ((IntKind.wrap .u32 ((IntKind.wrap .u32 (x22 + (xorI .u32 (xorI .u32 r29 r30) r31))) + (xorI .u32 (andI .u32 x20 x24) (andI .u32 (xorI .u32 (IntKind.max .u32) x20) x26)))) + x16)) + x28))))), (.int .u32 x20), (.int .u32 x50), (.int .u32 x52)])) (fun w =>
 again15 (IntKind.wrap .i64 (x14 + 1)) w) w) w) w) w) w) w) w) w) w) w) w)) w)) w)) w)))))))))) w)) w)) w))))))))))))) w)
 (semS Tryz.prog (Instr.loadAt 171 (.pointer (some x12))) (.agg [(.int .u32), (.int .u32), (.int .u32), (.int .u32), (.int .u32), (.int .u32), (.int .u32), (.int .u32)]) (fun x53 x54 x55 x56 x57 x58 x59 x60 w =>
 loopS (σ := Int) (fun x61 w again62 =>
 cond (decide (x61 < 8))
 (semS Tryz.prog (Instr.index 171 (.agg #[(.int .u32 x53), (.int .u32 x54), (.int .u32 x55), (.int .u32 x56), (.int .u32 x57), (.int .u32 x58), (.int .u32 x59), (.int .u32 x60)]) (.int .i64 x61)) (.one (.int .u32)) (fun x63 w =>
 drawS w fun C w =>
 nilS p0 fun a64 =>
 semQ Tryz.prog C (Instr.indexAt 171 (.pointer (some (a64.add 0))) (.int .i64 x61)) (.one .adr) (fun x65 =>
 semQ Tryz.prog C (Instr.loadAt 159 (.pointer (some x65))) (.one (.int .u32)) (fun x66 =>
 nilS p0 fun a67 =>
 semQ Tryz.prog C (Instr.indexAt 171 (.pointer (some (a67.add 0))) (.int .i64 x61)) (.one .adr) (fun x68 =>
 semU Tryz.prog (Instr.storeAt 159 (.pointer (some x68)) (.int .u32 (IntKind.wrap .u32 (x66 + x63)))) (fun w =>
 again62 (IntKind.wrap .i64 (x61 + 1)) w) w)))) w)
 (K w)) 0 w) w)) 0 w) w) w) w) w) w) w) w
theorem f104_ok {p0 : Option Addr} {p1 : Sl} {K : World → Prop} {w : World} (h : f104 p0 p1 K w) : callS Tryz.prog 104 #[(.pointer p0), (.slice p1.a p1.len p1.cap)] [] K w :=
 calls_of_fn (args := [(.pointer p0), (.slice p1.a p1.len p1.cap)]) Tryz.f104 [] [] [] (.two .nil (.two .nil (.two (.two .nil (.one (.loop [(21, (.int .i64))] (.two .nil (.two .nil (.two (.one (.two .nil (.two (.draw [0, 1, 0, 4, 3, 31]) (.two (.draw [0, 1, 0, 4, 0, 28, 60, 0, 188, 508, 1023, 0, 0, 4096, 14336, 0, 32768, 0, 131072, 491520, 1046528, 2097151, 0, 8388607, 0, 16777216, 50331648, 134217727, 268435455]) (.two (.draw [0, 1, 0, 7, 15, 0, 47, 127, 0, 0, 512, 1792, 0, 0, 8192, 28672, 65280, 0, 131072, 0, 524288, 1966080, 4194048, 8388607, 16777215]) .nil))))) .nil)))))) (.two .nil (.one (.loop [(101, (.int .i64))] (.two .nil (.two .nil (.two (.one (.two .nil (.draw [0, 0, 1, 5, 15, 31, 0, 127, 1, 257, 1023, 2047]))) .nil))))))))) (by kernel_rfl) (by kernel_rfl)
 (Eq.mp (by kernel_rfl) h)

/-- (*sallyport/shortsum.Hash).Write -/
def f94 (p0 : Option Addr) (p1 : Sl) (K : World → Prop) (w : World) : Prop :=
 nilS p0 fun a1 =>
 semS Tryz.prog (Instr.loadAt 162 (.pointer (some (a1.add 9)))) (.one (.int .u64)) (fun x2 w =>
 nilS p0 fun a3 =>
 semU Tryz.prog (Instr.storeAt 162 (.pointer (some (a3.add 9))) (.int .u64 (IntKind.wrap .u64 (x2 + (IntKind.wrap .u64 (p1.len : Int)))))) (fun w =>
 nilS p0 fun a4 =>
 semS Tryz.prog (Instr.loadAt 22 (.pointer (some (a4.add 8)))) (.one .slc) (fun x5 w =>
 semS Tryz.prog (Builtin.append_ #[22, 22] 22 #[(.slice x5.a x5.len x5.cap), (.slice p1.a p1.len p1.cap)]) (.one .slc) (fun r6 w =>
 nilS p0 fun a7 =>
 semU Tryz.prog (Instr.storeAt 22 (.pointer (some (a7.add 8))) (.slice r6.a r6.len r6.cap)) (fun w =>
 loopS (σ := Unit) (fun _ w again8 =>
 nilS p0 fun a9 =>
 semS Tryz.prog (Instr.loadAt 22 (.pointer (some (a9.add 8)))) (.one .slc) (fun x10 w =>
 cond (decide ((x10.len : Int) ≥ 64))
 (nilS p0 fun a11 =>
 semS Tryz.prog (Instr.loadAt 22 (.pointer (some (a11.add 8)))) (.one .slc) (fun x12 w =>
 semS Tryz.prog (Instr.sliceAt 22 (.slice x12.a x12.len x12.cap) none (some (.int .i64 64)) none) (.one .slc) (fun x13 w =>
 callS Tryz.prog 104 #[(.pointer p0), (.slice x13.a x13.len x13.cap)] [] (fun w =>
 nilS p0 fun a14 =>
 semS Tryz.prog (Instr.loadAt 22 (.pointer (some (a14.add 8)))) (.one .slc) (fun x15 w =>
 semS Tryz.prog (Instr.sliceAt 22 (.slice x15.a x15.len x15.cap) (some (.int .i64 64)) none none) (.one .slc) (fun x16 w =>
 nilS p0 fun a17 =>
 semU Tryz.prog (Instr.storeAt 22 (.pointer (some (a17.add 8))) (.slice x16.a x16.len x16.cap)) (fun w =>
 again8 () w) w) w) w) w) w) w)
 (nilS p0 fun a18 =>
 semS Tryz.prog (Instr.loadAt 22 (.pointer (some (a18.add 8)))) (.one .slc) (fun x19 w =>
 callS Tryz.prog 29 #[(.slice x19.a x19.len x19.cap)] [(.one .slc)] (fun r20 w =>
 nilS p0 fun a21 =>
 semU Tryz.prog (Instr.storeAt 22 (.pointer (some (a21.add 8))) (.slice r20.a r20.len r20.cap)) (fun w =>
 K w) w) w) w)) w) () w) w) w) w) w) w
theorem f94_ok {p0 : Option Addr} {p1 : Sl} {K : World → Prop} {w : World} (h : f94 p0 p1 K w) : callS Tryz.prog 94 #[(.pointer p0), (.slice p1.a p1.len p1.cap)] [] K w :=
 calls_of_fn (args := [(.pointer p0), (.slice p1.a p1.len p1.cap)]) Tryz.f94 [] [] [.nil, .nil] .nil (by kernel_rfl) (by kernel_rfl)
 (Eq.mp (by kernel_rfl) h)

def f95_t1 (z37 : Addr) (p0 : Option Addr) (K : Sl → World → Prop) (w : World) : Prop :=
 loopS (σ := Unit) (fun _ w again38 =>
 semS Tryz.prog (Instr.loadAt 22 (.pointer (some (z37.add 8)))) (.one .slc) (fun x39 w =>
 cond ((Int.tmod (x39.len : Int) 64) != 56)
 (semS Tryz.prog (Instr.loadAt 22 (.pointer (some (z37.add 8)))) (.one .slc) (fun x40 w =>
 semS Tryz.prog (Instr.buildSlice 22 1 #[(0, (.int .u8 0))]) (.one .slc) (fun x41 w =>
 semS Tryz.prog (Builtin.append_ #[22, 22] 22 #[(.slice x40.a x40.len x40.cap), (.slice x41.a x41.len x41.cap)]) (.one .slc) (fun r42 w =>
 semU Tryz.prog (Instr.storeAt 22 (.pointer (some (z37.add 8))) (.slice r42.a r42.len r42.cap)) (fun w =>
 again38 () w) w) w) w) w)
 (semS Tryz.prog (Instr.loadAt 22 (.pointer (some (z37.add 8)))) (.one .slc) (fun x43 w =>
 semS Tryz.prog (Builtin.append_ #[22, 3] 22 #[(.slice x43.a x43.len x43.cap), (.int .i64 0)]) (.one .slc) (fun r44 w =>
 semU Tryz.prog (Instr.storeAt 22 (.pointer (some (z37.add 8))) (.slice r44.a r44.len r44.cap)) (fun w =>
 loopS (σ := Int) (fun x45 w again46 =>
 cond (decide (x45 ≥ 0))
 (drawS w fun C w =>
 semQ Tryz.prog C (Instr.loadAt 22 (.pointer (some (z37.add 8)))) (.one .slc) (fun x47 =>
 nilS p0 fun a48 =>
 semQ Tryz.prog C (Instr.loadAt 162 (.pointer (some (a48.add 9)))) (.one (.int .u64)) (fun x49 =>
 semQ Tryz.prog C (binS .shr 162 (.tmp 46) (.tmp 47) (.int .u64 (IntKind.wrap .u64 (8 * x49))) (.int .i64 x45)) (.one (.int .u64)) (fun x50 =>
 semS Tryz.prog (Instr.buildSlice 22 1 #[(0, (.int .u8 (IntKind.wrap .u8 x50)))]) (.one .slc) (fun x51 w =>
 moreS C w (fun C =>
 semS Tryz.prog (Builtin.append_ #[22, 22] 22 #[(.slice x47.a x47.len x47.cap), (.slice x51.a x51.len x51.cap)]) (.one .slc) (fun r52 w =>
 semU Tryz.prog (Instr.storeAt 22 (.pointer (some (z37.add 8))) (.slice r52.a r52.len r52.cap)) (fun w =>
 again46 (IntKind.wrap .i64 (x45 - 8)) w) w) w)) w))))
 (semS Tryz.prog (Instr.loadAt 22 (.pointer (some (z37.add 8)))) (.one .slc) (fun x53 w =>
 callS Tryz.prog 55 #[(.slice x53.a x53.len x53.cap), (.int .i64 64)] [(.one .any)] (fun r54 w =>
 rangeS Tryz.prog r54 w (fun l55 oR56 oB57 xs58 w R59 =>
 decL (R := Prop) [.slc] xs58 (fun x61 =>
 w.heap[l55]? = some oR56 ∧ ((fun w =>
 callS Tryz.prog 104 #[(.pointer (some z37)), (.slice x61.a x61.len x61.cap)] [] (fun w =>
 w.heap[l55]? = some oB57 ∧ R59 (w.putObj l55 oR56)) w) (w.putObj l55 oB57))) (fun r => r)) (fun D60 w =>
 semS Tryz.prog (Instr.loadAt 171 (.pointer (some (z37.add 0)))) (.agg [(.int .u32), (.int .u32), (.int .u32), (.int .u32), (.int .u32), (.int .u32), (.int .u32), (.int .u32)]) (fun x62 x63 x64 x65 x66 x67 x68 x69 w =>
 loopS (σ := Sl × Int) (fun s70 w again71 =>
 cond (decide (s70.2 < 8))
 (semS Tryz.prog (Instr.index 171 (.agg #[(.int .u32 x62), (.int .u32 x63), (.int .u32 x64), (.int .u32 x65), (.int .u32 x66), (.int .u32 x67), (.int .u32 x68), (.int .u32 x69)]) (.int .i64 s70.2)) (.one (.int .u32)) (fun x72 w =>
 loopS (σ := Sl × Int) (fun s73 w again74 =>
 cond (decide (s73.2 ≥ 0))
 (semS Tryz.prog (binS .shr 159 (.tmp 69) (.tmp 70) (.int .u32 x72) (.int .i64 s73.2)) (.one (.int .u32)) (fun x75 w =>
 semS Tryz.prog (Instr.buildSlice 22 1 #[(0, (.int .u8 (IntKind.wrap .u8 x75)))]) (.one .slc) (fun x76 w =>
 semS Tryz.prog (Builtin.append_ #[22, 22] 22 #[(.slice s73.1.a s73.1.len s73.1.cap), (.slice x76.a x76.len x76.cap)]) (.one .slc) (fun r77 w =>
 again74 (r77, IntKind.wrap .i64 (s73.2 - 8)) w) w) w) w)
 (again71 (s73.1, IntKind.wrap .i64 (s70.2 + 1)) w)) (s70.1, 24) w) w)
 (w.heap[D60]? = some (.deferred (some [])) ∧ ((fun w => K s70.1 w) (w.putObj D60 (.deferred none))))) (⟨none, 0, 0⟩, 0) w) w)) w) w)) 56 w) w) w) w)) w) () w

/-- (*sallyport/shortsum.Hash).Sum -/
def f95 (p0 : Option Addr) (K : Sl → World → Prop) (w : World) : Prop :=
 drawS w fun C w =>
 nilS p0 fun a1 =>
 semQ Tryz.prog C (Instr.loadAt 171 (.pointer (some (a1.add 0)))) (.agg [(.int .u32), (.int .u32), (.int .u32), (.int .u32), (.int .u32), (.int .u32), (.int .u32), (.int .u32)]) (fun x2 x3 x4 x5 x6 x7 x8 x9 =>
 nilS p0 fun a10 =>
 semQ Tryz.prog C (Instr.loadAt 22 (.pointer (some (a10.add 8)))) (.one .slc) (fun x11 =>
 (callS Tryz.prog 29 #[(.slice x11.a x11.len x11.cap)] [(.one .slc)] (fun r12 w =>
 moreS C w (fun C =>
 (semS Tryz.prog (Instr.buildSlice 22 1 #[(0, (.int .u8 128))]) (.one .slc) (fun x13 w =>
 moreS C w (fun C =>
 (semS Tryz.prog (Builtin.append_ #[22, 22] 22 #[(.slice r12.a r12.len r12.cap), (.slice x13.a x13.len x13.cap)]) (.one .slc) (fun r14 w =>
 moreS C w (fun C =>
 semS Tryz.prog (Instr.alloc 173 true (.tuple #[])) (.one .adr) (fun x15 w =>
 moreS C w (fun C =>
 semU Tryz.prog (Instr.storeAt 173 (.pointer (some x15)) (.agg #[(.int .u32 x2), (.int .u32 x3), (.int .u32 x4), (.int .u32 x5), (.int .u32 x6), (.int .u32 x7), (.int .u32 x8), (.int .u32 x9), (.slice r14.a r14.len r14.cap), (.int .u64 0)])) (fun w =>
 f95_t1 x15 p0 K w) w)) w)) w) ∧
 (semS Tryz.prog (Instr.alloc 173 true (.tuple #[])) (.one .adr) (fun x16 w =>
 moreS C w (fun C =>
 semS Tryz.prog (Builtin.append_ #[22, 22] 22 #[(.slice r12.a r12.len r12.cap), (.slice x13.a x13.len x13.cap)]) (.one .slc) (fun r17 w =>
 moreS C w (fun C =>
 semU Tryz.prog (Instr.storeAt 173 (.pointer (some x16)) (.agg #[(.int .u32 x2), (.int .u32 x3), (.int .u32 x4), (.int .u32 x5), (.int .u32 x6), (.int .u32 x7), (.int .u32 x8), (.int .u32 x9), (.slice r17.a r17.len r17.cap), (.int .u64 0)])) (fun w =>
 f95_t1 x16 p0 K w) w)) w)) w))) w) ∧
 (semS Tryz.prog (Instr.alloc 173 true (.tuple #[])) (.one .adr) (fun x18 w =>
 moreS C w (fun C =>
 semS Tryz.prog (Instr.buildSlice 22 1 #[(0, (.int .u8 128))]) (.one .slc) (fun x19 w =>
 moreS C w (fun C =>
 semS Tryz.prog (Builtin.append_ #[22, 22] 22 #[(.slice r12.a r12.len r12.cap), (.slice x19.a x19.len x19.cap)]) (.one .slc) (fun r20 w =>
 moreS C w (fun C =>
 semU Tryz.prog (Instr.storeAt 173 (.pointer (some x18)) (.agg #[(.int .u32 x2), (.int .u32 x3), (.int .u32 x4), (.int .u32 x5), (.int .u32 x6), (.int .u32 x7), (.int .u32 x8), (.int .u32 x9), (.slice r20.a r20.len r20.cap), (.int .u64 0)])) (fun w =>
 f95_t1 x18 p0 K w) w)) w)) w)) w))) w) ∧
 ((semS Tryz.prog (Instr.buildSlice 22 1 #[(0, (.int .u8 128))]) (.one .slc) (fun x21 w =>
 moreS C w (fun C =>
 (callS Tryz.prog 29 #[(.slice x11.a x11.len x11.cap)] [(.one .slc)] (fun r22 w =>
 moreS C w (fun C =>
 (semS Tryz.prog (Builtin.append_ #[22, 22] 22 #[(.slice r22.a r22.len r22.cap), (.slice x21.a x21.len x21.cap)]) (.one .slc) (fun r23 w =>
 moreS C w (fun C =>
 semS Tryz.prog (Instr.alloc 173 true (.tuple #[])) (.one .adr) (fun x24 w =>
 moreS C w (fun C =>
 semU Tryz.prog (Instr.storeAt 173 (.pointer (some x24)) (.agg #[(.int .u32 x2), (.int .u32 x3), (.int .u32 x4), (.int .u32 x5), (.int .u32 x6), (.int .u32 x7), (.int .u32 x8), (.int .u32 x9), (.slice r23.a r23.len r23.cap), (.int .u64 0)])) (fun w =>
 f95_t1 x24 p0 K w) w)) w)) w) ∧
 (semS Tryz.prog (Instr.alloc 173 true (.tuple #[])) (.one .adr) (fun x25 w =>
 moreS C w (fun C =>
 semS Tryz.prog (Builtin.append_ #[22, 22] 22 #[(.slice r22.a r22.len r22.cap), (.slice x21.a x21.len x21.cap)]) (.one .slc) (fun r26 w =>
 moreS C w (fun C =>
 semU Tryz.prog (Instr.storeAt 173 (.pointer (some x25)) (.agg #[(.int .u32 x2), (.int .u32 x3), (.int .u32 x4), (.int .u32 x5), (.int .u32 x6), (.int .u32 x7), (.int .u32 x8), (.int .u32 x9), (.slice r26.a r26.len r26.cap), (.int .u64 0)])) (fun w =>
 f95_t1 x25 p0 K w) w)) w)) w))) w) ∧
 (semS Tryz.prog (Instr.alloc 173 true (.tuple #[])) (.one .adr) (fun x27 w =>
 moreS C w (fun C =>
 callS Tryz.prog 29 #[(.slice x11.a x11.len x11.cap)] [(.one .slc)] (fun r28 w =>
 moreS C w (fun C =>
 semS Tryz.prog (Builtin.append_ #[22, 22] 22 #[(.slice r28.a r28.len r28.cap), (.slice x21.a x21.len x21.cap)]) (.one .slc) (fun r29 w =>
 moreS C w (fun C =>
 semU Tryz.prog (Instr.storeAt 173 (.pointer (some x27)) (.agg #[(.int .u32 x2), (.int .u32 x3), (.int .u32 x4), (.int .u32 x5), (.int .u32 x6), (.int .u32 x7), (.int .u32 x8), (.int .u32 x9), (.slice r29.a r29.len r29.cap), (.int .u64 0)])) (fun w =>
 f95_t1 x27 p0 K w) w)) w)) w)) w))) w) ∧
 (semS Tryz.prog (Instr.alloc 173 true (.tuple #[])) (.one .adr) (fun x30 w =>
 moreS C w (fun C =>
 (callS Tryz.prog 29 #[(.slice x11.a x11.len x11.cap)] [(.one .slc)] (fun r31 w =>
 moreS C w (fun C =>
 semS Tryz.prog (Instr.buildSlice 22 1 #[(0, (.int .u8 128))]) (.one .slc) (fun x32 w =>
 moreS C w (fun C =>
 semS Tryz.prog (Builtin.append_ #[22, 22] 22 #[(.slice r31.a r31.len r31.cap), (.slice x32.a x32.len x32.cap)]) (.one .slc) (fun r33 w =>
 moreS C w (fun C =>
 semU Tryz.prog (Instr.storeAt 173 (.pointer (some x30)) (.agg #[(.int .u32 x2), (.int .u32 x3), (.int .u32 x4), (.int .u32 x5), (.int .u32 x6), (.int .u32 x7), (.int .u32 x8), (.int .u32 x9), (.slice r33.a r33.len r33.cap), (.int .u64 0)])) (fun w =>
 f95_t1 x30 p0 K w) w)) w)) w)) w) ∧
 (semS Tryz.prog (Instr.buildSlice 22 1 #[(0, (.int .u8 128))]) (.one .slc) (fun x34 w =>
 moreS C w (fun C =>
 callS Tryz.prog 29 #[(.slice x11.a x11.len x11.cap)] [(.one .slc)] (fun r35 w =>
 moreS C w (fun C =>
 semS Tryz.prog (Builtin.append_ #[22, 22] 22 #[(.slice r35.a r35.len r35.cap), (.slice x34.a x34.len x34.cap)]) (.one .slc) (fun r36 w =>
 moreS C w (fun C =>
 semU Tryz.prog (Instr.storeAt 173 (.pointer (some x30)) (.agg #[(.int .u32 x2), (.int .u32 x3), (.int .u32 x4), (.int .u32 x5), (.int .u32 x6), (.int .u32 x7), (.int .u32 x8), (.int .u32 x9), (.slice r36.a r36.len r36.cap), (.int .u64 0)])) (fun w =>
 f95_t1 x30 p0 K w) w)) w)) w)) w))) w))))
theorem f95_ok {p0 : Option Addr} {K : Sl → World → Prop} {w : World} (h : f95 p0 K w) : callS Tryz.prog 95 #[(.pointer p0)] [(.one .slc)] K w :=
 calls_of_fnR (args := [(.pointer p0)]) Tryz.f95 [] (.two .nil (.two (.draw [0, 1, 3, 7, 0, 16, 48, 112, 240, 0, 1008, 2047, 0, 8191]) (.two (.one (.loop [] .nil)) (.two .nil (.two (.two .nil (.one (.loop [(4, (.int .i64))] (.two .nil (.two (.one (.draw [0, 1, 0, 4, 12, 28, 60, 0, 252, 508, 1020, 2047, 4095, 8191])) .nil))))) (.two (.two .nil (.one (.join [(56, .slc)] .nil .nil))) (.two .nil (.two (.two .nil (.one (.loop [(6, .slc), (61, (.int .i64))] (.two .nil (.two .nil (.two (.one (.two .nil (.two .nil (.one (.loop [(6, .slc), (9, (.int .i64))] .nil))))) .nil)))))) .nil)))))))) (by kernel_rfl) (by kernel_rfl)
 (Eq.mp (by kernel_rfl) h)

/-- sallyport/shortsum.Of -/
def f78 (p0 : Sl) (K : Sl → World → Prop) (w : World) : Prop :=
 callS Tryz.prog 93 #[] [(.one .ptr)] (fun r1 w =>
 loopS (σ := Int) (fun x2 w again3 =>
 cond (decide (x2 < (p0.len : Int)))
 (semS Tryz.prog (Instr.indexAt 45 (.slice p0.a p0.len p0.cap) (.int .i64 x2)) (.one .adr) (fun x4 w =>
 semS Tryz.prog (Instr.loadAt 22 (.pointer (some x4))) (.one .slc) (fun x5 w =>
 callS Tryz.prog 94 #[(.pointer r1), (.slice x5.a x5.len x5.cap)] [] (fun w =>
 again3 (IntKind.wrap .i64 (x2 + 1)) w) w) w) w)
 (callS Tryz.prog 95 #[(.pointer r1)] [(.one .slc)] (fun r6 w =>
 K r6 w) w)) 0 w) w
theorem f78_ok {p0 : Sl} {K : Sl → World → Prop} {w : World} (h : f78 p0 K w) : callS Tryz.prog 78 #[(.slice p0.a p0.len p0.cap)] [(.one .slc)] K w :=
 calls_of_fn (args := [(.slice p0.a p0.len p0.cap)]) Tryz.f78 [] [] [] (.two .nil (.two .nil (.two (.two .nil (.one (.loop [(9, (.int .i64))] .nil))) .nil))) (by kernel_rfl) (by kernel_rfl)
 (Eq.mp (by kernel_rfl) h)

/-- sallyport/seal.Digest -/
def f50 (p0 : Int) (p1 : Sl) (p2 : Sl) (K : Sl → Int → World → Prop) (w : World) : Prop :=
 callS Tryz.prog 30 #[(.int .i64 p0)] [(.one (.int .i64))] (fun r1 w =>
 cond (r1 == 0)
 (K (⟨none, 0, 0⟩) 20 w)
 (cond (decide ((p1.len : Int) > 64))
 (K (⟨none, 0, 0⟩) 11 w)
 (semS Tryz.prog (Instr.buildSlice 45 1 #[(0, (.slice p1.a p1.len p1.cap))]) (.one .slc) (fun x2 w =>
 semS Tryz.prog (Builtin.append_ #[45, 45] 45 #[(.slice x2.a x2.len x2.cap), (.slice p2.a p2.len p2.cap)]) (.one .slc) (fun r3 w =>
 cond (p0 == 2)
 (callS Tryz.prog 77 #[(.slice r3.a r3.len r3.cap)] [(.one .slc)] (fun r4 w =>
 K r4 0 w) w)
 (callS Tryz.prog 78 #[(.slice r3.a r3.len r3.cap)] [(.one .slc)] (fun r5 w =>
 K r5 0 w) w)) w) w))) w
theorem f50_ok {p0 : Int} {p1 : Sl} {p2 : Sl} {K : Sl → Int → World → Prop} {w : World} (h : f50 p0 p1 p2 K w) : callS Tryz.prog 50 #[(.int .i64 p0), (.slice p1.a p1.len p1.cap), (.slice p2.a p2.len p2.cap)] [(.one .slc), (.one (.int .i64))] K w :=
 calls_of_fn (args := [(.int .i64 p0), (.slice p1.a p1.len p1.cap), (.slice p2.a p2.len p2.cap)]) Tryz.f50 [] [] [] .nil (by kernel_rfl) (by kernel_rfl)
 (Eq.mp (by kernel_rfl) h)

/-- sallyport/span.Align -/
def f81 (p0 : Int) (p1 : Int) (K : Int → Int → World → Prop) (w : World) : Prop :=
 cond (((decide (p0 < 0)) || (decide (p1 < 1))) || (decide (p1 > 65536)))
 (K 0 12 w)
 (cond (decide (p0 > 4611686018427387904))
 (K 0 11 w)
 (semS Tryz.prog (binS .quo 3 (.tmp 24) (.tmp 25) (.int .i64 (IntKind.wrap .i64 ((IntKind.wrap .i64 (p0 + p1)) - 1))) (.int .i64 p1)) (.one (.int .i64)) (fun x1 w =>
 cond (decide ((IntKind.wrap .i64 (x1 * p1)) ≤ 4611686018427387904))
 (K (IntKind.wrap .i64 (x1 * p1)) 0 w)
 (K 0 11 w)) w))
theorem f81_ok {p0 : Int} {p1 : Int} {K : Int → Int → World → Prop} {w : World} (h : f81 p0 p1 K w) : callS Tryz.prog 81 #[(.int .i64 p0), (.int .i64 p1)] [(.one (.int .i64)), (.one (.int .i64))] K w :=
 calls_of_fn (args := [(.int .i64 p0), (.int .i64 p1)]) Tryz.f81 [] [] [] .nil (by kernel_rfl) (by kernel_rfl)
 (Eq.mp (by kernel_rfl) h)

/-- sallyport/span.Pad -/
def f54 (p0 : Sl) (p1 : Int) (K : Sl → Int → World → Prop) (w : World) : Prop :=
 callS Tryz.prog 81 #[(.int .i64 (p0.len : Int)), (.int .i64 p1)] [(.one (.int .i64)), (.one (.int .i64))] (fun r1 r2 w =>
 cond (r2 != 0)
 (K (⟨none, 0, 0⟩) r2 w)
 (callS Tryz.prog 29 #[(.slice p0.a p0.len p0.cap)] [(.one .slc)] (fun r3 w =>
 semS Tryz.prog (Builtin.append_ #[22, 3] 22 #[(.slice r3.a r3.len r3.cap), (.int .i64 (IntKind.wrap .i64 (r1 - (p0.len : Int))))]) (.one .slc) (fun r4 w =>
 K r4 0 w) w) w)) w
theorem f54_ok {p0 : Sl} {p1 : Int} {K : Sl → Int → World → Prop} {w : World} (h : f54 p0 p1 K w) : callS Tryz.prog 54 #[(.slice p0.a p0.len p0.cap), (.int .i64 p1)] [(.one .slc), (.one (.int .i64))] K w :=
 calls_of_fn (args := [(.slice p0.a p0.len p0.cap), (.int .i64 p1)]) Tryz.f54 [] [] [] .nil (by kernel_rfl) (by kernel_rfl)
 (Eq.mp (by kernel_rfl) h)

/-- slices.Grow[[]byte,byte] -/
def f83 (p0 : Sl) (p1 : Int) (K : Sl → World → Prop) (w : World) : Prop :=
 joinS (σ := Unit) (fun _ w =>
 cond (decide ((IntKind.wrap .i64 (p1 - (IntKind.wrap .i64 ((p0.cap : Int) - (p0.len : Int))))) > 0))
 (semS Tryz.prog (Instr.sliceAt 22 (.slice p0.a p0.len p0.cap) none (some (.int .i64 (p0.cap : Int))) none) (.one .slc) (fun x2 w =>
 semS Tryz.prog (Builtin.append_ #[22, 3] 22 #[(.slice x2.a x2.len x2.cap), (.int .i64 (IntKind.wrap .i64 (p1 - (IntKind.wrap .i64 ((p0.cap : Int) - (p0.len : Int))))))]) (.one .slc) (fun r3 w =>
 semS Tryz.prog (Instr.sliceAt 22 (.slice r3.a r3.len r3.cap) none (some (.int .i64 (p0.len : Int))) none) (.one .slc) (fun x4 w =>
 K x4 w) w) w) w)
 (K p0 w)) fun J1 =>
 cond (decide (p1 < 0))
 (False)
 (J1 () w)
theorem f83_ok {p0 : Sl} {p1 : Int} {K : Sl → World → Prop} {w : World} (h : f83 p0 p1 K w) : callS Tryz.prog 83 #[(.slice p0.a p0.len p0.cap), (.int .i64 p1)] [(.one .slc)] K w :=
 calls_of_fn (args := [(.slice p0.a p0.len p0.cap), (.int .i64 p1)]) Tryz.f83 [] [] [] (.two .nil (.join [] .nil .nil)) (by kernel_rfl) (by kernel_rfl)
 (Eq.mp (by kernel_rfl) h)

/-- slices.Concat[[]byte,byte] -/
def f56 (p0 : Sl) (K : Sl → World → Prop) (w : World) : Prop :=
 loopS (σ := Int × Int) (fun s1 w again2 =>
 cond (decide (s1.2 < (p0.len : Int)))
 (semS Tryz.prog (Instr.indexAt 45 (.slice p0.a p0.len p0.cap) (.int .i64 s1.2)) (.one .adr) (fun x3 w =>
 semS Tryz.prog (Instr.loadAt 22 (.pointer (some x3))) (.one .slc) (fun x4 w =>
 cond (decide ((IntKind.wrap .i64 (s1.1 + (x4.len : Int))) < 0))
 (False)
 (again2 (IntKind.wrap .i64 (s1.1 + (x4.len : Int)), IntKind.wrap .i64 (s1.2 + 1)) w)) w) w)
 (callS Tryz.prog 83 #[(.slice none 0 0), (.int .i64 s1.1)] [(.one .slc)] (fun r5 w =>
 loopS (σ := Sl × Int) (fun s6 w again7 =>
 cond (decide (s6.2 < (p0.len : Int)))
 (semS Tryz.prog (Instr.indexAt 45 (.slice p0.a p0.len p0.cap) (.int .i64 s6.2)) (.one .adr) (fun x8 w =>
 semS Tryz.prog (Instr.loadAt 22 (.pointer (some x8))) (.one .slc) (fun x9 w =>
 semS Tryz.prog (Builtin.append_ #[22, 22] 22 #[(.slice s6.1.a s6.1.len s6.1.cap), (.slice x9.a x9.len x9.cap)]) (.one .slc) (fun r10 w =>
 again7 (r10, IntKind.wrap .i64 (s6.2 + 1)) w) w) w) w)
 (K s6.1 w)) (r5, 0) w) w)) (0, 0) w
theorem f56_ok {p0 : Sl} {K : Sl → World → Prop} {w : World} (h : f56 p0 K w) : callS Tryz.prog 56 #[(.slice p0.a p0.len p0.cap)] [(.one .slc)] K w :=
 calls_of_fn (args := [(.slice p0.a p0.len p0.cap)]) Tryz.f56 [] [] [] (.two .nil (.two .nil (.two (.two .nil (.one (.loop [(3, (.int .i64)), (11, (.int .i64))] .nil))) (.two .nil (.two (.two .nil (.one (.loop [(6, .slc), (27, (.int .i64))] .nil))) .nil))))) (by kernel_rfl) (by kernel_rfl)
 (Eq.mp (by kernel_rfl) h)

/-- sallyport/grove.Make -/
def f25 (p0 : Int) (p1 : Sl) (p2 : Int) (p3 : Sl) (K : Sl → Sl → Int → World → Prop) (w : World) : Prop :=
 semS Tryz.prog (Instr.box 3 (.int .i64 p0)) (.one .adr) (fun x1 w =>
 semS Tryz.prog (Instr.box 22 (.slice p1.a p1.len p1.cap)) (.one .adr) (fun x2 w =>
 semS Tryz.prog (Instr.loadAt 3 (.pointer (some x1))) (.one (.int .i64)) (fun x3 w =>
 callS Tryz.prog 30 #[(.int .i64 x3)] [(.one (.int .i64))] (fun r4 w =>
 semS Tryz.prog (Instr.alloc 72 true (.tuple #[])) (.one .adr) (fun x5 w =>
 semU Tryz.prog (Instr.storeAt 72 (.pointer (some x5)) (.agg #[(.int .i64 (p3.len : Int)), (.int .i64 p2), (.int .i64 r4)])) (fun w =>
 joinS (σ := Bool) (fun b6 w =>
 cond b6
 (K (⟨none, 0, 0⟩) (⟨none, 0, 0⟩) 11 w)
 (semS Tryz.prog (Instr.loadAt 3 (.pointer (some x1))) (.one (.int .i64)) (fun x8 w =>
 semS Tryz.prog (Instr.loadAt 22 (.pointer (some x2))) (.one .slc) (fun x9 w =>
 semS Tryz.prog (Instr.loadAt 72 (.pointer (some x5))) (.agg [(.int .i64), (.int .i64), (.int .i64)]) (fun x10 x11 x12 w =>
 callS Tryz.prog 45 #[(.int .i64 x8), (.slice x9.a x9.len x9.cap), (.agg #[(.int .i64 x10), (.int .i64 x11), (.int .i64 x12)])] [(.one (.int .i64))] (fun r13 w =>
 cond (r13 != 0)
 (K (⟨none, 0, 0⟩) (⟨none, 0, 0⟩) r13 w)
 (callS Tryz.prog 54 #[(.slice p3.a p3.len p3.cap), (.int .i64 p2)] [(.one .slc), (.one (.int .i64))] (fun r14 r15 w =>
 loopS (σ := (Sl × Sl) × List Nat) (fun s18 w again19 =>
 cond (decide ((s18.1.2.len : Int) > p2))
 (semS Tryz.prog (Instr.alloc 22 true (.tuple #[])) (.one .adr) (fun x20 w =>
 callS Tryz.prog 55 #[(.slice s18.1.2.a s18.1.2.len s18.1.2.cap), (.int .i64 p2)] [(.one .any)] (fun r21 w =>
 rangeS Tryz.prog r21 w (fun l22 oR23 oB24 xs25 w R26 =>
 decL (R := Prop) [.slc] xs25 (fun x28 =>
 w.heap[l22]? = some oR23 ∧ ((fun w =>
 semS Tryz.prog (Instr.loadAt 3 (.pointer (some x1))) (.one (.int .i64)) (fun x29 w =>
 semS Tryz.prog (Instr.loadAt 22 (.pointer (some x2))) (.one .slc) (fun x30 w =>
 semS Tryz.prog (Instr.buildSlice 45 1 #[(0, (.slice x28.a x28.len x28.cap))]) (.one .slc) (fun x31 w =>
 callS Tryz.prog 50 #[(.int .i64 x29), (.slice x30.a x30.len x30.cap), (.slice x31.a x31.len x31.cap)] [(.one .slc), (.one (.int .i64))] (fun r32 r33 w =>
 semS Tryz.prog (Instr.loadAt 22 (.pointer (some x20))) (.one .slc) (fun x34 w =>
 semS Tryz.prog (Builtin.append_ #[22, 22] 22 #[(.slice x34.a x34.len x34.cap), (.slice r32.a r32.len r32.cap)]) (.one .slc) (fun r35 w =>
 semU Tryz.prog (Instr.storeAt 22 (.pointer (some x20)) (.slice r35.a r35.len r35.cap)) (fun w =>
 w.heap[l22]? = some oB24 ∧ R26 (w.putObj l22 oR23)) w) w) w) w) w) w) w) (w.putObj l22 oB24))) (fun r => r)) (fun D27 w =>
 semS Tryz.prog (Instr.loadAt 22 (.pointer (some x20))) (.one .slc) (fun x36 w =>
 callS Tryz.prog 54 #[(.slice x36.a x36.len x36.cap), (.int .i64 p2)] [(.one .slc), (.one (.int .i64))] (fun r37 r38 w =>
 semS Tryz.prog (Instr.buildSlice 45 2 #[(0, (.slice r37.a r37.len r37.cap)), (1, (.slice s18.1.1.a s18.1.1.len s18.1.1.cap))]) (.one .slc) (fun x39 w =>
 callS Tryz.prog 56 #[(.slice x39.a x39.len x39.cap)] [(.one .slc)] (fun r40 w =>
 again19 ((r40, r37), (D27 :: s18.2)) w) w) w) w) w)) w) w)
 (semS Tryz.prog (Instr.loadAt 3 (.pointer (some x1))) (.one (.int .i64)) (fun x41 w =>
 semS Tryz.prog (Instr.loadAt 22 (.pointer (some x2))) (.one .slc) (fun x42 w =>
 semS Tryz.prog (Instr.buildSlice 45 1 #[(0, (.slice s18.1.2.a s18.1.2.len s18.1.2.cap))]) (.one .slc) (fun x43 w =>
 callS Tryz.prog 50 #[(.int .i64 x41), (.slice x42.a x42.len x42.cap), (.slice x43.a x43.len x43.cap)] [(.one .slc), (.one (.int .i64))] (fun r44 r45 w =>
 finD s18.2 (fun w => K s18.1.1 r44 r45 w) w) w) w) w) w)) ((⟨none, 0, 0⟩, r14), []) w) w)) w) w) w) w)) fun J7 =>
 cond (decide ((p3.len : Int) > 1048576))
 (semS Tryz.prog (Instr.loadAt 3 (.pointer (some x1))) (.one (.int .i64)) (fun x46 w =>
 callS Tryz.prog 30 #[(.int .i64 x46)] [(.one (.int .i64))] (fun r47 w =>
 J7 (r47 != 0) w) w) w)
 (J7 false w)) w) w) w) w) w) w
theorem f25_ok {p0 : Int} {p1 : Sl} {p2 : Int} {p3 : Sl} {K : Sl → Sl → Int → World → Prop} {w : World} (h : f25 p0 p1 p2 p3 K w) : callS Tryz.prog 25 #[(.int .i64 p0), (.slice p1.a p1.len p1.cap), (.int .i64 p2), (.slice p3.a p3.len p3.cap)] [(.one .slc), (.one .slc), (.one (.int .i64))] K w :=
 calls_of_fnR (args := [(.int .i64 p0), (.slice p1.a p1.len p1.cap), (.int .i64 p2), (.slice p3.a p3.len p3.cap)]) Tryz.f25 [] (.two .nil (.two .nil (.two .nil (.two .nil (.two .nil (.two (.one (.loop [(8, .slc), (13, .slc)] (.two .nil (.one (.two .nil (.two (.two .nil (.one (.join [(53, .slc)] .nil .nil))) .nil)))))) .nil)))))) (by kernel_rfl) (by kernel_rfl)
 (Eq.mp (by kernel_rfl) h)

/-- slices.Clone[[]sallyport/drive.Part,sallyport/drive.Part] -/
def f57 (p0 : Sl) (K : Sl → World → Prop) (w : World) : Prop :=
 semS Tryz.prog (binS .eql 81 (.tmp 3) (.const (Go.Value.slice none 0 0)) (.slice p0.a p0.len p0.cap) (.slice none 0 0)) (.one .bool) (fun x1 w =>
 cond x1
 (K (⟨none, 0, 0⟩) w)
 (semS Tryz.prog (Instr.buildSlice 81 0 #[]) (.one .slc) (fun x2 w =>
 semS Tryz.prog (Builtin.append_ #[81, 81] 81 #[(.slice x2.a x2.len x2.cap), (.slice p0.a p0.len p0.cap)]) (.one .slc) (fun r3 w =>
 K r3 w) w) w)) w
theorem f57_ok {p0 : Sl} {K : Sl → World → Prop} {w : World} (h : f57 p0 K w) : callS Tryz.prog 57 #[(.slice p0.a p0.len p0.cap)] [(.one .slc)] K w :=
 calls_of_fn (args := [(.slice p0.a p0.len p0.cap)]) Tryz.f57 [] [] [] .nil (by kernel_rfl) (by kernel_rfl)
 (Eq.mp (by kernel_rfl) h)

/-- strings.indexFunc -/
def f111 (p0 : ByteArray) (p1 : Value) (p2 : Bool) (K : Int → World → Prop) (w : World) : Prop :=
 semS Tryz.prog (Instr.range 9 (.string p0)) (.one .adr) (fun x1 w =>
 loopS (σ := Unit) (fun _ w again2 =>
 semS Tryz.prog (Instr.next (.pointer (some x1)) true 0) .nxt ⟨fun w =>
 K (-1) w, fun i3 c4 w =>
 callY Tryz.prog (callSem p1 #[(.int .i32 c4)]) [(.one .bool)] (fun r5 w =>
 cond (r5 == p2)
 (K i3 w)
 (again2 () w)) w⟩ w) () w) w
theorem f111_ok {p0 : ByteArray} {p1 : Value} {p2 : Bool} {K : Int → World → Prop} {w : World} (h : f111 p0 p1 p2 K w) : callS Tryz.prog 111 #[(.string p0), p1, (.bool p2)] [(.one (.int .i64))] K w :=
 calls_of_fn (args := [(.string p0), p1, (.bool p2)]) Tryz.f111 [1, 15] [] [] (.two .nil (.two (.two .nil (.one (.loop [] .nil))) .nil)) (by kernel_rfl) (by kernel_rfl)
 (Eq.mp (by kernel_rfl) h)

/-- strings.IndexFunc -/
def f100 (p0 : ByteArray) (p1 : Value) (K : Int → World → Prop) (w : World) : Prop :=
 callS Tryz.prog 111 #[(.string p0), p1, (.bool true)] [(.one (.int .i64))] (fun r1 w =>
 K r1 w) w
theorem f100_ok {p0 : ByteArray} {p1 : Value} {K : Int → World → Prop} {w : World} (h : f100 p0 p1 K w) : callS Tryz.prog 100 #[(.string p0), p1] [(.one (.int .i64))] K w :=
 calls_of_fn (args := [(.string p0), p1]) Tryz.f100 [1, 6] [] [] .nil (by kernel_rfl) (by kernel_rfl)
 (Eq.mp (by kernel_rfl) h)

/-- strings.ContainsFunc -/
def f84 (p0 : ByteArray) (p1 : Value) (K : Bool → World → Prop) (w : World) : Prop :=
 callS Tryz.prog 100 #[(.string p0), p1] [(.one (.int .i64))] (fun r1 w =>
 K (decide (r1 ≥ 0)) w) w
theorem f84_ok {p0 : ByteArray} {p1 : Value} {K : Bool → World → Prop} {w : World} (h : f84 p0 p1 K w) : callS Tryz.prog 84 #[(.string p0), p1] [(.one .bool)] K w :=
 calls_of_fn (args := [(.string p0), p1]) Tryz.f84 [1, 6] [] [] .nil (by kernel_rfl) (by kernel_rfl)
 (Eq.mp (by kernel_rfl) h)

/-- sallyport/drive.named$1 -/
def f85 (p0 : Int) (K : Bool → World → Prop) (w : World) : Prop :=
 K (!((((decide (p0 ≥ 97)) && (decide (p0 ≤ 122))) || ((decide (p0 ≥ 48)) && (decide (p0 ≤ 57)))) || (p0 == 95))) w
theorem f85_ok {p0 : Int} {K : Bool → World → Prop} {w : World} (h : f85 p0 K w) : callS Tryz.prog 85 #[(.int .i32 p0)] [(.one .bool)] K w :=
 calls_of_fn (args := [(.int .i32 p0)]) Tryz.f85 [] [] [] .nil (by kernel_rfl) (by kernel_rfl)
 (Eq.mp (by kernel_rfl) h)

/-- sallyport/drive.named -/
def f58 (p0 : ByteArray) (K : Bool → World → Prop) (w : World) : Prop :=
 joinS (σ := Bool) (fun b1 w =>
 K b1 w) fun J2 =>
 cond ((!(p0.toList == (ByteArray.mk #[]).toList)) && (decide ((p0.size : Int) ≤ 24)))
 (callS Tryz.prog 84 #[(.string p0), (.func (.func 85) #[] #[])] [(.one .bool)] (fun r3 w =>
 J2 (!r3) w) w)
 (J2 false w)
theorem f58_ok {p0 : ByteArray} {K : Bool → World → Prop} {w : World} (h : f58 p0 K w) : callS Tryz.prog 58 #[(.string p0)] [(.one .bool)] K w :=
 calls_of_fn (args := [(.string p0)]) Tryz.f58 [] [] [] .nil (by kernel_rfl) (by kernel_rfl)
 (Eq.mp (by kernel_rfl) h)

def f26_t1 (z19 : Bool) (K : (Option Addr) → Int → World → Prop) (x9 : Addr) (x3 : Addr) (again5 : (Int × Int) → World → Prop) (s4 : Int × Int) (w : World) : Prop :=
 cond z19
 (K none 40 w)
 (semS Tryz.prog (Instr.loadAt 3 (.pointer (some (x9.add 1)))) (.one (.int .i64)) (fun x20 w =>
 drawS w fun C w =>
 semQ Tryz.prog C (Instr.loadAt 123 (.pointer (some (x3.add 1)))) (.one .mp) (fun x21 =>
 semQ Tryz.prog C (Instr.loadAt 9 (.pointer (some (x9.add 0)))) (.one .str) (fun x22 =>
 semS Tryz.prog (Instr.makeMap 128 none) (.one .mp) (fun x23 w =>
 moreS C w (fun C =>
 semS Tryz.prog (Instr.box 130 (.agg #[(.slice none 0 0), (.map x23)])) (.one .adr) (fun x24 w =>
 moreS C w (fun C =>
 semU Tryz.prog (Instr.mapUpdate 123 (.map x21) (.string x22) (.pointer (some x24))) (fun w =>
 again5 (IntKind.wrap .i64 (s4.1 + x20), IntKind.wrap .i64 (s4.2 + 1)) w) w)) w)) w))) w)

/-- sallyport/drive.New -/
def f26 (p0 : Sl) (K : (Option Addr) → Int → World → Prop) (w : World) : Prop :=
 cond (decide ((p0.len : Int) > 16))
 (K none 40 w)
 (callS Tryz.prog 57 #[(.slice p0.a p0.len p0.cap)] [(.one .slc)] (fun r1 w =>
 semS Tryz.prog (Instr.makeMap 123 none) (.one .mp) (fun x2 w =>
 semS Tryz.prog (Instr.box 125 (.agg #[(.slice r1.a r1.len r1.cap), (.map x2), (.int .i64 (-1)), (.slice none 0 0), (.bool false), (.int .i64 0), (.int .i64 0)])) (.one .adr) (fun x3 w =>
 loopS (σ := Int × Int) (fun s4 w again5 =>
 cond (decide (s4.2 < (p0.len : Int)))
 (semS Tryz.prog (Instr.indexAt 81 (.slice p0.a p0.len p0.cap) (.int .i64 s4.2)) (.one .adr) (fun x6 w =>
 semS Tryz.prog (Instr.loadAt 80 (.pointer (some x6))) (.agg [.str, (.int .i64)]) (fun x7 x8 w =>
 semS Tryz.prog (Instr.alloc 80 true (.tuple #[])) (.one .adr) (fun x9 w =>
 semU Tryz.prog (Instr.storeAt 80 (.pointer (some x9)) (.agg #[(.string x7), (.int .i64 x8)])) (fun w =>
 drawS w fun C w =>
 semQ Tryz.prog C (Instr.loadAt 9 (.pointer (some (x9.add 0)))) (.one .str) (fun x10 =>
 callS Tryz.prog 58 #[(.string x10)] [(.one .bool)] (fun r11 w =>
 moreS C w (fun C =>
 cond (!r11)
 (f26_t1 true K x9 x3 again5 s4 w)
 (semQ Tryz.prog C (Instr.loadAt 123 (.pointer (some (x3.add 1)))) (.one .mp) (fun x12 =>
 semQ Tryz.prog C (Instr.loadAt 9 (.pointer (some (x9.add 0)))) (.one .str) (fun x13 =>
 semQ Tryz.prog C (Instr.lookup 123 (.map x12) (.string x13) false) (.one .ptr) (fun x14 =>
 semQ Tryz.prog C (binS .neq 127 (.tmp 35) (.const (Go.Value.pointer none)) (.pointer x14) (.pointer none)) (.one .bool) (fun x15 =>
 cond x15
 (f26_t1 true K x9 x3 again5 s4 w)
 (semQ Tryz.prog C (Instr.loadAt 3 (.pointer (some (x9.add 1)))) (.one (.int .i64)) (fun x16 =>
 cond (decide (x16 < 64))
 (f26_t1 true K x9 x3 again5 s4 w)
 (semQ Tryz.prog C (Instr.loadAt 3 (.pointer (some (x9.add 1)))) (.one (.int .i64)) (fun x17 =>
 cond (decide (x17 > 1048576))
 (f26_t1 true K x9 x3 again5 s4 w)
 (semQ Tryz.prog C (Instr.loadAt 3 (.pointer (some (x9.add 1)))) (.one (.int .i64)) (fun x18 =>
 f26_t1 ((Int.tmod x18 64) != 0) K x9 x3 again5 s4 w))))))))))))) w)) w) w) w) w)
 (cond (decide (s4.1 > 1048576))
 (K none 11 w)
 (loopS (σ := Int) (fun x25 w again26 =>
 cond (decide (x25 < (p0.len : Int)))
 (semS Tryz.prog (Instr.indexAt 81 (.slice p0.a p0.len p0.cap) (.int .i64 x25)) (.one .adr) (fun x27 w =>
 semS Tryz.prog (Instr.loadAt 80 (.pointer (some x27))) (.agg [.str, (.int .i64)]) (fun x28 x29 w =>
 semS Tryz.prog (Instr.alloc 80 true (.tuple #[])) (.one .adr) (fun x30 w =>
 semU Tryz.prog (Instr.storeAt 80 (.pointer (some x30)) (.agg #[(.string x28), (.int .i64 x29)])) (fun w =>
 drawS w fun C w =>
 semQ Tryz.prog C (Instr.loadAt 123 (.pointer (some (x3.add 1)))) (.one .mp) (fun x31 =>
 semQ Tryz.prog C (Instr.loadAt 9 (.pointer (some (x30.add 0)))) (.one .str) (fun x32 =>
 semQ Tryz.prog C (Instr.lookup 123 (.map x31) (.string x32) false) (.one .ptr) (fun x33 =>
 semQ Tryz.prog C (Instr.loadAt 3 (.pointer (some (x30.add 1)))) (.one (.int .i64)) (fun x34 =>
 semS Tryz.prog (Instr.makeSlice 22 (.int .i64 x34) (.int .i64 x34)) (.one .slc) (fun x35 w =>
 moreS C w (fun C =>
 nilS x33 fun a36 =>
 semU Tryz.prog (Instr.storeAt 22 (.pointer (some (a36.add 0))) (.slice x35.a x35.len x35.cap)) (fun w =>
 again26 (IntKind.wrap .i64 (x25 + 1)) w) w)) w))))) w) w) w) w)
 (K (some x3) 0 w)) 0 w))) (0, 0) w) w) w) w)
theorem f26_ok {p0 : Sl} {K : (Option Addr) → Int → World → Prop} {w : World} (h : f26 p0 K w) : callS Tryz.prog 26 #[(.slice p0.a p0.len p0.cap)] [(.one .ptr), (.one (.int .i64))] K w :=
 calls_of_fn (args := [(.slice p0.a p0.len p0.cap)]) Tryz.f26 [] [] [] (.two .nil (.two .nil (.two .nil (.two .nil (.two (.two .nil (.one (.loop [(5, (.int .i64)), (20, (.int .i64))] (.two .nil (.two .nil (.two (.one (.two .nil (.two (.two (.draw [0, 1, 3, 7, 15, 31, 63, 127, 255, 31, 543, 2047, 4095, 8191, 16383, 32767, 65535, 131071, 262143, 524287, 1048575, 2097151, 4194303, 8388607, 16777215, 33554431, 67108863, 134217727, 268435455, 536870911]) .nil) (.two .nil (.draw [0, 1, 3, 7, 0, 16, 0, 64, 192, 511]))))) .nil)))))) (.two .nil (.two (.two .nil (.one (.loop [(72, (.int .i64))] (.two .nil (.two .nil (.two (.one (.two .nil (.draw [0, 1, 3, 7, 0, 16, 63, 0, 128, 384, 1023, 2047, 4095]))) .nil)))))) .nil))))))) (by kernel_rfl) (by kernel_rfl)
 (Eq.mp (by kernel_rfl) h)

/-- sallyport/span.Within -/
def f67 (p0 : Int) (p1 : Int) (p2 : Int) (K : Bool → World → Prop) (w : World) : Prop :=
 K (((((decide (p0 ≥ 0)) && (decide (p1 ≥ 0))) && (decide (p2 ≥ 0))) && (decide (p0 ≤ p2))) && (decide (p1 ≤ (IntKind.wrap .i64 (p2 - p0))))) w
theorem f67_ok {p0 : Int} {p1 : Int} {p2 : Int} {K : Bool → World → Prop} {w : World} (h : f67 p0 p1 p2 K w) : callS Tryz.prog 67 #[(.int .i64 p0), (.int .i64 p1), (.int .i64 p2)] [(.one .bool)] K w :=
 calls_of_fn (args := [(.int .i64 p0), (.int .i64 p1), (.int .i64 p2)]) Tryz.f67 [] [] [] .nil (by kernel_rfl) (by kernel_rfl)
 (Eq.mp (by kernel_rfl) h)

/-- (*sallyport/drive.Drive).find -/
def f59 (p0 : Option Addr) (p1 : ByteArray) (p2 : Int) (p3 : Int) (K : (Option Addr) → Int → World → Prop) (w : World) : Prop :=
 nilS p0 fun a1 =>
 semS Tryz.prog (Instr.loadAt 123 (.pointer (some (a1.add 1)))) (.one .mp) (fun x2 w =>
 semS Tryz.prog (Instr.lookup 123 (.map x2) (.string p1) false) (.one .ptr) (fun x3 w =>
 nilS p0 fun a4 =>
 semS Tryz.prog (Instr.loadAt 4 (.pointer (some (a4.add 4)))) (.one .bool) (fun x5 w =>
 cond x5
 (K none 42 w)
 (semS Tryz.prog (binS .eql 127 (.tmp 23) (.const (Go.Value.pointer none)) (.pointer x3) (.pointer none)) (.one .bool) (fun x6 w =>
 cond x6
 (K none 40 w)
 (nilS x3 fun a7 =>
 semS Tryz.prog (Instr.loadAt 22 (.pointer (some (a7.add 0)))) (.one .slc) (fun x8 w =>
 callS Tryz.prog 67 #[(.int .i64 p2), (.int .i64 p3), (.int .i64 (x8.len : Int))] [(.one .bool)] (fun r9 w =>
 cond (!r9)
 (K none 10 w)
 (K x3 0 w)) w) w)) w)) w) w) w
theorem f59_ok {p0 : Option Addr} {p1 : ByteArray} {p2 : Int} {p3 : Int} {K : (Option Addr) → Int → World → Prop} {w : World} (h : f59 p0 p1 p2 p3 K w) : callS Tryz.prog 59 #[(.pointer p0), (.string p1), (.int .i64 p2), (.int .i64 p3)] [(.one .ptr), (.one (.int .i64))] K w :=
 calls_of_fn (args := [(.pointer p0), (.string p1), (.int .i64 p2), (.int .i64 p3)]) Tryz.f59 [] [] [] .nil (by kernel_rfl) (by kernel_rfl)
 (Eq.mp (by kernel_rfl) h)

/-- sallyport/drive.sectors -/
def f60 (p0 : Int) (p1 : Int) (K : Int → Int → World → Prop) (w : World) : Prop :=
 cond (p1 == 0)
 (K (IntKind.wrap .i64 (Int.tdiv p0 64)) 0 w)
 (K (IntKind.wrap .i64 (Int.tdiv p0 64)) (IntKind.wrap .i64 ((IntKind.wrap .i64 ((IntKind.wrap .i64 (Int.tdiv (IntKind.wrap .i64 ((IntKind.wrap .i64 (p0 + p1)) - 1)) 64)) - (IntKind.wrap .i64 (Int.tdiv p0 64)))) + 1)) w)
theorem f60_ok {p0 : Int} {p1 : Int} {K : Int → Int → World → Prop} {w : World} (h : f60 p0 p1 K w) : callS Tryz.prog 60 #[(.int .i64 p0), (.int .i64 p1)] [(.one (.int .i64)), (.one (.int .i64))] K w :=
 calls_of_fn (args := [(.int .i64 p0), (.int .i64 p1)]) Tryz.f60 [] [] [] .nil (by kernel_rfl) (by kernel_rfl)
 (Eq.mp (by kernel_rfl) h)

/-- (*sallyport/drive.Drive).Write -/
def f27 (p0 : Option Addr) (p1 : ByteArray) (p2 : Int) (p3 : Sl) (K : Int → World → Prop) (w : World) : Prop :=
 callS Tryz.prog 59 #[(.pointer p0), (.string p1), (.int .i64 p2), (.int .i64 (p3.len : Int))] [(.one .ptr), (.one (.int .i64))] (fun r1 r2 w =>
 cond (r2 != 0)
 (K r2 w)
 (nilS p0 fun a3 =>
 semS Tryz.prog (Instr.loadAt 3 (.pointer (some (a3.add 2)))) (.one (.int .i64)) (fun x4 w =>
 cond (x4 != 0)
 (nilS p0 fun a5 =>
 semS Tryz.prog (Instr.loadAt 3 (.pointer (some (a5.add 2)))) (.one (.int .i64)) (fun x6 w =>
 nilS p0 fun a7 =>
 semU Tryz.prog (Instr.storeAt 3 (.pointer (some (a7.add 2))) (.int .i64 (if (-1) > (IntKind.wrap .i64 (x6 - 1)) then -1 else IntKind.wrap .i64 (x6 - 1)))) (fun w =>
 nilS r1 fun a8 =>
 semS Tryz.prog (Instr.loadAt 22 (.pointer (some (a8.add 0)))) (.one .slc) (fun x9 w =>
 semS Tryz.prog (Instr.sliceAt 22 (.slice x9.a x9.len x9.cap) (some (.int .i64 p2)) none none) (.one .slc) (fun x10 w =>
 semS Tryz.prog (Builtin.copy_ #[22, 22] 3 #[(.slice x10.a x10.len x10.cap), (.slice p3.a p3.len p3.cap)]) (.one (.int .i64)) (fun r11 w =>
 K 0 w) w) w) w) w) w)
 (callS Tryz.prog 60 #[(.int .i64 p2), (.int .i64 (p3.len : Int))] [(.one (.int .i64)), (.one (.int .i64))] (fun r12 r13 w =>
 nilS p0 fun a14 =>
 semS Tryz.prog (Instr.loadAt 36 (.pointer (some (a14.add 3)))) (.one .slc) (fun x15 w =>
 loopS (σ := Int) (fun x16 w again17 =>
 cond (decide (x16 < (if (x15.len : Int) < r13 then (x15.len : Int) else r13)))
 (nilS p0 fun a18 =>
 semS Tryz.prog (Instr.loadAt 36 (.pointer (some (a18.add 3)))) (.one .slc) (fun x19 w =>
 semS Tryz.prog (Instr.indexAt 36 (.slice x19.a x19.len x19.cap) (.int .i64 x16)) (.one .adr) (fun x20 w =>
 semS Tryz.prog (Instr.loadAt 4 (.pointer (some x20))) (.one .bool) (fun x21 w =>
 cond x21
 (drawS w fun C w =>
 nilS r1 fun a22 =>
 semQ Tryz.prog C (Instr.loadAt 22 (.pointer (some (a22.add 0)))) (.one .slc) (fun x23 =>
 semQ Tryz.prog C (Instr.sliceAt 22 (.slice x23.a x23.len x23.cap) (some (.int .i64 (if (IntKind.wrap .i64 ((IntKind.wrap .i64 (r12 + x16)) * 64)) > p2 then IntKind.wrap .i64 ((IntKind.wrap .i64 (r12 + x16)) * 64) else p2))) (some (.int .i64 (if (IntKind.wrap .i64 ((IntKind.wrap .i64 ((IntKind.wrap .i64 (r12 + x16)) + 1)) * 64)) < (IntKind.wrap .i64 (p2 + (p3.len : Int))) then IntKind.wrap .i64 ((IntKind.wrap .i64 ((IntKind.wrap .i64 (r12 + x16)) + 1)) * 64) else IntKind.wrap .i64 (p2 + (p3.len : Int))))) none) (.one .slc) (fun x24 =>
 semQ Tryz.prog C (Instr.sliceAt 22 (.slice p3.a p3.len p3.cap) (some (.int .i64 (IntKind.wrap .i64 ((if (IntKind.wrap .i64 ((IntKind.wrap .i64 (r12 + x16)) * 64)) > p2 then IntKind.wrap .i64 ((IntKind.wrap .i64 (r12 + x16)) * 64) else p2) - p2)))) none none) (.one .slc) (fun x25 =>
 semS Tryz.prog (Builtin.copy_ #[22, 22] 3 #[(.slice x24.a x24.len x24.cap), (.slice x25.a x25.len x25.cap)]) (.one (.int .i64)) (fun r26 w =>
 again17 (IntKind.wrap .i64 (x16 + 1)) w) w))))
 (again17 (IntKind.wrap .i64 (x16 + 1)) w)) w) w) w)
 (nilS p0 fun a27 =>
 semU Tryz.prog (Instr.storeAt 4 (.pointer (some (a27.add 4))) (.bool true)) (fun w =>
 K 42 w) w)) 0 w) w) w)) w)) w
theorem f27_ok {p0 : Option Addr} {p1 : ByteArray} {p2 : Int} {p3 : Sl} {K : Int → World → Prop} {w : World} (h : f27 p0 p1 p2 p3 K w) : callS Tryz.prog 27 #[(.pointer p0), (.string p1), (.int .i64 p2), (.slice p3.a p3.len p3.cap)] [(.one (.int .i64))] K w :=
 calls_of_fn (args := [(.pointer p0), (.string p1), (.int .i64 p2), (.slice p3.a p3.len p3.cap)]) Tryz.f27 [] [] [] (.two .nil (.two .nil (.two .nil (.two .nil (.two .nil (.two (.two .nil (.one (.loop [(64, (.int .i64))] (.two .nil (.two .nil (.two (.one (.two .nil (.two .nil (.two (.two .nil (.draw [0, 1, 3, 7, 0, 0, 63, 0, 0, 0, 768, 1920, 4095])) .nil)))) .nil)))))) .nil)))))) (by kernel_rfl) (by kernel_rfl)
 (Eq.mp (by kernel_rfl) h)

/-- sallyport/sallyportlaw17.made -/
def f7 (p0_0 : Int) (p0_1 : Int) (p0_2 : Int) (p0_3 : Sl) (p0_4 : Sl) (K : (Option Addr) → Int → Int → Int → Int → Int → Int → ByteArray → Sl → Sl → Sl → Sl → World → Prop) (w : World) : Prop :=
 semS Tryz.prog (Instr.box 24 (.agg #[(.int .i64 p0_0), (.int .i64 p0_1), (.int .i64 p0_2), (.slice p0_3.a p0_3.len p0_3.cap), (.slice p0_4.a p0_4.len p0_4.cap)])) (.one .adr) (fun x1 w =>
 semS Tryz.prog (Instr.alloc 29 true (.tuple #[])) (.one .adr) (fun x2 w =>
 semS Tryz.prog (Instr.loadAt 3 (.pointer (some (x1.add 0)))) (.one (.int .i64)) (fun x3 w =>
 semS Tryz.prog (Instr.loadAt 22 (.pointer (some (x1.add 3)))) (.one .slc) (fun x4 w =>
 semS Tryz.prog (Instr.loadAt 3 (.pointer (some (x1.add 1)))) (.one (.int .i64)) (fun x5 w =>
 semS Tryz.prog (Instr.loadAt 22 (.pointer (some (x1.add 4)))) (.one .slc) (fun x6 w =>
 callS Tryz.prog 25 #[(.int .i64 x3), (.slice x4.a x4.len x4.cap), (.int .i64 x5), (.slice x6.a x6.len x6.cap)] [(.one .slc), (.one .slc), (.one (.int .i64))] (fun r7 r8 r9 w =>
 cond (r9 != 0)
 (semU Tryz.prog (Instr.storeAt 29 (.pointer (some x2)) (.agg #[(.int .i64 0), (.int .i64 0), (.int .i64 0), (.int .i64 0), (.int .i64 0), (.int .i64 0), (.string ByteArray.empty), (.slice none 0 0), (.slice none 0 0), (.slice none 0 0), (.slice none 0 0)])) (fun w =>
 ∃ v10, (loadVar 29 x2).run Tryz.prog w = .ok v10 w ∧ decR [(.one .ptr), (.agg [(.int .i64), (.int .i64), (.int .i64), (.int .i64), (.int .i64), (.int .i64), .str, .slc, .slc, .slc, .slc])] (.tuple #[(.pointer none), v10]) K fun r => r w) w)
 (semS Tryz.prog (Instr.loadAt 22 (.pointer (some (x1.add 4)))) (.one .slc) (fun x11 w =>
 semS Tryz.prog (Instr.buildSlice 81 1 #[(0, (.agg #[(.string (ByteArray.mk #[112])), (.int .i64 (IntKind.wrap .i64 ((IntKind.wrap .i64 (Int.tdiv (IntKind.wrap .i64 ((IntKind.wrap .i64 ((IntKind.wrap .i64 ((IntKind.wrap .i64 (Int.tdiv (IntKind.wrap .i64 ((x11.len : Int) + 63)) 64)) * 64)) + (r7.len : Int))) + 127)) 64)) * 64)))]))]) (.one .slc) (fun x12 w =>
 callS Tryz.prog 26 #[(.slice x12.a x12.len x12.cap)] [(.one .ptr), (.one (.int .i64))] (fun r13 r14 w =>
 cond (r14 != 0)
 (semU Tryz.prog (Instr.storeAt 29 (.pointer (some x2)) (.agg #[(.int .i64 0), (.int .i64 0), (.int .i64 0), (.int .i64 0), (.int .i64 0), (.int .i64 0), (.string ByteArray.empty), (.slice none 0 0), (.slice none 0 0), (.slice none 0 0), (.slice none 0 0)])) (fun w =>
 ∃ v15, (loadVar 29 x2).run Tryz.prog w = .ok v15 w ∧ decR [(.one .ptr), (.agg [(.int .i64), (.int .i64), (.int .i64), (.int .i64), (.int .i64), (.int .i64), .str, .slc, .slc, .slc, .slc])] (.tuple #[(.pointer none), v15]) K fun r => r w) w)
 (semS Tryz.prog (Instr.loadAt 22 (.pointer (some (x1.add 4)))) (.one .slc) (fun x16 w =>
 callS Tryz.prog 27 #[(.pointer r13), (.string (ByteArray.mk #[112])), (.int .i64 0), (.slice x16.a x16.len x16.cap)] [(.one (.int .i64))] (fun r17 w =>
 callS Tryz.prog 27 #[(.pointer r13), (.string (ByteArray.mk #[112])), (.int .i64 (IntKind.wrap .i64 ((IntKind.wrap .i64 (Int.tdiv (IntKind.wrap .i64 ((x11.len : Int) + 63)) 64)) * 64))), (.slice r7.a r7.len r7.cap)] [(.one (.int .i64))] (fun r18 w =>
 drawS w fun C w =>
 semQ Tryz.prog C (Instr.loadAt 3 (.pointer (some (x1.add 0)))) (.one (.int .i64)) (fun x19 =>
 semQ Tryz.prog C (Instr.loadAt 22 (.pointer (some (x1.add 4)))) (.one .slc) (fun x20 =>
 semQ Tryz.prog C (Instr.loadAt 3 (.pointer (some (x1.add 1)))) (.one (.int .i64)) (fun x21 =>
 semQ Tryz.prog C (Instr.loadAt 22 (.pointer (some (x1.add 3)))) (.one .slc) (fun x22 =>
 semU Tryz.prog (Instr.storeAt 29 (.pointer (some x2)) (.agg #[(.int .i64 1), (.int .i64 x19), (.int .i64 (x20.len : Int)), (.int .i64 x21), (.int .i64 (IntKind.wrap .i64 ((IntKind.wrap .i64 (Int.tdiv (IntKind.wrap .i64 ((x11.len : Int) + 63)) 64)) * 64))), (.int .i64 0), (.string (ByteArray.mk #[112])), (.slice x22.a x22.len x22.cap), (.slice r8.a r8.len r8.cap), (.slice none 0 0), (.slice none 0 0)])) (fun w =>
 ∃ v23, (loadVar 29 x2).run Tryz.prog w = .ok v23 w ∧ decR [(.one .ptr), (.agg [(.int .i64), (.int .i64), (.int .i64), (.int .i64), (.int .i64), (.int .i64), .str, .slc, .slc, .slc, .slc])] (.tuple #[(.pointer r13), v23]) K fun r => r w) w))))) w) w) w)) w) w) w)) w) w) w) w) w) w) w
theorem f7_ok {p0_0 : Int} {p0_1 : Int} {p0_2 : Int} {p0_3 : Sl} {p0_4 : Sl} {K : (Option Addr) → Int → Int → Int → Int → Int → Int → ByteArray → Sl → Sl → Sl → Sl → World → Prop} {w : World} (h : f7 p0_0 p0_1 p0_2 p0_3 p0_4 K w) : callS Tryz.prog 7 #[(.agg #[(.int .i64 p0_0), (.int .i64 p0_1), (.int .i64 p0_2), (.slice p0_3.a p0_3.len p0_3.cap), (.slice p0_4.a p0_4.len p0_4.cap)])] [(.one .ptr), (.agg [(.int .i64), (.int .i64), (.int .i64), (.int .i64), (.int .i64), (.int .i64), .str, .slc, .slc, .slc, .slc])] K w :=
 calls_of_fn (args := [(.agg #[(.int .i64 p0_0), (.int .i64 p0_1), (.int .i64 p0_2), (.slice p0_3.a p0_3.len p0_3.cap), (.slice p0_4.a p0_4.len p0_4.cap)])]) Tryz.f7 [] [] [] (.two .nil (.two .nil (.two .nil (.two .nil (.two .nil (.two .nil (.two .nil (.two .nil (.two (.draw [0, 0, 2, 0, 8, 24, 0, 64, 0, 0, 512, 0, 4094, 1, 16383]) .nil))))))))) (by kernel_rfl) (by kernel_rfl)
 (Eq.mp (by kernel_rfl) h)

/-- (sallyport/descr.Descr).bare -/
def f61 (p0_0 : Int) (p0_1 : Int) (p0_2 : Int) (p0_3 : Int) (p0_4 : Int) (p0_5 : Int) (p0_6 : ByteArray) (p0_7 : Sl) (p0_8 : Sl) (p0_9 : Sl) (p0_10 : Sl) (K : Int → Int → Int → Int → Int → Int → ByteArray → Sl → Sl → Sl → Sl → World → Prop) (w : World) : Prop :=
 semS Tryz.prog (Instr.box 29 (.agg #[(.int .i64 p0_0), (.int .i64 p0_1), (.int .i64 p0_2), (.int .i64 p0_3), (.int .i64 p0_4), (.int .i64 p0_5), (.string p0_6), (.slice p0_7.a p0_7.len p0_7.cap), (.slice p0_8.a p0_8.len p0_8.cap), (.slice p0_9.a p0_9.len p0_9.cap), (.slice p0_10.a p0_10.len p0_10.cap)])) (.one .adr) (fun x1 w =>
 semS Tryz.prog (Instr.alloc 29 true (.tuple #[])) (.one .adr) (fun x2 w =>
 semS Tryz.prog (Instr.loadAt 3 (.pointer (some (x1.add 0)))) (.one (.int .i64)) (fun x3 w =>
 joinS (σ := Unit) (fun _ w =>
 semU Tryz.prog (Instr.storeAt 3 (.pointer (some (x1.add 1))) (.int .i64 0)) (fun w =>
 semU Tryz.prog (Instr.storeAt 3 (.pointer (some (x1.add 2))) (.int .i64 0)) (fun w =>
 semU Tryz.prog (Instr.storeAt 9 (.pointer (some (x1.add 6))) (.string (ByteArray.mk #[]))) (fun w =>
 semU Tryz.prog (Instr.storeAt 22 (.pointer (some (x1.add 7))) (.slice none 0 0)) (fun w =>
 semU Tryz.prog (Instr.storeAt 22 (.pointer (some (x1.add 8))) (.slice none 0 0)) (fun w =>
 semS Tryz.prog (Instr.loadAt 29 (.pointer (some x1))) (.agg [(.int .i64), (.int .i64), (.int .i64), (.int .i64), (.int .i64), (.int .i64), .str, .slc, .slc, .slc, .slc]) (fun x5 x6 x7 x8 x9 x10 x11 x12 x13 x14 x15 w =>
 semU Tryz.prog (Instr.storeAt 29 (.pointer (some x2)) (.agg #[(.int .i64 x5), (.int .i64 x6), (.int .i64 x7), (.int .i64 x8), (.int .i64 x9), (.int .i64 x10), (.string x11), (.slice x12.a x12.len x12.cap), (.slice x13.a x13.len x13.cap), (.slice x14.a x14.len x14.cap), (.slice x15.a x15.len x15.cap)])) (fun w =>
 ∃ v16, (loadVar 29 x2).run Tryz.prog w = .ok v16 w ∧ decR [(.agg [(.int .i64), (.int .i64), (.int .i64), (.int .i64), (.int .i64), (.int .i64), .str, .slc, .slc, .slc, .slc])] v16 K fun r => r w) w) w) w) w) w) w) w) fun J4 =>
 cond (x3 == 0)
 (semU Tryz.prog (Instr.storeAt 9 (.pointer (some (x1.add 6))) (.string (ByteArray.mk #[]))) (fun w =>
 semU Tryz.prog (Instr.storeAt 22 (.pointer (some (x1.add 10))) (.slice none 0 0)) (fun w =>
 semS Tryz.prog (Instr.loadAt 29 (.pointer (some x1))) (.agg [(.int .i64), (.int .i64), (.int .i64), (.int .i64), (.int .i64), (.int .i64), .str, .slc, .slc, .slc, .slc]) (fun x17 x18 x19 x20 x21 x22 x23 x24 x25 x26 x27 w =>
 semU Tryz.prog (Instr.storeAt 29 (.pointer (some x2)) (.agg #[(.int .i64 x17), (.int .i64 x18), (.int .i64 x19), (.int .i64 x20), (.int .i64 x21), (.int .i64 x22), (.string x23), (.slice x24.a x24.len x24.cap), (.slice x25.a x25.len x25.cap), (.slice x26.a x26.len x26.cap), (.slice x27.a x27.len x27.cap)])) (fun w =>
 ∃ v28, (loadVar 29 x2).run Tryz.prog w = .ok v28 w ∧ decR [(.agg [(.int .i64), (.int .i64), (.int .i64), (.int .i64), (.int .i64), (.int .i64), .str, .slc, .slc, .slc, .slc])] v28 K fun r => r w) w) w) w) w)
 (cond (x3 == 1)
 (semU Tryz.prog (Instr.storeAt 3 (.pointer (some (x1.add 3))) (.int .i64 0)) (fun w =>
 semU Tryz.prog (Instr.storeAt 3 (.pointer (some (x1.add 4))) (.int .i64 0)) (fun w =>
 J4 () w) w) w)
 (cond (x3 == 2)
 (J4 () w)
 (cond (x3 == 3)
 (semU Tryz.prog (Instr.storeAt 22 (.pointer (some (x1.add 10))) (.slice none 0 0)) (fun w =>
 semS Tryz.prog (Instr.loadAt 29 (.pointer (some x1))) (.agg [(.int .i64), (.int .i64), (.int .i64), (.int .i64), (.int .i64), (.int .i64), .str, .slc, .slc, .slc, .slc]) (fun x29 x30 x31 x32 x33 x34 x35 x36 x37 x38 x39 w =>
 semU Tryz.prog (Instr.storeAt 29 (.pointer (some x2)) (.agg #[(.int .i64 x29), (.int .i64 x30), (.int .i64 x31), (.int .i64 x32), (.int .i64 x33), (.int .i64 x34), (.string x35), (.slice x36.a x36.len x36.cap), (.slice x37.a x37.len x37.cap), (.slice x38.a x38.len x38.cap), (.slice x39.a x39.len x39.cap)])) (fun w =>
 ∃ v40, (loadVar 29 x2).run Tryz.prog w = .ok v40 w ∧ decR [(.agg [(.int .i64), (.int .i64), (.int .i64), (.int .i64), (.int .i64), (.int .i64), .str, .slc, .slc, .slc, .slc])] v40 K fun r => r w) w) w) w)
 (cond (x3 == 4)
 (semU Tryz.prog (Instr.storeAt 3 (.pointer (some (x1.add 5))) (.int .i64 0)) (fun w =>
 semU Tryz.prog (Instr.storeAt 9 (.pointer (some (x1.add 6))) (.string (ByteArray.mk #[]))) (fun w =>
 semU Tryz.prog (Instr.storeAt 22 (.pointer (some (x1.add 9))) (.slice none 0 0)) (fun w =>
 semS Tryz.prog (Instr.loadAt 29 (.pointer (some x1))) (.agg [(.int .i64), (.int .i64), (.int .i64), (.int .i64), (.int .i64), (.int .i64), .str, .slc, .slc, .slc, .slc]) (fun x41 x42 x43 x44 x45 x46 x47 x48 x49 x50 x51 w =>
 semU Tryz.prog (Instr.storeAt 29 (.pointer (some x2)) (.agg #[(.int .i64 x41), (.int .i64 x42), (.int .i64 x43), (.int .i64 x44), (.int .i64 x45), (.int .i64 x46), (.string x47), (.slice x48.a x48.len x48.cap), (.slice x49.a x49.len x49.cap), (.slice x50.a x50.len x50.cap), (.slice x51.a x51.len x51.cap)])) (fun w =>
 ∃ v52, (loadVar 29 x2).run Tryz.prog w = .ok v52 w ∧ decR [(.agg [(.int .i64), (.int .i64), (.int .i64), (.int .i64), (.int .i64), (.int .i64), .str, .slc, .slc, .slc, .slc])] v52 K fun r => r w) w) w) w) w) w)
 (semS Tryz.prog (Instr.loadAt 29 (.pointer (some x1))) (.agg [(.int .i64), (.int .i64), (.int .i64), (.int .i64), (.int .i64), (.int .i64), .str, .slc, .slc, .slc, .slc]) (fun x53 x54 x55 x56 x57 x58 x59 x60 x61 x62 x63 w =>
 semU Tryz.prog (Instr.storeAt 29 (.pointer (some x2)) (.agg #[(.int .i64 x53), (.int .i64 x54), (.int .i64 x55), (.int .i64 x56), (.int .i64 x57), (.int .i64 x58), (.string x59), (.slice x60.a x60.len x60.cap), (.slice x61.a x61.len x61.cap), (.slice x62.a x62.len x62.cap), (.slice x63.a x63.len x63.cap)])) (fun w =>
 ∃ v64, (loadVar 29 x2).run Tryz.prog w = .ok v64 w ∧ decR [(.agg [(.int .i64), (.int .i64), (.int .i64), (.int .i64), (.int .i64), (.int .i64), .str, .slc, .slc, .slc, .slc])] v64 K fun r => r w) w) w)))))) w) w) w
theorem f61_ok {p0_0 : Int} {p0_1 : Int} {p0_2 : Int} {p0_3 : Int} {p0_4 : Int} {p0_5 : Int} {p0_6 : ByteArray} {p0_7 : Sl} {p0_8 : Sl} {p0_9 : Sl} {p0_10 : Sl} {K : Int → Int → Int → Int → Int → Int → ByteArray → Sl → Sl → Sl → Sl → World → Prop} {w : World} (h : f61 p0_0 p0_1 p0_2 p0_3 p0_4 p0_5 p0_6 p0_7 p0_8 p0_9 p0_10 K w) : callS Tryz.prog 61 #[(.agg #[(.int .i64 p0_0), (.int .i64 p0_1), (.int .i64 p0_2), (.int .i64 p0_3), (.int .i64 p0_4), (.int .i64 p0_5), (.string p0_6), (.slice p0_7.a p0_7.len p0_7.cap), (.slice p0_8.a p0_8.len p0_8.cap), (.slice p0_9.a p0_9.len p0_9.cap), (.slice p0_10.a p0_10.len p0_10.cap)])] [(.agg [(.int .i64), (.int .i64), (.int .i64), (.int .i64), (.int .i64), (.int .i64), .str, .slc, .slc, .slc, .slc])] K w :=
 calls_of_fn (args := [(.agg #[(.int .i64 p0_0), (.int .i64 p0_1), (.int .i64 p0_2), (.int .i64 p0_3), (.int .i64 p0_4), (.int .i64 p0_5), (.string p0_6), (.slice p0_7.a p0_7.len p0_7.cap), (.slice p0_8.a p0_8.len p0_8.cap), (.slice p0_9.a p0_9.len p0_9.cap), (.slice p0_10.a p0_10.len p0_10.cap)])]) Tryz.f61 [] [] [] (.two .nil (.two (.two .nil (.one (.two (.one (.two (.one (.join [] .nil .nil)) .nil)) .nil))) .nil)) (by kernel_rfl) (by kernel_rfl)
 (Eq.mp (by kernel_rfl) h)

/-- (sallyport/descr.Descr).nothing -/
def f62 (p0_0 : Int) (p0_1 : Int) (p0_2 : Int) (p0_3 : Int) (p0_4 : Int) (p0_5 : Int) (p0_6 : ByteArray) (p0_7 : Sl) (p0_8 : Sl) (p0_9 : Sl) (p0_10 : Sl) (K : Bool → World → Prop) (w : World) : Prop :=
 semS Tryz.prog (Instr.box 29 (.agg #[(.int .i64 p0_0), (.int .i64 p0_1), (.int .i64 p0_2), (.int .i64 p0_3), (.int .i64 p0_4), (.int .i64 p0_5), (.string p0_6), (.slice p0_7.a p0_7.len p0_7.cap), (.slice p0_8.a p0_8.len p0_8.cap), (.slice p0_9.a p0_9.len p0_9.cap), (.slice p0_10.a p0_10.len p0_10.cap)])) (.one .adr) (fun x1 w =>
 semS Tryz.prog (Instr.loadAt 3 (.pointer (some (x1.add 1)))) (.one (.int .i64)) (fun x2 w =>
 joinS (σ := Bool) (fun b3 w =>
 joinS (σ := Bool) (fun b5 w =>
 joinS (σ := Bool) (fun b7 w =>
 joinS (σ := Bool) (fun b9 w =>
 joinS (σ := Bool) (fun b11 w =>
 joinS (σ := Bool) (fun b13 w =>
 K b13 w) fun J14 =>
 cond b11
 (semS Tryz.prog (Instr.loadAt 22 (.pointer (some (x1.add 7)))) (.one .slc) (fun x15 w =>
 semS Tryz.prog (Instr.loadAt 22 (.pointer (some (x1.add 8)))) (.one .slc) (fun x16 w =>
 semS Tryz.prog (Instr.loadAt 22 (.pointer (some (x1.add 9)))) (.one .slc) (fun x17 w =>
 semS Tryz.prog (Instr.loadAt 22 (.pointer (some (x1.add 10)))) (.one .slc) (fun x18 w =>
 J14 ((IntKind.wrap .i64 ((IntKind.wrap .i64 ((IntKind.wrap .i64 ((x15.len : Int) + (x16.len : Int))) + (x17.len : Int))) + (x18.len : Int))) == 0) w) w) w) w) w)
 (J14 false w)) fun J12 =>
 cond b9
 (semS Tryz.prog (Instr.loadAt 9 (.pointer (some (x1.add 6)))) (.one .str) (fun x19 w =>
 J12 (x19.toList == (ByteArray.mk #[]).toList) w) w)
 (J12 false w)) fun J10 =>
 cond b7
 (semS Tryz.prog (Instr.loadAt 3 (.pointer (some (x1.add 5)))) (.one (.int .i64)) (fun x20 w =>
 J10 (x20 == 0) w) w)
 (J10 false w)) fun J8 =>
 cond b5
 (semS Tryz.prog (Instr.loadAt 3 (.pointer (some (x1.add 4)))) (.one (.int .i64)) (fun x21 w =>
 J8 (x21 == 0) w) w)
 (J8 false w)) fun J6 =>
 cond b3
 (semS Tryz.prog (Instr.loadAt 3 (.pointer (some (x1.add 3)))) (.one (.int .i64)) (fun x22 w =>
 J6 (x22 == 0) w) w)
 (J6 false w)) fun J4 =>
 cond (x2 == 0)
 (semS Tryz.prog (Instr.loadAt 3 (.pointer (some (x1.add 2)))) (.one (.int .i64)) (fun x23 w =>
 J4 (x23 == 0) w) w)
 (J4 false w)) w) w
theorem f62_ok {p0_0 : Int} {p0_1 : Int} {p0_2 : Int} {p0_3 : Int} {p0_4 : Int} {p0_5 : Int} {p0_6 : ByteArray} {p0_7 : Sl} {p0_8 : Sl} {p0_9 : Sl} {p0_10 : Sl} {K : Bool → World → Prop} {w : World} (h : f62 p0_0 p0_1 p0_2 p0_3 p0_4 p0_5 p0_6 p0_7 p0_8 p0_9 p0_10 K w) : callS Tryz.prog 62 #[(.agg #[(.int .i64 p0_0), (.int .i64 p0_1), (.int .i64 p0_2), (.int .i64 p0_3), (.int .i64 p0_4), (.int .i64 p0_5), (.string p0_6), (.slice p0_7.a p0_7.len p0_7.cap), (.slice p0_8.a p0_8.len p0_8.cap), (.slice p0_9.a p0_9.len p0_9.cap), (.slice p0_10.a p0_10.len p0_10.cap)])] [(.one .bool)] K w :=
 calls_of_fn (args := [(.agg #[(.int .i64 p0_0), (.int .i64 p0_1), (.int .i64 p0_2), (.int .i64 p0_3), (.int .i64 p0_4), (.int .i64 p0_5), (.string p0_6), (.slice p0_7.a p0_7.len p0_7.cap), (.slice p0_8.a p0_8.len p0_8.cap), (.slice p0_9.a p0_9.len p0_9.cap), (.slice p0_10.a p0_10.len p0_10.cap)])]) Tryz.f62 [] [] [] .nil (by kernel_rfl) (by kernel_rfl)
 (Eq.mp (by kernel_rfl) h)

/-- sallyport/descr.named$1 -/
def f86 (p0 : Int) (K : Bool → World → Prop) (w : World) : Prop :=
 K (!((((decide (p0 ≥ 97)) && (decide (p0 ≤ 122))) || ((decide (p0 ≥ 48)) && (decide (p0 ≤ 57)))) || (p0 == 95))) w
theorem f86_ok {p0 : Int} {K : Bool → World → Prop} {w : World} (h : f86 p0 K w) : callS Tryz.prog 86 #[(.int .i32 p0)] [(.one .bool)] K w :=
 calls_of_fn (args := [(.int .i32 p0)]) Tryz.f86 [] [] [] .nil (by kernel_rfl) (by kernel_rfl)
 (Eq.mp (by kernel_rfl) h)

/-- sallyport/descr.named -/
def f63 (p0 : ByteArray) (K : Bool → World → Prop) (w : World) : Prop :=
 joinS (σ := Bool) (fun b1 w =>
 K b1 w) fun J2 =>
 cond ((!(p0.toList == (ByteArray.mk #[]).toList)) && (decide ((p0.size : Int) ≤ 24)))
 (callS Tryz.prog 84 #[(.string p0), (.func (.func 86) #[] #[])] [(.one .bool)] (fun r3 w =>
 J2 (!r3) w) w)
 (J2 false w)
theorem f63_ok {p0 : ByteArray} {K : Bool → World → Prop} {w : World} (h : f63 p0 K w) : callS Tryz.prog 63 #[(.string p0)] [(.one .bool)] K w :=
 calls_of_fn (args := [(.string p0)]) Tryz.f63 [] [] [] .nil (by kernel_rfl) (by kernel_rfl)
 (Eq.mp (by kernel_rfl) h)

/-- (sallyport/descr.Descr).digest -/
def f64 (p0_0 : Int) (p0_1 : Int) (p0_2 : Int) (p0_3 : Int) (p0_4 : Int) (p0_5 : Int) (p0_6 : ByteArray) (p0_7 : Sl) (p0_8 : Sl) (p0_9 : Sl) (p0_10 : Sl) (K : Bool → World → Prop) (w : World) : Prop :=
 semS Tryz.prog (Instr.box 29 (.agg #[(.int .i64 p0_0), (.int .i64 p0_1), (.int .i64 p0_2), (.int .i64 p0_3), (.int .i64 p0_4), (.int .i64 p0_5), (.string p0_6), (.slice p0_7.a p0_7.len p0_7.cap), (.slice p0_8.a p0_8.len p0_8.cap), (.slice p0_9.a p0_9.len p0_9.cap), (.slice p0_10.a p0_10.len p0_10.cap)])) (.one .adr) (fun x1 w =>
 drawS w fun C w =>
 semQ Tryz.prog C (Instr.loadAt 3 (.pointer (some (x1.add 1)))) (.one (.int .i64)) (fun x2 =>
 callS Tryz.prog 30 #[(.int .i64 x2)] [(.one (.int .i64))] (fun r3 w =>
 moreS C w (fun C =>
 cond (r3 != 0)
 (semQ Tryz.prog C (Instr.loadAt 22 (.pointer (some (x1.add 8)))) (.one .slc) (fun x4 =>
 semQ Tryz.prog C (Instr.loadAt 3 (.pointer (some (x1.add 1)))) (.one (.int .i64)) (fun x5 =>
 callS Tryz.prog 30 #[(.int .i64 x5)] [(.one (.int .i64))] (fun r6 w =>
 moreS C w (fun C =>
 cond ((x4.len : Int) == r6)
 (semQ Tryz.prog C (Instr.loadAt 22 (.pointer (some (x1.add 7)))) (.one .slc) (fun x7 =>
 K (decide ((x7.len : Int) ≤ 64)) w))
 (K false w))) w)))
 (K false w))) w)) w
theorem f64_ok {p0_0 : Int} {p0_1 : Int} {p0_2 : Int} {p0_3 : Int} {p0_4 : Int} {p0_5 : Int} {p0_6 : ByteArray} {p0_7 : Sl} {p0_8 : Sl} {p0_9 : Sl} {p0_10 : Sl} {K : Bool → World → Prop} {w : World} (h : f64 p0_0 p0_1 p0_2 p0_3 p0_4 p0_5 p0_6 p0_7 p0_8 p0_9 p0_10 K w) : callS Tryz.prog 64 #[(.agg #[(.int .i64 p0_0), (.int .i64 p0_1), (.int .i64 p0_2), (.int .i64 p0_3), (.int .i64 p0_4), (.int .i64 p0_5), (.string p0_6), (.slice p0_7.a p0_7.len p0_7.cap), (.slice p0_8.a p0_8.len p0_8.cap), (.slice p0_9.a p0_9.len p0_9.cap), (.slice p0_10.a p0_10.len p0_10.cap)])] [(.one .bool)] K w :=
 calls_of_fn (args := [(.agg #[(.int .i64 p0_0), (.int .i64 p0_1), (.int .i64 p0_2), (.int .i64 p0_3), (.int .i64 p0_4), (.int .i64 p0_5), (.string p0_6), (.slice p0_7.a p0_7.len p0_7.cap), (.slice p0_8.a p0_8.len p0_8.cap), (.slice p0_9.a p0_9.len p0_9.cap), (.slice p0_10.a p0_10.len p0_10.cap)])]) Tryz.f64 [] [] [] (.two .nil (.two (.draw [0, 1, 3, 7, 15, 31, 63, 127, 31, 287, 799, 2047, 4095, 8191, 16383, 32767, 65535, 131071, 262143, 524287]) .nil)) (by kernel_rfl) (by kernel_rfl)
 (Eq.mp (by kernel_rfl) h)

def f28_t1 (x1 : Addr) (K : Bool → World → Prop) (z19 : Addr) (w : World) : Prop :=
 semS Tryz.prog (Instr.loadAt 29 (.pointer (some x1))) (.agg [(.int .i64), (.int .i64), (.int .i64), (.int .i64), (.int .i64), (.int .i64), .str, .slc, .slc, .slc, .slc]) (fun x20 x21 x22 x23 x24 x25 x26 x27 x28 x29 x30 w =>
 callS Tryz.prog 64 #[(.agg #[(.int .i64 x20), (.int .i64 x21), (.int .i64 x22), (.int .i64 x23), (.int .i64 x24), (.int .i64 x25), (.string x26), (.slice x27.a x27.len x27.cap), (.slice x28.a x28.len x28.cap), (.slice x29.a x29.len x29.cap), (.slice x30.a x30.len x30.cap)])] [(.one .bool)] (fun r31 w =>
 joinS (σ := Bool) (fun b32 w =>
 joinS (σ := Bool) (fun b34 w =>
 joinS (σ := Bool) (fun b36 w =>
 K b36 w) fun J37 =>
 cond b34
 (semS Tryz.prog (Instr.loadAt 3 (.pointer (some (x1.add 4)))) (.one (.int .i64)) (fun x38 w =>
 J37 (decide (x38 ≤ 1099511627776)) w) w)
 (J37 false w)) fun J35 =>
 cond b32
 (semS Tryz.prog (Instr.loadAt 3 (.pointer (some (x1.add 4)))) (.one (.int .i64)) (fun x39 w =>
 semS Tryz.prog (Instr.loadAt 3 (.pointer (some (x1.add 2)))) (.one (.int .i64)) (fun x40 w =>
 J35 (decide (x39 ≥ x40)) w) w) w)
 (J35 false w)) fun J33 =>
 cond r31
 (semS Tryz.prog (Instr.loadAt 72 (.pointer (some z19))) (.agg [(.int .i64), (.int .i64), (.int .i64)]) (fun x41 x42 x43 w =>
 callS Tryz.prog 65 #[(.agg #[(.int .i64 x41), (.int .i64 x42), (.int .i64 x43)])] [(.one .bool)] (fun r44 w =>
 J33 r44 w) w) w)
 (J33 false w)) w) w

/-- (sallyport/descr.Descr).Right -/
def f28 (p0_0 : Int) (p0_1 : Int) (p0_2 : Int) (p0_3 : Int) (p0_4 : Int) (p0_5 : Int) (p0_6 : ByteArray) (p0_7 : Sl) (p0_8 : Sl) (p0_9 : Sl) (p0_10 : Sl) (K : Bool → World → Prop) (w : World) : Prop :=
 semS Tryz.prog (Instr.box 29 (.agg #[(.int .i64 p0_0), (.int .i64 p0_1), (.int .i64 p0_2), (.int .i64 p0_3), (.int .i64 p0_4), (.int .i64 p0_5), (.string p0_6), (.slice p0_7.a p0_7.len p0_7.cap), (.slice p0_8.a p0_8.len p0_8.cap), (.slice p0_9.a p0_9.len p0_9.cap), (.slice p0_10.a p0_10.len p0_10.cap)])) (.one .adr) (fun x1 w =>
 semS Tryz.prog (Instr.loadAt 3 (.pointer (some (x1.add 0)))) (.one (.int .i64)) (fun x2 w =>
 joinS (σ := Bool) (fun b3 w =>
 joinS (σ := Bool) (fun b5 w =>
 joinS (σ := Bool) (fun b7 w =>
 joinS (σ := Bool) (fun b9 w =>
 cond b9
 (K false w)
 (semS Tryz.prog (Instr.loadAt 3 (.pointer (some (x1.add 0)))) (.one (.int .i64)) (fun x11 w =>
 cond (x11 == 1)
 (drawS w fun C w =>
 semQ Tryz.prog C (Instr.loadAt 3 (.pointer (some (x1.add 2)))) (.one (.int .i64)) (fun x12 =>
 semQ Tryz.prog C (Instr.loadAt 3 (.pointer (some (x1.add 3)))) (.one (.int .i64)) (fun x13 =>
 semQ Tryz.prog C (Instr.loadAt 3 (.pointer (some (x1.add 1)))) (.one (.int .i64)) (fun x14 =>
 (callS Tryz.prog 30 #[(.int .i64 x14)] [(.one (.int .i64))] (fun r15 w =>
 moreS C w (fun C =>
 semS Tryz.prog (Instr.alloc 72 true (.tuple #[])) (.one .adr) (fun x16 w =>
 moreS C w (fun C =>
 semU Tryz.prog (Instr.storeAt 72 (.pointer (some x16)) (.agg #[(.int .i64 x12), (.int .i64 x13), (.int .i64 r15)])) (fun w =>
 f28_t1 x1 K x16 w) w)) w)) w) ∧
 (semS Tryz.prog (Instr.alloc 72 true (.tuple #[])) (.one .adr) (fun x17 w =>
 moreS C w (fun C =>
 callS Tryz.prog 30 #[(.int .i64 x14)] [(.one (.int .i64))] (fun r18 w =>
 moreS C w (fun C =>
 semU Tryz.prog (Instr.storeAt 72 (.pointer (some x17)) (.agg #[(.int .i64 x12), (.int .i64 x13), (.int .i64 r18)])) (fun w =>
 f28_t1 x1 K x17 w) w)) w)) w)))))
 (cond (x11 == 2)
 (semS Tryz.prog (Instr.loadAt 29 (.pointer (some x1))) (.agg [(.int .i64), (.int .i64), (.int .i64), (.int .i64), (.int .i64), (.int .i64), .str, .slc, .slc, .slc, .slc]) (fun x45 x46 x47 x48 x49 x50 x51 x52 x53 x54 x55 w =>
 callS Tryz.prog 64 #[(.agg #[(.int .i64 x45), (.int .i64 x46), (.int .i64 x47), (.int .i64 x48), (.int .i64 x49), (.int .i64 x50), (.string x51), (.slice x52.a x52.len x52.cap), (.slice x53.a x53.len x53.cap), (.slice x54.a x54.len x54.cap), (.slice x55.a x55.len x55.cap)])] [(.one .bool)] (fun r56 w =>
 joinS (σ := Bool) (fun b57 w =>
 joinS (σ := Bool) (fun b59 w =>
 K b59 w) fun J60 =>
 cond b57
 (semS Tryz.prog (Instr.loadAt 3 (.pointer (some (x1.add 2)))) (.one (.int .i64)) (fun x61 w =>
 J60 (decide (x61 ≤ 1099511627776)) w) w)
 (J60 false w)) fun J58 =>
 cond r56
 (semS Tryz.prog (Instr.loadAt 3 (.pointer (some (x1.add 2)))) (.one (.int .i64)) (fun x62 w =>
 J58 (decide (x62 ≥ 0)) w) w)
 (J58 false w)) w) w)
 (cond (x11 == 4)
 (semS Tryz.prog (Instr.loadAt 3 (.pointer (some (x1.add 5)))) (.one (.int .i64)) (fun x63 w =>
 joinS (σ := Bool) (fun b64 w =>
 joinS (σ := Bool) (fun b66 w =>
 joinS (σ := Bool) (fun b68 w =>
 K b68 w) fun J69 =>
 cond b66
 (semS Tryz.prog (Instr.loadAt 22 (.pointer (some (x1.add 9)))) (.one .slc) (fun x70 w =>
 J69 (decide ((x70.len : Int) ≤ 1032)) w) w)
 (J69 false w)) fun J67 =>
 cond b64
 (semS Tryz.prog (Instr.loadAt 22 (.pointer (some (x1.add 9)))) (.one .slc) (fun x71 w =>
 J67 (decide ((x71.len : Int) ≥ 1)) w) w)
 (J67 false w)) fun J65 =>
 cond (decide (x63 ≥ 1))
 (semS Tryz.prog (Instr.loadAt 3 (.pointer (some (x1.add 5)))) (.one (.int .i64)) (fun x72 w =>
 J65 (decide (x72 < 32)) w) w)
 (J65 false w)) w)
 (K true w)))) w)) fun J10 =>
 cond b7
 (J10 true w)
 (semS Tryz.prog (Instr.loadAt 22 (.pointer (some (x1.add 10)))) (.one .slc) (fun x73 w =>
 J10 (decide ((x73.len : Int) > 256)) w) w)) fun J8 =>
 cond b5
 (J8 true w)
 (semS Tryz.prog (Instr.loadAt 3 (.pointer (some (x1.add 0)))) (.one (.int .i64)) (fun x74 w =>
 joinS (σ := Bool) (fun b75 w =>
 J8 b75 w) fun J76 =>
 cond (x74 != 3)
 (semS Tryz.prog (Instr.loadAt 9 (.pointer (some (x1.add 6)))) (.one .str) (fun x77 w =>
 callS Tryz.prog 63 #[(.string x77)] [(.one .bool)] (fun r78 w =>
 J76 (!r78) w) w) w)
 (J76 false w)) w)) fun J6 =>
 cond b3
 (J6 true w)
 (semS Tryz.prog (Instr.loadAt 29 (.pointer (some x1))) (.agg [(.int .i64), (.int .i64), (.int .i64), (.int .i64), (.int .i64), (.int .i64), .str, .slc, .slc, .slc, .slc]) (fun x79 x80 x81 x82 x83 x84 x85 x86 x87 x88 x89 w =>
 callS Tryz.prog 61 #[(.agg #[(.int .i64 x79), (.int .i64 x80), (.int .i64 x81), (.int .i64 x82), (.int .i64 x83), (.int .i64 x84), (.string x85), (.slice x86.a x86.len x86.cap), (.slice x87.a x87.len x87.cap), (.slice x88.a x88.len x88.cap), (.slice x89.a x89.len x89.cap)])] [(.agg [(.int .i64), (.int .i64), (.int .i64), (.int .i64), (.int .i64), (.int .i64), .str, .slc, .slc, .slc, .slc])] (fun r90 r91 r92 r93 r94 r95 r96 r97 r98 r99 r100 w =>
 callS Tryz.prog 62 #[(.agg #[(.int .i64 r90), (.int .i64 r91), (.int .i64 r92), (.int .i64 r93), (.int .i64 r94), (.int .i64 r95), (.string r96), (.slice r97.a r97.len r97.cap), (.slice r98.a r98.len r98.cap), (.slice r99.a r99.len r99.cap), (.slice r100.a r100.len r100.cap)])] [(.one .bool)] (fun r101 w =>
 J6 (!r101) w) w) w) w)) fun J4 =>
 cond (decide (x2 < 0))
 (J4 true w)
 (semS Tryz.prog (Instr.loadAt 3 (.pointer (some (x1.add 0)))) (.one (.int .i64)) (fun x102 w =>
 J4 (decide (x102 > 4)) w) w)) w) w
theorem f28_ok {p0_0 : Int} {p0_1 : Int} {p0_2 : Int} {p0_3 : Int} {p0_4 : Int} {p0_5 : Int} {p0_6 : ByteArray} {p0_7 : Sl} {p0_8 : Sl} {p0_9 : Sl} {p0_10 : Sl} {K : Bool → World → Prop} {w : World} (h : f28 p0_0 p0_1 p0_2 p0_3 p0_4 p0_5 p0_6 p0_7 p0_8 p0_9 p0_10 K w) : callS Tryz.prog 28 #[(.agg #[(.int .i64 p0_0), (.int .i64 p0_1), (.int .i64 p0_2), (.int .i64 p0_3), (.int .i64 p0_4), (.int .i64 p0_5), (.string p0_6), (.slice p0_7.a p0_7.len p0_7.cap), (.slice p0_8.a p0_8.len p0_8.cap), (.slice p0_9.a p0_9.len p0_9.cap), (.slice p0_10.a p0_10.len p0_10.cap)])] [(.one .bool)] K w :=
 calls_of_fn (args := [(.agg #[(.int .i64 p0_0), (.int .i64 p0_1), (.int .i64 p0_2), (.int .i64 p0_3), (.int .i64 p0_4), (.int .i64 p0_5), (.string p0_6), (.slice p0_7.a p0_7.len p0_7.cap), (.slice p0_8.a p0_8.len p0_8.cap), (.slice p0_9.a p0_9.len p0_9.cap), (.slice p0_10.a p0_10.len p0_10.cap)])]) Tryz.f28 [] [] [] (.two .nil (.two .nil (.two (.two .nil (.one (.two .nil (.two (.two (.draw [0, 1, 0, 4, 0, 16, 48, 127, 0, 511]) .nil) .nil)))) .nil))) (by kernel_rfl) (by kernel_rfl)
 (Eq.mp (by kernel_rfl) h)

/-- sallyport/verity.Open -/
def f8 (p0 : Option Addr) (p1 : ByteArray) (p2_0 : Int) (p2_1 : Int) (p2_2 : Int) (p2_3 : Int) (p2_4 : Int) (p2_5 : Int) (p2_6 : ByteArray) (p2_7 : Sl) (p2_8 : Sl) (p2_9 : Sl) (p2_10 : Sl) (p3 : Int) (K : (Option Addr) → Int → World → Prop) (w : World) : Prop :=
 semS Tryz.prog (Instr.box 29 (.agg #[(.int .i64 p2_0), (.int .i64 p2_1), (.int .i64 p2_2), (.int .i64 p2_3), (.int .i64 p2_4), (.int .i64 p2_5), (.string p2_6), (.slice p2_7.a p2_7.len p2_7.cap), (.slice p2_8.a p2_8.len p2_8.cap), (.slice p2_9.a p2_9.len p2_9.cap), (.slice p2_10.a p2_10.len p2_10.cap)])) (.one .adr) (fun x1 w =>
 semS Tryz.prog (Instr.loadAt 29 (.pointer (some x1))) (.agg [(.int .i64), (.int .i64), (.int .i64), (.int .i64), (.int .i64), (.int .i64), .str, .slc, .slc, .slc, .slc]) (fun x2 x3 x4 x5 x6 x7 x8 x9 x10 x11 x12 w =>
 callS Tryz.prog 28 #[(.agg #[(.int .i64 x2), (.int .i64 x3), (.int .i64 x4), (.int .i64 x5), (.int .i64 x6), (.int .i64 x7), (.string x8), (.slice x9.a x9.len x9.cap), (.slice x10.a x10.len x10.cap), (.slice x11.a x11.len x11.cap), (.slice x12.a x12.len x12.cap)])] [(.one .bool)] (fun r13 w =>
 joinS (σ := Bool) (fun b14 w =>
 cond ((b14 || (decide (p3 < 0))) || (decide (p3 > 1)))
 (K none 12 w)
 (drawS w fun C w =>
 semQ Tryz.prog C (Instr.loadAt 22 (.pointer (some (x1.add 7)))) (.one .slc) (fun x16 =>
 semQ Tryz.prog C (Instr.loadAt 22 (.pointer (some (x1.add 8)))) (.one .slc) (fun x17 =>
 callS Tryz.prog 29 #[(.slice x16.a x16.len x16.cap)] [(.one .slc)] (fun r18 w =>
 moreS C w (fun C =>
 callS Tryz.prog 29 #[(.slice x17.a x17.len x17.cap)] [(.one .slc)] (fun r19 w =>
 semU Tryz.prog (Instr.storeAt 22 (.pointer (some (x1.add 7))) (.slice r18.a r18.len r18.cap)) (fun w =>
 semU Tryz.prog (Instr.storeAt 22 (.pointer (some (x1.add 8))) (.slice r19.a r19.len r19.cap)) (fun w =>
 drawS w fun C w =>
 semQ Tryz.prog C (Instr.loadAt 29 (.pointer (some x1))) (.agg [(.int .i64), (.int .i64), (.int .i64), (.int .i64), (.int .i64), (.int .i64), .str, .slc, .slc, .slc, .slc]) (fun x20 x21 x22 x23 x24 x25 x26 x27 x28 x29 x30 =>
 semQ Tryz.prog C (Instr.loadAt 3 (.pointer (some (x1.add 2)))) (.one (.int .i64)) (fun x31 =>
 semQ Tryz.prog C (Instr.loadAt 3 (.pointer (some (x1.add 3)))) (.one (.int .i64)) (fun x32 =>
 semQ Tryz.prog C (Instr.loadAt 3 (.pointer (some (x1.add 1)))) (.one (.int .i64)) (fun x33 =>
 (callS Tryz.prog 30 #[(.int .i64 x33)] [(.one (.int .i64))] (fun r34 w =>
 moreS C w (fun C =>
 semS Tryz.prog (Instr.makeMap 84 none) (.one .mp) (fun x35 w =>
 moreS C w (fun C =>
 semS Tryz.prog (Instr.box 86 (.agg #[(.pointer p0), (.string p1), (.int .i64 x20), (.int .i64 x21), (.int .i64 x22), (.int .i64 x23), (.int .i64 x24), (.int .i64 x25), (.string x26), (.slice x27.a x27.len x27.cap), (.slice x28.a x28.len x28.cap), (.slice x29.a x29.len x29.cap), (.slice x30.a x30.len x30.cap), (.int .i64 x31), (.int .i64 x32), (.int .i64 r34), (.int .i64 p3), (.map x35), (.slice none 0 0), (.bool false), (.slice none 0 0)])) (.one .adr) (fun x36 w =>
 K (some x36) 0 w) w)) w)) w) ∧
 (semS Tryz.prog (Instr.makeMap 84 none) (.one .mp) (fun x37 w =>
 moreS C w (fun C =>
 callS Tryz.prog 30 #[(.int .i64 x33)] [(.one (.int .i64))] (fun r38 w =>
 moreS C w (fun C =>
 semS Tryz.prog (Instr.box 86 (.agg #[(.pointer p0), (.string p1), (.int .i64 x20), (.int .i64 x21), (.int .i64 x22), (.int .i64 x23), (.int .i64 x24), (.int .i64 x25), (.string x26), (.slice x27.a x27.len x27.cap), (.slice x28.a x28.len x28.cap), (.slice x29.a x29.len x29.cap), (.slice x30.a x30.len x30.cap), (.int .i64 x31), (.int .i64 x32), (.int .i64 r38), (.int .i64 p3), (.map x37), (.slice none 0 0), (.bool false), (.slice none 0 0)])) (.one .adr) (fun x39 w =>
 K (some x39) 0 w) w)) w)) w)))))) w) w) w)) w)))) fun J15 =>
 cond (!r13)
 (J15 true w)
 (semS Tryz.prog (Instr.loadAt 3 (.pointer (some (x1.add 0)))) (.one (.int .i64)) (fun x41 w =>
 J15 (x41 != 1) w) w)) w) w) w
theorem f8_ok {p0 : Option Addr} {p1 : ByteArray} {p2_0 : Int} {p2_1 : Int} {p2_2 : Int} {p2_3 : Int} {p2_4 : Int} {p2_5 : Int} {p2_6 : ByteArray} {p2_7 : Sl} {p2_8 : Sl} {p2_9 : Sl} {p2_10 : Sl} {p3 : Int} {K : (Option Addr) → Int → World → Prop} {w : World} (h : f8 p0 p1 p2_0 p2_1 p2_2 p2_3 p2_4 p2_5 p2_6 p2_7 p2_8 p2_9 p2_10 p3 K w) : callS Tryz.prog 8 #[(.pointer p0), (.string p1), (.agg #[(.int .i64 p2_0), (.int .i64 p2_1), (.int .i64 p2_2), (.int .i64 p2_3), (.int .i64 p2_4), (.int .i64 p2_5), (.string p2_6), (.slice p2_7.a p2_7.len p2_7.cap), (.slice p2_8.a p2_8.len p2_8.cap), (.slice p2_9.a p2_9.len p2_9.cap), (.slice p2_10.a p2_10.len p2_10.cap)]), (.int .i64 p3)] [(.one .ptr), (.one (.int .i64))] K w :=
 calls_of_fn (args := [(.pointer p0), (.string p1), (.agg #[(.int .i64 p2_0), (.int .i64 p2_1), (.int .i64 p2_2), (.int .i64 p2_3), (.int .i64 p2_4), (.int .i64 p2_5), (.string p2_6), (.slice p2_7.a p2_7.len p2_7.cap), (.slice p2_8.a p2_8.len p2_8.cap), (.slice p2_9.a p2_9.len p2_9.cap), (.slice p2_10.a p2_10.len p2_10.cap)]), (.int .i64 p3)]) Tryz.f8 [] [] [] (.two .nil (.two .nil (.two (.draw [0, 1, 3, 0, 8, 31, 31, 127, 255, 511]) (.two (.draw [0, 0, 0, 0, 8, 0, 32, 0, 128, 384, 1016, 0, 0, 8191, 16383, 32767, 65535]) .nil)))) (by kernel_rfl) (by kernel_rfl)
 (Eq.mp (by kernel_rfl) h)

/-- (sallyport/place.Shape).arity -/
def f75 (p0_0 : Int) (p0_1 : Int) (p0_2 : Int) (K : Int → World → Prop) (w : World) : Prop :=
 semS Tryz.prog (Instr.box 72 (.agg #[(.int .i64 p0_0), (.int .i64 p0_1), (.int .i64 p0_2)])) (.one .adr) (fun x1 w =>
 semS Tryz.prog (Instr.loadAt 3 (.pointer (some (x1.add 1)))) (.one (.int .i64)) (fun x2 w =>
 semS Tryz.prog (Instr.loadAt 3 (.pointer (some (x1.add 2)))) (.one (.int .i64)) (fun x3 w =>
 semS Tryz.prog (binS .quo 3 (.tmp 4) (.tmp 6) (.int .i64 x2) (.int .i64 x3)) (.one (.int .i64)) (fun x4 w =>
 K x4 w) w) w) w) w
theorem f75_ok {p0_0 : Int} {p0_1 : Int} {p0_2 : Int} {K : Int → World → Prop} {w : World} (h : f75 p0_0 p0_1 p0_2 K w) : callS Tryz.prog 75 #[(.agg #[(.int .i64 p0_0), (.int .i64 p0_1), (.int .i64 p0_2)])] [(.one (.int .i64))] K w :=
 calls_of_fn (args := [(.agg #[(.int .i64 p0_0), (.int .i64 p0_1), (.int .i64 p0_2)])]) Tryz.f75 [] [] [] .nil (by kernel_rfl) (by kernel_rfl)
 (Eq.mp (by kernel_rfl) h)

/-- (sallyport/place.Shape).counts -/
def f66 (p0_0 : Int) (p0_1 : Int) (p0_2 : Int) (K : Sl → World → Prop) (w : World) : Prop :=
 semS Tryz.prog (Instr.box 72 (.agg #[(.int .i64 p0_0), (.int .i64 p0_1), (.int .i64 p0_2)])) (.one .adr) (fun x1 w =>
 semS Tryz.prog (Instr.loadAt 3 (.pointer (some (x1.add 0)))) (.one (.int .i64)) (fun x2 w =>
 semS Tryz.prog (Instr.loadAt 3 (.pointer (some (x1.add 1)))) (.one (.int .i64)) (fun x3 w =>
 semS Tryz.prog (Instr.loadAt 3 (.pointer (some (x1.add 1)))) (.one (.int .i64)) (fun x4 w =>
 semS Tryz.prog (binS .quo 3 (.tmp 10) (.tmp 12) (.int .i64 (IntKind.wrap .i64 ((IntKind.wrap .i64 (x2 + x3)) - 1))) (.int .i64 x4)) (.one (.int .i64)) (fun x5 w =>
 semS Tryz.prog (Instr.buildSlice 49 1 #[(0, (.int .i64 x5))]) (.one .slc) (fun x6 w =>
 loopS (σ := Int × Sl) (fun s7 w again8 =>
 cond (decide (s7.1 > 1))
 (drawS w fun C w =>
 semQ Tryz.prog C (Instr.loadAt 72 (.pointer (some x1))) (.agg [(.int .i64), (.int .i64), (.int .i64)]) (fun x9 x10 x11 =>
 semQ Tryz.prog C (Instr.loadAt 72 (.pointer (some x1))) (.agg [(.int .i64), (.int .i64), (.int .i64)]) (fun x12 x13 x14 =>
 callS Tryz.prog 75 #[(.agg #[(.int .i64 x9), (.int .i64 x10), (.int .i64 x11)])] [(.one (.int .i64))] (fun r15 w =>
 moreS C w (fun C =>
 callS Tryz.prog 75 #[(.agg #[(.int .i64 x12), (.int .i64 x13), (.int .i64 x14)])] [(.one (.int .i64))] (fun r16 w =>
 moreS C w (fun C =>
 semQ Tryz.prog C (binS .quo 3 (.tmp 22) (.tmp 24) (.int .i64 (IntKind.wrap .i64 ((IntKind.wrap .i64 (s7.1 + r15)) - 1))) (.int .i64 r16)) (.one (.int .i64)) (fun x17 =>
 semS Tryz.prog (Instr.buildSlice 49 1 #[(0, (.int .i64 x17))]) (.one .slc) (fun x18 w =>
 semS Tryz.prog (Builtin.append_ #[49, 49] 49 #[(.slice s7.2.a s7.2.len s7.2.cap), (.slice x18.a x18.len x18.cap)]) (.one .slc) (fun r19 w =>
 again8 (x17, r19) w) w) w))) w)) w)))
 (K s7.2 w)) (x5, x6) w) w) w) w) w) w) w
theorem f66_ok {p0_0 : Int} {p0_1 : Int} {p0_2 : Int} {K : Sl → World → Prop} {w : World} (h : f66 p0_0 p0_1 p0_2 K w) : callS Tryz.prog 66 #[(.agg #[(.int .i64 p0_0), (.int .i64 p0_1), (.int .i64 p0_2)])] [(.one .slc)] K w :=
 calls_of_fnS (args := [(.agg #[(.int .i64 p0_0), (.int .i64 p0_1), (.int .i64 p0_2)])]) Tryz.f66 [] [(3, (.int .i64)), (4, .slc)] [.nil, .nil] (.two (.two .nil (.two (.two (.draw [0, 0, 2, 7, 15, 0, 38, 127, 255]) .nil) .nil)) .nil) .nil (by kernel_rfl) (by kernel_rfl)
 (Eq.mp (by kernel_rfl) h)

/-- (sallyport/place.Shape).Counts -/
def f33 (p0_0 : Int) (p0_1 : Int) (p0_2 : Int) (K : Sl → Int → World → Prop) (w : World) : Prop :=
 semS Tryz.prog (Instr.box 72 (.agg #[(.int .i64 p0_0), (.int .i64 p0_1), (.int .i64 p0_2)])) (.one .adr) (fun x1 w =>
 semS Tryz.prog (Instr.loadAt 72 (.pointer (some x1))) (.agg [(.int .i64), (.int .i64), (.int .i64)]) (fun x2 x3 x4 w =>
 callS Tryz.prog 65 #[(.agg #[(.int .i64 x2), (.int .i64 x3), (.int .i64 x4)])] [(.one .bool)] (fun r5 w =>
 cond (!r5)
 (K (⟨none, 0, 0⟩) 24 w)
 (semS Tryz.prog (Instr.loadAt 72 (.pointer (some x1))) (.agg [(.int .i64), (.int .i64), (.int .i64)]) (fun x6 x7 x8 w =>
 callS Tryz.prog 66 #[(.agg #[(.int .i64 x6), (.int .i64 x7), (.int .i64 x8)])] [(.one .slc)] (fun r9 w =>
 K r9 0 w) w) w)) w) w) w
theorem f33_ok {p0_0 : Int} {p0_1 : Int} {p0_2 : Int} {K : Sl → Int → World → Prop} {w : World} (h : f33 p0_0 p0_1 p0_2 K w) : callS Tryz.prog 33 #[(.agg #[(.int .i64 p0_0), (.int .i64 p0_1), (.int .i64 p0_2)])] [(.one .slc), (.one (.int .i64))] K w :=
 calls_of_fn (args := [(.agg #[(.int .i64 p0_0), (.int .i64 p0_1), (.int .i64 p0_2)])]) Tryz.f33 [] [] [] .nil (by kernel_rfl) (by kernel_rfl)
 (Eq.mp (by kernel_rfl) h)

/-- (*sallyport/verity.Reader).Blocks -/
def f11 (p0 : Option Addr) (K : Int → World → Prop) (w : World) : Prop :=
 nilS p0 fun a1 =>
 semS Tryz.prog (Instr.loadAt 72 (.pointer (some (a1.add 13)))) (.agg [(.int .i64), (.int .i64), (.int .i64)]) (fun x2 x3 x4 w =>
 callS Tryz.prog 33 #[(.agg #[(.int .i64 x2), (.int .i64 x3), (.int .i64 x4)])] [(.one .slc), (.one (.int .i64))] (fun r5 r6 w =>
 semS Tryz.prog (Instr.indexAt 49 (.slice r5.a r5.len r5.cap) (.int .i64 0)) (.one .adr) (fun x7 w =>
 semS Tryz.prog (Instr.loadAt 3 (.pointer (some x7))) (.one (.int .i64)) (fun x8 w =>
 K x8 w) w) w) w) w
theorem f11_ok {p0 : Option Addr} {K : Int → World → Prop} {w : World} (h : f11 p0 K w) : callS Tryz.prog 11 #[(.pointer p0)] [(.one (.int .i64))] K w :=
 calls_of_fn (args := [(.pointer p0)]) Tryz.f11 [] [] [] .nil (by kernel_rfl) (by kernel_rfl)
 (Eq.mp (by kernel_rfl) h)

/-- (sallyport/place.Shape).parts -/
def f74 (p0_0 : Int) (p0_1 : Int) (p0_2 : Int) (p1 : Cx) (K : Int → Int → Int → World → Prop) (w : World) : Prop :=
 semS Tryz.prog (Instr.box 72 (.agg #[(.int .i64 p0_0), (.int .i64 p0_1), (.int .i64 p0_2)])) (.one .adr) (fun x1 w =>
 semS Tryz.prog (Instr.loadAt 72 (.pointer (some x1))) (.agg [(.int .i64), (.int .i64), (.int .i64)]) (fun x2 x3 x4 w =>
 callS Tryz.prog 66 #[(.agg #[(.int .i64 x2), (.int .i64 x3), (.int .i64 x4)])] [(.one .slc)] (fun r5 w =>
 cond (!(((((fOrd p1.re 0) == some .gt || (fOrd p1.re 0) == some .eq) && ((fOrd p1.re 4787326403894837248) == some .lt || (fOrd p1.re 4787326403894837248) == some .eq)) && ((fOrd p1.im 0) == some .gt || (fOrd p1.im 0) == some .eq)) && ((fOrd p1.im (FloatKind.nearest .f64 (r5.len : Int))) == some .lt)))
 (K 0 0 13 w)
 (semS Tryz.prog (convert 105 3 (.float .f64 p1.re)) (.one (.int .i64)) (fun x6 w =>
 semS Tryz.prog (convert 105 3 (.float .f64 p1.im)) (.one (.int .i64)) (fun x7 w =>
 joinS (σ := Bool) (fun b8 w =>
 cond b8
 (K 0 0 13 w)
 (K x6 x7 0 w)) fun J9 =>
 cond (!(fcEq (FloatKind.nearest .f64 x6) p1.re && fcEq (FloatKind.nearest .f64 x7) p1.im))
 (J9 true w)
 (semS Tryz.prog (Instr.indexAt 49 (.slice r5.a r5.len r5.cap) (.int .i64 x7)) (.one .adr) (fun x10 w =>
 semS Tryz.prog (Instr.loadAt 3 (.pointer (some x10))) (.one (.int .i64)) (fun x11 w =>
 J9 (decide (x6 ≥ x11)) w) w) w)) w) w)) w) w) w
theorem f74_ok {p0_0 : Int} {p0_1 : Int} {p0_2 : Int} {p1 : Cx} {K : Int → Int → Int → World → Prop} {w : World} (h : f74 p0_0 p0_1 p0_2 p1 K w) : callS Tryz.prog 74 #[(.agg #[(.int .i64 p0_0), (.int .i64 p0_1), (.int .i64 p0_2)]), (.complex .f64 p1.re p1.im)] [(.one (.int .i64)), (.one (.int .i64)), (.one (.int .i64))] K w :=
 calls_of_fn (args := [(.agg #[(.int .i64 p0_0), (.int .i64 p0_1), (.int .i64 p0_2)]), (.complex .f64 p1.re p1.im)]) Tryz.f74 [] [] [] .nil (by kernel_rfl) (by kernel_rfl)
 (Eq.mp (by kernel_rfl) h)

/-- (sallyport/place.Shape).Above -/
def f48 (p0_0 : Int) (p0_1 : Int) (p0_2 : Int) (p1 : Cx) (K : Cx → Int → Int → World → Prop) (w : World) : Prop :=
 semS Tryz.prog (Instr.box 72 (.agg #[(.int .i64 p0_0), (.int .i64 p0_1), (.int .i64 p0_2)])) (.one .adr) (fun x1 w =>
 semS Tryz.prog (Instr.loadAt 72 (.pointer (some x1))) (.agg [(.int .i64), (.int .i64), (.int .i64)]) (fun x2 x3 x4 w =>
 callS Tryz.prog 65 #[(.agg #[(.int .i64 x2), (.int .i64 x3), (.int .i64 x4)])] [(.one .bool)] (fun r5 w =>
 cond (!r5)
 (K (⟨0, 0⟩) 0 24 w)
 (semS Tryz.prog (Instr.loadAt 72 (.pointer (some x1))) (.agg [(.int .i64), (.int .i64), (.int .i64)]) (fun x6 x7 x8 w =>
 callS Tryz.prog 74 #[(.agg #[(.int .i64 x6), (.int .i64 x7), (.int .i64 x8)]), (.complex .f64 p1.re p1.im)] [(.one (.int .i64)), (.one (.int .i64)), (.one (.int .i64))] (fun r9 r10 r11 w =>
 cond (r11 != 0)
 (K (⟨0, 0⟩) 0 r11 w)
 (semS Tryz.prog (Instr.loadAt 72 (.pointer (some x1))) (.agg [(.int .i64), (.int .i64), (.int .i64)]) (fun x12 x13 x14 w =>
 callS Tryz.prog 66 #[(.agg #[(.int .i64 x12), (.int .i64 x13), (.int .i64 x14)])] [(.one .slc)] (fun r15 w =>
 semS Tryz.prog (Instr.indexAt 49 (.slice r15.a r15.len r15.cap) (.int .i64 r10)) (.one .adr) (fun x16 w =>
 semS Tryz.prog (Instr.loadAt 3 (.pointer (some x16))) (.one (.int .i64)) (fun x17 w =>
 cond (x17 == 1)
 (K (⟨0, 0⟩) 0 51 w)
 (drawS w fun C w =>
 semQ Tryz.prog C (Instr.loadAt 72 (.pointer (some x1))) (.agg [(.int .i64), (.int .i64), (.int .i64)]) (fun x18 x19 x20 =>
 semQ Tryz.prog C (Instr.loadAt 72 (.pointer (some x1))) (.agg [(.int .i64), (.int .i64), (.int .i64)]) (fun x21 x22 x23 =>
 semQ Tryz.prog C (Instr.loadAt 3 (.pointer (some (x1.add 2)))) (.one (.int .i64)) (fun x24 =>
 callS Tryz.prog 75 #[(.agg #[(.int .i64 x18), (.int .i64 x19), (.int .i64 x20)])] [(.one (.int .i64))] (fun r25 w =>
 moreS C w (fun C =>
 semQ Tryz.prog C (binS .quo 3 (.tmp 30) (.tmp 32) (.int .i64 r9) (.int .i64 r25)) (.one (.int .i64)) (fun x26 =>
 semQ Tryz.prog C (binS .add 66 (.tmp 37) (.const (Go.Value.complex Go.FloatKind.f64 0 4607182418800017408)) (.complex .f64 (FloatKind.nearest .f64 x26) (FloatKind.nearest .f64 r10)) (.complex .f64 0 4607182418800017408)) (.one .cpx) (fun x27 =>
 callS Tryz.prog 75 #[(.agg #[(.int .i64 x21), (.int .i64 x22), (.int .i64 x23)])] [(.one (.int .i64))] (fun r28 w =>
 moreS C w (fun C =>
 semQ Tryz.prog C (binS .rem 3 (.tmp 39) (.tmp 41) (.int .i64 r9) (.int .i64 r28)) (.one (.int .i64)) (fun x29 =>
 K (⟨x27.re, x27.im⟩) (IntKind.wrap .i64 (x29 * x24)) 0 w))) w)))) w))))) w) w) w) w)) w) w)) w) w) w
theorem f48_ok {p0_0 : Int} {p0_1 : Int} {p0_2 : Int} {p1 : Cx} {K : Cx → Int → Int → World → Prop} {w : World} (h : f48 p0_0 p0_1 p0_2 p1 K w) : callS Tryz.prog 48 #[(.agg #[(.int .i64 p0_0), (.int .i64 p0_1), (.int .i64 p0_2)]), (.complex .f64 p1.re p1.im)] [(.one .cpx), (.one (.int .i64)), (.one (.int .i64))] K w :=
 calls_of_fn (args := [(.agg #[(.int .i64 p0_0), (.int .i64 p0_1), (.int .i64 p0_2)]), (.complex .f64 p1.re p1.im)]) Tryz.f48 [] [] [] (.two .nil (.two .nil (.two .nil (.two .nil (.two (.draw [0, 0, 2, 7, 15, 0, 32, 127, 255, 0, 0, 1030, 3590, 0, 8192, 32262, 3583, 131071, 262143]) .nil))))) (by kernel_rfl) (by kernel_rfl)
 (Eq.mp (by kernel_rfl) h)

/-- slices.Clip[[]complex128,complex128] -/
def f71 (p0 : Sl) (K : Sl → World → Prop) (w : World) : Prop :=
 semS Tryz.prog (Instr.sliceAt 64 (.slice p0.a p0.len p0.cap) none (some (.int .i64 (p0.len : Int))) (some (.int .i64 (p0.len : Int)))) (.one .slc) (fun x1 w =>
 K x1 w) w
theorem f71_ok {p0 : Sl} {K : Sl → World → Prop} {w : World} (h : f71 p0 K w) : callS Tryz.prog 71 #[(.slice p0.a p0.len p0.cap)] [(.one .slc)] K w :=
 calls_of_fn (args := [(.slice p0.a p0.len p0.cap)]) Tryz.f71 [] [] [] .nil (by kernel_rfl) (by kernel_rfl)
 (Eq.mp (by kernel_rfl) h)

/-- (sallyport/place.Shape).Path -/
def f41 (p0_0 : Int) (p0_1 : Int) (p0_2 : Int) (p1 : Int) (K : Sl → Int → World → Prop) (w : World) : Prop :=
 semS Tryz.prog (Instr.box 72 (.agg #[(.int .i64 p0_0), (.int .i64 p0_1), (.int .i64 p0_2)])) (.one .adr) (fun x1 w =>
 semS Tryz.prog (Instr.loadAt 72 (.pointer (some x1))) (.agg [(.int .i64), (.int .i64), (.int .i64)]) (fun x2 x3 x4 w =>
 callS Tryz.prog 65 #[(.agg #[(.int .i64 x2), (.int .i64 x3), (.int .i64 x4)])] [(.one .bool)] (fun r5 w =>
 cond (!r5)
 (K (⟨none, 0, 0⟩) 24 w)
 (joinS (σ := Bool) (fun b6 w =>
 cond b6
 (K (⟨none, 0, 0⟩) 13 w)
 (semS Tryz.prog (Instr.buildSlice 64 1 #[(0, (.complex .f64 (FloatKind.nearest .f64 p1) 0))]) (.one .slc) (fun x8 w =>
 loopS (σ := Cx × Sl) (fun s9 w again10 =>
 semS Tryz.prog (Instr.loadAt 72 (.pointer (some x1))) (.agg [(.int .i64), (.int .i64), (.int .i64)]) (fun x11 x12 x13 w =>
 callS Tryz.prog 48 #[(.agg #[(.int .i64 x11), (.int .i64 x12), (.int .i64 x13)]), (.complex .f64 s9.1.re s9.1.im)] [(.one .cpx), (.one (.int .i64)), (.one (.int .i64))] (fun r14 r15 r16 w =>
 cond (r16 == 0)
 (semS Tryz.prog (Instr.buildSlice 64 1 #[(0, (.complex .f64 r14.re r14.im))]) (.one .slc) (fun x17 w =>
 semS Tryz.prog (Builtin.append_ #[64, 64] 64 #[(.slice s9.2.a s9.2.len s9.2.cap), (.slice x17.a x17.len x17.cap)]) (.one .slc) (fun r18 w =>
 again10 (⟨r14.re, r14.im⟩, r18) w) w) w)
 (callS Tryz.prog 71 #[(.slice s9.2.a s9.2.len s9.2.cap)] [(.one .slc)] (fun r19 w =>
 K r19 0 w) w)) w) w) (⟨FloatKind.nearest .f64 p1, 0⟩, x8) w) w)) fun J7 =>
 cond (decide (p1 < 0))
 (J7 true w)
 (semS Tryz.prog (Instr.loadAt 72 (.pointer (some x1))) (.agg [(.int .i64), (.int .i64), (.int .i64)]) (fun x20 x21 x22 w =>
 callS Tryz.prog 66 #[(.agg #[(.int .i64 x20), (.int .i64 x21), (.int .i64 x22)])] [(.one .slc)] (fun r23 w =>
 semS Tryz.prog (Instr.indexAt 49 (.slice r23.a r23.len r23.cap) (.int .i64 0)) (.one .adr) (fun x24 w =>
 semS Tryz.prog (Instr.loadAt 3 (.pointer (some x24))) (.one (.int .i64)) (fun x25 w =>
 J7 (decide (p1 ≥ x25)) w) w) w) w) w))) w) w) w
theorem f41_ok {p0_0 : Int} {p0_1 : Int} {p0_2 : Int} {p1 : Int} {K : Sl → Int → World → Prop} {w : World} (h : f41 p0_0 p0_1 p0_2 p1 K w) : callS Tryz.prog 41 #[(.agg #[(.int .i64 p0_0), (.int .i64 p0_1), (.int .i64 p0_2)]), (.int .i64 p1)] [(.one .slc), (.one (.int .i64))] K w :=
 calls_of_fnS (args := [(.agg #[(.int .i64 p0_0), (.int .i64 p0_1), (.int .i64 p0_2)]), (.int .i64 p1)]) Tryz.f41 [] [(6, .cpx), (7, .slc)] [.nil, .nil, .nil] .nil .nil (by kernel_rfl) (by kernel_rfl)
 (Eq.mp (by kernel_rfl) h)

/-- (*sallyport/drive.Drive).Read -/
def f32 (p0 : Option Addr) (p1 : ByteArray) (p2 : Int) (p3 : Int) (K : Sl → Int → World → Prop) (w : World) : Prop :=
 callS Tryz.prog 59 #[(.pointer p0), (.string p1), (.int .i64 p2), (.int .i64 p3)] [(.one .ptr), (.one (.int .i64))] (fun r1 r2 w =>
 cond (r2 != 0)
 (K (⟨none, 0, 0⟩) r2 w)
 (callS Tryz.prog 60 #[(.int .i64 p2), (.int .i64 p3)] [(.one (.int .i64)), (.one (.int .i64))] (fun r3 r4 w =>
 loopS (σ := Int) (fun x5 w again6 =>
 cond (decide (x5 < r4))
 (nilS r1 fun a7 =>
 semS Tryz.prog (Instr.loadAt 128 (.pointer (some (a7.add 1)))) (.one .mp) (fun x8 w =>
 semS Tryz.prog (Instr.lookup 128 (.map x8) (.int .i64 (IntKind.wrap .i64 (r3 + x5))) false) (.one .bool) (fun x9 w =>
 cond x9
 (K (⟨none, 0, 0⟩) 41 w)
 (again6 (IntKind.wrap .i64 (x5 + 1)) w)) w) w)
 (nilS p0 fun a10 =>
 semS Tryz.prog (Instr.loadAt 3 (.pointer (some (a10.add 5)))) (.one (.int .i64)) (fun x11 w =>
 nilS p0 fun a12 =>
 semU Tryz.prog (Instr.storeAt 3 (.pointer (some (a12.add 5))) (.int .i64 (if 1152921504606846976 < (IntKind.wrap .i64 (x11 + 1)) then 1152921504606846976 else IntKind.wrap .i64 (x11 + 1)))) (fun w =>
 nilS p0 fun a13 =>
 semS Tryz.prog (Instr.loadAt 3 (.pointer (some (a13.add 6)))) (.one (.int .i64)) (fun x14 w =>
 nilS p0 fun a15 =>
 semU Tryz.prog (Instr.storeAt 3 (.pointer (some (a15.add 6))) (.int .i64 (if 1152921504606846976 < (IntKind.wrap .i64 (x14 + p3)) then 1152921504606846976 else IntKind.wrap .i64 (x14 + p3)))) (fun w =>
 nilS r1 fun a16 =>
 semS Tryz.prog (Instr.loadAt 22 (.pointer (some (a16.add 0)))) (.one .slc) (fun x17 w =>
 semS Tryz.prog (Instr.sliceAt 22 (.slice x17.a x17.len x17.cap) (some (.int .i64 p2)) (some (.int .i64 (IntKind.wrap .i64 (p2 + p3)))) none) (.one .slc) (fun x18 w =>
 callS Tryz.prog 29 #[(.slice x18.a x18.len x18.cap)] [(.one .slc)] (fun r19 w =>
 K r19 0 w) w) w) w) w) w) w) w)) 0 w) w)) w
theorem f32_ok {p0 : Option Addr} {p1 : ByteArray} {p2 : Int} {p3 : Int} {K : Sl → Int → World → Prop} {w : World} (h : f32 p0 p1 p2 p3 K w) : callS Tryz.prog 32 #[(.pointer p0), (.string p1), (.int .i64 p2), (.int .i64 p3)] [(.one .slc), (.one (.int .i64))] K w :=
 calls_of_fn (args := [(.pointer p0), (.string p1), (.int .i64 p2), (.int .i64 p3)]) Tryz.f32 [] [] [] (.two .nil (.two .nil (.two .nil (.two .nil (.two (.two .nil (.one (.loop [(33, (.int .i64))] .nil))) .nil))))) (by kernel_rfl) (by kernel_rfl)
 (Eq.mp (by kernel_rfl) h)

/-- (sallyport/place.Shape).Offset -/
def f89 (p0_0 : Int) (p0_1 : Int) (p0_2 : Int) (p1 : Cx) (K : Int → Int → World → Prop) (w : World) : Prop :=
 semS Tryz.prog (Instr.box 72 (.agg #[(.int .i64 p0_0), (.int .i64 p0_1), (.int .i64 p0_2)])) (.one .adr) (fun x1 w =>
 semS Tryz.prog (Instr.loadAt 72 (.pointer (some x1))) (.agg [(.int .i64), (.int .i64), (.int .i64)]) (fun x2 x3 x4 w =>
 callS Tryz.prog 65 #[(.agg #[(.int .i64 x2), (.int .i64 x3), (.int .i64 x4)])] [(.one .bool)] (fun r5 w =>
 cond (!r5)
 (K 0 24 w)
 (semS Tryz.prog (Instr.loadAt 72 (.pointer (some x1))) (.agg [(.int .i64), (.int .i64), (.int .i64)]) (fun x6 x7 x8 w =>
 callS Tryz.prog 74 #[(.agg #[(.int .i64 x6), (.int .i64 x7), (.int .i64 x8)]), (.complex .f64 p1.re p1.im)] [(.one (.int .i64)), (.one (.int .i64)), (.one (.int .i64))] (fun r9 r10 r11 w =>
 cond ((r11 != 0) || (r10 == 0))
 (K 0 13 w)
 (semS Tryz.prog (Instr.loadAt 72 (.pointer (some x1))) (.agg [(.int .i64), (.int .i64), (.int .i64)]) (fun x12 x13 x14 w =>
 callS Tryz.prog 66 #[(.agg #[(.int .i64 x12), (.int .i64 x13), (.int .i64 x14)])] [(.one .slc)] (fun r15 w =>
 semS Tryz.prog (Instr.sliceAt 49 (.slice r15.a r15.len r15.cap) (some (.int .i64 (IntKind.wrap .i64 (r10 + 1)))) none none) (.one .slc) (fun x16 w =>
 loopS (σ := Int × Int) (fun s17 w again18 =>
 cond (decide (s17.2 < (x16.len : Int)))
 (semS Tryz.prog (Instr.indexAt 49 (.slice x16.a x16.len x16.cap) (.int .i64 s17.2)) (.one .adr) (fun x19 w =>
 semS Tryz.prog (Instr.loadAt 3 (.pointer (some x19))) (.one (.int .i64)) (fun x20 w =>
 again18 (IntKind.wrap .i64 (s17.1 + x20), IntKind.wrap .i64 (s17.2 + 1)) w) w) w)
 (semS Tryz.prog (Instr.loadAt 3 (.pointer (some (x1.add 1)))) (.one (.int .i64)) (fun x21 w =>
 K (IntKind.wrap .i64 (s17.1 * x21)) 0 w) w)) (r9, 0) w) w) w) w)) w) w)) w) w) w
theorem f89_ok {p0_0 : Int} {p0_1 : Int} {p0_2 : Int} {p1 : Cx} {K : Int → Int → World → Prop} {w : World} (h : f89 p0_0 p0_1 p0_2 p1 K w) : callS Tryz.prog 89 #[(.agg #[(.int .i64 p0_0), (.int .i64 p0_1), (.int .i64 p0_2)]), (.complex .f64 p1.re p1.im)] [(.one (.int .i64)), (.one (.int .i64))] K w :=
 calls_of_fn (args := [(.agg #[(.int .i64 p0_0), (.int .i64 p0_1), (.int .i64 p0_2)]), (.complex .f64 p1.re p1.im)]) Tryz.f89 [] [] [] (.two .nil (.two .nil (.two .nil (.two .nil (.two (.two .nil (.one (.loop [(6, (.int .i64)), (33, (.int .i64))] .nil))) .nil))))) (by kernel_rfl) (by kernel_rfl)
 (Eq.mp (by kernel_rfl) h)

/-- (*sallyport/verity.Reader).fetch -/
def f72 (p0 : Option Addr) (p1 : Cx) (K : Sl → Int → World → Prop) (w : World) : Prop :=
 cond ((fOrd p1.im 0) == some .gt)
 (nilS p0 fun a1 =>
 semS Tryz.prog (Instr.loadAt 72 (.pointer (some (a1.add 13)))) (.agg [(.int .i64), (.int .i64), (.int .i64)]) (fun x2 x3 x4 w =>
 callS Tryz.prog 89 #[(.agg #[(.int .i64 x2), (.int .i64 x3), (.int .i64 x4)]), (.complex .f64 p1.re p1.im)] [(.one (.int .i64)), (.one (.int .i64))] (fun r5 r6 w =>
 drawS w fun C w =>
 nilS p0 fun a7 =>
 semQ Tryz.prog C (Instr.loadAt 27 (.pointer (some (a7.add 0)))) (.one .ptr) (fun x8 =>
 nilS p0 fun a9 =>
 semQ Tryz.prog C (Instr.loadAt 9 (.pointer (some (a9.add 1)))) (.one .str) (fun x10 =>
 nilS p0 fun a11 =>
 semQ Tryz.prog C (Instr.loadAt 3 (.pointer (some ((a11.add 2).add 4)))) (.one (.int .i64)) (fun x12 =>
 nilS p0 fun a13 =>
 semQ Tryz.prog C (Instr.loadAt 3 (.pointer (some ((a13.add 13).add 1)))) (.one (.int .i64)) (fun x14 =>
 callS Tryz.prog 32 #[(.pointer x8), (.string x10), (.int .i64 (IntKind.wrap .i64 (x12 + r5))), (.int .i64 x14)] [(.one .slc), (.one (.int .i64))] (fun r15 r16 w =>
 K r15 r16 w) w))))) w) w)
 (semS Tryz.prog (convert 105 3 (.float .f64 p1.re)) (.one (.int .i64)) (fun x17 w =>
 nilS p0 fun a18 =>
 semS Tryz.prog (Instr.loadAt 3 (.pointer (some ((a18.add 13).add 1)))) (.one (.int .i64)) (fun x19 w =>
 drawS w fun C w =>
 nilS p0 fun a20 =>
 semQ Tryz.prog C (Instr.loadAt 27 (.pointer (some (a20.add 0)))) (.one .ptr) (fun x21 =>
 nilS p0 fun a22 =>
 semQ Tryz.prog C (Instr.loadAt 9 (.pointer (some (a22.add 1)))) (.one .str) (fun x23 =>
 nilS p0 fun a24 =>
 semQ Tryz.prog C (Instr.loadAt 3 (.pointer (some ((a24.add 13).add 1)))) (.one (.int .i64)) (fun x25 =>
 nilS p0 fun a26 =>
 semQ Tryz.prog C (Instr.loadAt 3 (.pointer (some ((a26.add 13).add 0)))) (.one (.int .i64)) (fun x27 =>
 callS Tryz.prog 32 #[(.pointer x21), (.string x23), (.int .i64 (IntKind.wrap .i64 (x17 * x19))), (.int .i64 (if (IntKind.wrap .i64 (x27 - (IntKind.wrap .i64 (x17 * x19)))) < x25 then IntKind.wrap .i64 (x27 - (IntKind.wrap .i64 (x17 * x19))) else x25))] [(.one .slc), (.one (.int .i64))] (fun r28 r29 w =>
 cond (r29 != 0)
 (K (⟨none, 0, 0⟩) r29 w)
 (nilS p0 fun a30 =>
 semS Tryz.prog (Instr.loadAt 3 (.pointer (some ((a30.add 13).add 1)))) (.one (.int .i64)) (fun x31 w =>
 semS Tryz.prog (Builtin.append_ #[22, 3] 22 #[(.slice r28.a r28.len r28.cap), (.int .i64 (IntKind.wrap .i64 (x31 - (r28.len : Int))))]) (.one .slc) (fun r32 w =>
 K r32 0 w) w) w)) w))))) w) w)
theorem f72_ok {p0 : Option Addr} {p1 : Cx} {K : Sl → Int → World → Prop} {w : World} (h : f72 p0 p1 K w) : callS Tryz.prog 72 #[(.pointer p0), (.complex .f64 p1.re p1.im)] [(.one .slc), (.one (.int .i64))] K w :=
 calls_of_fn (args := [(.pointer p0), (.complex .f64 p1.re p1.im)]) Tryz.f72 [] [] [] (.two .nil (.two (.two .nil (.two (.two .nil (.two (.draw [0, 1, 3, 7, 0, 16, 48, 112, 0, 256, 768, 1792, 3840, 0, 16128, 0, 32768, 98304, 229376, 491520, 1048575, 2097151, 2097151, 8388607, 16777215]) .nil)) .nil)) (.two .nil (.two (.draw [0, 1, 3, 7, 0, 16, 48, 112, 0, 0, 512, 1536, 3584, 7680, 0, 16384, 49152, 114688, 245760, 0, 1032192, 2096640, 4194303, 8388607, 16777215, 16777215, 33554431, 134217727]) .nil)))) (by kernel_rfl) (by kernel_rfl)
 (Eq.mp (by kernel_rfl) h)

end Go.Proofs.YteopoodhclljjaaGreatDoor
