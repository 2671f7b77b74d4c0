/- The functions of the program, each as a plain statement, with the proof that it suffices for a call: printed by sh.py out of the loaded code. -/
import Derived.Test.YtmcejfmjclngaaaEng5
import Derived.Test.YtmcejfmjclngaaaProg
set_option maxRecDepth 100000
set_option linter.unusedVariables false
namespace Go.Proofs.Ytmcejfmjclngaaa
open Go Go.Eng

/-- sallyport/record.Sum -/
def f11 (p0 : Sl) (K : Int → World → Prop) (w : World) : Prop :=
  loopS (σ := Int × Int) (fun s1 w again2 =>
    cond (decide (s1.2 < (p0.len : Int)))
      (semS Try.prog (Instr.indexAt 22 (.slice p0.a p0.len p0.cap) (.int .i64 s1.2)) (.one .adr) (fun x3 w =>
      semS Try.prog (Instr.loadAt 5 (.pointer (some x3))) (.one (.int .u8)) (fun x4 w =>
      loopS (σ := Int × Int) (fun s5 w again6 =>
        cond (decide (s5.2 < 8))
          (again6 (xorI .u32 (shrI .u32 s5.1 1) (IntKind.wrap .u32 (3988292384 * (andI .u32 s5.1 1))), IntKind.wrap .i64 (s5.2 + 1)) w)
          (again2 (s5.1, IntKind.wrap .i64 (s1.2 + 1)) w)) (xorI .u32 s1.1 (IntKind.wrap .u32 x4), 0) w) w) w)
      (K (IntKind.wrap .i64 (xorI .u32 (IntKind.max .u32) s1.1)) w)) (4294967295, 0) w
theorem f11_ok {p0 : Sl} {K : Int → World → Prop} {w : World} (h : f11 p0 K w) : callS Try.prog 11 #[(.slice p0.a p0.len p0.cap)] [(.one (.int .i64))] K w :=
  calls_of_fn (args := [(.slice p0.a p0.len p0.cap)]) Try.f11 [] [] [] (.two .nil (.two .nil (.two (.two .nil (.one (.loop [(3, (.int .u32)), (8, (.int .i64))] (.two .nil (.two .nil (.two (.one (.two .nil (.two .nil (.two .nil (.one (.loop [(3, (.int .u32)), (16, (.int .i64))] .nil)))))) .nil)))))) .nil))) (by kernel_rfl) (by kernel_rfl)
    (Eq.mp (by kernel_rfl : f11 p0 K w = evFn Try.prog Try.f11 [] [] [] (.two .nil (.two .nil (.two (.two .nil (.one (.loop [(3, (.int .u32)), (8, (.int .i64))] (.two .nil (.two .nil (.two (.one (.two .nil (.two .nil (.two .nil (.one (.loop [(3, (.int .u32)), (16, (.int .i64))] .nil)))))) .nil)))))) .nil))) [(.slice p0.a p0.len p0.cap)] [(.one (.int .i64))] K w) h)

/-- (sallyport/record.Half).Bootable -/
def f14 (p0_0 : Int) (p0_1 : Int) (p0_2 : Bool) (K : Bool → World → Prop) (w : World) : Prop :=
  semS Try.prog (Instr.box 27 (.agg #[(.int .i64 p0_0), (.int .i64 p0_1), (.bool p0_2)])) (.one .adr) (fun x1 w =>
  semS Try.prog (Instr.loadAt 3 (.pointer (some (x1.add 0)))) (.one (.int .i64)) (fun x2 w =>
  joinS (σ := Bool) (fun b3 w =>
    K b3 w) fun J4 =>
  cond (decide (x2 > 0))
    (semS Try.prog (Instr.loadAt 4 (.pointer (some (x1.add 2)))) (.one .bool) (fun x5 w =>
      joinS (σ := Bool) (fun b6 w =>
        J4 b6 w) fun J7 =>
      cond x5
        (J7 true w)
        (semS Try.prog (Instr.loadAt 3 (.pointer (some (x1.add 1)))) (.one (.int .i64)) (fun x8 w =>
          J7 (decide (x8 > 0)) w) w)) w)
    (J4 false w)) w) w
theorem f14_ok {p0_0 : Int} {p0_1 : Int} {p0_2 : Bool} {K : Bool → World → Prop} {w : World} (h : f14 p0_0 p0_1 p0_2 K w) : callS Try.prog 14 #[(.agg #[(.int .i64 p0_0), (.int .i64 p0_1), (.bool p0_2)])] [(.one .bool)] K w :=
  calls_of_fn (args := [(.agg #[(.int .i64 p0_0), (.int .i64 p0_1), (.bool p0_2)])]) Try.f14 [] [] [] .nil (by kernel_rfl) (by kernel_rfl)
    (Eq.mp (by kernel_rfl : f14 p0_0 p0_1 p0_2 K w = evFn Try.prog Try.f14 [] [] [] .nil [(.agg #[(.int .i64 p0_0), (.int .i64 p0_1), (.bool p0_2)])] [(.one .bool)] K w) h)

/-- (sallyport/record.Record).Pick -/
def f13 (p0_0 : Int) (p0_1 : Int) (p0_2 : Bool) (p0_3 : Int) (p0_4 : Int) (p0_5 : Bool) (K : Int → Bool → World → Prop) (w : World) : Prop :=
  semS Try.prog (Instr.box 29 (.agg #[(.int .i64 p0_0), (.int .i64 p0_1), (.bool p0_2), (.int .i64 p0_3), (.int .i64 p0_4), (.bool p0_5)])) (.one .adr) (fun x1 w =>
  drawS w fun C w =>
  semQ Try.prog C (Instr.loadAt 27 (.pointer (some (x1.add 0)))) (.agg [(.int .i64), (.int .i64), .bool]) (fun x2 x3 x4 =>
  semQ Try.prog C (Instr.loadAt 27 (.pointer (some (x1.add 3)))) (.agg [(.int .i64), (.int .i64), .bool]) (fun x5 x6 x7 =>
  callS Try.prog 14 #[(.agg #[(.int .i64 x2), (.int .i64 x3), (.bool x4)])] [(.one .bool)] (fun r8 w =>
  moreS C w (fun C =>
  callS Try.prog 14 #[(.agg #[(.int .i64 x5), (.int .i64 x6), (.bool x7)])] [(.one .bool)] (fun r9 w =>
  joinS (σ := Bool) (fun b10 w =>
    cond b10
      (K 1 true w)
      (K 0 r8 w)) fun J11 =>
  cond r9
    (joinS (σ := Bool) (fun b12 w =>
        J11 b12 w) fun J13 =>
      cond (!r8)
        (J13 true w)
        (semS Try.prog (Instr.loadAt 3 (.pointer (some ((x1.add 3).add 0)))) (.one (.int .i64)) (fun x14 w =>
          semS Try.prog (Instr.loadAt 3 (.pointer (some ((x1.add 0).add 0)))) (.one (.int .i64)) (fun x15 w =>
          J13 (decide (x14 > x15)) w) w) w))
    (J11 false w)) w)) w))) w
theorem f13_ok {p0_0 : Int} {p0_1 : Int} {p0_2 : Bool} {p0_3 : Int} {p0_4 : Int} {p0_5 : Bool} {K : Int → Bool → World → Prop} {w : World} (h : f13 p0_0 p0_1 p0_2 p0_3 p0_4 p0_5 K w) : callS Try.prog 13 #[(.agg #[(.int .i64 p0_0), (.int .i64 p0_1), (.bool p0_2), (.int .i64 p0_3), (.int .i64 p0_4), (.bool p0_5)])] [(.one (.int .i64)), (.one .bool)] K w :=
  calls_of_fn (args := [(.agg #[(.int .i64 p0_0), (.int .i64 p0_1), (.bool p0_2), (.int .i64 p0_3), (.int .i64 p0_4), (.bool p0_5)])]) Try.f13 [] [] [] (.two .nil (.two (.draw [0, 1, 3, 0, 8, 31, 63, 127]) .nil)) (by kernel_rfl) (by kernel_rfl)
    (Eq.mp (by kernel_rfl : f13 p0_0 p0_1 p0_2 p0_3 p0_4 p0_5 K w = evFn Try.prog Try.f13 [] [] [] (.two .nil (.two (.draw [0, 1, 3, 0, 8, 31, 63, 127]) .nil)) [(.agg #[(.int .i64 p0_0), (.int .i64 p0_1), (.bool p0_2), (.int .i64 p0_3), (.int .i64 p0_4), (.bool p0_5)])] [(.one (.int .i64)), (.one .bool)] K w) h)

/-- sallyport/record.First -/
def f30  (K : Int → Int → Bool → Int → Int → Bool → World → Prop) (w : World) : Prop :=
  semS Try.prog (Instr.alloc 29 true (.tuple #[])) (.one .adr) (fun x1 w =>
  semU Try.prog (Instr.storeAt 29 (.pointer (some x1)) (.agg #[(.int .i64 15), (.int .i64 7), (.bool false), (.int .i64 14), (.int .i64 7), (.bool false)])) (fun w =>
  ∃ v2, (loadVar 29 x1).run Try.prog w = .ok v2 w ∧ decR [(.agg [(.int .i64), (.int .i64), .bool, (.int .i64), (.int .i64), .bool])] v2 K fun r => r w) w) w
theorem f30_ok  {K : Int → Int → Bool → Int → Int → Bool → World → Prop} {w : World} (h : f30  K w) : callS Try.prog 30 #[] [(.agg [(.int .i64), (.int .i64), .bool, (.int .i64), (.int .i64), .bool])] K w :=
  calls_of_fn (args := []) Try.f30 [] [] [] .nil (by kernel_rfl) (by kernel_rfl)
    (Eq.mp (by kernel_rfl : f30  K w = evFn Try.prog Try.f30 [] [] [] .nil [] [(.agg [(.int .i64), (.int .i64), .bool, (.int .i64), (.int .i64), .bool])] K w) h)

/-- sallyport/sallyportlaw16.anchor -/
def f10  (K : Bool → World → Prop) (w : World) : Prop :=
  callS Try.prog 30 #[] [(.agg [(.int .i64), (.int .i64), .bool, (.int .i64), (.int .i64), .bool])] (fun r1 r2 r3 r4 r5 r6 w =>
  callS Try.prog 13 #[(.agg #[(.int .i64 r1), (.int .i64 r2), (.bool r3), (.int .i64 r4), (.int .i64 r5), (.bool r6)])] [(.one (.int .i64)), (.one .bool)] (fun r7 r8 w =>
  semS Try.prog (Instr.buildSlice 22 9 #[(0, (.int .u8 49)), (1, (.int .u8 50)), (2, (.int .u8 51)), (3, (.int .u8 52)), (4, (.int .u8 53)), (5, (.int .u8 54)), (6, (.int .u8 55)), (7, (.int .u8 56)), (8, (.int .u8 57))]) (.one .slc) (fun x9 w =>
  semS Try.prog (convert 22 22 (.slice x9.a x9.len x9.cap)) (.one .slc) (fun x10 w =>
  callS Try.prog 11 #[(.slice x10.a x10.len x10.cap)] [(.one (.int .i64))] (fun r11 w =>
  joinS (σ := Bool) (fun b12 w =>
    K b12 w) fun J13 =>
  cond (((r11 == 3421780262) && (r7 == 0)) && r8)
    (callS Try.prog 30 #[] [(.agg [(.int .i64), (.int .i64), .bool, (.int .i64), (.int .i64), .bool])] (fun r14 r15 r16 r17 r18 r19 w =>
      J13 (r17 == 14) w) w)
    (J13 false w)) w) w) w) w) w
theorem f10_ok  {K : Bool → World → Prop} {w : World} (h : f10  K w) : callS Try.prog 10 #[] [(.one .bool)] K w :=
  calls_of_fn (args := []) Try.f10 [] [] [] .nil (by kernel_rfl) (by kernel_rfl)
    (Eq.mp (by kernel_rfl : f10  K w = evFn Try.prog Try.f10 [] [] [] .nil [] [(.one .bool)] K w) h)

/-- sallyport/sallyportref16.Sum -/
def f12 (p0 : Sl) (K : Int → World → Prop) (w : World) : Prop :=
  loopS (σ := Int × Int) (fun s1 w again2 =>
    cond (decide (s1.2 < (p0.len : Int)))
      (semS Try.prog (Instr.indexAt 22 (.slice p0.a p0.len p0.cap) (.int .i64 s1.2)) (.one .adr) (fun x3 w =>
      semS Try.prog (Instr.loadAt 5 (.pointer (some x3))) (.one (.int .u8)) (fun x4 w =>
      loopS (σ := Int × Int) (fun s5 w again6 =>
        cond (decide (s5.2 < 8))
          (cond ((Int.tmod s5.1 2) == 1)
            (again6 (xorI .i64 (IntKind.wrap .i64 (Int.tdiv s5.1 2)) 3988292384, IntKind.wrap .i64 (s5.2 + 1)) w)
            (again6 (IntKind.wrap .i64 (Int.tdiv s5.1 2), IntKind.wrap .i64 (s5.2 + 1)) w))
          (again2 (s5.1, IntKind.wrap .i64 (s1.2 + 1)) w)) (xorI .i64 s1.1 (IntKind.wrap .i64 x4), 0) w) w) w)
      (K (IntKind.wrap .i64 (4294967295 - s1.1)) w)) (4294967295, 0) w
theorem f12_ok {p0 : Sl} {K : Int → World → Prop} {w : World} (h : f12 p0 K w) : callS Try.prog 12 #[(.slice p0.a p0.len p0.cap)] [(.one (.int .i64))] K w :=
  calls_of_fn (args := [(.slice p0.a p0.len p0.cap)]) Try.f12 [] [] [] (.two .nil (.two .nil (.two (.two .nil (.one (.loop [(3, (.int .i64)), (4, (.int .i64))] (.two .nil (.two (.one (.two .nil (.two .nil (.one (.loop [(3, (.int .i64)), (5, (.int .i64))] .nil))))) .nil))))) .nil))) (by kernel_rfl) (by kernel_rfl)
    (Eq.mp (by kernel_rfl : f12 p0 K w = evFn Try.prog Try.f12 [] [] [] (.two .nil (.two .nil (.two (.two .nil (.one (.loop [(3, (.int .i64)), (4, (.int .i64))] (.two .nil (.two (.one (.two .nil (.two .nil (.one (.loop [(3, (.int .i64)), (5, (.int .i64))] .nil))))) .nil))))) .nil))) [(.slice p0.a p0.len p0.cap)] [(.one (.int .i64))] K w) h)

/-- sallyport/sallyportlaw16.RecordSums -/
def f3 (p0 : Sl) (p1 : Int) (K : Bool → World → Prop) (w : World) : Prop :=
  callS Try.prog 10 #[] [(.one .bool)] (fun r1 w =>
  cond (!r1)
    (K false w)
    (cond ((decide ((p0.len : Int) > 1000)) || (decide (p1 < 0)))
      (K true w)
      (callS Try.prog 11 #[(.slice p0.a p0.len p0.cap)] [(.one (.int .i64))] (fun r2 w =>
      callS Try.prog 12 #[(.slice p0.a p0.len p0.cap)] [(.one (.int .i64))] (fun r3 w =>
      cond (((r2 != r3) || (decide (r2 < 0))) || (decide (r2 ≥ 4294967296)))
        (K false w)
        (cond ((p0.len : Int) == 0)
          (K (r2 == 0) w)
          (semS Try.prog (Instr.buildSlice 22 0 #[]) (.one .slc) (fun x4 w =>
          semS Try.prog (Builtin.append_ #[22, 22] 22 #[(.slice x4.a x4.len x4.cap), (.slice p0.a p0.len p0.cap)]) (.one .slc) (fun r5 w =>
          drawS w fun C w =>
          semQ Try.prog C (binS .rem 3 (.tmp 40) (.tmp 42) (.int .i64 (IntKind.wrap .i64 (Int.tdiv p1 8))) (.int .i64 (r5.len : Int))) (.one (.int .i64)) (fun x6 =>
          semQ Try.prog C (Instr.indexAt 22 (.slice r5.a r5.len r5.cap) (.int .i64 x6)) (.one .adr) (fun x7 =>
          semQ Try.prog C (Instr.loadAt 5 (.pointer (some x7))) (.one (.int .u8)) (fun x8 =>
          semQ Try.prog C (binS .shl 5 (.const (Go.Value.int Go.IntKind.u8 1)) (.tmp 47) (.int .u8 1) (.int .i64 (Int.tmod p1 8))) (.one (.int .u8)) (fun x9 =>
          semQ Try.prog C (Instr.indexAt 22 (.slice r5.a r5.len r5.cap) (.int .i64 x6)) (.one .adr) (fun x10 =>
          semU Try.prog (Instr.storeAt 5 (.pointer (some x10)) (.int .u8 (xorI .u8 x8 x9))) (fun w =>
          callS Try.prog 11 #[(.slice r5.a r5.len r5.cap)] [(.one (.int .i64))] (fun r11 w =>
          K (r11 != r2) w) w) w)))))) w) w))) w) w))) w
theorem f3_ok {p0 : Sl} {p1 : Int} {K : Bool → World → Prop} {w : World} (h : f3 p0 p1 K w) : callS Try.prog 3 #[(.slice p0.a p0.len p0.cap), (.int .i64 p1)] [(.one .bool)] K w :=
  calls_of_fn (args := [(.slice p0.a p0.len p0.cap), (.int .i64 p1)]) Try.f3 [] [] [] (.two .nil (.two .nil (.two .nil (.two .nil (.two .nil (.two .nil (.two .nil (.two (.draw [0, 0, 2, 0, 8, 30, 63, 127, 0, 256, 768, 2047, 4095, 8191]) .nil)))))))) (by kernel_rfl) (by kernel_rfl)
    (Eq.mp (by kernel_rfl : f3 p0 p1 K w = evFn Try.prog Try.f3 [] [] [] (.two .nil (.two .nil (.two .nil (.two .nil (.two .nil (.two .nil (.two .nil (.two (.draw [0, 0, 2, 0, 8, 30, 63, 127, 0, 256, 768, 2047, 4095, 8191]) .nil)))))))) [(.slice p0.a p0.len p0.cap), (.int .i64 p1)] [(.one .bool)] K w) h)

/-- (sallyport/record.Record).Half -/
def f15 (p0_0 : Int) (p0_1 : Int) (p0_2 : Bool) (p0_3 : Int) (p0_4 : Int) (p0_5 : Bool) (p1 : Int) (K : Int → Int → Bool → World → Prop) (w : World) : Prop :=
  semS Try.prog (Instr.box 29 (.agg #[(.int .i64 p0_0), (.int .i64 p0_1), (.bool p0_2), (.int .i64 p0_3), (.int .i64 p0_4), (.bool p0_5)])) (.one .adr) (fun x1 w =>
  semS Try.prog (Instr.alloc 27 true (.tuple #[])) (.one .adr) (fun x2 w =>
  cond (p1 == 0)
    (semS Try.prog (Instr.loadAt 27 (.pointer (some (x1.add 0)))) (.agg [(.int .i64), (.int .i64), .bool]) (fun x3 x4 x5 w =>
    semU Try.prog (Instr.storeAt 27 (.pointer (some x2)) (.agg #[(.int .i64 x3), (.int .i64 x4), (.bool x5)])) (fun w =>
    ∃ v6, (loadVar 27 x2).run Try.prog w = .ok v6 w ∧ decR [(.agg [(.int .i64), (.int .i64), .bool])] v6 K fun r => r w) w) w)
    (cond (p1 == 1)
      (semS Try.prog (Instr.loadAt 27 (.pointer (some (x1.add 3)))) (.agg [(.int .i64), (.int .i64), .bool]) (fun x7 x8 x9 w =>
      semU Try.prog (Instr.storeAt 27 (.pointer (some x2)) (.agg #[(.int .i64 x7), (.int .i64 x8), (.bool x9)])) (fun w =>
      ∃ v10, (loadVar 27 x2).run Try.prog w = .ok v10 w ∧ decR [(.agg [(.int .i64), (.int .i64), .bool])] v10 K fun r => r w) w) w)
      (semU Try.prog (Instr.storeAt 27 (.pointer (some x2)) (.agg #[(.int .i64 0), (.int .i64 0), (.bool false)])) (fun w =>
      ∃ v11, (loadVar 27 x2).run Try.prog w = .ok v11 w ∧ decR [(.agg [(.int .i64), (.int .i64), .bool])] v11 K fun r => r w) w))) w) w
theorem f15_ok {p0_0 : Int} {p0_1 : Int} {p0_2 : Bool} {p0_3 : Int} {p0_4 : Int} {p0_5 : Bool} {p1 : Int} {K : Int → Int → Bool → World → Prop} {w : World} (h : f15 p0_0 p0_1 p0_2 p0_3 p0_4 p0_5 p1 K w) : callS Try.prog 15 #[(.agg #[(.int .i64 p0_0), (.int .i64 p0_1), (.bool p0_2), (.int .i64 p0_3), (.int .i64 p0_4), (.bool p0_5)]), (.int .i64 p1)] [(.agg [(.int .i64), (.int .i64), .bool])] K w :=
  calls_of_fn (args := [(.agg #[(.int .i64 p0_0), (.int .i64 p0_1), (.bool p0_2), (.int .i64 p0_3), (.int .i64 p0_4), (.bool p0_5)]), (.int .i64 p1)]) Try.f15 [] [] [] .nil (by kernel_rfl) (by kernel_rfl)
    (Eq.mp (by kernel_rfl : f15 p0_0 p0_1 p0_2 p0_3 p0_4 p0_5 p1 K w = evFn Try.prog Try.f15 [] [] [] .nil [(.agg #[(.int .i64 p0_0), (.int .i64 p0_1), (.bool p0_2), (.int .i64 p0_3), (.int .i64 p0_4), (.bool p0_5)]), (.int .i64 p1)] [(.agg [(.int .i64), (.int .i64), .bool])] K w) h)

/-- sallyport/sallyportlaw16.RecordSwaps -/
def f4 (p0_0 : Int) (p0_1 : Int) (p0_2 : Bool) (p0_3 : Int) (p0_4 : Int) (p0_5 : Bool) (K : Bool → World → Prop) (w : World) : Prop :=
  semS Try.prog (Instr.box 29 (.agg #[(.int .i64 p0_0), (.int .i64 p0_1), (.bool p0_2), (.int .i64 p0_3), (.int .i64 p0_4), (.bool p0_5)])) (.one .adr) (fun x1 w =>
  callS Try.prog 10 #[] [(.one .bool)] (fun r2 w =>
  cond (!r2)
    (K false w)
    (semS Try.prog (Instr.loadAt 29 (.pointer (some x1))) (.agg [(.int .i64), (.int .i64), .bool, (.int .i64), (.int .i64), .bool]) (fun x3 x4 x5 x6 x7 x8 w =>
    callS Try.prog 13 #[(.agg #[(.int .i64 x3), (.int .i64 x4), (.bool x5), (.int .i64 x6), (.int .i64 x7), (.bool x8)])] [(.one (.int .i64)), (.one .bool)] (fun r9 r10 w =>
    semS Try.prog (Instr.loadAt 27 (.pointer (some (x1.add 3)))) (.agg [(.int .i64), (.int .i64), .bool]) (fun x11 x12 x13 w =>
    semS Try.prog (Instr.loadAt 27 (.pointer (some (x1.add 0)))) (.agg [(.int .i64), (.int .i64), .bool]) (fun x14 x15 x16 w =>
    callS Try.prog 13 #[(.agg #[(.int .i64 x11), (.int .i64 x12), (.bool x13), (.int .i64 x14), (.int .i64 x15), (.bool x16)])] [(.one (.int .i64)), (.one .bool)] (fun r17 r18 w =>
    cond (!(r10 == r18))
      (K false w)
      (cond (!r10)
        (K ((r9 == 0) && (r17 == 0)) w)
        (semS Try.prog (Instr.loadAt 27 (.pointer (some (x1.add 0)))) (.agg [(.int .i64), (.int .i64), .bool]) (fun x19 x20 x21 w =>
        callS Try.prog 14 #[(.agg #[(.int .i64 x19), (.int .i64 x20), (.bool x21)])] [(.one .bool)] (fun r22 w =>
        joinS (σ := Bool) (fun b23 w =>
          joinS (σ := Bool) (fun b25 w =>
            cond b25
              (K ((r9 == 0) && (r17 == 0)) w)
              (drawS w fun C w =>
              cond (r9 != r17)
                (semQ Try.prog C (Instr.loadAt 29 (.pointer (some x1))) (.agg [(.int .i64), (.int .i64), .bool, (.int .i64), (.int .i64), .bool]) (fun x27 x28 x29 x30 x31 x32 =>
                semQ Try.prog C (Instr.loadAt 27 (.pointer (some (x1.add 3)))) (.agg [(.int .i64), (.int .i64), .bool]) (fun x33 x34 x35 =>
                semQ Try.prog C (Instr.loadAt 27 (.pointer (some (x1.add 0)))) (.agg [(.int .i64), (.int .i64), .bool]) (fun x36 x37 x38 =>
                callS Try.prog 15 #[(.agg #[(.int .i64 x27), (.int .i64 x28), (.bool x29), (.int .i64 x30), (.int .i64 x31), (.bool x32)]), (.int .i64 r9)] [(.agg [(.int .i64), (.int .i64), .bool])] (fun r39 r40 r41 w =>
                moreS C w (fun C =>
                callS Try.prog 15 #[(.agg #[(.int .i64 x33), (.int .i64 x34), (.bool x35), (.int .i64 x36), (.int .i64 x37), (.bool x38)]), (.int .i64 r17)] [(.agg [(.int .i64), (.int .i64), .bool])] (fun r42 r43 r44 w =>
                moreS C w (fun C =>
                semQ Try.prog C (binS .eql 27 (.tmp 63) (.tmp 70) (.agg #[(.int .i64 r39), (.int .i64 r40), (.bool r41)]) (.agg #[(.int .i64 r42), (.int .i64 r43), (.bool r44)])) (.one .bool) (fun x45 =>
                cond x45
                  (semQ Try.prog C (Instr.loadAt 29 (.pointer (some x1))) (.agg [(.int .i64), (.int .i64), .bool, (.int .i64), (.int .i64), .bool]) (fun x46 x47 x48 x49 x50 x51 =>
                  callS Try.prog 15 #[(.agg #[(.int .i64 x46), (.int .i64 x47), (.bool x48), (.int .i64 x49), (.int .i64 x50), (.bool x51)]), (.int .i64 r9)] [(.agg [(.int .i64), (.int .i64), .bool])] (fun r52 r53 r54 w =>
                  callS Try.prog 14 #[(.agg #[(.int .i64 r52), (.int .i64 r53), (.bool r54)])] [(.one .bool)] (fun r55 w =>
                  K r55 w) w) w))
                  (K false w)))) w)) w))))
                (K false w))) fun J26 =>
          cond b23
            (semS Try.prog (Instr.loadAt 3 (.pointer (some ((x1.add 0).add 0)))) (.one (.int .i64)) (fun x57 w =>
              semS Try.prog (Instr.loadAt 3 (.pointer (some ((x1.add 3).add 0)))) (.one (.int .i64)) (fun x58 w =>
              J26 (x57 == x58) w) w) w)
            (J26 false w)) fun J24 =>
        cond r22
          (semS Try.prog (Instr.loadAt 27 (.pointer (some (x1.add 3)))) (.agg [(.int .i64), (.int .i64), .bool]) (fun x59 x60 x61 w =>
            callS Try.prog 14 #[(.agg #[(.int .i64 x59), (.int .i64 x60), (.bool x61)])] [(.one .bool)] (fun r62 w =>
            J24 r62 w) w) w)
          (J24 false w)) w) w))) w) w) w) w) w)) w) w
theorem f4_ok {p0_0 : Int} {p0_1 : Int} {p0_2 : Bool} {p0_3 : Int} {p0_4 : Int} {p0_5 : Bool} {K : Bool → World → Prop} {w : World} (h : f4 p0_0 p0_1 p0_2 p0_3 p0_4 p0_5 K w) : callS Try.prog 4 #[(.agg #[(.int .i64 p0_0), (.int .i64 p0_1), (.bool p0_2), (.int .i64 p0_3), (.int .i64 p0_4), (.bool p0_5)])] [(.one .bool)] K w :=
  calls_of_fn (args := [(.agg #[(.int .i64 p0_0), (.int .i64 p0_1), (.bool p0_2), (.int .i64 p0_3), (.int .i64 p0_4), (.bool p0_5)])]) Try.f4 [] [] [] (.two .nil (.two .nil (.two .nil (.two .nil (.two .nil (.two .nil (.two .nil (.two (.draw [0, 0, 3, 7, 15, 15, 63, 15, 143, 15, 527, 1935, 15, 8191, 16383, 32767, 65535, 131071, 131071, 524287, 1048575, 2097151, 4194303]) .nil)))))))) (by kernel_rfl) (by kernel_rfl)
    (Eq.mp (by kernel_rfl : f4 p0_0 p0_1 p0_2 p0_3 p0_4 p0_5 K w = evFn Try.prog Try.f4 [] [] [] (.two .nil (.two .nil (.two .nil (.two .nil (.two .nil (.two .nil (.two .nil (.two (.draw [0, 0, 3, 7, 15, 15, 63, 15, 143, 15, 527, 1935, 15, 8191, 16383, 32767, 65535, 131071, 131071, 524287, 1048575, 2097151, 4194303]) .nil)))))))) [(.agg #[(.int .i64 p0_0), (.int .i64 p0_1), (.bool p0_2), (.int .i64 p0_3), (.int .i64 p0_4), (.bool p0_5)])] [(.one .bool)] K w) h)

/-- sallyport/sallyportlaw16.model -/
def f16 (p0_0 : Int) (p0_1 : Int) (p0_2 : Bool) (p0_3 : Int) (p0_4 : Int) (p0_5 : Bool) (K : Int → Int → Bool → Int → Int → Bool → World → Prop) (w : World) : Prop :=
  semS Try.prog (Instr.box 29 (.agg #[(.int .i64 p0_0), (.int .i64 p0_1), (.bool p0_2), (.int .i64 p0_3), (.int .i64 p0_4), (.bool p0_5)])) (.one .adr) (fun x1 w =>
  semS Try.prog (Instr.alloc 36 true (.tuple #[])) (.one .adr) (fun x2 w =>
  semS Try.prog (Instr.loadAt 27 (.pointer (some (x1.add 0)))) (.agg [(.int .i64), (.int .i64), .bool]) (fun x3 x4 x5 w =>
  semS Try.prog (Instr.loadAt 27 (.pointer (some (x1.add 3)))) (.agg [(.int .i64), (.int .i64), .bool]) (fun x6 x7 x8 w =>
  semU Try.prog (Instr.storeAt 36 (.pointer (some x2)) (.agg #[(.int .i64 x3), (.int .i64 x4), (.bool x5), (.int .i64 x6), (.int .i64 x7), (.bool x8)])) (fun w =>
  ∃ v9, (loadVar 36 x2).run Try.prog w = .ok v9 w ∧ decR [(.agg [(.int .i64), (.int .i64), .bool, (.int .i64), (.int .i64), .bool])] v9 K fun r => r w) w) w) w) w) w
theorem f16_ok {p0_0 : Int} {p0_1 : Int} {p0_2 : Bool} {p0_3 : Int} {p0_4 : Int} {p0_5 : Bool} {K : Int → Int → Bool → Int → Int → Bool → World → Prop} {w : World} (h : f16 p0_0 p0_1 p0_2 p0_3 p0_4 p0_5 K w) : callS Try.prog 16 #[(.agg #[(.int .i64 p0_0), (.int .i64 p0_1), (.bool p0_2), (.int .i64 p0_3), (.int .i64 p0_4), (.bool p0_5)])] [(.agg [(.int .i64), (.int .i64), .bool, (.int .i64), (.int .i64), .bool])] K w :=
  calls_of_fn (args := [(.agg #[(.int .i64 p0_0), (.int .i64 p0_1), (.bool p0_2), (.int .i64 p0_3), (.int .i64 p0_4), (.bool p0_5)])]) Try.f16 [] [] [] .nil (by kernel_rfl) (by kernel_rfl)
    (Eq.mp (by kernel_rfl : f16 p0_0 p0_1 p0_2 p0_3 p0_4 p0_5 K w = evFn Try.prog Try.f16 [] [] [] .nil [(.agg #[(.int .i64 p0_0), (.int .i64 p0_1), (.bool p0_2), (.int .i64 p0_3), (.int .i64 p0_4), (.bool p0_5)])] [(.agg [(.int .i64), (.int .i64), .bool, (.int .i64), (.int .i64), .bool])] K w) h)

/-- (sallyport/sallyportref16.Half).Bootable -/
def f18 (p0_0 : Int) (p0_1 : Int) (p0_2 : Bool) (K : Bool → World → Prop) (w : World) : Prop :=
  semS Try.prog (Instr.box 34 (.agg #[(.int .i64 p0_0), (.int .i64 p0_1), (.bool p0_2)])) (.one .adr) (fun x1 w =>
  semS Try.prog (Instr.loadAt 3 (.pointer (some (x1.add 0)))) (.one (.int .i64)) (fun x2 w =>
  joinS (σ := Bool) (fun b3 w =>
    K b3 w) fun J4 =>
  cond (decide (x2 > 0))
    (semS Try.prog (Instr.loadAt 4 (.pointer (some (x1.add 2)))) (.one .bool) (fun x5 w =>
      joinS (σ := Bool) (fun b6 w =>
        J4 b6 w) fun J7 =>
      cond x5
        (J7 true w)
        (semS Try.prog (Instr.loadAt 3 (.pointer (some (x1.add 1)))) (.one (.int .i64)) (fun x8 w =>
          J7 (decide (x8 > 0)) w) w)) w)
    (J4 false w)) w) w
theorem f18_ok {p0_0 : Int} {p0_1 : Int} {p0_2 : Bool} {K : Bool → World → Prop} {w : World} (h : f18 p0_0 p0_1 p0_2 K w) : callS Try.prog 18 #[(.agg #[(.int .i64 p0_0), (.int .i64 p0_1), (.bool p0_2)])] [(.one .bool)] K w :=
  calls_of_fn (args := [(.agg #[(.int .i64 p0_0), (.int .i64 p0_1), (.bool p0_2)])]) Try.f18 [] [] [] .nil (by kernel_rfl) (by kernel_rfl)
    (Eq.mp (by kernel_rfl : f18 p0_0 p0_1 p0_2 K w = evFn Try.prog Try.f18 [] [] [] .nil [(.agg #[(.int .i64 p0_0), (.int .i64 p0_1), (.bool p0_2)])] [(.one .bool)] K w) h)

/-- (sallyport/sallyportref16.Record).Pick -/
def f17 (p0_0 : Int) (p0_1 : Int) (p0_2 : Bool) (p0_3 : Int) (p0_4 : Int) (p0_5 : Bool) (K : Int → World → Prop) (w : World) : Prop :=
  semS Try.prog (Instr.box 36 (.agg #[(.int .i64 p0_0), (.int .i64 p0_1), (.bool p0_2), (.int .i64 p0_3), (.int .i64 p0_4), (.bool p0_5)])) (.one .adr) (fun x1 w =>
  semS Try.prog (Instr.loadAt 34 (.pointer (some (x1.add 0)))) (.agg [(.int .i64), (.int .i64), .bool]) (fun x2 x3 x4 w =>
  callS Try.prog 18 #[(.agg #[(.int .i64 x2), (.int .i64 x3), (.bool x4)])] [(.one .bool)] (fun r5 w =>
  joinS (σ := Bool) (fun b6 w =>
    cond b6
      (K 0 w)
      (semS Try.prog (Instr.loadAt 34 (.pointer (some (x1.add 3)))) (.agg [(.int .i64), (.int .i64), .bool]) (fun x8 x9 x10 w =>
      callS Try.prog 18 #[(.agg #[(.int .i64 x8), (.int .i64 x9), (.bool x10)])] [(.one .bool)] (fun r11 w =>
      cond r11
        (K 1 w)
        (K (-1) w)) w) w)) fun J7 =>
  cond r5
    (semS Try.prog (Instr.loadAt 34 (.pointer (some (x1.add 3)))) (.agg [(.int .i64), (.int .i64), .bool]) (fun x12 x13 x14 w =>
      callS Try.prog 18 #[(.agg #[(.int .i64 x12), (.int .i64 x13), (.bool x14)])] [(.one .bool)] (fun r15 w =>
      joinS (σ := Bool) (fun b16 w =>
        J7 b16 w) fun J17 =>
      cond (!r15)
        (J17 true w)
        (semS Try.prog (Instr.loadAt 3 (.pointer (some ((x1.add 0).add 0)))) (.one (.int .i64)) (fun x18 w =>
          semS Try.prog (Instr.loadAt 3 (.pointer (some ((x1.add 3).add 0)))) (.one (.int .i64)) (fun x19 w =>
          J17 (decide (x18 ≥ x19)) w) w) w)) w) w)
    (J7 false w)) w) w) w
theorem f17_ok {p0_0 : Int} {p0_1 : Int} {p0_2 : Bool} {p0_3 : Int} {p0_4 : Int} {p0_5 : Bool} {K : Int → World → Prop} {w : World} (h : f17 p0_0 p0_1 p0_2 p0_3 p0_4 p0_5 K w) : callS Try.prog 17 #[(.agg #[(.int .i64 p0_0), (.int .i64 p0_1), (.bool p0_2), (.int .i64 p0_3), (.int .i64 p0_4), (.bool p0_5)])] [(.one (.int .i64))] K w :=
  calls_of_fn (args := [(.agg #[(.int .i64 p0_0), (.int .i64 p0_1), (.bool p0_2), (.int .i64 p0_3), (.int .i64 p0_4), (.bool p0_5)])]) Try.f17 [] [] [] .nil (by kernel_rfl) (by kernel_rfl)
    (Eq.mp (by kernel_rfl : f17 p0_0 p0_1 p0_2 p0_3 p0_4 p0_5 K w = evFn Try.prog Try.f17 [] [] [] .nil [(.agg #[(.int .i64 p0_0), (.int .i64 p0_1), (.bool p0_2), (.int .i64 p0_3), (.int .i64 p0_4), (.bool p0_5)])] [(.one (.int .i64))] K w) h)

/-- (sallyport/record.Record).With -/
def f19 (p0_0 : Int) (p0_1 : Int) (p0_2 : Bool) (p0_3 : Int) (p0_4 : Int) (p0_5 : Bool) (p1 : Int) (p2_0 : Int) (p2_1 : Int) (p2_2 : Bool) (K : Int → Int → Bool → Int → Int → Bool → World → Prop) (w : World) : Prop :=
  semS Try.prog (Instr.box 29 (.agg #[(.int .i64 p0_0), (.int .i64 p0_1), (.bool p0_2), (.int .i64 p0_3), (.int .i64 p0_4), (.bool p0_5)])) (.one .adr) (fun x1 w =>
  semS Try.prog (Instr.box 27 (.agg #[(.int .i64 p2_0), (.int .i64 p2_1), (.bool p2_2)])) (.one .adr) (fun x2 w =>
  semS Try.prog (Instr.alloc 29 true (.tuple #[])) (.one .adr) (fun x3 w =>
  cond (p1 == 0)
    (semS Try.prog (Instr.loadAt 27 (.pointer (some x2))) (.agg [(.int .i64), (.int .i64), .bool]) (fun x4 x5 x6 w =>
    semU Try.prog (Instr.storeAt 27 (.pointer (some (x1.add 0))) (.agg #[(.int .i64 x4), (.int .i64 x5), (.bool x6)])) (fun w =>
    semS Try.prog (Instr.loadAt 29 (.pointer (some x1))) (.agg [(.int .i64), (.int .i64), .bool, (.int .i64), (.int .i64), .bool]) (fun x7 x8 x9 x10 x11 x12 w =>
    semU Try.prog (Instr.storeAt 29 (.pointer (some x3)) (.agg #[(.int .i64 x7), (.int .i64 x8), (.bool x9), (.int .i64 x10), (.int .i64 x11), (.bool x12)])) (fun w =>
    ∃ v13, (loadVar 29 x3).run Try.prog w = .ok v13 w ∧ decR [(.agg [(.int .i64), (.int .i64), .bool, (.int .i64), (.int .i64), .bool])] v13 K fun r => r w) w) w) w) w)
    (cond (p1 == 1)
      (semS Try.prog (Instr.loadAt 27 (.pointer (some x2))) (.agg [(.int .i64), (.int .i64), .bool]) (fun x14 x15 x16 w =>
      semU Try.prog (Instr.storeAt 27 (.pointer (some (x1.add 3))) (.agg #[(.int .i64 x14), (.int .i64 x15), (.bool x16)])) (fun w =>
      semS Try.prog (Instr.loadAt 29 (.pointer (some x1))) (.agg [(.int .i64), (.int .i64), .bool, (.int .i64), (.int .i64), .bool]) (fun x17 x18 x19 x20 x21 x22 w =>
      semU Try.prog (Instr.storeAt 29 (.pointer (some x3)) (.agg #[(.int .i64 x17), (.int .i64 x18), (.bool x19), (.int .i64 x20), (.int .i64 x21), (.bool x22)])) (fun w =>
      ∃ v23, (loadVar 29 x3).run Try.prog w = .ok v23 w ∧ decR [(.agg [(.int .i64), (.int .i64), .bool, (.int .i64), (.int .i64), .bool])] v23 K fun r => r w) w) w) w) w)
      (semS Try.prog (Instr.loadAt 29 (.pointer (some x1))) (.agg [(.int .i64), (.int .i64), .bool, (.int .i64), (.int .i64), .bool]) (fun x24 x25 x26 x27 x28 x29 w =>
      semU Try.prog (Instr.storeAt 29 (.pointer (some x3)) (.agg #[(.int .i64 x24), (.int .i64 x25), (.bool x26), (.int .i64 x27), (.int .i64 x28), (.bool x29)])) (fun w =>
      ∃ v30, (loadVar 29 x3).run Try.prog w = .ok v30 w ∧ decR [(.agg [(.int .i64), (.int .i64), .bool, (.int .i64), (.int .i64), .bool])] v30 K fun r => r w) w) w))) w) w) w
theorem f19_ok {p0_0 : Int} {p0_1 : Int} {p0_2 : Bool} {p0_3 : Int} {p0_4 : Int} {p0_5 : Bool} {p1 : Int} {p2_0 : Int} {p2_1 : Int} {p2_2 : Bool} {K : Int → Int → Bool → Int → Int → Bool → World → Prop} {w : World} (h : f19 p0_0 p0_1 p0_2 p0_3 p0_4 p0_5 p1 p2_0 p2_1 p2_2 K w) : callS Try.prog 19 #[(.agg #[(.int .i64 p0_0), (.int .i64 p0_1), (.bool p0_2), (.int .i64 p0_3), (.int .i64 p0_4), (.bool p0_5)]), (.int .i64 p1), (.agg #[(.int .i64 p2_0), (.int .i64 p2_1), (.bool p2_2)])] [(.agg [(.int .i64), (.int .i64), .bool, (.int .i64), (.int .i64), .bool])] K w :=
  calls_of_fn (args := [(.agg #[(.int .i64 p0_0), (.int .i64 p0_1), (.bool p0_2), (.int .i64 p0_3), (.int .i64 p0_4), (.bool p0_5)]), (.int .i64 p1), (.agg #[(.int .i64 p2_0), (.int .i64 p2_1), (.bool p2_2)])]) Try.f19 [] [] [] .nil (by kernel_rfl) (by kernel_rfl)
    (Eq.mp (by kernel_rfl : f19 p0_0 p0_1 p0_2 p0_3 p0_4 p0_5 p1 p2_0 p2_1 p2_2 K w = evFn Try.prog Try.f19 [] [] [] .nil [(.agg #[(.int .i64 p0_0), (.int .i64 p0_1), (.bool p0_2), (.int .i64 p0_3), (.int .i64 p0_4), (.bool p0_5)]), (.int .i64 p1), (.agg #[(.int .i64 p2_0), (.int .i64 p2_1), (.bool p2_2)])] [(.agg [(.int .i64), (.int .i64), .bool, (.int .i64), (.int .i64), .bool])] K w) h)

def f5_t1 (z93 : Bool) (K : Bool → World → Prop) (x1 : Addr) (x2 : Addr) (p1 : Int) (w : World) : Prop :=
  cond z93
    (K false w)
    (semS Try.prog (Instr.loadAt 29 (.pointer (some x1))) (.agg [(.int .i64), (.int .i64), .bool, (.int .i64), (.int .i64), .bool]) (fun x94 x95 x96 x97 x98 x99 w =>
    semS Try.prog (Instr.loadAt 27 (.pointer (some x2))) (.agg [(.int .i64), (.int .i64), .bool]) (fun x100 x101 x102 w =>
    callS Try.prog 19 #[(.agg #[(.int .i64 x94), (.int .i64 x95), (.bool x96), (.int .i64 x97), (.int .i64 x98), (.bool x99)]), (.int .i64 p1), (.agg #[(.int .i64 x100), (.int .i64 x101), (.bool x102)])] [(.agg [(.int .i64), (.int .i64), .bool, (.int .i64), (.int .i64), .bool])] (fun r103 r104 r105 r106 r107 r108 w =>
    semS Try.prog (Instr.alloc 29 true (.tuple #[])) (.one .adr) (fun x109 w =>
    semU Try.prog (Instr.storeAt 29 (.pointer (some x109)) (.agg #[(.int .i64 r103), (.int .i64 r104), (.bool r105), (.int .i64 r106), (.int .i64 r107), (.bool r108)])) (fun w =>
    cond (p1 == 0)
      (drawS w fun C w =>
      semQ Try.prog C (Instr.loadAt 29 (.pointer (some x1))) (.agg [(.int .i64), (.int .i64), .bool, (.int .i64), (.int .i64), .bool]) (fun x110 x111 x112 x113 x114 x115 =>
      semQ Try.prog C (Instr.loadAt 27 (.pointer (some (x1.add 0)))) (.agg [(.int .i64), (.int .i64), .bool]) (fun x116 x117 x118 =>
      callS Try.prog 15 #[(.agg #[(.int .i64 x110), (.int .i64 x111), (.bool x112), (.int .i64 x113), (.int .i64 x114), (.bool x115)]), (.int .i64 0)] [(.agg [(.int .i64), (.int .i64), .bool])] (fun r119 r120 r121 w =>
      moreS C w (fun C =>
      semQ Try.prog C (binS .eql 27 (.tmp 59) (.tmp 61) (.agg #[(.int .i64 r119), (.int .i64 r120), (.bool r121)]) (.agg #[(.int .i64 x116), (.int .i64 x117), (.bool x118)])) (.one .bool) (fun x122 =>
      cond x122
        (semQ Try.prog C (Instr.loadAt 27 (.pointer (some (x109.add 0)))) (.agg [(.int .i64), (.int .i64), .bool]) (fun x123 x124 x125 =>
        semQ Try.prog C (Instr.loadAt 27 (.pointer (some x2))) (.agg [(.int .i64), (.int .i64), .bool]) (fun x126 x127 x128 =>
        semQ Try.prog C (binS .eql 27 (.tmp 65) (.tmp 66) (.agg #[(.int .i64 x123), (.int .i64 x124), (.bool x125)]) (.agg #[(.int .i64 x126), (.int .i64 x127), (.bool x128)])) (.one .bool) (fun x129 =>
        cond x129
          (semQ Try.prog C (Instr.loadAt 27 (.pointer (some (x109.add 3)))) (.agg [(.int .i64), (.int .i64), .bool]) (fun x130 x131 x132 =>
          semQ Try.prog C (Instr.loadAt 27 (.pointer (some (x1.add 3)))) (.agg [(.int .i64), (.int .i64), .bool]) (fun x133 x134 x135 =>
          semQ Try.prog C (binS .eql 27 (.tmp 71) (.tmp 73) (.agg #[(.int .i64 x130), (.int .i64 x131), (.bool x132)]) (.agg #[(.int .i64 x133), (.int .i64 x134), (.bool x135)])) (.one .bool) (fun x136 =>
          K x136 w))))
          (K false w)))))
        (K false w)))) w)))
      (cond (p1 == 1)
        (drawS w fun C w =>
        semQ Try.prog C (Instr.loadAt 29 (.pointer (some x1))) (.agg [(.int .i64), (.int .i64), .bool, (.int .i64), (.int .i64), .bool]) (fun x138 x139 x140 x141 x142 x143 =>
        semQ Try.prog C (Instr.loadAt 27 (.pointer (some (x1.add 3)))) (.agg [(.int .i64), (.int .i64), .bool]) (fun x144 x145 x146 =>
        callS Try.prog 15 #[(.agg #[(.int .i64 x138), (.int .i64 x139), (.bool x140), (.int .i64 x141), (.int .i64 x142), (.bool x143)]), (.int .i64 1)] [(.agg [(.int .i64), (.int .i64), .bool])] (fun r147 r148 r149 w =>
        moreS C w (fun C =>
        semQ Try.prog C (binS .eql 27 (.tmp 79) (.tmp 81) (.agg #[(.int .i64 r147), (.int .i64 r148), (.bool r149)]) (.agg #[(.int .i64 x144), (.int .i64 x145), (.bool x146)])) (.one .bool) (fun x150 =>
        cond x150
          (semQ Try.prog C (Instr.loadAt 27 (.pointer (some (x109.add 3)))) (.agg [(.int .i64), (.int .i64), .bool]) (fun x151 x152 x153 =>
          semQ Try.prog C (Instr.loadAt 27 (.pointer (some x2))) (.agg [(.int .i64), (.int .i64), .bool]) (fun x154 x155 x156 =>
          semQ Try.prog C (binS .eql 27 (.tmp 85) (.tmp 86) (.agg #[(.int .i64 x151), (.int .i64 x152), (.bool x153)]) (.agg #[(.int .i64 x154), (.int .i64 x155), (.bool x156)])) (.one .bool) (fun x157 =>
          cond x157
            (semQ Try.prog C (Instr.loadAt 27 (.pointer (some (x109.add 0)))) (.agg [(.int .i64), (.int .i64), .bool]) (fun x158 x159 x160 =>
            semQ Try.prog C (Instr.loadAt 27 (.pointer (some (x1.add 0)))) (.agg [(.int .i64), (.int .i64), .bool]) (fun x161 x162 x163 =>
            semQ Try.prog C (binS .eql 27 (.tmp 91) (.tmp 93) (.agg #[(.int .i64 x158), (.int .i64 x159), (.bool x160)]) (.agg #[(.int .i64 x161), (.int .i64 x162), (.bool x163)])) (.one .bool) (fun x164 =>
            K x164 w))))
            (K false w)))))
          (K false w)))) w)))
        (semS Try.prog (Instr.loadAt 29 (.pointer (some x1))) (.agg [(.int .i64), (.int .i64), .bool, (.int .i64), (.int .i64), .bool]) (fun x166 x167 x168 x169 x170 x171 w =>
        callS Try.prog 15 #[(.agg #[(.int .i64 x166), (.int .i64 x167), (.bool x168), (.int .i64 x169), (.int .i64 x170), (.bool x171)]), (.int .i64 p1)] [(.agg [(.int .i64), (.int .i64), .bool])] (fun r172 r173 r174 w =>
        semS Try.prog (binS .eql 27 (.tmp 98) (.tmp 99) (.agg #[(.int .i64 r172), (.int .i64 r173), (.bool r174)]) (.agg #[(.int .i64 0), (.int .i64 0), (.bool false)])) (.one .bool) (fun x175 w =>
        joinS (σ := Bool) (fun b176 w =>
          K b176 w) fun J177 =>
        cond x175
          (semS Try.prog (Instr.loadAt 29 (.pointer (some x109))) (.agg [(.int .i64), (.int .i64), .bool, (.int .i64), (.int .i64), .bool]) (fun x178 x179 x180 x181 x182 x183 w =>
            semS Try.prog (Instr.loadAt 29 (.pointer (some x1))) (.agg [(.int .i64), (.int .i64), .bool, (.int .i64), (.int .i64), .bool]) (fun x184 x185 x186 x187 x188 x189 w =>
            semS Try.prog (binS .eql 29 (.tmp 102) (.tmp 103) (.agg #[(.int .i64 x178), (.int .i64 x179), (.bool x180), (.int .i64 x181), (.int .i64 x182), (.bool x183)]) (.agg #[(.int .i64 x184), (.int .i64 x185), (.bool x186), (.int .i64 x187), (.int .i64 x188), (.bool x189)])) (.one .bool) (fun x190 w =>
            J177 x190 w) w) w) w)
          (J177 false w)) w) w) w))) w) w) w) w) w)

/-- sallyport/sallyportlaw16.RecordPicks -/
def f5 (p0_0 : Int) (p0_1 : Int) (p0_2 : Bool) (p0_3 : Int) (p0_4 : Int) (p0_5 : Bool) (p1 : Int) (p2_0 : Int) (p2_1 : Int) (p2_2 : Bool) (K : Bool → World → Prop) (w : World) : Prop :=
  semS Try.prog (Instr.box 29 (.agg #[(.int .i64 p0_0), (.int .i64 p0_1), (.bool p0_2), (.int .i64 p0_3), (.int .i64 p0_4), (.bool p0_5)])) (.one .adr) (fun x1 w =>
  semS Try.prog (Instr.box 27 (.agg #[(.int .i64 p2_0), (.int .i64 p2_1), (.bool p2_2)])) (.one .adr) (fun x2 w =>
  callS Try.prog 10 #[] [(.one .bool)] (fun r3 w =>
  cond (!r3)
    (K false w)
    (semS Try.prog (Instr.loadAt 29 (.pointer (some x1))) (.agg [(.int .i64), (.int .i64), .bool, (.int .i64), (.int .i64), .bool]) (fun x4 x5 x6 x7 x8 x9 w =>
    callS Try.prog 13 #[(.agg #[(.int .i64 x4), (.int .i64 x5), (.bool x6), (.int .i64 x7), (.int .i64 x8), (.bool x9)])] [(.one (.int .i64)), (.one .bool)] (fun r10 r11 w =>
    semS Try.prog (Instr.loadAt 29 (.pointer (some x1))) (.agg [(.int .i64), (.int .i64), .bool, (.int .i64), (.int .i64), .bool]) (fun x12 x13 x14 x15 x16 x17 w =>
    callS Try.prog 16 #[(.agg #[(.int .i64 x12), (.int .i64 x13), (.bool x14), (.int .i64 x15), (.int .i64 x16), (.bool x17)])] [(.agg [(.int .i64), (.int .i64), .bool, (.int .i64), (.int .i64), .bool])] (fun r18 r19 r20 r21 r22 r23 w =>
    callS Try.prog 17 #[(.agg #[(.int .i64 r18), (.int .i64 r19), (.bool r20), (.int .i64 r21), (.int .i64 r22), (.bool r23)])] [(.one (.int .i64))] (fun r24 w =>
    drawS w fun C w =>
    cond (!(r11 == (decide (r24 ≥ 0))))
      (f5_t1 true K x1 x2 p1 w)
      (cond r11
        (cond (r10 != r24)
          (f5_t1 true K x1 x2 p1 w)
          (cond (!r11)
            (cond (r10 != 0)
              (f5_t1 true K x1 x2 p1 w)
              (semQ Try.prog C (Instr.loadAt 27 (.pointer (some (x1.add 0)))) (.agg [(.int .i64), (.int .i64), .bool]) (fun x25 x26 x27 =>
              semQ Try.prog C (Instr.loadAt 29 (.pointer (some x1))) (.agg [(.int .i64), (.int .i64), .bool, (.int .i64), (.int .i64), .bool]) (fun x28 x29 x30 x31 x32 x33 =>
              callS Try.prog 14 #[(.agg #[(.int .i64 x25), (.int .i64 x26), (.bool x27)])] [(.one .bool)] (fun r34 w =>
              moreS C w (fun C =>
              callS Try.prog 16 #[(.agg #[(.int .i64 x28), (.int .i64 x29), (.bool x30), (.int .i64 x31), (.int .i64 x32), (.bool x33)])] [(.agg [(.int .i64), (.int .i64), .bool, (.int .i64), (.int .i64), .bool])] (fun r35 r36 r37 r38 r39 r40 w =>
              callS Try.prog 18 #[(.agg #[(.int .i64 r35), (.int .i64 r36), (.bool r37)])] [(.one .bool)] (fun r41 w =>
              f5_t1 (!(r34 == r41)) K x1 x2 p1 w) w) w)) w))))
            (semQ Try.prog C (Instr.loadAt 27 (.pointer (some (x1.add 0)))) (.agg [(.int .i64), (.int .i64), .bool]) (fun x42 x43 x44 =>
              semQ Try.prog C (Instr.loadAt 29 (.pointer (some x1))) (.agg [(.int .i64), (.int .i64), .bool, (.int .i64), (.int .i64), .bool]) (fun x45 x46 x47 x48 x49 x50 =>
              callS Try.prog 14 #[(.agg #[(.int .i64 x42), (.int .i64 x43), (.bool x44)])] [(.one .bool)] (fun r51 w =>
              moreS C w (fun C =>
              callS Try.prog 16 #[(.agg #[(.int .i64 x45), (.int .i64 x46), (.bool x47), (.int .i64 x48), (.int .i64 x49), (.bool x50)])] [(.agg [(.int .i64), (.int .i64), .bool, (.int .i64), (.int .i64), .bool])] (fun r52 r53 r54 r55 r56 r57 w =>
              callS Try.prog 18 #[(.agg #[(.int .i64 r52), (.int .i64 r53), (.bool r54)])] [(.one .bool)] (fun r58 w =>
              f5_t1 (!(r51 == r58)) K x1 x2 p1 w) w) w)) w)))))
        (cond (!r11)
            (cond (r10 != 0)
              (f5_t1 true K x1 x2 p1 w)
              (semQ Try.prog C (Instr.loadAt 27 (.pointer (some (x1.add 0)))) (.agg [(.int .i64), (.int .i64), .bool]) (fun x59 x60 x61 =>
              semQ Try.prog C (Instr.loadAt 29 (.pointer (some x1))) (.agg [(.int .i64), (.int .i64), .bool, (.int .i64), (.int .i64), .bool]) (fun x62 x63 x64 x65 x66 x67 =>
              callS Try.prog 14 #[(.agg #[(.int .i64 x59), (.int .i64 x60), (.bool x61)])] [(.one .bool)] (fun r68 w =>
              moreS C w (fun C =>
              callS Try.prog 16 #[(.agg #[(.int .i64 x62), (.int .i64 x63), (.bool x64), (.int .i64 x65), (.int .i64 x66), (.bool x67)])] [(.agg [(.int .i64), (.int .i64), .bool, (.int .i64), (.int .i64), .bool])] (fun r69 r70 r71 r72 r73 r74 w =>
              callS Try.prog 18 #[(.agg #[(.int .i64 r69), (.int .i64 r70), (.bool r71)])] [(.one .bool)] (fun r75 w =>
              f5_t1 (!(r68 == r75)) K x1 x2 p1 w) w) w)) w))))
            (semQ Try.prog C (Instr.loadAt 27 (.pointer (some (x1.add 0)))) (.agg [(.int .i64), (.int .i64), .bool]) (fun x76 x77 x78 =>
              semQ Try.prog C (Instr.loadAt 29 (.pointer (some x1))) (.agg [(.int .i64), (.int .i64), .bool, (.int .i64), (.int .i64), .bool]) (fun x79 x80 x81 x82 x83 x84 =>
              callS Try.prog 14 #[(.agg #[(.int .i64 x76), (.int .i64 x77), (.bool x78)])] [(.one .bool)] (fun r85 w =>
              moreS C w (fun C =>
              callS Try.prog 16 #[(.agg #[(.int .i64 x79), (.int .i64 x80), (.bool x81), (.int .i64 x82), (.int .i64 x83), (.bool x84)])] [(.agg [(.int .i64), (.int .i64), .bool, (.int .i64), (.int .i64), .bool])] (fun r86 r87 r88 r89 r90 r91 w =>
              callS Try.prog 18 #[(.agg #[(.int .i64 r86), (.int .i64 r87), (.bool r88)])] [(.one .bool)] (fun r92 w =>
              f5_t1 (!(r85 == r92)) K x1 x2 p1 w) w) w)) w)))))) w) w) w) w) w)) w) w) w
theorem f5_ok {p0_0 : Int} {p0_1 : Int} {p0_2 : Bool} {p0_3 : Int} {p0_4 : Int} {p0_5 : Bool} {p1 : Int} {p2_0 : Int} {p2_1 : Int} {p2_2 : Bool} {K : Bool → World → Prop} {w : World} (h : f5 p0_0 p0_1 p0_2 p0_3 p0_4 p0_5 p1 p2_0 p2_1 p2_2 K w) : callS Try.prog 5 #[(.agg #[(.int .i64 p0_0), (.int .i64 p0_1), (.bool p0_2), (.int .i64 p0_3), (.int .i64 p0_4), (.bool p0_5)]), (.int .i64 p1), (.agg #[(.int .i64 p2_0), (.int .i64 p2_1), (.bool p2_2)])] [(.one .bool)] K w :=
  calls_of_fn (args := [(.agg #[(.int .i64 p0_0), (.int .i64 p0_1), (.bool p0_2), (.int .i64 p0_3), (.int .i64 p0_4), (.bool p0_5)]), (.int .i64 p1), (.agg #[(.int .i64 p2_0), (.int .i64 p2_1), (.bool p2_2)])]) Try.f5 [] [] [] (.two .nil (.two .nil (.two .nil (.two .nil (.two (.two (.draw [0, 0, 2, 7, 15, 31, 63, 127, 127, 511, 1023, 2047, 4095, 8191, 16383, 32767, 65535, 131071, 262143, 524287, 1048575, 2097151, 4194303, 8388607, 2097151, 33554431, 67108863, 134217727, 268435455, 536870911]) .nil) (.two .nil (.two (.two .nil (.one (.two .nil (.two (.two (.draw [0, 1, 0, 4, 15, 31, 63, 127, 63, 511, 1023, 2047, 4095, 8191, 4095, 20479, 65535, 131071, 262143]) .nil) (.two .nil (.two (.two (.draw [0, 1, 0, 4, 15, 31, 63, 127, 63, 511, 1023, 2047, 4095, 8191, 4095, 20479, 65535, 131071, 262143]) .nil) .nil)))))) .nil))))))) (by kernel_rfl) (by kernel_rfl)
    (Eq.mp (by kernel_rfl : f5 p0_0 p0_1 p0_2 p0_3 p0_4 p0_5 p1 p2_0 p2_1 p2_2 K w = evFn Try.prog Try.f5 [] [] [] (.two .nil (.two .nil (.two .nil (.two .nil (.two (.two (.draw [0, 0, 2, 7, 15, 31, 63, 127, 127, 511, 1023, 2047, 4095, 8191, 16383, 32767, 65535, 131071, 262143, 524287, 1048575, 2097151, 4194303, 8388607, 2097151, 33554431, 67108863, 134217727, 268435455, 536870911]) .nil) (.two .nil (.two (.two .nil (.one (.two .nil (.two (.two (.draw [0, 1, 0, 4, 15, 31, 63, 127, 63, 511, 1023, 2047, 4095, 8191, 4095, 20479, 65535, 131071, 262143]) .nil) (.two .nil (.two (.two (.draw [0, 1, 0, 4, 15, 31, 63, 127, 63, 511, 1023, 2047, 4095, 8191, 4095, 20479, 65535, 131071, 262143]) .nil) .nil)))))) .nil))))))) [(.agg #[(.int .i64 p0_0), (.int .i64 p0_1), (.bool p0_2), (.int .i64 p0_3), (.int .i64 p0_4), (.bool p0_5)]), (.int .i64 p1), (.agg #[(.int .i64 p2_0), (.int .i64 p2_1), (.bool p2_2)])] [(.one .bool)] K w) h)

/-- (sallyport/record.Half).right -/
def f39 (p0_0 : Int) (p0_1 : Int) (p0_2 : Bool) (K : Bool → World → Prop) (w : World) : Prop :=
  semS Try.prog (Instr.box 27 (.agg #[(.int .i64 p0_0), (.int .i64 p0_1), (.bool p0_2)])) (.one .adr) (fun x1 w =>
  semS Try.prog (Instr.loadAt 3 (.pointer (some (x1.add 0)))) (.one (.int .i64)) (fun x2 w =>
  joinS (σ := Bool) (fun b3 w =>
    joinS (σ := Bool) (fun b5 w =>
      joinS (σ := Bool) (fun b7 w =>
        joinS (σ := Bool) (fun b9 w =>
          K b9 w) fun J10 =>
        cond b7
          (semS Try.prog (Instr.loadAt 4 (.pointer (some (x1.add 2)))) (.one .bool) (fun x11 w =>
            joinS (σ := Bool) (fun b12 w =>
              J10 (!b12) w) fun J13 =>
            cond x11
              (semS Try.prog (Instr.loadAt 3 (.pointer (some (x1.add 1)))) (.one (.int .i64)) (fun x14 w =>
                J13 (decide (x14 > 0)) w) w)
              (J13 false w)) w)
          (J10 false w)) fun J8 =>
      cond b5
        (semS Try.prog (Instr.loadAt 3 (.pointer (some (x1.add 1)))) (.one (.int .i64)) (fun x15 w =>
          J8 (decide (x15 ≤ 7)) w) w)
        (J8 false w)) fun J6 =>
    cond b3
      (semS Try.prog (Instr.loadAt 3 (.pointer (some (x1.add 1)))) (.one (.int .i64)) (fun x16 w =>
        J6 (decide (x16 ≥ 0)) w) w)
      (J6 false w)) fun J4 =>
  cond (decide (x2 ≥ 0))
    (semS Try.prog (Instr.loadAt 3 (.pointer (some (x1.add 0)))) (.one (.int .i64)) (fun x17 w =>
      J4 (decide (x17 ≤ 15)) w) w)
    (J4 false w)) w) w
theorem f39_ok {p0_0 : Int} {p0_1 : Int} {p0_2 : Bool} {K : Bool → World → Prop} {w : World} (h : f39 p0_0 p0_1 p0_2 K w) : callS Try.prog 39 #[(.agg #[(.int .i64 p0_0), (.int .i64 p0_1), (.bool p0_2)])] [(.one .bool)] K w :=
  calls_of_fn (args := [(.agg #[(.int .i64 p0_0), (.int .i64 p0_1), (.bool p0_2)])]) Try.f39 [] [] [] .nil (by kernel_rfl) (by kernel_rfl)
    (Eq.mp (by kernel_rfl : f39 p0_0 p0_1 p0_2 K w = evFn Try.prog Try.f39 [] [] [] .nil [(.agg #[(.int .i64 p0_0), (.int .i64 p0_1), (.bool p0_2)])] [(.one .bool)] K w) h)

/-- (sallyport/record.Record).Right -/
def f23 (p0_0 : Int) (p0_1 : Int) (p0_2 : Bool) (p0_3 : Int) (p0_4 : Int) (p0_5 : Bool) (K : Bool → World → Prop) (w : World) : Prop :=
  semS Try.prog (Instr.box 29 (.agg #[(.int .i64 p0_0), (.int .i64 p0_1), (.bool p0_2), (.int .i64 p0_3), (.int .i64 p0_4), (.bool p0_5)])) (.one .adr) (fun x1 w =>
  semS Try.prog (Instr.loadAt 27 (.pointer (some (x1.add 0)))) (.agg [(.int .i64), (.int .i64), .bool]) (fun x2 x3 x4 w =>
  callS Try.prog 39 #[(.agg #[(.int .i64 x2), (.int .i64 x3), (.bool x4)])] [(.one .bool)] (fun r5 w =>
  joinS (σ := Bool) (fun b6 w =>
    K b6 w) fun J7 =>
  cond r5
    (semS Try.prog (Instr.loadAt 27 (.pointer (some (x1.add 3)))) (.agg [(.int .i64), (.int .i64), .bool]) (fun x8 x9 x10 w =>
      callS Try.prog 39 #[(.agg #[(.int .i64 x8), (.int .i64 x9), (.bool x10)])] [(.one .bool)] (fun r11 w =>
      J7 r11 w) w) w)
    (J7 false w)) w) w) w
theorem f23_ok {p0_0 : Int} {p0_1 : Int} {p0_2 : Bool} {p0_3 : Int} {p0_4 : Int} {p0_5 : Bool} {K : Bool → World → Prop} {w : World} (h : f23 p0_0 p0_1 p0_2 p0_3 p0_4 p0_5 K w) : callS Try.prog 23 #[(.agg #[(.int .i64 p0_0), (.int .i64 p0_1), (.bool p0_2), (.int .i64 p0_3), (.int .i64 p0_4), (.bool p0_5)])] [(.one .bool)] K w :=
  calls_of_fn (args := [(.agg #[(.int .i64 p0_0), (.int .i64 p0_1), (.bool p0_2), (.int .i64 p0_3), (.int .i64 p0_4), (.bool p0_5)])]) Try.f23 [] [] [] .nil (by kernel_rfl) (by kernel_rfl)
    (Eq.mp (by kernel_rfl : f23 p0_0 p0_1 p0_2 p0_3 p0_4 p0_5 K w = evFn Try.prog Try.f23 [] [] [] .nil [(.agg #[(.int .i64 p0_0), (.int .i64 p0_1), (.bool p0_2), (.int .i64 p0_3), (.int .i64 p0_4), (.bool p0_5)])] [(.one .bool)] K w) h)

/-- sallyport/span.Within -/
def f49 (p0 : Int) (p1 : Int) (p2 : Int) (K : Bool → World → Prop) (w : World) : Prop :=
  K (((((decide (p0 ≥ 0)) && (decide (p1 ≥ 0))) && (decide (p2 ≥ 0))) && (decide (p0 ≤ p2))) && (decide (p1 ≤ (IntKind.wrap .i64 (p2 - p0))))) w
theorem f49_ok {p0 : Int} {p1 : Int} {p2 : Int} {K : Bool → World → Prop} {w : World} (h : f49 p0 p1 p2 K w) : callS Try.prog 49 #[(.int .i64 p0), (.int .i64 p1), (.int .i64 p2)] [(.one .bool)] K w :=
  calls_of_fn (args := [(.int .i64 p0), (.int .i64 p1), (.int .i64 p2)]) Try.f49 [] [] [] .nil (by kernel_rfl) (by kernel_rfl)
    (Eq.mp (by kernel_rfl : f49 p0 p1 p2 K w = evFn Try.prog Try.f49 [] [] [] .nil [(.int .i64 p0), (.int .i64 p1), (.int .i64 p2)] [(.one .bool)] K w) h)

/-- sallyport/span.Get -/
def f34 (p0 : Sl) (p1 : Int) (p2 : Int) (K : Int → Int → World → Prop) (w : World) : Prop :=
  cond ((decide (p2 < 1)) || (decide (p2 > 8)))
    (K 0 12 w)
    (callS Try.prog 49 #[(.int .i64 p1), (.int .i64 p2), (.int .i64 (p0.len : Int))] [(.one .bool)] (fun r1 w =>
    cond (!r1)
      (K 0 10 w)
      (semS Try.prog (Instr.sliceAt 22 (.slice p0.a p0.len p0.cap) (some (.int .i64 p1)) (some (.int .i64 (IntKind.wrap .i64 (p1 + p2)))) none) (.one .slc) (fun x2 w =>
      loopS (σ := Int × Int) (fun s3 w again4 =>
        cond (decide (s3.2 < (x2.len : Int)))
          (semS Try.prog (Instr.indexAt 22 (.slice x2.a x2.len x2.cap) (.int .i64 s3.2)) (.one .adr) (fun x5 w =>
          semS Try.prog (Instr.loadAt 5 (.pointer (some x5))) (.one (.int .u8)) (fun x6 w =>
          again4 (orI .u64 (shlI .u64 s3.1 8) (IntKind.wrap .u64 x6), IntKind.wrap .i64 (s3.2 + 1)) w) w) w)
          (cond ((shrI .u64 s3.1 63) == 1)
            (K 0 11 w)
            (K (IntKind.wrap .i64 s3.1) 0 w))) (0, 0) w) w)) w)
theorem f34_ok {p0 : Sl} {p1 : Int} {p2 : Int} {K : Int → Int → World → Prop} {w : World} (h : f34 p0 p1 p2 K w) : callS Try.prog 34 #[(.slice p0.a p0.len p0.cap), (.int .i64 p1), (.int .i64 p2)] [(.one (.int .i64)), (.one (.int .i64))] K w :=
  calls_of_fn (args := [(.slice p0.a p0.len p0.cap), (.int .i64 p1), (.int .i64 p2)]) Try.f34 [] [] [] (.two .nil (.two .nil (.two .nil (.two (.two .nil (.one (.loop [(8, (.int .u64)), (32, (.int .i64))] .nil))) .nil)))) (by kernel_rfl) (by kernel_rfl)
    (Eq.mp (by kernel_rfl : f34 p0 p1 p2 K w = evFn Try.prog Try.f34 [] [] [] (.two .nil (.two .nil (.two .nil (.two (.two .nil (.one (.loop [(8, (.int .u64)), (32, (.int .i64))] .nil))) .nil)))) [(.slice p0.a p0.len p0.cap), (.int .i64 p1), (.int .i64 p2)] [(.one (.int .i64)), (.one (.int .i64))] K w) h)

/-- sallyport/record.Parse$1 -/
def f35 (p0 : Int) (c0 : Addr) (K : Int → Int → Bool → World → Prop) (w : World) : Prop :=
  semS Try.prog (Instr.alloc 27 true (.tuple #[])) (.one .adr) (fun x1 w =>
  drawS w fun C w =>
  semQ Try.prog C (Instr.loadAt 22 (.pointer (some c0))) (.one .slc) (fun x2 =>
  semQ Try.prog C (Instr.indexAt 22 (.slice x2.a x2.len x2.cap) (.int .i64 p0)) (.one .adr) (fun x3 =>
  semQ Try.prog C (Instr.loadAt 5 (.pointer (some x3))) (.one (.int .u8)) (fun x4 =>
  semQ Try.prog C (Instr.loadAt 22 (.pointer (some c0))) (.one .slc) (fun x5 =>
  semQ Try.prog C (Instr.indexAt 22 (.slice x5.a x5.len x5.cap) (.int .i64 (IntKind.wrap .i64 (p0 + 1)))) (.one .adr) (fun x6 =>
  semQ Try.prog C (Instr.loadAt 5 (.pointer (some x6))) (.one (.int .u8)) (fun x7 =>
  semQ Try.prog C (Instr.loadAt 22 (.pointer (some c0))) (.one .slc) (fun x8 =>
  semQ Try.prog C (Instr.indexAt 22 (.slice x8.a x8.len x8.cap) (.int .i64 (IntKind.wrap .i64 (p0 + 2)))) (.one .adr) (fun x9 =>
  semQ Try.prog C (Instr.loadAt 5 (.pointer (some x9))) (.one (.int .u8)) (fun x10 =>
  semU Try.prog (Instr.storeAt 27 (.pointer (some x1)) (.agg #[(.int .i64 (IntKind.wrap .i64 x4)), (.int .i64 (IntKind.wrap .i64 x7)), (.bool (x10 == 1))])) (fun w =>
  ∃ v11, (loadVar 27 x1).run Try.prog w = .ok v11 w ∧ decR [(.agg [(.int .i64), (.int .i64), .bool])] v11 K fun r => r w) w)))))))))) w
theorem f35_ok {p0 : Int} {c0 : Addr} {K : Int → Int → Bool → World → Prop} {w : World} (h : f35 p0 c0 K w) : callS Try.prog 35 #[(.int .i64 p0), (.pointer (some c0))] [(.agg [(.int .i64), (.int .i64), .bool])] K w :=
  calls_of_fn (args := [(.int .i64 p0), (.pointer (some c0))]) Try.f35 [] [] [] (.two .nil (.two (.draw [0, 0, 3, 7, 15, 0, 0, 64, 224, 480, 992, 0, 0, 4096, 14336, 30720, 63488, 131071, 262143]) .nil)) (by kernel_rfl) (by kernel_rfl)
    (Eq.mp (by kernel_rfl : f35 p0 c0 K w = evFn Try.prog Try.f35 [] [] [] (.two .nil (.two (.draw [0, 0, 3, 7, 15, 0, 0, 64, 224, 480, 992, 0, 0, 4096, 14336, 30720, 63488, 131071, 262143]) .nil)) [(.int .i64 p0), (.pointer (some c0))] [(.agg [(.int .i64), (.int .i64), .bool])] K w) h)

/-- bytes.Equal -/
def f36 (p0 : Sl) (p1 : Sl) (K : Bool → World → Prop) (w : World) : Prop :=
  semS Try.prog (convert 22 9 (.slice p0.a p0.len p0.cap)) (.one .str) (fun x1 w =>
  semS Try.prog (convert 22 9 (.slice p1.a p1.len p1.cap)) (.one .str) (fun x2 w =>
  K (x1.toList == x2.toList) w) w) w
theorem f36_ok {p0 : Sl} {p1 : Sl} {K : Bool → World → Prop} {w : World} (h : f36 p0 p1 K w) : callS Try.prog 36 #[(.slice p0.a p0.len p0.cap), (.slice p1.a p1.len p1.cap)] [(.one .bool)] K w :=
  calls_of_fn (args := [(.slice p0.a p0.len p0.cap), (.slice p1.a p1.len p1.cap)]) Try.f36 [] [] [] .nil (by kernel_rfl) (by kernel_rfl)
    (Eq.mp (by kernel_rfl : f36 p0 p1 K w = evFn Try.prog Try.f36 [] [] [] .nil [(.slice p0.a p0.len p0.cap), (.slice p1.a p1.len p1.cap)] [(.one .bool)] K w) h)

/-- slices.Clone[[]byte,byte] -/
def f47 (p0 : Sl) (K : Sl → World → Prop) (w : World) : Prop :=
  semS Try.prog (binS .eql 22 (.tmp 3) (.const (Go.Value.slice none 0 0)) (.slice p0.a p0.len p0.cap) (.slice none 0 0)) (.one .bool) (fun x1 w =>
  cond x1
    (K (⟨none, 0, 0⟩) w)
    (semS Try.prog (Instr.buildSlice 22 0 #[]) (.one .slc) (fun x2 w =>
    semS Try.prog (Builtin.append_ #[22, 22] 22 #[(.slice x2.a x2.len x2.cap), (.slice p0.a p0.len p0.cap)]) (.one .slc) (fun r3 w =>
    K r3 w) w) w)) w
theorem f47_ok {p0 : Sl} {K : Sl → World → Prop} {w : World} (h : f47 p0 K w) : callS Try.prog 47 #[(.slice p0.a p0.len p0.cap)] [(.one .slc)] K w :=
  calls_of_fn (args := [(.slice p0.a p0.len p0.cap)]) Try.f47 [] [] [] .nil (by kernel_rfl) (by kernel_rfl)
    (Eq.mp (by kernel_rfl : f47 p0 K w = evFn Try.prog Try.f47 [] [] [] .nil [(.slice p0.a p0.len p0.cap)] [(.one .slc)] K w) h)

/-- sallyport/span.Put -/
def f50 (p0 : Sl) (p1 : Int) (p2 : Int) (K : Sl → Int → World → Prop) (w : World) : Prop :=
  cond ((decide (p1 < 1)) || (decide (p1 > 8)))
    (K (⟨none, 0, 0⟩) 12 w)
    (joinS (σ := Bool) (fun b1 w =>
      cond b1
        (K (⟨none, 0, 0⟩) 11 w)
        (callS Try.prog 47 #[(.slice p0.a p0.len p0.cap)] [(.one .slc)] (fun r3 w =>
        loopS (σ := Sl × Int) (fun s4 w again5 =>
          cond (decide (s4.2 ≥ 0))
            (semS Try.prog (binS .shr 3 (.tmp 40) (.tmp 42) (.int .i64 p2) (.int .i64 (IntKind.wrap .i64 (8 * s4.2)))) (.one (.int .i64)) (fun x6 w =>
            semS Try.prog (Instr.buildSlice 22 1 #[(0, (.int .u8 (IntKind.wrap .u8 x6)))]) (.one .slc) (fun x7 w =>
            semS Try.prog (Builtin.append_ #[22, 22] 22 #[(.slice s4.1.a s4.1.len s4.1.cap), (.slice x7.a x7.len x7.cap)]) (.one .slc) (fun r8 w =>
            again5 (r8, IntKind.wrap .i64 (s4.2 - 1)) w) w) w) w)
            (K s4.1 0 w)) (r3, IntKind.wrap .i64 (p1 - 1)) w) w)) fun J2 =>
    cond (decide (p2 < 0))
      (J2 true w)
      (joinS (σ := Bool) (fun b9 w =>
          J2 b9 w) fun J10 =>
        cond (decide (p1 < 8))
          (semS Try.prog (binS .shr 3 (.tmp 24) (.tmp 26) (.int .i64 p2) (.int .i64 (IntKind.wrap .i64 (8 * p1)))) (.one (.int .i64)) (fun x11 w =>
            J10 (x11 != 0) w) w)
          (J10 false w)))
theorem f50_ok {p0 : Sl} {p1 : Int} {p2 : Int} {K : Sl → Int → World → Prop} {w : World} (h : f50 p0 p1 p2 K w) : callS Try.prog 50 #[(.slice p0.a p0.len p0.cap), (.int .i64 p1), (.int .i64 p2)] [(.one .slc), (.one (.int .i64))] K w :=
  calls_of_fn (args := [(.slice p0.a p0.len p0.cap), (.int .i64 p1), (.int .i64 p2)]) Try.f50 [] [] [] (.two .nil (.two .nil (.two .nil (.two (.two .nil (.one (.loop [(8, .slc), (9, (.int .i64))] .nil))) .nil)))) (by kernel_rfl) (by kernel_rfl)
    (Eq.mp (by kernel_rfl : f50 p0 p1 p2 K w = evFn Try.prog Try.f50 [] [] [] (.two .nil (.two .nil (.two .nil (.two (.two .nil (.one (.loop [(8, .slc), (9, (.int .i64))] .nil))) .nil)))) [(.slice p0.a p0.len p0.cap), (.int .i64 p1), (.int .i64 p2)] [(.one .slc), (.one (.int .i64))] K w) h)

/-- (sallyport/record.Record).bytes -/
def f37 (p0_0 : Int) (p0_1 : Int) (p0_2 : Bool) (p0_3 : Int) (p0_4 : Int) (p0_5 : Bool) (K : Sl → World → Prop) (w : World) : Prop :=
  semS Try.prog (Instr.box 29 (.agg #[(.int .i64 p0_0), (.int .i64 p0_1), (.bool p0_2), (.int .i64 p0_3), (.int .i64 p0_4), (.bool p0_5)])) (.one .adr) (fun x1 w =>
  semS Try.prog (Instr.buildSlice 22 4 #[(0, (.int .u8 0)), (1, (.int .u8 65)), (2, (.int .u8 66)), (3, (.int .u8 48))]) (.one .slc) (fun x2 w =>
  semS Try.prog (convert 22 22 (.slice x2.a x2.len x2.cap)) (.one .slc) (fun x3 w =>
  semS Try.prog (Instr.buildSlice 22 1 #[(0, (.int .u8 1))]) (.one .slc) (fun x4 w =>
  semS Try.prog (Builtin.append_ #[22, 22] 22 #[(.slice x3.a x3.len x3.cap), (.slice x4.a x4.len x4.cap)]) (.one .slc) (fun r5 w =>
  semS Try.prog (Instr.loadAt 27 (.pointer (some (x1.add 0)))) (.agg [(.int .i64), (.int .i64), .bool]) (fun x6 x7 x8 w =>
  semS Try.prog (Instr.loadAt 27 (.pointer (some (x1.add 3)))) (.agg [(.int .i64), (.int .i64), .bool]) (fun x9 x10 x11 w =>
  loopS (σ := Sl × Int) (fun s12 w again13 =>
    cond (decide (s12.2 < 2))
      (semS Try.prog (Instr.index 90 (.agg #[(.int .i64 x6), (.int .i64 x7), (.bool x8), (.int .i64 x9), (.int .i64 x10), (.bool x11)]) (.int .i64 s12.2)) (.agg [(.int .i64), (.int .i64), .bool]) (fun x14 x15 x16 w =>
      semS Try.prog (Instr.alloc 27 true (.tuple #[])) (.one .adr) (fun x17 w =>
      semU Try.prog (Instr.storeAt 27 (.pointer (some x17)) (.agg #[(.int .i64 x14), (.int .i64 x15), (.bool x16)])) (fun w =>
      joinS (σ := Int) (fun x18 w =>
        semS Try.prog (Instr.loadAt 3 (.pointer (some (x17.add 0)))) (.one (.int .i64)) (fun x20 w =>
        semS Try.prog (Instr.loadAt 3 (.pointer (some (x17.add 1)))) (.one (.int .i64)) (fun x21 w =>
        semS Try.prog (Instr.buildSlice 22 4 #[(0, (.int .u8 (IntKind.wrap .u8 x20))), (1, (.int .u8 (IntKind.wrap .u8 x21))), (2, (.int .u8 x18)), (3, (.int .u8 0))]) (.one .slc) (fun x22 w =>
        semS Try.prog (Builtin.append_ #[22, 22] 22 #[(.slice s12.1.a s12.1.len s12.1.cap), (.slice x22.a x22.len x22.cap)]) (.one .slc) (fun r23 w =>
        again13 (r23, IntKind.wrap .i64 (s12.2 + 1)) w) w) w) w) w) fun J19 =>
      semS Try.prog (Instr.loadAt 4 (.pointer (some (x17.add 2)))) (.one .bool) (fun x24 w =>
      cond x24
        (J19 1 w)
        (J19 0 w)) w) w) w) w)
      (semS Try.prog (Builtin.append_ #[22, 3] 22 #[(.slice s12.1.a s12.1.len s12.1.cap), (.int .i64 (IntKind.wrap .i64 (28 - (s12.1.len : Int))))]) (.one .slc) (fun r25 w =>
      callS Try.prog 11 #[(.slice r25.a r25.len r25.cap)] [(.one (.int .i64))] (fun r26 w =>
      callS Try.prog 50 #[(.slice r25.a r25.len r25.cap), (.int .i64 4), (.int .i64 r26)] [(.one .slc), (.one (.int .i64))] (fun r27 r28 w =>
      K r27 w) w) w) w)) (r5, 0) w) w) w) w) w) w) w) w
theorem f37_ok {p0_0 : Int} {p0_1 : Int} {p0_2 : Bool} {p0_3 : Int} {p0_4 : Int} {p0_5 : Bool} {K : Sl → World → Prop} {w : World} (h : f37 p0_0 p0_1 p0_2 p0_3 p0_4 p0_5 K w) : callS Try.prog 37 #[(.agg #[(.int .i64 p0_0), (.int .i64 p0_1), (.bool p0_2), (.int .i64 p0_3), (.int .i64 p0_4), (.bool p0_5)])] [(.one .slc)] K w :=
  calls_of_fn (args := [(.agg #[(.int .i64 p0_0), (.int .i64 p0_1), (.bool p0_2), (.int .i64 p0_3), (.int .i64 p0_4), (.bool p0_5)])]) Try.f37 [] [] [] (.two .nil (.two .nil (.two (.two .nil (.one (.loop [(3, .slc), (16, (.int .i64))] (.two .nil (.two .nil (.two (.one (.two .nil (.two .nil (.join [(6, (.int .u8))] .nil .nil)))) .nil)))))) .nil))) (by kernel_rfl) (by kernel_rfl)
    (Eq.mp (by kernel_rfl : f37 p0_0 p0_1 p0_2 p0_3 p0_4 p0_5 K w = evFn Try.prog Try.f37 [] [] [] (.two .nil (.two .nil (.two (.two .nil (.one (.loop [(3, .slc), (16, (.int .i64))] (.two .nil (.two .nil (.two (.one (.two .nil (.two .nil (.join [(6, (.int .u8))] .nil .nil)))) .nil)))))) .nil))) [(.agg #[(.int .i64 p0_0), (.int .i64 p0_1), (.bool p0_2), (.int .i64 p0_3), (.int .i64 p0_4), (.bool p0_5)])] [(.one .slc)] K w) h)

def f20_t1 (z43 : Bool) (x2 : Addr) (K : Int → Int → Bool → Int → Int → Bool → Int → World → Prop) (x26 : Addr) (w : World) : Prop :=
  cond z43
    (semU Try.prog (Instr.storeAt 29 (.pointer (some x2)) (.agg #[(.int .i64 0), (.int .i64 0), (.bool false), (.int .i64 0), (.int .i64 0), (.bool false)])) (fun w =>
    ∃ v44, (loadVar 29 x2).run Try.prog w = .ok v44 w ∧ decR [(.agg [(.int .i64), (.int .i64), .bool, (.int .i64), (.int .i64), .bool]), (.one (.int .i64))] (.tuple #[v44, (.int .i64 12)]) K fun r => r w) w)
    (semS Try.prog (Instr.loadAt 29 (.pointer (some x26))) (.agg [(.int .i64), (.int .i64), .bool, (.int .i64), (.int .i64), .bool]) (fun x45 x46 x47 x48 x49 x50 w =>
    semU Try.prog (Instr.storeAt 29 (.pointer (some x2)) (.agg #[(.int .i64 x45), (.int .i64 x46), (.bool x47), (.int .i64 x48), (.int .i64 x49), (.bool x50)])) (fun w =>
    ∃ v51, (loadVar 29 x2).run Try.prog w = .ok v51 w ∧ decR [(.agg [(.int .i64), (.int .i64), .bool, (.int .i64), (.int .i64), .bool]), (.one (.int .i64))] (.tuple #[v51, (.int .i64 0)]) K fun r => r w) w) w)

/-- sallyport/record.Parse -/
def f20 (p0 : Sl) (K : Int → Int → Bool → Int → Int → Bool → Int → World → Prop) (w : World) : Prop :=
  semS Try.prog (Instr.box 22 (.slice p0.a p0.len p0.cap)) (.one .adr) (fun x1 w =>
  semS Try.prog (Instr.alloc 29 true (.tuple #[])) (.one .adr) (fun x2 w =>
  semS Try.prog (Instr.loadAt 22 (.pointer (some x1))) (.one .slc) (fun x3 w =>
  cond ((x3.len : Int) != 32)
    (semU Try.prog (Instr.storeAt 29 (.pointer (some x2)) (.agg #[(.int .i64 0), (.int .i64 0), (.bool false), (.int .i64 0), (.int .i64 0), (.bool false)])) (fun w =>
    ∃ v4, (loadVar 29 x2).run Try.prog w = .ok v4 w ∧ decR [(.agg [(.int .i64), (.int .i64), .bool, (.int .i64), (.int .i64), .bool]), (.one (.int .i64))] (.tuple #[v4, (.int .i64 10)]) K fun r => r w) w)
    (semS Try.prog (Instr.loadAt 22 (.pointer (some x1))) (.one .slc) (fun x5 w =>
    semS Try.prog (Instr.sliceAt 22 (.slice x5.a x5.len x5.cap) none (some (.int .i64 4)) none) (.one .slc) (fun x6 w =>
    semS Try.prog (convert 22 9 (.slice x6.a x6.len x6.cap)) (.one .str) (fun x7 w =>
    cond (!(x7.toList == (ByteArray.mk #[0, 65, 66, 48]).toList))
      (semU Try.prog (Instr.storeAt 29 (.pointer (some x2)) (.agg #[(.int .i64 0), (.int .i64 0), (.bool false), (.int .i64 0), (.int .i64 0), (.bool false)])) (fun w =>
      ∃ v8, (loadVar 29 x2).run Try.prog w = .ok v8 w ∧ decR [(.agg [(.int .i64), (.int .i64), .bool, (.int .i64), (.int .i64), .bool]), (.one (.int .i64))] (.tuple #[v8, (.int .i64 30)]) K fun r => r w) w)
      (semS Try.prog (Instr.loadAt 22 (.pointer (some x1))) (.one .slc) (fun x9 w =>
      semS Try.prog (Instr.indexAt 22 (.slice x9.a x9.len x9.cap) (.int .i64 4)) (.one .adr) (fun x10 w =>
      semS Try.prog (Instr.loadAt 5 (.pointer (some x10))) (.one (.int .u8)) (fun x11 w =>
      cond (x11 != 1)
        (semU Try.prog (Instr.storeAt 29 (.pointer (some x2)) (.agg #[(.int .i64 0), (.int .i64 0), (.bool false), (.int .i64 0), (.int .i64 0), (.bool false)])) (fun w =>
        ∃ v12, (loadVar 29 x2).run Try.prog w = .ok v12 w ∧ decR [(.agg [(.int .i64), (.int .i64), .bool, (.int .i64), (.int .i64), .bool]), (.one (.int .i64))] (.tuple #[v12, (.int .i64 31)]) K fun r => r w) w)
        (semS Try.prog (Instr.loadAt 22 (.pointer (some x1))) (.one .slc) (fun x13 w =>
        callS Try.prog 34 #[(.slice x13.a x13.len x13.cap), (.int .i64 28), (.int .i64 4)] [(.one (.int .i64)), (.one (.int .i64))] (fun r14 r15 w =>
        semS Try.prog (Instr.loadAt 22 (.pointer (some x1))) (.one .slc) (fun x16 w =>
        semS Try.prog (Instr.sliceAt 22 (.slice x16.a x16.len x16.cap) none (some (.int .i64 28)) none) (.one .slc) (fun x17 w =>
        callS Try.prog 11 #[(.slice x17.a x17.len x17.cap)] [(.one (.int .i64))] (fun r18 w =>
        cond (r14 != r18)
          (semU Try.prog (Instr.storeAt 29 (.pointer (some x2)) (.agg #[(.int .i64 0), (.int .i64 0), (.bool false), (.int .i64 0), (.int .i64 0), (.bool false)])) (fun w =>
          ∃ v19, (loadVar 29 x2).run Try.prog w = .ok v19 w ∧ decR [(.agg [(.int .i64), (.int .i64), .bool, (.int .i64), (.int .i64), .bool]), (.one (.int .i64))] (.tuple #[v19, (.int .i64 55)]) K fun r => r w) w)
          (callS Try.prog 35 #[(.int .i64 5), (.pointer (some x1))] [(.agg [(.int .i64), (.int .i64), .bool])] (fun r20 r21 r22 w =>
          callS Try.prog 35 #[(.int .i64 9), (.pointer (some x1))] [(.agg [(.int .i64), (.int .i64), .bool])] (fun r23 r24 r25 w =>
          semS Try.prog (Instr.alloc 29 true (.tuple #[])) (.one .adr) (fun x26 w =>
          semU Try.prog (Instr.storeAt 29 (.pointer (some x26)) (.agg #[(.int .i64 r20), (.int .i64 r21), (.bool r22), (.int .i64 r23), (.int .i64 r24), (.bool r25)])) (fun w =>
          drawS w fun C w =>
          semQ Try.prog C (Instr.loadAt 29 (.pointer (some x26))) (.agg [(.int .i64), (.int .i64), .bool, (.int .i64), (.int .i64), .bool]) (fun x27 x28 x29 x30 x31 x32 =>
          callS Try.prog 23 #[(.agg #[(.int .i64 x27), (.int .i64 x28), (.bool x29), (.int .i64 x30), (.int .i64 x31), (.bool x32)])] [(.one .bool)] (fun r33 w =>
          moreS C w (fun C =>
          cond (!r33)
            (f20_t1 true x2 K x26 w)
            (semQ Try.prog C (Instr.loadAt 29 (.pointer (some x26))) (.agg [(.int .i64), (.int .i64), .bool, (.int .i64), (.int .i64), .bool]) (fun x34 x35 x36 x37 x38 x39 =>
            semQ Try.prog C (Instr.loadAt 22 (.pointer (some x1))) (.one .slc) (fun x40 =>
            callS Try.prog 37 #[(.agg #[(.int .i64 x34), (.int .i64 x35), (.bool x36), (.int .i64 x37), (.int .i64 x38), (.bool x39)])] [(.one .slc)] (fun r41 w =>
            moreS C w (fun C =>
            callS Try.prog 36 #[(.slice r41.a r41.len r41.cap), (.slice x40.a x40.len x40.cap)] [(.one .bool)] (fun r42 w =>
            f20_t1 (!r42) x2 K x26 w) w)) w))))) w)) w) w) w) w)) w) w) w) w) w)) w) w) w)) w) w) w)) w) w) w
theorem f20_ok {p0 : Sl} {K : Int → Int → Bool → Int → Int → Bool → Int → World → Prop} {w : World} (h : f20 p0 K w) : callS Try.prog 20 #[(.slice p0.a p0.len p0.cap)] [(.agg [(.int .i64), (.int .i64), .bool, (.int .i64), (.int .i64), .bool]), (.one (.int .i64))] K w :=
  calls_of_fn (args := [(.slice p0.a p0.len p0.cap)]) Try.f20 [] [] [] (.two .nil (.two .nil (.two .nil (.two .nil (.two .nil (.two (.two (.draw [0, 1, 3, 7, 15, 31, 15, 127, 255, 511]) .nil) .nil)))))) (by kernel_rfl) (by kernel_rfl)
    (Eq.mp (by kernel_rfl : f20 p0 K w = evFn Try.prog Try.f20 [] [] [] (.two .nil (.two .nil (.two .nil (.two .nil (.two .nil (.two (.two (.draw [0, 1, 3, 7, 15, 31, 15, 127, 255, 511]) .nil) .nil)))))) [(.slice p0.a p0.len p0.cap)] [(.agg [(.int .i64), (.int .i64), .bool, (.int .i64), (.int .i64), .bool]), (.one (.int .i64))] K w) h)

/-- (sallyport/sallyportref16.Half).Right -/
def f40 (p0_0 : Int) (p0_1 : Int) (p0_2 : Bool) (K : Bool → World → Prop) (w : World) : Prop :=
  semS Try.prog (Instr.box 34 (.agg #[(.int .i64 p0_0), (.int .i64 p0_1), (.bool p0_2)])) (.one .adr) (fun x1 w =>
  semS Try.prog (Instr.loadAt 3 (.pointer (some (x1.add 0)))) (.one (.int .i64)) (fun x2 w =>
  joinS (σ := Bool) (fun b3 w =>
    joinS (σ := Bool) (fun b5 w =>
      joinS (σ := Bool) (fun b7 w =>
        joinS (σ := Bool) (fun b9 w =>
          K b9 w) fun J10 =>
        cond b7
          (semS Try.prog (Instr.loadAt 4 (.pointer (some (x1.add 2)))) (.one .bool) (fun x11 w =>
            joinS (σ := Bool) (fun b12 w =>
              J10 b12 w) fun J13 =>
            cond (!x11)
              (J13 true w)
              (semS Try.prog (Instr.loadAt 3 (.pointer (some (x1.add 1)))) (.one (.int .i64)) (fun x14 w =>
                J13 (x14 == 0) w) w)) w)
          (J10 false w)) fun J8 =>
      cond b5
        (semS Try.prog (Instr.loadAt 3 (.pointer (some (x1.add 1)))) (.one (.int .i64)) (fun x15 w =>
          J8 (decide (x15 ≤ 7)) w) w)
        (J8 false w)) fun J6 =>
    cond b3
      (semS Try.prog (Instr.loadAt 3 (.pointer (some (x1.add 1)))) (.one (.int .i64)) (fun x16 w =>
        J6 (decide (x16 ≥ 0)) w) w)
      (J6 false w)) fun J4 =>
  cond (decide (x2 ≥ 0))
    (semS Try.prog (Instr.loadAt 3 (.pointer (some (x1.add 0)))) (.one (.int .i64)) (fun x17 w =>
      J4 (decide (x17 ≤ 15)) w) w)
    (J4 false w)) w) w
theorem f40_ok {p0_0 : Int} {p0_1 : Int} {p0_2 : Bool} {K : Bool → World → Prop} {w : World} (h : f40 p0_0 p0_1 p0_2 K w) : callS Try.prog 40 #[(.agg #[(.int .i64 p0_0), (.int .i64 p0_1), (.bool p0_2)])] [(.one .bool)] K w :=
  calls_of_fn (args := [(.agg #[(.int .i64 p0_0), (.int .i64 p0_1), (.bool p0_2)])]) Try.f40 [] [] [] .nil (by kernel_rfl) (by kernel_rfl)
    (Eq.mp (by kernel_rfl : f40 p0_0 p0_1 p0_2 K w = evFn Try.prog Try.f40 [] [] [] .nil [(.agg #[(.int .i64 p0_0), (.int .i64 p0_1), (.bool p0_2)])] [(.one .bool)] K w) h)

/-- (sallyport/sallyportref16.Record).Right -/
def f24 (p0_0 : Int) (p0_1 : Int) (p0_2 : Bool) (p0_3 : Int) (p0_4 : Int) (p0_5 : Bool) (K : Bool → World → Prop) (w : World) : Prop :=
  semS Try.prog (Instr.box 36 (.agg #[(.int .i64 p0_0), (.int .i64 p0_1), (.bool p0_2), (.int .i64 p0_3), (.int .i64 p0_4), (.bool p0_5)])) (.one .adr) (fun x1 w =>
  semS Try.prog (Instr.loadAt 34 (.pointer (some (x1.add 0)))) (.agg [(.int .i64), (.int .i64), .bool]) (fun x2 x3 x4 w =>
  callS Try.prog 40 #[(.agg #[(.int .i64 x2), (.int .i64 x3), (.bool x4)])] [(.one .bool)] (fun r5 w =>
  joinS (σ := Bool) (fun b6 w =>
    K b6 w) fun J7 =>
  cond r5
    (semS Try.prog (Instr.loadAt 34 (.pointer (some (x1.add 3)))) (.agg [(.int .i64), (.int .i64), .bool]) (fun x8 x9 x10 w =>
      callS Try.prog 40 #[(.agg #[(.int .i64 x8), (.int .i64 x9), (.bool x10)])] [(.one .bool)] (fun r11 w =>
      J7 r11 w) w) w)
    (J7 false w)) w) w) w
theorem f24_ok {p0_0 : Int} {p0_1 : Int} {p0_2 : Bool} {p0_3 : Int} {p0_4 : Int} {p0_5 : Bool} {K : Bool → World → Prop} {w : World} (h : f24 p0_0 p0_1 p0_2 p0_3 p0_4 p0_5 K w) : callS Try.prog 24 #[(.agg #[(.int .i64 p0_0), (.int .i64 p0_1), (.bool p0_2), (.int .i64 p0_3), (.int .i64 p0_4), (.bool p0_5)])] [(.one .bool)] K w :=
  calls_of_fn (args := [(.agg #[(.int .i64 p0_0), (.int .i64 p0_1), (.bool p0_2), (.int .i64 p0_3), (.int .i64 p0_4), (.bool p0_5)])]) Try.f24 [] [] [] .nil (by kernel_rfl) (by kernel_rfl)
    (Eq.mp (by kernel_rfl : f24 p0_0 p0_1 p0_2 p0_3 p0_4 p0_5 K w = evFn Try.prog Try.f24 [] [] [] .nil [(.agg #[(.int .i64 p0_0), (.int .i64 p0_1), (.bool p0_2), (.int .i64 p0_3), (.int .i64 p0_4), (.bool p0_5)])] [(.one .bool)] K w) h)

/-- (sallyport/sallyportref16.Half).bytes -/
def f41 (p0_0 : Int) (p0_1 : Int) (p0_2 : Bool) (K : Sl → World → Prop) (w : World) : Prop :=
  semS Try.prog (Instr.box 34 (.agg #[(.int .i64 p0_0), (.int .i64 p0_1), (.bool p0_2)])) (.one .adr) (fun x1 w =>
  semS Try.prog (Instr.loadAt 3 (.pointer (some (x1.add 0)))) (.one (.int .i64)) (fun x2 w =>
  semS Try.prog (Instr.loadAt 3 (.pointer (some (x1.add 1)))) (.one (.int .i64)) (fun x3 w =>
  semS Try.prog (Instr.buildSlice 22 4 #[(0, (.int .u8 (IntKind.wrap .u8 x2))), (1, (.int .u8 (IntKind.wrap .u8 x3))), (2, (.int .u8 0)), (3, (.int .u8 0))]) (.one .slc) (fun x4 w =>
  semS Try.prog (Instr.loadAt 4 (.pointer (some (x1.add 2)))) (.one .bool) (fun x5 w =>
  cond x5
    (semS Try.prog (Instr.indexAt 22 (.slice x4.a x4.len x4.cap) (.int .i64 2)) (.one .adr) (fun x6 w =>
    semU Try.prog (Instr.storeAt 5 (.pointer (some x6)) (.int .u8 1)) (fun w =>
    K x4 w) w) w)
    (K x4 w)) w) w) w) w) w
theorem f41_ok {p0_0 : Int} {p0_1 : Int} {p0_2 : Bool} {K : Sl → World → Prop} {w : World} (h : f41 p0_0 p0_1 p0_2 K w) : callS Try.prog 41 #[(.agg #[(.int .i64 p0_0), (.int .i64 p0_1), (.bool p0_2)])] [(.one .slc)] K w :=
  calls_of_fn (args := [(.agg #[(.int .i64 p0_0), (.int .i64 p0_1), (.bool p0_2)])]) Try.f41 [] [] [] .nil (by kernel_rfl) (by kernel_rfl)
    (Eq.mp (by kernel_rfl : f41 p0_0 p0_1 p0_2 K w = evFn Try.prog Try.f41 [] [] [] .nil [(.agg #[(.int .i64 p0_0), (.int .i64 p0_1), (.bool p0_2)])] [(.one .slc)] K w) h)

/-- sallyport/sallyportref12.Number -/
def f42 (p0 : Int) (p1 : Int) (K : Sl → World → Prop) (w : World) : Prop :=
  semS Try.prog (Instr.makeSlice 22 (.int .i64 p1) (.int .i64 p1)) (.one .slc) (fun x1 w =>
  loopS (σ := Int × Int) (fun s2 w again3 =>
    cond (decide (s2.2 ≥ 0))
      (semS Try.prog (Instr.indexAt 22 (.slice x1.a x1.len x1.cap) (.int .i64 s2.2)) (.one .adr) (fun x4 w =>
      semU Try.prog (Instr.storeAt 5 (.pointer (some x4)) (.int .u8 (IntKind.wrap .u8 (Int.tmod s2.1 256)))) (fun w =>
      again3 (IntKind.wrap .i64 (Int.tdiv s2.1 256), IntKind.wrap .i64 (s2.2 - 1)) w) w) w)
      (K x1 w)) (p0, IntKind.wrap .i64 (p1 - 1)) w) w
theorem f42_ok {p0 : Int} {p1 : Int} {K : Sl → World → Prop} {w : World} (h : f42 p0 p1 K w) : callS Try.prog 42 #[(.int .i64 p0), (.int .i64 p1)] [(.one .slc)] K w :=
  calls_of_fn (args := [(.int .i64 p0), (.int .i64 p1)]) Try.f42 [] [] [] (.two .nil (.two .nil (.two (.two .nil (.one (.loop [(0, (.int .i64)), (6, (.int .i64))] .nil))) .nil))) (by kernel_rfl) (by kernel_rfl)
    (Eq.mp (by kernel_rfl : f42 p0 p1 K w = evFn Try.prog Try.f42 [] [] [] (.two .nil (.two .nil (.two (.two .nil (.one (.loop [(0, (.int .i64)), (6, (.int .i64))] .nil))) .nil))) [(.int .i64 p0), (.int .i64 p1)] [(.one .slc)] K w) h)

/-- (sallyport/sallyportref16.Record).Bytes -/
def f25 (p0_0 : Int) (p0_1 : Int) (p0_2 : Bool) (p0_3 : Int) (p0_4 : Int) (p0_5 : Bool) (K : Sl → World → Prop) (w : World) : Prop :=
  semS Try.prog (Instr.box 36 (.agg #[(.int .i64 p0_0), (.int .i64 p0_1), (.bool p0_2), (.int .i64 p0_3), (.int .i64 p0_4), (.bool p0_5)])) (.one .adr) (fun x1 w =>
  semS Try.prog (Instr.buildSlice 22 5 #[(0, (.int .u8 0)), (1, (.int .u8 65)), (2, (.int .u8 66)), (3, (.int .u8 48)), (4, (.int .u8 1))]) (.one .slc) (fun x2 w =>
  semS Try.prog (convert 22 22 (.slice x2.a x2.len x2.cap)) (.one .slc) (fun x3 w =>
  semS Try.prog (Instr.loadAt 34 (.pointer (some (x1.add 0)))) (.agg [(.int .i64), (.int .i64), .bool]) (fun x4 x5 x6 w =>
  callS Try.prog 41 #[(.agg #[(.int .i64 x4), (.int .i64 x5), (.bool x6)])] [(.one .slc)] (fun r7 w =>
  semS Try.prog (Builtin.append_ #[22, 22] 22 #[(.slice x3.a x3.len x3.cap), (.slice r7.a r7.len r7.cap)]) (.one .slc) (fun r8 w =>
  semS Try.prog (Instr.loadAt 34 (.pointer (some (x1.add 3)))) (.agg [(.int .i64), (.int .i64), .bool]) (fun x9 x10 x11 w =>
  callS Try.prog 41 #[(.agg #[(.int .i64 x9), (.int .i64 x10), (.bool x11)])] [(.one .slc)] (fun r12 w =>
  semS Try.prog (Builtin.append_ #[22, 22] 22 #[(.slice r8.a r8.len r8.cap), (.slice r12.a r12.len r12.cap)]) (.one .slc) (fun r13 w =>
  loopS (σ := Sl) (fun x14 w again15 =>
    cond (decide ((x14.len : Int) < 28))
      (semS Try.prog (Instr.buildSlice 22 1 #[(0, (.int .u8 0))]) (.one .slc) (fun x16 w =>
      semS Try.prog (Builtin.append_ #[22, 22] 22 #[(.slice x14.a x14.len x14.cap), (.slice x16.a x16.len x16.cap)]) (.one .slc) (fun r17 w =>
      again15 r17 w) w) w)
      (callS Try.prog 12 #[(.slice x14.a x14.len x14.cap)] [(.one (.int .i64))] (fun r18 w =>
      callS Try.prog 42 #[(.int .i64 r18), (.int .i64 4)] [(.one .slc)] (fun r19 w =>
      semS Try.prog (Builtin.append_ #[22, 22] 22 #[(.slice x14.a x14.len x14.cap), (.slice r19.a r19.len r19.cap)]) (.one .slc) (fun r20 w =>
      K r20 w) w) w) w)) r13 w) w) w) w) w) w) w) w) w) w
theorem f25_ok {p0_0 : Int} {p0_1 : Int} {p0_2 : Bool} {p0_3 : Int} {p0_4 : Int} {p0_5 : Bool} {K : Sl → World → Prop} {w : World} (h : f25 p0_0 p0_1 p0_2 p0_3 p0_4 p0_5 K w) : callS Try.prog 25 #[(.agg #[(.int .i64 p0_0), (.int .i64 p0_1), (.bool p0_2), (.int .i64 p0_3), (.int .i64 p0_4), (.bool p0_5)])] [(.one .slc)] K w :=
  calls_of_fn (args := [(.agg #[(.int .i64 p0_0), (.int .i64 p0_1), (.bool p0_2), (.int .i64 p0_3), (.int .i64 p0_4), (.bool p0_5)])]) Try.f25 [] [] [] (.two .nil (.two .nil (.two .nil (.two .nil (.two (.one (.loop [(3, .slc)] .nil)) .nil))))) (by kernel_rfl) (by kernel_rfl)
    (Eq.mp (by kernel_rfl : f25 p0_0 p0_1 p0_2 p0_3 p0_4 p0_5 K w = evFn Try.prog Try.f25 [] [] [] (.two .nil (.two .nil (.two .nil (.two .nil (.two (.one (.loop [(3, .slc)] .nil)) .nil))))) [(.agg #[(.int .i64 p0_0), (.int .i64 p0_1), (.bool p0_2), (.int .i64 p0_3), (.int .i64 p0_4), (.bool p0_5)])] [(.one .slc)] K w) h)

/-- sallyport/sallyportref12.Get -/
def f38 (p0 : Sl) (p1 : Int) (p2 : Int) (K : Int → World → Prop) (w : World) : Prop :=
  loopS (σ := Int × Int) (fun s1 w again2 =>
    cond (decide (s1.2 < (IntKind.wrap .i64 (p1 + p2))))
      (cond (decide (s1.1 > 18014398509481984))
        (K (-1) w)
        (semS Try.prog (Instr.indexAt 22 (.slice p0.a p0.len p0.cap) (.int .i64 s1.2)) (.one .adr) (fun x3 w =>
        semS Try.prog (Instr.loadAt 5 (.pointer (some x3))) (.one (.int .u8)) (fun x4 w =>
        again2 (IntKind.wrap .i64 ((IntKind.wrap .i64 (s1.1 * 256)) + (IntKind.wrap .i64 x4)), IntKind.wrap .i64 (s1.2 + 1)) w) w) w))
      (K s1.1 w)) (0, p1) w
theorem f38_ok {p0 : Sl} {p1 : Int} {p2 : Int} {K : Int → World → Prop} {w : World} (h : f38 p0 p1 p2 K w) : callS Try.prog 38 #[(.slice p0.a p0.len p0.cap), (.int .i64 p1), (.int .i64 p2)] [(.one (.int .i64))] K w :=
  calls_of_fn (args := [(.slice p0.a p0.len p0.cap), (.int .i64 p1), (.int .i64 p2)]) Try.f38 [] [] [] (.two .nil (.two .nil (.two (.two .nil (.one (.loop [(7, (.int .i64)), (8, (.int .i64))] .nil))) .nil))) (by kernel_rfl) (by kernel_rfl)
    (Eq.mp (by kernel_rfl : f38 p0 p1 p2 K w = evFn Try.prog Try.f38 [] [] [] (.two .nil (.two .nil (.two (.two .nil (.one (.loop [(7, (.int .i64)), (8, (.int .i64))] .nil))) .nil))) [(.slice p0.a p0.len p0.cap), (.int .i64 p1), (.int .i64 p2)] [(.one (.int .i64))] K w) h)

def f21_t1 (z42 : Bool) (x1 : Addr) (K : Int → Int → Bool → Int → Int → Bool → Int → World → Prop) (x25 : Addr) (w : World) : Prop :=
  cond z42
    (semU Try.prog (Instr.storeAt 36 (.pointer (some x1)) (.agg #[(.int .i64 0), (.int .i64 0), (.bool false), (.int .i64 0), (.int .i64 0), (.bool false)])) (fun w =>
    ∃ v43, (loadVar 36 x1).run Try.prog w = .ok v43 w ∧ decR [(.agg [(.int .i64), (.int .i64), .bool, (.int .i64), (.int .i64), .bool]), (.one (.int .i64))] (.tuple #[v43, (.int .i64 12)]) K fun r => r w) w)
    (semS Try.prog (Instr.loadAt 36 (.pointer (some x25))) (.agg [(.int .i64), (.int .i64), .bool, (.int .i64), (.int .i64), .bool]) (fun x44 x45 x46 x47 x48 x49 w =>
    semU Try.prog (Instr.storeAt 36 (.pointer (some x1)) (.agg #[(.int .i64 x44), (.int .i64 x45), (.bool x46), (.int .i64 x47), (.int .i64 x48), (.bool x49)])) (fun w =>
    ∃ v50, (loadVar 36 x1).run Try.prog w = .ok v50 w ∧ decR [(.agg [(.int .i64), (.int .i64), .bool, (.int .i64), (.int .i64), .bool]), (.one (.int .i64))] (.tuple #[v50, (.int .i64 0)]) K fun r => r w) w) w)

/-- sallyport/sallyportref16.Parse -/
def f21 (p0 : Sl) (K : Int → Int → Bool → Int → Int → Bool → Int → World → Prop) (w : World) : Prop :=
  semS Try.prog (Instr.alloc 36 true (.tuple #[])) (.one .adr) (fun x1 w =>
  cond ((p0.len : Int) != 32)
    (semU Try.prog (Instr.storeAt 36 (.pointer (some x1)) (.agg #[(.int .i64 0), (.int .i64 0), (.bool false), (.int .i64 0), (.int .i64 0), (.bool false)])) (fun w =>
    ∃ v2, (loadVar 36 x1).run Try.prog w = .ok v2 w ∧ decR [(.agg [(.int .i64), (.int .i64), .bool, (.int .i64), (.int .i64), .bool]), (.one (.int .i64))] (.tuple #[v2, (.int .i64 10)]) K fun r => r w) w)
    (semS Try.prog (Instr.sliceAt 22 (.slice p0.a p0.len p0.cap) none (some (.int .i64 4)) none) (.one .slc) (fun x3 w =>
    semS Try.prog (convert 22 9 (.slice x3.a x3.len x3.cap)) (.one .str) (fun x4 w =>
    cond (!(x4.toList == (ByteArray.mk #[0, 65, 66, 48]).toList))
      (semU Try.prog (Instr.storeAt 36 (.pointer (some x1)) (.agg #[(.int .i64 0), (.int .i64 0), (.bool false), (.int .i64 0), (.int .i64 0), (.bool false)])) (fun w =>
      ∃ v5, (loadVar 36 x1).run Try.prog w = .ok v5 w ∧ decR [(.agg [(.int .i64), (.int .i64), .bool, (.int .i64), (.int .i64), .bool]), (.one (.int .i64))] (.tuple #[v5, (.int .i64 30)]) K fun r => r w) w)
      (semS Try.prog (Instr.indexAt 22 (.slice p0.a p0.len p0.cap) (.int .i64 4)) (.one .adr) (fun x6 w =>
      semS Try.prog (Instr.loadAt 5 (.pointer (some x6))) (.one (.int .u8)) (fun x7 w =>
      cond (x7 != 1)
        (semU Try.prog (Instr.storeAt 36 (.pointer (some x1)) (.agg #[(.int .i64 0), (.int .i64 0), (.bool false), (.int .i64 0), (.int .i64 0), (.bool false)])) (fun w =>
        ∃ v8, (loadVar 36 x1).run Try.prog w = .ok v8 w ∧ decR [(.agg [(.int .i64), (.int .i64), .bool, (.int .i64), (.int .i64), .bool]), (.one (.int .i64))] (.tuple #[v8, (.int .i64 31)]) K fun r => r w) w)
        (drawS w fun C w =>
        semQ Try.prog C (Instr.sliceAt 22 (.slice p0.a p0.len p0.cap) none (some (.int .i64 28)) none) (.one .slc) (fun x9 =>
        callS Try.prog 38 #[(.slice p0.a p0.len p0.cap), (.int .i64 28), (.int .i64 4)] [(.one (.int .i64))] (fun r10 w =>
        moreS C w (fun C =>
        callS Try.prog 12 #[(.slice x9.a x9.len x9.cap)] [(.one (.int .i64))] (fun r11 w =>
        cond (r10 != r11)
          (semU Try.prog (Instr.storeAt 36 (.pointer (some x1)) (.agg #[(.int .i64 0), (.int .i64 0), (.bool false), (.int .i64 0), (.int .i64 0), (.bool false)])) (fun w =>
          ∃ v12, (loadVar 36 x1).run Try.prog w = .ok v12 w ∧ decR [(.agg [(.int .i64), (.int .i64), .bool, (.int .i64), (.int .i64), .bool]), (.one (.int .i64))] (.tuple #[v12, (.int .i64 55)]) K fun r => r w) w)
          (drawS w fun C w =>
          semQ Try.prog C (Instr.indexAt 22 (.slice p0.a p0.len p0.cap) (.int .i64 5)) (.one .adr) (fun x13 =>
          semQ Try.prog C (Instr.loadAt 5 (.pointer (some x13))) (.one (.int .u8)) (fun x14 =>
          semQ Try.prog C (Instr.indexAt 22 (.slice p0.a p0.len p0.cap) (.int .i64 6)) (.one .adr) (fun x15 =>
          semQ Try.prog C (Instr.loadAt 5 (.pointer (some x15))) (.one (.int .u8)) (fun x16 =>
          semQ Try.prog C (Instr.indexAt 22 (.slice p0.a p0.len p0.cap) (.int .i64 7)) (.one .adr) (fun x17 =>
          semQ Try.prog C (Instr.loadAt 5 (.pointer (some x17))) (.one (.int .u8)) (fun x18 =>
          semQ Try.prog C (Instr.indexAt 22 (.slice p0.a p0.len p0.cap) (.int .i64 9)) (.one .adr) (fun x19 =>
          semQ Try.prog C (Instr.loadAt 5 (.pointer (some x19))) (.one (.int .u8)) (fun x20 =>
          semQ Try.prog C (Instr.indexAt 22 (.slice p0.a p0.len p0.cap) (.int .i64 10)) (.one .adr) (fun x21 =>
          semQ Try.prog C (Instr.loadAt 5 (.pointer (some x21))) (.one (.int .u8)) (fun x22 =>
          semQ Try.prog C (Instr.indexAt 22 (.slice p0.a p0.len p0.cap) (.int .i64 11)) (.one .adr) (fun x23 =>
          semQ Try.prog C (Instr.loadAt 5 (.pointer (some x23))) (.one (.int .u8)) (fun x24 =>
          semS Try.prog (Instr.alloc 36 true (.tuple #[])) (.one .adr) (fun x25 w =>
          moreS C w (fun C =>
          semU Try.prog (Instr.storeAt 36 (.pointer (some x25)) (.agg #[(.int .i64 (IntKind.wrap .i64 x14)), (.int .i64 (IntKind.wrap .i64 x16)), (.bool (x18 == 1)), (.int .i64 (IntKind.wrap .i64 x20)), (.int .i64 (IntKind.wrap .i64 x22)), (.bool (x24 == 1))])) (fun w =>
          drawS w fun C w =>
          semQ Try.prog C (Instr.loadAt 36 (.pointer (some x25))) (.agg [(.int .i64), (.int .i64), .bool, (.int .i64), (.int .i64), .bool]) (fun x26 x27 x28 x29 x30 x31 =>
          callS Try.prog 24 #[(.agg #[(.int .i64 x26), (.int .i64 x27), (.bool x28), (.int .i64 x29), (.int .i64 x30), (.bool x31)])] [(.one .bool)] (fun r32 w =>
          moreS C w (fun C =>
          cond (!r32)
            (f21_t1 true x1 K x25 w)
            (semQ Try.prog C (Instr.loadAt 36 (.pointer (some x25))) (.agg [(.int .i64), (.int .i64), .bool, (.int .i64), (.int .i64), .bool]) (fun x33 x34 x35 x36 x37 x38 =>
            semQ Try.prog C (convert 22 9 (.slice p0.a p0.len p0.cap)) (.one .str) (fun x39 =>
            callS Try.prog 25 #[(.agg #[(.int .i64 x33), (.int .i64 x34), (.bool x35), (.int .i64 x36), (.int .i64 x37), (.bool x38)])] [(.one .slc)] (fun r40 w =>
            moreS C w (fun C =>
            semQ Try.prog C (convert 22 9 (.slice r40.a r40.len r40.cap)) (.one .str) (fun x41 =>
            f21_t1 (!(x41.toList == x39.toList)) x1 K x25 w))) w))))) w)) w)) w)))))))))))))) w)) w))) w) w)) w) w)) w
theorem f21_ok {p0 : Sl} {K : Int → Int → Bool → Int → Int → Bool → Int → World → Prop} {w : World} (h : f21 p0 K w) : callS Try.prog 21 #[(.slice p0.a p0.len p0.cap)] [(.agg [(.int .i64), (.int .i64), .bool, (.int .i64), (.int .i64), .bool]), (.one (.int .i64))] K w :=
  calls_of_fn (args := [(.slice p0.a p0.len p0.cap)]) Try.f21 [] [] [] (.two .nil (.two .nil (.two .nil (.two .nil (.two (.two (.draw [0, 1, 0, 4, 15, 31]) .nil) (.two (.draw [0, 1, 3, 7, 0, 16, 48, 112, 0, 256, 768, 1792, 4095, 0, 8192, 24576, 57344, 0, 131072, 393216, 917504, 0, 2097152, 6291456, 14680064, 33546240, 67108863, 0, 268435455]) (.two (.two (.draw [0, 1, 3, 7, 15, 31, 63, 15, 143, 511, 1023]) .nil) .nil))))))) (by kernel_rfl) (by kernel_rfl)
    (Eq.mp (by kernel_rfl : f21 p0 K w = evFn Try.prog Try.f21 [] [] [] (.two .nil (.two .nil (.two .nil (.two .nil (.two (.two (.draw [0, 1, 0, 4, 15, 31]) .nil) (.two (.draw [0, 1, 3, 7, 0, 16, 48, 112, 0, 256, 768, 1792, 4095, 0, 8192, 24576, 57344, 0, 131072, 393216, 917504, 0, 2097152, 6291456, 14680064, 33546240, 67108863, 0, 268435455]) (.two (.two (.draw [0, 1, 3, 7, 15, 31, 63, 15, 143, 511, 1023]) .nil) .nil))))))) [(.slice p0.a p0.len p0.cap)] [(.agg [(.int .i64), (.int .i64), .bool, (.int .i64), (.int .i64), .bool]), (.one (.int .i64))] K w) h)

/-- sallyport/sallyportlaw16.RecordParses -/
def f6 (p0 : Sl) (K : Bool → World → Prop) (w : World) : Prop :=
  callS Try.prog 10 #[] [(.one .bool)] (fun r1 w =>
  cond (!r1)
    (K false w)
    (cond (decide ((p0.len : Int) > 200))
      (K true w)
      (callS Try.prog 20 #[(.slice p0.a p0.len p0.cap)] [(.agg [(.int .i64), (.int .i64), .bool, (.int .i64), (.int .i64), .bool]), (.one (.int .i64))] (fun r2 r3 r4 r5 r6 r7 r8 w =>
      semS Try.prog (Instr.alloc 29 true (.tuple #[])) (.one .adr) (fun x9 w =>
      semU Try.prog (Instr.storeAt 29 (.pointer (some x9)) (.agg #[(.int .i64 r2), (.int .i64 r3), (.bool r4), (.int .i64 r5), (.int .i64 r6), (.bool r7)])) (fun w =>
      callS Try.prog 21 #[(.slice p0.a p0.len p0.cap)] [(.agg [(.int .i64), (.int .i64), .bool, (.int .i64), (.int .i64), .bool]), (.one (.int .i64))] (fun r10 r11 r12 r13 r14 r15 r16 w =>
      semS Try.prog (Instr.alloc 36 true (.tuple #[])) (.one .adr) (fun x17 w =>
      semU Try.prog (Instr.storeAt 36 (.pointer (some x17)) (.agg #[(.int .i64 r10), (.int .i64 r11), (.bool r12), (.int .i64 r13), (.int .i64 r14), (.bool r15)])) (fun w =>
      drawS w fun C w =>
      cond (r8 == r16)
        (semQ Try.prog C (Instr.loadAt 29 (.pointer (some x9))) (.agg [(.int .i64), (.int .i64), .bool, (.int .i64), (.int .i64), .bool]) (fun x18 x19 x20 x21 x22 x23 =>
        semQ Try.prog C (Instr.loadAt 36 (.pointer (some x17))) (.agg [(.int .i64), (.int .i64), .bool, (.int .i64), (.int .i64), .bool]) (fun x24 x25 x26 x27 x28 x29 =>
        callS Try.prog 16 #[(.agg #[(.int .i64 x18), (.int .i64 x19), (.bool x20), (.int .i64 x21), (.int .i64 x22), (.bool x23)])] [(.agg [(.int .i64), (.int .i64), .bool, (.int .i64), (.int .i64), .bool])] (fun r30 r31 r32 r33 r34 r35 w =>
        moreS C w (fun C =>
        semQ Try.prog C (binS .eql 36 (.tmp 27) (.tmp 28) (.agg #[(.int .i64 r30), (.int .i64 r31), (.bool r32), (.int .i64 r33), (.int .i64 r34), (.bool r35)]) (.agg #[(.int .i64 x24), (.int .i64 x25), (.bool x26), (.int .i64 x27), (.int .i64 x28), (.bool x29)])) (.one .bool) (fun x36 =>
        K x36 w))) w)))
        (K false w)) w) w) w) w) w) w))) w
theorem f6_ok {p0 : Sl} {K : Bool → World → Prop} {w : World} (h : f6 p0 K w) : callS Try.prog 6 #[(.slice p0.a p0.len p0.cap)] [(.one .bool)] K w :=
  calls_of_fn (args := [(.slice p0.a p0.len p0.cap)]) Try.f6 [] [] [] (.two .nil (.two .nil (.two .nil (.two .nil (.two .nil (.two (.draw [0, 0, 3, 7, 15, 31, 15, 127, 255, 511]) .nil)))))) (by kernel_rfl) (by kernel_rfl)
    (Eq.mp (by kernel_rfl : f6 p0 K w = evFn Try.prog Try.f6 [] [] [] (.two .nil (.two .nil (.two .nil (.two .nil (.two .nil (.two (.draw [0, 0, 3, 7, 15, 31, 15, 127, 255, 511]) .nil)))))) [(.slice p0.a p0.len p0.cap)] [(.one .bool)] K w) h)

/-- sallyport/record.Encode -/
def f22 (p0_0 : Int) (p0_1 : Int) (p0_2 : Bool) (p0_3 : Int) (p0_4 : Int) (p0_5 : Bool) (K : Sl → Int → World → Prop) (w : World) : Prop :=
  semS Try.prog (Instr.box 29 (.agg #[(.int .i64 p0_0), (.int .i64 p0_1), (.bool p0_2), (.int .i64 p0_3), (.int .i64 p0_4), (.bool p0_5)])) (.one .adr) (fun x1 w =>
  semS Try.prog (Instr.loadAt 29 (.pointer (some x1))) (.agg [(.int .i64), (.int .i64), .bool, (.int .i64), (.int .i64), .bool]) (fun x2 x3 x4 x5 x6 x7 w =>
  callS Try.prog 23 #[(.agg #[(.int .i64 x2), (.int .i64 x3), (.bool x4), (.int .i64 x5), (.int .i64 x6), (.bool x7)])] [(.one .bool)] (fun r8 w =>
  cond (!r8)
    (K (⟨none, 0, 0⟩) 12 w)
    (semS Try.prog (Instr.loadAt 29 (.pointer (some x1))) (.agg [(.int .i64), (.int .i64), .bool, (.int .i64), (.int .i64), .bool]) (fun x9 x10 x11 x12 x13 x14 w =>
    callS Try.prog 37 #[(.agg #[(.int .i64 x9), (.int .i64 x10), (.bool x11), (.int .i64 x12), (.int .i64 x13), (.bool x14)])] [(.one .slc)] (fun r15 w =>
    K r15 0 w) w) w)) w) w) w
theorem f22_ok {p0_0 : Int} {p0_1 : Int} {p0_2 : Bool} {p0_3 : Int} {p0_4 : Int} {p0_5 : Bool} {K : Sl → Int → World → Prop} {w : World} (h : f22 p0_0 p0_1 p0_2 p0_3 p0_4 p0_5 K w) : callS Try.prog 22 #[(.agg #[(.int .i64 p0_0), (.int .i64 p0_1), (.bool p0_2), (.int .i64 p0_3), (.int .i64 p0_4), (.bool p0_5)])] [(.one .slc), (.one (.int .i64))] K w :=
  calls_of_fn (args := [(.agg #[(.int .i64 p0_0), (.int .i64 p0_1), (.bool p0_2), (.int .i64 p0_3), (.int .i64 p0_4), (.bool p0_5)])]) Try.f22 [] [] [] .nil (by kernel_rfl) (by kernel_rfl)
    (Eq.mp (by kernel_rfl : f22 p0_0 p0_1 p0_2 p0_3 p0_4 p0_5 K w = evFn Try.prog Try.f22 [] [] [] .nil [(.agg #[(.int .i64 p0_0), (.int .i64 p0_1), (.bool p0_2), (.int .i64 p0_3), (.int .i64 p0_4), (.bool p0_5)])] [(.one .slc), (.one (.int .i64))] K w) h)

/-- sallyport/sallyportlaw16.RecordEncodes -/
def f7 (p0_0 : Int) (p0_1 : Int) (p0_2 : Bool) (p0_3 : Int) (p0_4 : Int) (p0_5 : Bool) (K : Bool → World → Prop) (w : World) : Prop :=
  semS Try.prog (Instr.box 29 (.agg #[(.int .i64 p0_0), (.int .i64 p0_1), (.bool p0_2), (.int .i64 p0_3), (.int .i64 p0_4), (.bool p0_5)])) (.one .adr) (fun x1 w =>
  callS Try.prog 10 #[] [(.one .bool)] (fun r2 w =>
  cond (!r2)
    (K false w)
    (semS Try.prog (Instr.loadAt 29 (.pointer (some x1))) (.agg [(.int .i64), (.int .i64), .bool, (.int .i64), (.int .i64), .bool]) (fun x3 x4 x5 x6 x7 x8 w =>
    callS Try.prog 16 #[(.agg #[(.int .i64 x3), (.int .i64 x4), (.bool x5), (.int .i64 x6), (.int .i64 x7), (.bool x8)])] [(.agg [(.int .i64), (.int .i64), .bool, (.int .i64), (.int .i64), .bool])] (fun r9 r10 r11 r12 r13 r14 w =>
    semS Try.prog (Instr.alloc 36 true (.tuple #[])) (.one .adr) (fun x15 w =>
    semU Try.prog (Instr.storeAt 36 (.pointer (some x15)) (.agg #[(.int .i64 r9), (.int .i64 r10), (.bool r11), (.int .i64 r12), (.int .i64 r13), (.bool r14)])) (fun w =>
    semS Try.prog (Instr.loadAt 29 (.pointer (some x1))) (.agg [(.int .i64), (.int .i64), .bool, (.int .i64), (.int .i64), .bool]) (fun x16 x17 x18 x19 x20 x21 w =>
    callS Try.prog 22 #[(.agg #[(.int .i64 x16), (.int .i64 x17), (.bool x18), (.int .i64 x19), (.int .i64 x20), (.bool x21)])] [(.one .slc), (.one (.int .i64))] (fun r22 r23 w =>
    drawS w fun C w =>
    semQ Try.prog C (Instr.loadAt 29 (.pointer (some x1))) (.agg [(.int .i64), (.int .i64), .bool, (.int .i64), (.int .i64), .bool]) (fun x24 x25 x26 x27 x28 x29 =>
    semQ Try.prog C (Instr.loadAt 36 (.pointer (some x15))) (.agg [(.int .i64), (.int .i64), .bool, (.int .i64), (.int .i64), .bool]) (fun x30 x31 x32 x33 x34 x35 =>
    callS Try.prog 23 #[(.agg #[(.int .i64 x24), (.int .i64 x25), (.bool x26), (.int .i64 x27), (.int .i64 x28), (.bool x29)])] [(.one .bool)] (fun r36 w =>
    moreS C w (fun C =>
    callS Try.prog 24 #[(.agg #[(.int .i64 x30), (.int .i64 x31), (.bool x32), (.int .i64 x33), (.int .i64 x34), (.bool x35)])] [(.one .bool)] (fun r37 w =>
    cond (!(r36 == r37))
      (K false w)
      (semS Try.prog (Instr.loadAt 36 (.pointer (some x15))) (.agg [(.int .i64), (.int .i64), .bool, (.int .i64), (.int .i64), .bool]) (fun x38 x39 x40 x41 x42 x43 w =>
      callS Try.prog 24 #[(.agg #[(.int .i64 x38), (.int .i64 x39), (.bool x40), (.int .i64 x41), (.int .i64 x42), (.bool x43)])] [(.one .bool)] (fun r44 w =>
      cond (!r44)
        (K ((r23 == 12) && ((r22.len : Int) == 0)) w)
        (callS Try.prog 20 #[(.slice r22.a r22.len r22.cap)] [(.agg [(.int .i64), (.int .i64), .bool, (.int .i64), (.int .i64), .bool]), (.one (.int .i64))] (fun r45 r46 r47 r48 r49 r50 r51 w =>
        semS Try.prog (Instr.alloc 29 true (.tuple #[])) (.one .adr) (fun x52 w =>
        semU Try.prog (Instr.storeAt 29 (.pointer (some x52)) (.agg #[(.int .i64 r45), (.int .i64 r46), (.bool r47), (.int .i64 r48), (.int .i64 r49), (.bool r50)])) (fun w =>
        drawS w fun C w =>
        cond (r23 == 0)
          (semQ Try.prog C (convert 22 9 (.slice r22.a r22.len r22.cap)) (.one .str) (fun x53 =>
          semQ Try.prog C (Instr.loadAt 36 (.pointer (some x15))) (.agg [(.int .i64), (.int .i64), .bool, (.int .i64), (.int .i64), .bool]) (fun x54 x55 x56 x57 x58 x59 =>
          callS Try.prog 25 #[(.agg #[(.int .i64 x54), (.int .i64 x55), (.bool x56), (.int .i64 x57), (.int .i64 x58), (.bool x59)])] [(.one .slc)] (fun r60 w =>
          moreS C w (fun C =>
          semQ Try.prog C (convert 22 9 (.slice r60.a r60.len r60.cap)) (.one .str) (fun x61 =>
          cond (x53.toList == x61.toList)
            (cond (r51 == 0)
              (semQ Try.prog C (Instr.loadAt 29 (.pointer (some x52))) (.agg [(.int .i64), (.int .i64), .bool, (.int .i64), (.int .i64), .bool]) (fun x62 x63 x64 x65 x66 x67 =>
              semQ Try.prog C (Instr.loadAt 29 (.pointer (some x1))) (.agg [(.int .i64), (.int .i64), .bool, (.int .i64), (.int .i64), .bool]) (fun x68 x69 x70 x71 x72 x73 =>
              semQ Try.prog C (binS .eql 29 (.tmp 52) (.tmp 53) (.agg #[(.int .i64 x62), (.int .i64 x63), (.bool x64), (.int .i64 x65), (.int .i64 x66), (.bool x67)]) (.agg #[(.int .i64 x68), (.int .i64 x69), (.bool x70), (.int .i64 x71), (.int .i64 x72), (.bool x73)])) (.one .bool) (fun x74 =>
              K x74 w))))
              (K false w))
            (K false w)))) w)))
          (K false w)) w) w) w)) w) w)) w)) w))) w) w) w) w) w) w)) w) w
theorem f7_ok {p0_0 : Int} {p0_1 : Int} {p0_2 : Bool} {p0_3 : Int} {p0_4 : Int} {p0_5 : Bool} {K : Bool → World → Prop} {w : World} (h : f7 p0_0 p0_1 p0_2 p0_3 p0_4 p0_5 K w) : callS Try.prog 7 #[(.agg #[(.int .i64 p0_0), (.int .i64 p0_1), (.bool p0_2), (.int .i64 p0_3), (.int .i64 p0_4), (.bool p0_5)])] [(.one .bool)] K w :=
  calls_of_fn (args := [(.agg #[(.int .i64 p0_0), (.int .i64 p0_1), (.bool p0_2), (.int .i64 p0_3), (.int .i64 p0_4), (.bool p0_5)])]) Try.f7 [] [] [] (.two .nil (.two .nil (.two .nil (.two .nil (.two (.two (.draw [0, 1, 0, 7, 15]) .nil) (.two .nil (.two .nil (.two (.draw [0, 1, 3, 7, 15, 7, 39, 103, 255, 511, 1023, 2047, 4095, 8191, 16383, 32767, 32767, 131071, 262143, 524287]) .nil)))))))) (by kernel_rfl) (by kernel_rfl)
    (Eq.mp (by kernel_rfl : f7 p0_0 p0_1 p0_2 p0_3 p0_4 p0_5 K w = evFn Try.prog Try.f7 [] [] [] (.two .nil (.two .nil (.two .nil (.two .nil (.two (.two (.draw [0, 1, 0, 7, 15]) .nil) (.two .nil (.two .nil (.two (.draw [0, 1, 3, 7, 15, 7, 39, 103, 255, 511, 1023, 2047, 4095, 8191, 16383, 32767, 32767, 131071, 262143, 524287]) .nil)))))))) [(.agg #[(.int .i64 p0_0), (.int .i64 p0_1), (.bool p0_2), (.int .i64 p0_3), (.int .i64 p0_4), (.bool p0_5)])] [(.one .bool)] K w) h)

/-- sallyport/sallyportlaw16.RecordUnlike -/
def f8 (p0_0 : Int) (p0_1 : Int) (p0_2 : Bool) (p0_3 : Int) (p0_4 : Int) (p0_5 : Bool) (p1_0 : Int) (p1_1 : Int) (p1_2 : Bool) (p1_3 : Int) (p1_4 : Int) (p1_5 : Bool) (p2 : Int) (K : Bool → World → Prop) (w : World) : Prop :=
  semS Try.prog (Instr.box 29 (.agg #[(.int .i64 p0_0), (.int .i64 p0_1), (.bool p0_2), (.int .i64 p0_3), (.int .i64 p0_4), (.bool p0_5)])) (.one .adr) (fun x1 w =>
  semS Try.prog (Instr.box 29 (.agg #[(.int .i64 p1_0), (.int .i64 p1_1), (.bool p1_2), (.int .i64 p1_3), (.int .i64 p1_4), (.bool p1_5)])) (.one .adr) (fun x2 w =>
  callS Try.prog 10 #[] [(.one .bool)] (fun r3 w =>
  cond (!r3)
    (K false w)
    (semS Try.prog (Instr.loadAt 29 (.pointer (some x1))) (.agg [(.int .i64), (.int .i64), .bool, (.int .i64), (.int .i64), .bool]) (fun x4 x5 x6 x7 x8 x9 w =>
    callS Try.prog 22 #[(.agg #[(.int .i64 x4), (.int .i64 x5), (.bool x6), (.int .i64 x7), (.int .i64 x8), (.bool x9)])] [(.one .slc), (.one (.int .i64))] (fun r10 r11 w =>
    semS Try.prog (Instr.loadAt 29 (.pointer (some x2))) (.agg [(.int .i64), (.int .i64), .bool, (.int .i64), (.int .i64), .bool]) (fun x12 x13 x14 x15 x16 x17 w =>
    callS Try.prog 22 #[(.agg #[(.int .i64 x12), (.int .i64 x13), (.bool x14), (.int .i64 x15), (.int .i64 x16), (.bool x17)])] [(.one .slc), (.one (.int .i64))] (fun r18 r19 w =>
    cond (((r11 != 0) || (r19 != 0)) || (decide (p2 < 0)))
      (K true w)
      (semS Try.prog (Instr.buildSlice 22 0 #[]) (.one .slc) (fun x20 w =>
      semS Try.prog (Builtin.append_ #[22, 22] 22 #[(.slice x20.a x20.len x20.cap), (.slice r10.a r10.len r10.cap)]) (.one .slc) (fun r21 w =>
      drawS w fun C w =>
      semQ Try.prog C (binS .rem 3 (.tmp 41) (.tmp 43) (.int .i64 (IntKind.wrap .i64 (Int.tdiv p2 8))) (.int .i64 (r21.len : Int))) (.one (.int .i64)) (fun x22 =>
      semQ Try.prog C (Instr.indexAt 22 (.slice r21.a r21.len r21.cap) (.int .i64 x22)) (.one .adr) (fun x23 =>
      semQ Try.prog C (Instr.loadAt 5 (.pointer (some x23))) (.one (.int .u8)) (fun x24 =>
      semQ Try.prog C (binS .shl 5 (.const (Go.Value.int Go.IntKind.u8 1)) (.tmp 48) (.int .u8 1) (.int .i64 (Int.tmod p2 8))) (.one (.int .u8)) (fun x25 =>
      semQ Try.prog C (Instr.indexAt 22 (.slice r21.a r21.len r21.cap) (.int .i64 x22)) (.one .adr) (fun x26 =>
      semU Try.prog (Instr.storeAt 5 (.pointer (some x26)) (.int .u8 (xorI .u8 x24 x25))) (fun w =>
      callS Try.prog 20 #[(.slice r21.a r21.len r21.cap)] [(.agg [(.int .i64), (.int .i64), .bool, (.int .i64), (.int .i64), .bool]), (.one (.int .i64))] (fun r27 r28 r29 r30 r31 r32 r33 w =>
      semS Try.prog (Instr.alloc 29 true (.tuple #[])) (.one .adr) (fun x34 w =>
      semU Try.prog (Instr.storeAt 29 (.pointer (some x34)) (.agg #[(.int .i64 r27), (.int .i64 r28), (.bool r29), (.int .i64 r30), (.int .i64 r31), (.bool r32)])) (fun w =>
      drawS w fun C w =>
      semQ Try.prog C (convert 22 9 (.slice r10.a r10.len r10.cap)) (.one .str) (fun x35 =>
      semQ Try.prog C (convert 22 9 (.slice r18.a r18.len r18.cap)) (.one .str) (fun x36 =>
      semQ Try.prog C (Instr.loadAt 29 (.pointer (some x1))) (.agg [(.int .i64), (.int .i64), .bool, (.int .i64), (.int .i64), .bool]) (fun x37 x38 x39 x40 x41 x42 =>
      semQ Try.prog C (Instr.loadAt 29 (.pointer (some x2))) (.agg [(.int .i64), (.int .i64), .bool, (.int .i64), (.int .i64), .bool]) (fun x43 x44 x45 x46 x47 x48 =>
      semQ Try.prog C (binS .eql 29 (.tmp 62) (.tmp 63) (.agg #[(.int .i64 x37), (.int .i64 x38), (.bool x39), (.int .i64 x40), (.int .i64 x41), (.bool x42)]) (.agg #[(.int .i64 x43), (.int .i64 x44), (.bool x45), (.int .i64 x46), (.int .i64 x47), (.bool x48)])) (.one .bool) (fun x49 =>
      cond ((x35.toList == x36.toList) == x49)
        (cond (r33 != 0)
          (semQ Try.prog C (Instr.loadAt 29 (.pointer (some x34))) (.agg [(.int .i64), (.int .i64), .bool, (.int .i64), (.int .i64), .bool]) (fun x50 x51 x52 x53 x54 x55 =>
          semQ Try.prog C (binS .eql 29 (.tmp 71) (.tmp 72) (.agg #[(.int .i64 x50), (.int .i64 x51), (.bool x52), (.int .i64 x53), (.int .i64 x54), (.bool x55)]) (.agg #[(.int .i64 0), (.int .i64 0), (.bool false), (.int .i64 0), (.int .i64 0), (.bool false)])) (.one .bool) (fun x56 =>
          K x56 w)))
          (K false w))
        (K false w))))))) w) w) w) w)))))) w) w)) w) w) w) w)) w) w) w
theorem f8_ok {p0_0 : Int} {p0_1 : Int} {p0_2 : Bool} {p0_3 : Int} {p0_4 : Int} {p0_5 : Bool} {p1_0 : Int} {p1_1 : Int} {p1_2 : Bool} {p1_3 : Int} {p1_4 : Int} {p1_5 : Bool} {p2 : Int} {K : Bool → World → Prop} {w : World} (h : f8 p0_0 p0_1 p0_2 p0_3 p0_4 p0_5 p1_0 p1_1 p1_2 p1_3 p1_4 p1_5 p2 K w) : callS Try.prog 8 #[(.agg #[(.int .i64 p0_0), (.int .i64 p0_1), (.bool p0_2), (.int .i64 p0_3), (.int .i64 p0_4), (.bool p0_5)]), (.agg #[(.int .i64 p1_0), (.int .i64 p1_1), (.bool p1_2), (.int .i64 p1_3), (.int .i64 p1_4), (.bool p1_5)]), (.int .i64 p2)] [(.one .bool)] K w :=
  calls_of_fn (args := [(.agg #[(.int .i64 p0_0), (.int .i64 p0_1), (.bool p0_2), (.int .i64 p0_3), (.int .i64 p0_4), (.bool p0_5)]), (.agg #[(.int .i64 p1_0), (.int .i64 p1_1), (.bool p1_2), (.int .i64 p1_3), (.int .i64 p1_4), (.bool p1_5)]), (.int .i64 p2)]) Try.f8 [] [] [] (.two .nil (.two .nil (.two .nil (.two .nil (.two .nil (.two .nil (.two (.draw [0, 0, 2, 0, 8, 30, 63, 127, 0, 256, 768, 2047, 4095, 8191]) (.two .nil (.two (.draw [0, 1, 0, 4, 15, 0, 0, 96, 255, 511, 1023, 2047, 4095, 8191, 16383, 16383, 65535, 131071, 262143]) .nil))))))))) (by kernel_rfl) (by kernel_rfl)
    (Eq.mp (by kernel_rfl : f8 p0_0 p0_1 p0_2 p0_3 p0_4 p0_5 p1_0 p1_1 p1_2 p1_3 p1_4 p1_5 p2 K w = evFn Try.prog Try.f8 [] [] [] (.two .nil (.two .nil (.two .nil (.two .nil (.two .nil (.two .nil (.two (.draw [0, 0, 2, 0, 8, 30, 63, 127, 0, 256, 768, 2047, 4095, 8191]) (.two .nil (.two (.draw [0, 1, 0, 4, 15, 0, 0, 96, 255, 511, 1023, 2047, 4095, 8191, 16383, 16383, 65535, 131071, 262143]) .nil))))))))) [(.agg #[(.int .i64 p0_0), (.int .i64 p0_1), (.bool p0_2), (.int .i64 p0_3), (.int .i64 p0_4), (.bool p0_5)]), (.agg #[(.int .i64 p1_0), (.int .i64 p1_1), (.bool p1_2), (.int .i64 p1_3), (.int .i64 p1_4), (.bool p1_5)]), (.int .i64 p2)] [(.one .bool)] K w) h)

/-- slices.Clone[[]sallyport/drive.Part,sallyport/drive.Part] -/
def f43 (p0 : Sl) (K : Sl → World → Prop) (w : World) : Prop :=
  semS Try.prog (binS .eql 57 (.tmp 3) (.const (Go.Value.slice none 0 0)) (.slice p0.a p0.len p0.cap) (.slice none 0 0)) (.one .bool) (fun x1 w =>
  cond x1
    (K (⟨none, 0, 0⟩) w)
    (semS Try.prog (Instr.buildSlice 57 0 #[]) (.one .slc) (fun x2 w =>
    semS Try.prog (Builtin.append_ #[57, 57] 57 #[(.slice x2.a x2.len x2.cap), (.slice p0.a p0.len p0.cap)]) (.one .slc) (fun r3 w =>
    K r3 w) w) w)) w
theorem f43_ok {p0 : Sl} {K : Sl → World → Prop} {w : World} (h : f43 p0 K w) : callS Try.prog 43 #[(.slice p0.a p0.len p0.cap)] [(.one .slc)] K w :=
  calls_of_fn (args := [(.slice p0.a p0.len p0.cap)]) Try.f43 [] [] [] .nil (by kernel_rfl) (by kernel_rfl)
    (Eq.mp (by kernel_rfl : f43 p0 K w = evFn Try.prog Try.f43 [] [] [] .nil [(.slice p0.a p0.len p0.cap)] [(.one .slc)] K w) h)

/-- strings.indexFunc -/
def f54 (p0 : ByteArray) (p1 : Value) (p2 : Bool) (K : Int → World → Prop) (w : World) : Prop :=
  semS Try.prog (Instr.range 9 (.string p0)) (.one .adr) (fun x1 w =>
  loopS (σ := Unit) (fun _ w again2 =>
    semS Try.prog (Instr.next (.pointer (some x1)) true 0) .nxt ⟨fun w =>
    K (-1) w, fun i3 c4 w =>
    callY Try.prog (callSem p1 #[(.int .i32 c4)]) [(.one .bool)] (fun r5 w =>
    cond (r5 == p2)
      (K i3 w)
      (again2 () w)) w⟩ w) () w) w
theorem f54_ok {p0 : ByteArray} {p1 : Value} {p2 : Bool} {K : Int → World → Prop} {w : World} (h : f54 p0 p1 p2 K w) : callS Try.prog 54 #[(.string p0), p1, (.bool p2)] [(.one (.int .i64))] K w :=
  calls_of_fn (args := [(.string p0), p1, (.bool p2)]) Try.f54 [1, 15] [] [] (.two .nil (.two (.two .nil (.one (.loop [] .nil))) .nil)) (by kernel_rfl) (by kernel_rfl)
    (Eq.mp (by kernel_rfl : f54 p0 p1 p2 K w = evFn Try.prog Try.f54 [1, 15] [] [] (.two .nil (.two (.two .nil (.one (.loop [] .nil))) .nil)) [(.string p0), p1, (.bool p2)] [(.one (.int .i64))] K w) h)

/-- strings.IndexFunc -/
def f53 (p0 : ByteArray) (p1 : Value) (K : Int → World → Prop) (w : World) : Prop :=
  callS Try.prog 54 #[(.string p0), p1, (.bool true)] [(.one (.int .i64))] (fun r1 w =>
  K r1 w) w
theorem f53_ok {p0 : ByteArray} {p1 : Value} {K : Int → World → Prop} {w : World} (h : f53 p0 p1 K w) : callS Try.prog 53 #[(.string p0), p1] [(.one (.int .i64))] K w :=
  calls_of_fn (args := [(.string p0), p1]) Try.f53 [1, 6] [] [] .nil (by kernel_rfl) (by kernel_rfl)
    (Eq.mp (by kernel_rfl : f53 p0 p1 K w = evFn Try.prog Try.f53 [1, 6] [] [] .nil [(.string p0), p1] [(.one (.int .i64))] K w) h)

/-- strings.ContainsFunc -/
def f51 (p0 : ByteArray) (p1 : Value) (K : Bool → World → Prop) (w : World) : Prop :=
  callS Try.prog 53 #[(.string p0), p1] [(.one (.int .i64))] (fun r1 w =>
  K (decide (r1 ≥ 0)) w) w
theorem f51_ok {p0 : ByteArray} {p1 : Value} {K : Bool → World → Prop} {w : World} (h : f51 p0 p1 K w) : callS Try.prog 51 #[(.string p0), p1] [(.one .bool)] K w :=
  calls_of_fn (args := [(.string p0), p1]) Try.f51 [1, 6] [] [] .nil (by kernel_rfl) (by kernel_rfl)
    (Eq.mp (by kernel_rfl : f51 p0 p1 K w = evFn Try.prog Try.f51 [1, 6] [] [] .nil [(.string p0), p1] [(.one .bool)] K w) h)

/-- sallyport/drive.named$1 -/
def f52 (p0 : Int) (K : Bool → World → Prop) (w : World) : Prop :=
  K (!((((decide (p0 ≥ 97)) && (decide (p0 ≤ 122))) || ((decide (p0 ≥ 48)) && (decide (p0 ≤ 57)))) || (p0 == 95))) w
theorem f52_ok {p0 : Int} {K : Bool → World → Prop} {w : World} (h : f52 p0 K w) : callS Try.prog 52 #[(.int .i32 p0)] [(.one .bool)] K w :=
  calls_of_fn (args := [(.int .i32 p0)]) Try.f52 [] [] [] .nil (by kernel_rfl) (by kernel_rfl)
    (Eq.mp (by kernel_rfl : f52 p0 K w = evFn Try.prog Try.f52 [] [] [] .nil [(.int .i32 p0)] [(.one .bool)] K w) h)

/-- sallyport/drive.named -/
def f44 (p0 : ByteArray) (K : Bool → World → Prop) (w : World) : Prop :=
  joinS (σ := Bool) (fun b1 w =>
    K b1 w) fun J2 =>
  cond ((!(p0.toList == (ByteArray.mk #[]).toList)) && (decide ((p0.size : Int) ≤ 24)))
    (callS Try.prog 51 #[(.string p0), (.func (.func 52) #[] #[])] [(.one .bool)] (fun r3 w =>
      J2 (!r3) w) w)
    (J2 false w)
theorem f44_ok {p0 : ByteArray} {K : Bool → World → Prop} {w : World} (h : f44 p0 K w) : callS Try.prog 44 #[(.string p0)] [(.one .bool)] K w :=
  calls_of_fn (args := [(.string p0)]) Try.f44 [] [] [] .nil (by kernel_rfl) (by kernel_rfl)
    (Eq.mp (by kernel_rfl : f44 p0 K w = evFn Try.prog Try.f44 [] [] [] .nil [(.string p0)] [(.one .bool)] K w) h)

def f26_t1 (z19 : Bool) (K : (Option Addr) → Int → World → Prop) (x9 : Addr) (x3 : Addr) (again5 : (Int × Int) → World → Prop) (s4 : Int × Int) (w : World) : Prop :=
  cond z19
    (K none 40 w)
    (semS Try.prog (Instr.loadAt 3 (.pointer (some (x9.add 1)))) (.one (.int .i64)) (fun x20 w =>
    drawS w fun C w =>
    semQ Try.prog C (Instr.loadAt 74 (.pointer (some (x3.add 1)))) (.one .mp) (fun x21 =>
    semQ Try.prog C (Instr.loadAt 9 (.pointer (some (x9.add 0)))) (.one .str) (fun x22 =>
    semS Try.prog (Instr.makeMap 79 none) (.one .mp) (fun x23 w =>
    moreS C w (fun C =>
    semS Try.prog (Instr.box 81 (.agg #[(.slice none 0 0), (.map x23)])) (.one .adr) (fun x24 w =>
    moreS C w (fun C =>
    semU Try.prog (Instr.mapUpdate 74 (.map x21) (.string x22) (.pointer (some x24))) (fun w =>
    again5 (IntKind.wrap .i64 (s4.1 + x20), IntKind.wrap .i64 (s4.2 + 1)) w) w)) w)) w))) w)

/-- sallyport/drive.New -/
def f26 (p0 : Sl) (K : (Option Addr) → Int → World → Prop) (w : World) : Prop :=
  cond (decide ((p0.len : Int) > 16))
    (K none 40 w)
    (callS Try.prog 43 #[(.slice p0.a p0.len p0.cap)] [(.one .slc)] (fun r1 w =>
    semS Try.prog (Instr.makeMap 74 none) (.one .mp) (fun x2 w =>
    semS Try.prog (Instr.box 76 (.agg #[(.slice r1.a r1.len r1.cap), (.map x2), (.int .i64 (-1)), (.slice none 0 0), (.bool false), (.int .i64 0), (.int .i64 0)])) (.one .adr) (fun x3 w =>
    loopS (σ := Int × Int) (fun s4 w again5 =>
      cond (decide (s4.2 < (p0.len : Int)))
        (semS Try.prog (Instr.indexAt 57 (.slice p0.a p0.len p0.cap) (.int .i64 s4.2)) (.one .adr) (fun x6 w =>
        semS Try.prog (Instr.loadAt 56 (.pointer (some x6))) (.agg [.str, (.int .i64)]) (fun x7 x8 w =>
        semS Try.prog (Instr.alloc 56 true (.tuple #[])) (.one .adr) (fun x9 w =>
        semU Try.prog (Instr.storeAt 56 (.pointer (some x9)) (.agg #[(.string x7), (.int .i64 x8)])) (fun w =>
        drawS w fun C w =>
        semQ Try.prog C (Instr.loadAt 9 (.pointer (some (x9.add 0)))) (.one .str) (fun x10 =>
        callS Try.prog 44 #[(.string x10)] [(.one .bool)] (fun r11 w =>
        moreS C w (fun C =>
        cond (!r11)
          (f26_t1 true K x9 x3 again5 s4 w)
          (semQ Try.prog C (Instr.loadAt 74 (.pointer (some (x3.add 1)))) (.one .mp) (fun x12 =>
          semQ Try.prog C (Instr.loadAt 9 (.pointer (some (x9.add 0)))) (.one .str) (fun x13 =>
          semQ Try.prog C (Instr.lookup 74 (.map x12) (.string x13) false) (.one .ptr) (fun x14 =>
          semQ Try.prog C (binS .neq 78 (.tmp 35) (.const (Go.Value.pointer none)) (.pointer x14) (.pointer none)) (.one .bool) (fun x15 =>
          cond x15
            (f26_t1 true K x9 x3 again5 s4 w)
            (semQ Try.prog C (Instr.loadAt 3 (.pointer (some (x9.add 1)))) (.one (.int .i64)) (fun x16 =>
            cond (decide (x16 < 64))
              (f26_t1 true K x9 x3 again5 s4 w)
              (semQ Try.prog C (Instr.loadAt 3 (.pointer (some (x9.add 1)))) (.one (.int .i64)) (fun x17 =>
              cond (decide (x17 > 1048576))
                (f26_t1 true K x9 x3 again5 s4 w)
                (semQ Try.prog C (Instr.loadAt 3 (.pointer (some (x9.add 1)))) (.one (.int .i64)) (fun x18 =>
                f26_t1 ((Int.tmod x18 64) != 0) K x9 x3 again5 s4 w))))))))))))) w)) w) w) w) w)
        (cond (decide (s4.1 > 1048576))
          (K none 11 w)
          (loopS (σ := Int) (fun x25 w again26 =>
            cond (decide (x25 < (p0.len : Int)))
              (semS Try.prog (Instr.indexAt 57 (.slice p0.a p0.len p0.cap) (.int .i64 x25)) (.one .adr) (fun x27 w =>
              semS Try.prog (Instr.loadAt 56 (.pointer (some x27))) (.agg [.str, (.int .i64)]) (fun x28 x29 w =>
              semS Try.prog (Instr.alloc 56 true (.tuple #[])) (.one .adr) (fun x30 w =>
              semU Try.prog (Instr.storeAt 56 (.pointer (some x30)) (.agg #[(.string x28), (.int .i64 x29)])) (fun w =>
              drawS w fun C w =>
              semQ Try.prog C (Instr.loadAt 74 (.pointer (some (x3.add 1)))) (.one .mp) (fun x31 =>
              semQ Try.prog C (Instr.loadAt 9 (.pointer (some (x30.add 0)))) (.one .str) (fun x32 =>
              semQ Try.prog C (Instr.lookup 74 (.map x31) (.string x32) false) (.one .ptr) (fun x33 =>
              semQ Try.prog C (Instr.loadAt 3 (.pointer (some (x30.add 1)))) (.one (.int .i64)) (fun x34 =>
              semS Try.prog (Instr.makeSlice 22 (.int .i64 x34) (.int .i64 x34)) (.one .slc) (fun x35 w =>
              moreS C w (fun C =>
              nilS x33 fun a36 =>
              semU Try.prog (Instr.storeAt 22 (.pointer (some (a36.add 0))) (.slice x35.a x35.len x35.cap)) (fun w =>
              again26 (IntKind.wrap .i64 (x25 + 1)) w) w)) w))))) w) w) w) w)
              (K (some x3) 0 w)) 0 w))) (0, 0) w) w) w) w)
theorem f26_ok {p0 : Sl} {K : (Option Addr) → Int → World → Prop} {w : World} (h : f26 p0 K w) : callS Try.prog 26 #[(.slice p0.a p0.len p0.cap)] [(.one .ptr), (.one (.int .i64))] K w :=
  calls_of_fn (args := [(.slice p0.a p0.len p0.cap)]) Try.f26 [] [] [] (.two .nil (.two .nil (.two .nil (.two .nil (.two (.two .nil (.one (.loop [(5, (.int .i64)), (20, (.int .i64))] (.two .nil (.two .nil (.two (.one (.two .nil (.two (.two (.draw [0, 1, 3, 7, 15, 31, 63, 127, 255, 31, 543, 2047, 4095, 8191, 16383, 32767, 65535, 131071, 262143, 524287, 1048575, 2097151, 4194303, 8388607, 16777215, 33554431, 67108863, 134217727, 268435455, 536870911]) .nil) (.two .nil (.draw [0, 1, 3, 7, 0, 16, 0, 64, 192, 511]))))) .nil)))))) (.two .nil (.two (.two .nil (.one (.loop [(72, (.int .i64))] (.two .nil (.two .nil (.two (.one (.two .nil (.draw [0, 1, 3, 7, 0, 16, 63, 0, 128, 384, 1023, 2047, 4095]))) .nil)))))) .nil))))))) (by kernel_rfl) (by kernel_rfl)
    (Eq.mp (by kernel_rfl : f26 p0 K w = evFn Try.prog Try.f26 [] [] [] (.two .nil (.two .nil (.two .nil (.two .nil (.two (.two .nil (.one (.loop [(5, (.int .i64)), (20, (.int .i64))] (.two .nil (.two .nil (.two (.one (.two .nil (.two (.two (.draw [0, 1, 3, 7, 15, 31, 63, 127, 255, 31, 543, 2047, 4095, 8191, 16383, 32767, 65535, 131071, 262143, 524287, 1048575, 2097151, 4194303, 8388607, 16777215, 33554431, 67108863, 134217727, 268435455, 536870911]) .nil) (.two .nil (.draw [0, 1, 3, 7, 0, 16, 0, 64, 192, 511]))))) .nil)))))) (.two .nil (.two (.two .nil (.one (.loop [(72, (.int .i64))] (.two .nil (.two .nil (.two (.one (.two .nil (.draw [0, 1, 3, 7, 0, 16, 63, 0, 128, 384, 1023, 2047, 4095]))) .nil)))))) .nil))))))) [(.slice p0.a p0.len p0.cap)] [(.one .ptr), (.one (.int .i64))] K w) h)

/-- (*sallyport/drive.Drive).find -/
def f45 (p0 : Option Addr) (p1 : ByteArray) (p2 : Int) (p3 : Int) (K : (Option Addr) → Int → World → Prop) (w : World) : Prop :=
  nilS p0 fun a1 =>
  semS Try.prog (Instr.loadAt 74 (.pointer (some (a1.add 1)))) (.one .mp) (fun x2 w =>
  semS Try.prog (Instr.lookup 74 (.map x2) (.string p1) false) (.one .ptr) (fun x3 w =>
  nilS p0 fun a4 =>
  semS Try.prog (Instr.loadAt 4 (.pointer (some (a4.add 4)))) (.one .bool) (fun x5 w =>
  cond x5
    (K none 42 w)
    (semS Try.prog (binS .eql 78 (.tmp 23) (.const (Go.Value.pointer none)) (.pointer x3) (.pointer none)) (.one .bool) (fun x6 w =>
    cond x6
      (K none 40 w)
      (nilS x3 fun a7 =>
      semS Try.prog (Instr.loadAt 22 (.pointer (some (a7.add 0)))) (.one .slc) (fun x8 w =>
      callS Try.prog 49 #[(.int .i64 p2), (.int .i64 p3), (.int .i64 (x8.len : Int))] [(.one .bool)] (fun r9 w =>
      cond (!r9)
        (K none 10 w)
        (K x3 0 w)) w) w)) w)) w) w) w
theorem f45_ok {p0 : Option Addr} {p1 : ByteArray} {p2 : Int} {p3 : Int} {K : (Option Addr) → Int → World → Prop} {w : World} (h : f45 p0 p1 p2 p3 K w) : callS Try.prog 45 #[(.pointer p0), (.string p1), (.int .i64 p2), (.int .i64 p3)] [(.one .ptr), (.one (.int .i64))] K w :=
  calls_of_fn (args := [(.pointer p0), (.string p1), (.int .i64 p2), (.int .i64 p3)]) Try.f45 [] [] [] .nil (by kernel_rfl) (by kernel_rfl)
    (Eq.mp (by kernel_rfl : f45 p0 p1 p2 p3 K w = evFn Try.prog Try.f45 [] [] [] .nil [(.pointer p0), (.string p1), (.int .i64 p2), (.int .i64 p3)] [(.one .ptr), (.one (.int .i64))] K w) h)

/-- sallyport/drive.sectors -/
def f46 (p0 : Int) (p1 : Int) (K : Int → Int → World → Prop) (w : World) : Prop :=
  cond (p1 == 0)
    (K (IntKind.wrap .i64 (Int.tdiv p0 64)) 0 w)
    (K (IntKind.wrap .i64 (Int.tdiv p0 64)) (IntKind.wrap .i64 ((IntKind.wrap .i64 ((IntKind.wrap .i64 (Int.tdiv (IntKind.wrap .i64 ((IntKind.wrap .i64 (p0 + p1)) - 1)) 64)) - (IntKind.wrap .i64 (Int.tdiv p0 64)))) + 1)) w)
theorem f46_ok {p0 : Int} {p1 : Int} {K : Int → Int → World → Prop} {w : World} (h : f46 p0 p1 K w) : callS Try.prog 46 #[(.int .i64 p0), (.int .i64 p1)] [(.one (.int .i64)), (.one (.int .i64))] K w :=
  calls_of_fn (args := [(.int .i64 p0), (.int .i64 p1)]) Try.f46 [] [] [] .nil (by kernel_rfl) (by kernel_rfl)
    (Eq.mp (by kernel_rfl : f46 p0 p1 K w = evFn Try.prog Try.f46 [] [] [] .nil [(.int .i64 p0), (.int .i64 p1)] [(.one (.int .i64)), (.one (.int .i64))] K w) h)

/-- (*sallyport/drive.Drive).Write -/
def f27 (p0 : Option Addr) (p1 : ByteArray) (p2 : Int) (p3 : Sl) (K : Int → World → Prop) (w : World) : Prop :=
  callS Try.prog 45 #[(.pointer p0), (.string p1), (.int .i64 p2), (.int .i64 (p3.len : Int))] [(.one .ptr), (.one (.int .i64))] (fun r1 r2 w =>
  cond (r2 != 0)
    (K r2 w)
    (nilS p0 fun a3 =>
    semS Try.prog (Instr.loadAt 3 (.pointer (some (a3.add 2)))) (.one (.int .i64)) (fun x4 w =>
    cond (x4 != 0)
      (nilS p0 fun a5 =>
      semS Try.prog (Instr.loadAt 3 (.pointer (some (a5.add 2)))) (.one (.int .i64)) (fun x6 w =>
      nilS p0 fun a7 =>
      semU Try.prog (Instr.storeAt 3 (.pointer (some (a7.add 2))) (.int .i64 (if (-1) > (IntKind.wrap .i64 (x6 - 1)) then -1 else IntKind.wrap .i64 (x6 - 1)))) (fun w =>
      nilS r1 fun a8 =>
      semS Try.prog (Instr.loadAt 22 (.pointer (some (a8.add 0)))) (.one .slc) (fun x9 w =>
      semS Try.prog (Instr.sliceAt 22 (.slice x9.a x9.len x9.cap) (some (.int .i64 p2)) none none) (.one .slc) (fun x10 w =>
      semS Try.prog (Builtin.copy_ #[22, 22] 3 #[(.slice x10.a x10.len x10.cap), (.slice p3.a p3.len p3.cap)]) (.one (.int .i64)) (fun r11 w =>
      K 0 w) w) w) w) w) w)
      (callS Try.prog 46 #[(.int .i64 p2), (.int .i64 (p3.len : Int))] [(.one (.int .i64)), (.one (.int .i64))] (fun r12 r13 w =>
      nilS p0 fun a14 =>
      semS Try.prog (Instr.loadAt 51 (.pointer (some (a14.add 3)))) (.one .slc) (fun x15 w =>
      loopS (σ := Int) (fun x16 w again17 =>
        cond (decide (x16 < (if (x15.len : Int) < r13 then (x15.len : Int) else r13)))
          (nilS p0 fun a18 =>
          semS Try.prog (Instr.loadAt 51 (.pointer (some (a18.add 3)))) (.one .slc) (fun x19 w =>
          semS Try.prog (Instr.indexAt 51 (.slice x19.a x19.len x19.cap) (.int .i64 x16)) (.one .adr) (fun x20 w =>
          semS Try.prog (Instr.loadAt 4 (.pointer (some x20))) (.one .bool) (fun x21 w =>
          cond x21
            (drawS w fun C w =>
            nilS r1 fun a22 =>
            semQ Try.prog C (Instr.loadAt 22 (.pointer (some (a22.add 0)))) (.one .slc) (fun x23 =>
            semQ Try.prog C (Instr.sliceAt 22 (.slice x23.a x23.len x23.cap) (some (.int .i64 (if (IntKind.wrap .i64 ((IntKind.wrap .i64 (r12 + x16)) * 64)) > p2 then IntKind.wrap .i64 ((IntKind.wrap .i64 (r12 + x16)) * 64) else p2))) (some (.int .i64 (if (IntKind.wrap .i64 ((IntKind.wrap .i64 ((IntKind.wrap .i64 (r12 + x16)) + 1)) * 64)) < (IntKind.wrap .i64 (p2 + (p3.len : Int))) then IntKind.wrap .i64 ((IntKind.wrap .i64 ((IntKind.wrap .i64 (r12 + x16)) + 1)) * 64) else IntKind.wrap .i64 (p2 + (p3.len : Int))))) none) (.one .slc) (fun x24 =>
            semQ Try.prog C (Instr.sliceAt 22 (.slice p3.a p3.len p3.cap) (some (.int .i64 (IntKind.wrap .i64 ((if (IntKind.wrap .i64 ((IntKind.wrap .i64 (r12 + x16)) * 64)) > p2 then IntKind.wrap .i64 ((IntKind.wrap .i64 (r12 + x16)) * 64) else p2) - p2)))) none none) (.one .slc) (fun x25 =>
            semS Try.prog (Builtin.copy_ #[22, 22] 3 #[(.slice x24.a x24.len x24.cap), (.slice x25.a x25.len x25.cap)]) (.one (.int .i64)) (fun r26 w =>
            again17 (IntKind.wrap .i64 (x16 + 1)) w) w))))
            (again17 (IntKind.wrap .i64 (x16 + 1)) w)) w) w) w)
          (nilS p0 fun a27 =>
          semU Try.prog (Instr.storeAt 4 (.pointer (some (a27.add 4))) (.bool true)) (fun w =>
          K 42 w) w)) 0 w) w) w)) w)) w
theorem f27_ok {p0 : Option Addr} {p1 : ByteArray} {p2 : Int} {p3 : Sl} {K : Int → World → Prop} {w : World} (h : f27 p0 p1 p2 p3 K w) : callS Try.prog 27 #[(.pointer p0), (.string p1), (.int .i64 p2), (.slice p3.a p3.len p3.cap)] [(.one (.int .i64))] K w :=
  calls_of_fn (args := [(.pointer p0), (.string p1), (.int .i64 p2), (.slice p3.a p3.len p3.cap)]) Try.f27 [] [] [] (.two .nil (.two .nil (.two .nil (.two .nil (.two .nil (.two (.two .nil (.one (.loop [(64, (.int .i64))] (.two .nil (.two .nil (.two (.one (.two .nil (.two .nil (.two (.two .nil (.draw [0, 1, 3, 7, 0, 0, 63, 0, 0, 0, 768, 1920, 4095])) .nil)))) .nil)))))) .nil)))))) (by kernel_rfl) (by kernel_rfl)
    (Eq.mp (by kernel_rfl : f27 p0 p1 p2 p3 K w = evFn Try.prog Try.f27 [] [] [] (.two .nil (.two .nil (.two .nil (.two .nil (.two .nil (.two (.two .nil (.one (.loop [(64, (.int .i64))] (.two .nil (.two .nil (.two (.one (.two .nil (.two .nil (.two (.two .nil (.draw [0, 1, 3, 7, 0, 0, 63, 0, 0, 0, 768, 1920, 4095])) .nil)))) .nil)))))) .nil)))))) [(.pointer p0), (.string p1), (.int .i64 p2), (.slice p3.a p3.len p3.cap)] [(.one (.int .i64))] K w) h)

/-- (*sallyport/drive.Drive).Read -/
def f28 (p0 : Option Addr) (p1 : ByteArray) (p2 : Int) (p3 : Int) (K : Sl → Int → World → Prop) (w : World) : Prop :=
  callS Try.prog 45 #[(.pointer p0), (.string p1), (.int .i64 p2), (.int .i64 p3)] [(.one .ptr), (.one (.int .i64))] (fun r1 r2 w =>
  cond (r2 != 0)
    (K (⟨none, 0, 0⟩) r2 w)
    (callS Try.prog 46 #[(.int .i64 p2), (.int .i64 p3)] [(.one (.int .i64)), (.one (.int .i64))] (fun r3 r4 w =>
    loopS (σ := Int) (fun x5 w again6 =>
      cond (decide (x5 < r4))
        (nilS r1 fun a7 =>
        semS Try.prog (Instr.loadAt 79 (.pointer (some (a7.add 1)))) (.one .mp) (fun x8 w =>
        semS Try.prog (Instr.lookup 79 (.map x8) (.int .i64 (IntKind.wrap .i64 (r3 + x5))) false) (.one .bool) (fun x9 w =>
        cond x9
          (K (⟨none, 0, 0⟩) 41 w)
          (again6 (IntKind.wrap .i64 (x5 + 1)) w)) w) w)
        (nilS p0 fun a10 =>
        semS Try.prog (Instr.loadAt 3 (.pointer (some (a10.add 5)))) (.one (.int .i64)) (fun x11 w =>
        nilS p0 fun a12 =>
        semU Try.prog (Instr.storeAt 3 (.pointer (some (a12.add 5))) (.int .i64 (if 1152921504606846976 < (IntKind.wrap .i64 (x11 + 1)) then 1152921504606846976 else IntKind.wrap .i64 (x11 + 1)))) (fun w =>
        nilS p0 fun a13 =>
        semS Try.prog (Instr.loadAt 3 (.pointer (some (a13.add 6)))) (.one (.int .i64)) (fun x14 w =>
        nilS p0 fun a15 =>
        semU Try.prog (Instr.storeAt 3 (.pointer (some (a15.add 6))) (.int .i64 (if 1152921504606846976 < (IntKind.wrap .i64 (x14 + p3)) then 1152921504606846976 else IntKind.wrap .i64 (x14 + p3)))) (fun w =>
        nilS r1 fun a16 =>
        semS Try.prog (Instr.loadAt 22 (.pointer (some (a16.add 0)))) (.one .slc) (fun x17 w =>
        semS Try.prog (Instr.sliceAt 22 (.slice x17.a x17.len x17.cap) (some (.int .i64 p2)) (some (.int .i64 (IntKind.wrap .i64 (p2 + p3)))) none) (.one .slc) (fun x18 w =>
        callS Try.prog 47 #[(.slice x18.a x18.len x18.cap)] [(.one .slc)] (fun r19 w =>
        K r19 0 w) w) w) w) w) w) w) w)) 0 w) w)) w
theorem f28_ok {p0 : Option Addr} {p1 : ByteArray} {p2 : Int} {p3 : Int} {K : Sl → Int → World → Prop} {w : World} (h : f28 p0 p1 p2 p3 K w) : callS Try.prog 28 #[(.pointer p0), (.string p1), (.int .i64 p2), (.int .i64 p3)] [(.one .slc), (.one (.int .i64))] K w :=
  calls_of_fn (args := [(.pointer p0), (.string p1), (.int .i64 p2), (.int .i64 p3)]) Try.f28 [] [] [] (.two .nil (.two .nil (.two .nil (.two .nil (.two (.two .nil (.one (.loop [(33, (.int .i64))] .nil))) .nil))))) (by kernel_rfl) (by kernel_rfl)
    (Eq.mp (by kernel_rfl : f28 p0 p1 p2 p3 K w = evFn Try.prog Try.f28 [] [] [] (.two .nil (.two .nil (.two .nil (.two .nil (.two (.two .nil (.one (.loop [(33, (.int .i64))] .nil))) .nil))))) [(.pointer p0), (.string p1), (.int .i64 p2), (.int .i64 p3)] [(.one .slc), (.one (.int .i64))] K w) h)

/-- sallyport/record.Load -/
def f29 (p0 : Option Addr) (K : Int → Int → Bool → Int → Int → Bool → Bool → Int → World → Prop) (w : World) : Prop :=
  semS Try.prog (Instr.alloc 29 true (.tuple #[])) (.one .adr) (fun x1 w =>
  callS Try.prog 28 #[(.pointer p0), (.string (ByteArray.mk #[109, 105, 115, 99])), (.int .i64 0), (.int .i64 32)] [(.one .slc), (.one (.int .i64))] (fun r2 r3 w =>
  cond (r3 != 0)
    (semU Try.prog (Instr.storeAt 29 (.pointer (some x1)) (.agg #[(.int .i64 0), (.int .i64 0), (.bool false), (.int .i64 0), (.int .i64 0), (.bool false)])) (fun w =>
    ∃ v4, (loadVar 29 x1).run Try.prog w = .ok v4 w ∧ decR [(.agg [(.int .i64), (.int .i64), .bool, (.int .i64), (.int .i64), .bool]), (.one .bool), (.one (.int .i64))] (.tuple #[v4, (.bool false), (.int .i64 r3)]) K fun r => r w) w)
    (callS Try.prog 20 #[(.slice r2.a r2.len r2.cap)] [(.agg [(.int .i64), (.int .i64), .bool, (.int .i64), (.int .i64), .bool]), (.one (.int .i64))] (fun r5 r6 r7 r8 r9 r10 r11 w =>
    semS Try.prog (Instr.alloc 29 true (.tuple #[])) (.one .adr) (fun x12 w =>
    semU Try.prog (Instr.storeAt 29 (.pointer (some x12)) (.agg #[(.int .i64 r5), (.int .i64 r6), (.bool r7), (.int .i64 r8), (.int .i64 r9), (.bool r10)])) (fun w =>
    cond (r11 == 0)
      (semS Try.prog (Instr.loadAt 29 (.pointer (some x12))) (.agg [(.int .i64), (.int .i64), .bool, (.int .i64), (.int .i64), .bool]) (fun x13 x14 x15 x16 x17 x18 w =>
      semU Try.prog (Instr.storeAt 29 (.pointer (some x1)) (.agg #[(.int .i64 x13), (.int .i64 x14), (.bool x15), (.int .i64 x16), (.int .i64 x17), (.bool x18)])) (fun w =>
      ∃ v19, (loadVar 29 x1).run Try.prog w = .ok v19 w ∧ decR [(.agg [(.int .i64), (.int .i64), .bool, (.int .i64), (.int .i64), .bool]), (.one .bool), (.one (.int .i64))] (.tuple #[v19, (.bool false), (.int .i64 0)]) K fun r => r w) w) w)
      (callS Try.prog 30 #[] [(.agg [(.int .i64), (.int .i64), .bool, (.int .i64), (.int .i64), .bool])] (fun r20 r21 r22 r23 r24 r25 w =>
      semU Try.prog (Instr.storeAt 29 (.pointer (some x1)) (.agg #[(.int .i64 r20), (.int .i64 r21), (.bool r22), (.int .i64 r23), (.int .i64 r24), (.bool r25)])) (fun w =>
      ∃ v26, (loadVar 29 x1).run Try.prog w = .ok v26 w ∧ decR [(.agg [(.int .i64), (.int .i64), .bool, (.int .i64), (.int .i64), .bool]), (.one .bool), (.one (.int .i64))] (.tuple #[v26, (.bool true), (.int .i64 0)]) K fun r => r w) w) w)) w) w) w)) w) w
theorem f29_ok {p0 : Option Addr} {K : Int → Int → Bool → Int → Int → Bool → Bool → Int → World → Prop} {w : World} (h : f29 p0 K w) : callS Try.prog 29 #[(.pointer p0)] [(.agg [(.int .i64), (.int .i64), .bool, (.int .i64), (.int .i64), .bool]), (.one .bool), (.one (.int .i64))] K w :=
  calls_of_fn (args := [(.pointer p0)]) Try.f29 [] [] [] .nil (by kernel_rfl) (by kernel_rfl)
    (Eq.mp (by kernel_rfl : f29 p0 K w = evFn Try.prog Try.f29 [] [] [] .nil [(.pointer p0)] [(.agg [(.int .i64), (.int .i64), .bool, (.int .i64), (.int .i64), .bool]), (.one .bool), (.one (.int .i64))] K w) h)

/-- sallyport/record.Save -/
def f31 (p0 : Option Addr) (p1_0 : Int) (p1_1 : Int) (p1_2 : Bool) (p1_3 : Int) (p1_4 : Int) (p1_5 : Bool) (K : Int → World → Prop) (w : World) : Prop :=
  semS Try.prog (Instr.box 29 (.agg #[(.int .i64 p1_0), (.int .i64 p1_1), (.bool p1_2), (.int .i64 p1_3), (.int .i64 p1_4), (.bool p1_5)])) (.one .adr) (fun x1 w =>
  semS Try.prog (Instr.loadAt 29 (.pointer (some x1))) (.agg [(.int .i64), (.int .i64), .bool, (.int .i64), (.int .i64), .bool]) (fun x2 x3 x4 x5 x6 x7 w =>
  callS Try.prog 22 #[(.agg #[(.int .i64 x2), (.int .i64 x3), (.bool x4), (.int .i64 x5), (.int .i64 x6), (.bool x7)])] [(.one .slc), (.one (.int .i64))] (fun r8 r9 w =>
  cond (r9 != 0)
    (K r9 w)
    (callS Try.prog 27 #[(.pointer p0), (.string (ByteArray.mk #[109, 105, 115, 99])), (.int .i64 0), (.slice r8.a r8.len r8.cap)] [(.one (.int .i64))] (fun r10 w =>
    K r10 w) w)) w) w) w
theorem f31_ok {p0 : Option Addr} {p1_0 : Int} {p1_1 : Int} {p1_2 : Bool} {p1_3 : Int} {p1_4 : Int} {p1_5 : Bool} {K : Int → World → Prop} {w : World} (h : f31 p0 p1_0 p1_1 p1_2 p1_3 p1_4 p1_5 K w) : callS Try.prog 31 #[(.pointer p0), (.agg #[(.int .i64 p1_0), (.int .i64 p1_1), (.bool p1_2), (.int .i64 p1_3), (.int .i64 p1_4), (.bool p1_5)])] [(.one (.int .i64))] K w :=
  calls_of_fn (args := [(.pointer p0), (.agg #[(.int .i64 p1_0), (.int .i64 p1_1), (.bool p1_2), (.int .i64 p1_3), (.int .i64 p1_4), (.bool p1_5)])]) Try.f31 [] [] [] .nil (by kernel_rfl) (by kernel_rfl)
    (Eq.mp (by kernel_rfl : f31 p0 p1_0 p1_1 p1_2 p1_3 p1_4 p1_5 K w = evFn Try.prog Try.f31 [] [] [] .nil [(.pointer p0), (.agg #[(.int .i64 p1_0), (.int .i64 p1_1), (.bool p1_2), (.int .i64 p1_3), (.int .i64 p1_4), (.bool p1_5)])] [(.one (.int .i64))] K w) h)

/-- slices.Clone[[]bool,bool] -/
def f48 (p0 : Sl) (K : Sl → World → Prop) (w : World) : Prop :=
  semS Try.prog (binS .eql 51 (.tmp 3) (.const (Go.Value.slice none 0 0)) (.slice p0.a p0.len p0.cap) (.slice none 0 0)) (.one .bool) (fun x1 w =>
  cond x1
    (K (⟨none, 0, 0⟩) w)
    (semS Try.prog (Instr.buildSlice 51 0 #[]) (.one .slc) (fun x2 w =>
    semS Try.prog (Builtin.append_ #[51, 51] 51 #[(.slice x2.a x2.len x2.cap), (.slice p0.a p0.len p0.cap)]) (.one .slc) (fun r3 w =>
    K r3 w) w) w)) w
theorem f48_ok {p0 : Sl} {K : Sl → World → Prop} {w : World} (h : f48 p0 K w) : callS Try.prog 48 #[(.slice p0.a p0.len p0.cap)] [(.one .slc)] K w :=
  calls_of_fn (args := [(.slice p0.a p0.len p0.cap)]) Try.f48 [] [] [] .nil (by kernel_rfl) (by kernel_rfl)
    (Eq.mp (by kernel_rfl : f48 p0 K w = evFn Try.prog Try.f48 [] [] [] .nil [(.slice p0.a p0.len p0.cap)] [(.one .slc)] K w) h)

/-- (*sallyport/drive.Drive).Arm -/
def f32 (p0 : Option Addr) (p1 : Int) (p2 : Sl) (K : World → Prop) (w : World) : Prop :=
  callS Try.prog 48 #[(.slice p2.a p2.len p2.cap)] [(.one .slc)] (fun r1 w =>
  nilS p0 fun a2 =>
  semU Try.prog (Instr.storeAt 3 (.pointer (some (a2.add 2))) (.int .i64 (if (-1) > p1 then -1 else p1))) (fun w =>
  nilS p0 fun a3 =>
  semU Try.prog (Instr.storeAt 51 (.pointer (some (a3.add 3))) (.slice r1.a r1.len r1.cap)) (fun w =>
  K w) w) w) w
theorem f32_ok {p0 : Option Addr} {p1 : Int} {p2 : Sl} {K : World → Prop} {w : World} (h : f32 p0 p1 p2 K w) : callS Try.prog 32 #[(.pointer p0), (.int .i64 p1), (.slice p2.a p2.len p2.cap)] [] K w :=
  calls_of_fn (args := [(.pointer p0), (.int .i64 p1), (.slice p2.a p2.len p2.cap)]) Try.f32 [] [] [] .nil (by kernel_rfl) (by kernel_rfl)
    (Eq.mp (by kernel_rfl : f32 p0 p1 p2 K w = evFn Try.prog Try.f32 [] [] [] .nil [(.pointer p0), (.int .i64 p1), (.slice p2.a p2.len p2.cap)] [] K w) h)

/-- (*sallyport/drive.Drive).Boot -/
def f33 (p0 : Option Addr) (K : World → Prop) (w : World) : Prop :=
  nilS p0 fun a1 =>
  semU Try.prog (Instr.storeAt 3 (.pointer (some (a1.add 2))) (.int .i64 (-1))) (fun w =>
  nilS p0 fun a2 =>
  semU Try.prog (Instr.storeAt 4 (.pointer (some (a2.add 4))) (.bool false)) (fun w =>
  K w) w) w
theorem f33_ok {p0 : Option Addr} {K : World → Prop} {w : World} (h : f33 p0 K w) : callS Try.prog 33 #[(.pointer p0)] [] K w :=
  calls_of_fn (args := [(.pointer p0)]) Try.f33 [] [] [] .nil (by kernel_rfl) (by kernel_rfl)
    (Eq.mp (by kernel_rfl : f33 p0 K w = evFn Try.prog Try.f33 [] [] [] .nil [(.pointer p0)] [] K w) h)

def f9_t1 (z74 : Bool) (K : Bool → World → Prop) (x1 : Addr) (r5 : Option Addr) (p2 : Int) (p3 : Sl) (x2 : Addr) (w : World) : Prop :=
  cond z74
    (K false w)
    (semS Try.prog (Instr.loadAt 29 (.pointer (some x1))) (.agg [(.int .i64), (.int .i64), .bool, (.int .i64), (.int .i64), .bool]) (fun x75 x76 x77 x78 x79 x80 w =>
    callS Try.prog 31 #[(.pointer r5), (.agg #[(.int .i64 x75), (.int .i64 x76), (.bool x77), (.int .i64 x78), (.int .i64 x79), (.bool x80)])] [(.one (.int .i64))] (fun r81 w =>
    semS Try.prog (Instr.loadAt 29 (.pointer (some x1))) (.agg [(.int .i64), (.int .i64), .bool, (.int .i64), (.int .i64), .bool]) (fun x82 x83 x84 x85 x86 x87 w =>
    callS Try.prog 16 #[(.agg #[(.int .i64 x82), (.int .i64 x83), (.bool x84), (.int .i64 x85), (.int .i64 x86), (.bool x87)])] [(.agg [(.int .i64), (.int .i64), .bool, (.int .i64), (.int .i64), .bool])] (fun r88 r89 r90 r91 r92 r93 w =>
    callS Try.prog 24 #[(.agg #[(.int .i64 r88), (.int .i64 r89), (.bool r90), (.int .i64 r91), (.int .i64 r92), (.bool r93)])] [(.one .bool)] (fun r94 w =>
    cond (!r94)
      (K (r81 == 12) w)
      (callS Try.prog 32 #[(.pointer r5), (.int .i64 p2), (.slice p3.a p3.len p3.cap)] [] (fun w =>
      semS Try.prog (Instr.loadAt 29 (.pointer (some x2))) (.agg [(.int .i64), (.int .i64), .bool, (.int .i64), (.int .i64), .bool]) (fun x95 x96 x97 x98 x99 x100 w =>
      callS Try.prog 31 #[(.pointer r5), (.agg #[(.int .i64 x95), (.int .i64 x96), (.bool x97), (.int .i64 x98), (.int .i64 x99), (.bool x100)])] [(.one (.int .i64))] (fun r101 w =>
      callS Try.prog 33 #[(.pointer r5)] [] (fun w =>
      callS Try.prog 29 #[(.pointer r5)] [(.agg [(.int .i64), (.int .i64), .bool, (.int .i64), (.int .i64), .bool]), (.one .bool), (.one (.int .i64))] (fun r102 r103 r104 r105 r106 r107 r108 r109 w =>
      semS Try.prog (Instr.alloc 29 true (.tuple #[])) (.one .adr) (fun x110 w =>
      semU Try.prog (Instr.storeAt 29 (.pointer (some x110)) (.agg #[(.int .i64 r102), (.int .i64 r103), (.bool r104), (.int .i64 r105), (.int .i64 r106), (.bool r107)])) (fun w =>
      cond ((r109 != 0) || r108)
        (K false w)
        (semS Try.prog (Instr.loadAt 29 (.pointer (some x2))) (.agg [(.int .i64), (.int .i64), .bool, (.int .i64), (.int .i64), .bool]) (fun x111 x112 x113 x114 x115 x116 w =>
        callS Try.prog 16 #[(.agg #[(.int .i64 x111), (.int .i64 x112), (.bool x113), (.int .i64 x114), (.int .i64 x115), (.bool x116)])] [(.agg [(.int .i64), (.int .i64), .bool, (.int .i64), (.int .i64), .bool])] (fun r117 r118 r119 r120 r121 r122 w =>
        callS Try.prog 24 #[(.agg #[(.int .i64 r117), (.int .i64 r118), (.bool r119), (.int .i64 r120), (.int .i64 r121), (.bool r122)])] [(.one .bool)] (fun r123 w =>
        cond (!r123)
          (joinS (σ := Bool) (fun b124 w =>
            K b124 w) fun J125 =>
          cond (r101 == 12)
            (semS Try.prog (Instr.loadAt 29 (.pointer (some x110))) (.agg [(.int .i64), (.int .i64), .bool, (.int .i64), (.int .i64), .bool]) (fun x126 x127 x128 x129 x130 x131 w =>
              semS Try.prog (Instr.loadAt 29 (.pointer (some x1))) (.agg [(.int .i64), (.int .i64), .bool, (.int .i64), (.int .i64), .bool]) (fun x132 x133 x134 x135 x136 x137 w =>
              semS Try.prog (binS .eql 29 (.tmp 128) (.tmp 129) (.agg #[(.int .i64 x126), (.int .i64 x127), (.bool x128), (.int .i64 x129), (.int .i64 x130), (.bool x131)]) (.agg #[(.int .i64 x132), (.int .i64 x133), (.bool x134), (.int .i64 x135), (.int .i64 x136), (.bool x137)])) (.one .bool) (fun x138 w =>
              J125 x138 w) w) w) w)
            (J125 false w))
          (joinS (σ := Bool) (fun b139 w =>
            cond b139
              (joinS (σ := Bool) (fun b141 w =>
                K b141 w) fun J142 =>
              cond (r101 == 42)
                (semS Try.prog (Instr.loadAt 29 (.pointer (some x110))) (.agg [(.int .i64), (.int .i64), .bool, (.int .i64), (.int .i64), .bool]) (fun x143 x144 x145 x146 x147 x148 w =>
                  semS Try.prog (Instr.loadAt 29 (.pointer (some x2))) (.agg [(.int .i64), (.int .i64), .bool, (.int .i64), (.int .i64), .bool]) (fun x149 x150 x151 x152 x153 x154 w =>
                  semS Try.prog (binS .eql 29 (.tmp 148) (.tmp 149) (.agg #[(.int .i64 x143), (.int .i64 x144), (.bool x145), (.int .i64 x146), (.int .i64 x147), (.bool x148)]) (.agg #[(.int .i64 x149), (.int .i64 x150), (.bool x151), (.int .i64 x152), (.int .i64 x153), (.bool x154)])) (.one .bool) (fun x155 w =>
                  J142 x155 w) w) w) w)
                (J142 false w))
              (cond (p2 == 0)
                (joinS (σ := Bool) (fun b156 w =>
                  K b156 w) fun J157 =>
                cond (r101 == 42)
                  (semS Try.prog (Instr.loadAt 29 (.pointer (some x110))) (.agg [(.int .i64), (.int .i64), .bool, (.int .i64), (.int .i64), .bool]) (fun x158 x159 x160 x161 x162 x163 w =>
                    semS Try.prog (Instr.loadAt 29 (.pointer (some x1))) (.agg [(.int .i64), (.int .i64), .bool, (.int .i64), (.int .i64), .bool]) (fun x164 x165 x166 x167 x168 x169 w =>
                    semS Try.prog (binS .eql 29 (.tmp 158) (.tmp 159) (.agg #[(.int .i64 x158), (.int .i64 x159), (.bool x160), (.int .i64 x161), (.int .i64 x162), (.bool x163)]) (.agg #[(.int .i64 x164), (.int .i64 x165), (.bool x166), (.int .i64 x167), (.int .i64 x168), (.bool x169)])) (.one .bool) (fun x170 w =>
                    J157 x170 w) w) w) w)
                  (J157 false w))
                (joinS (σ := Bool) (fun b171 w =>
                  K b171 w) fun J172 =>
                cond (r101 == 0)
                  (semS Try.prog (Instr.loadAt 29 (.pointer (some x110))) (.agg [(.int .i64), (.int .i64), .bool, (.int .i64), (.int .i64), .bool]) (fun x173 x174 x175 x176 x177 x178 w =>
                    semS Try.prog (Instr.loadAt 29 (.pointer (some x2))) (.agg [(.int .i64), (.int .i64), .bool, (.int .i64), (.int .i64), .bool]) (fun x179 x180 x181 x182 x183 x184 w =>
                    semS Try.prog (binS .eql 29 (.tmp 165) (.tmp 166) (.agg #[(.int .i64 x173), (.int .i64 x174), (.bool x175), (.int .i64 x176), (.int .i64 x177), (.bool x178)]) (.agg #[(.int .i64 x179), (.int .i64 x180), (.bool x181), (.int .i64 x182), (.int .i64 x183), (.bool x184)])) (.one .bool) (fun x185 w =>
                    J172 x185 w) w) w) w)
                  (J172 false w)))) fun J140 =>
          cond ((p2 == 0) && (decide ((p3.len : Int) > 0)))
            (semS Try.prog (Instr.indexAt 51 (.slice p3.a p3.len p3.cap) (.int .i64 0)) (.one .adr) (fun x186 w =>
              semS Try.prog (Instr.loadAt 4 (.pointer (some x186))) (.one .bool) (fun x187 w =>
              J140 x187 w) w) w)
            (J140 false w))) w) w) w)) w) w) w) w) w) w) w)) w) w) w) w) w)

/-- sallyport/sallyportlaw16.RecordLasts -/
def f9 (p0_0 : Int) (p0_1 : Int) (p0_2 : Bool) (p0_3 : Int) (p0_4 : Int) (p0_5 : Bool) (p1_0 : Int) (p1_1 : Int) (p1_2 : Bool) (p1_3 : Int) (p1_4 : Int) (p1_5 : Bool) (p2 : Int) (p3 : Sl) (p4 : Sl) (K : Bool → World → Prop) (w : World) : Prop :=
  semS Try.prog (Instr.box 29 (.agg #[(.int .i64 p0_0), (.int .i64 p0_1), (.bool p0_2), (.int .i64 p0_3), (.int .i64 p0_4), (.bool p0_5)])) (.one .adr) (fun x1 w =>
  semS Try.prog (Instr.box 29 (.agg #[(.int .i64 p1_0), (.int .i64 p1_1), (.bool p1_2), (.int .i64 p1_3), (.int .i64 p1_4), (.bool p1_5)])) (.one .adr) (fun x2 w =>
  callS Try.prog 10 #[] [(.one .bool)] (fun r3 w =>
  cond (!r3)
    (K false w)
    (cond ((decide ((p3.len : Int) > 20)) || (decide ((p4.len : Int) > 64)))
      (K true w)
      (semS Try.prog (Instr.buildSlice 57 1 #[(0, (.agg #[(.string (ByteArray.mk #[109, 105, 115, 99])), (.int .i64 64)]))]) (.one .slc) (fun x4 w =>
      callS Try.prog 26 #[(.slice x4.a x4.len x4.cap)] [(.one .ptr), (.one (.int .i64))] (fun r5 r6 w =>
      joinS (σ := Bool) (fun b7 w =>
        cond b7
          (K false w)
          (callS Try.prog 27 #[(.pointer r5), (.string (ByteArray.mk #[109, 105, 115, 99])), (.int .i64 0), (.slice p4.a p4.len p4.cap)] [(.one (.int .i64))] (fun r9 w =>
          callS Try.prog 28 #[(.pointer r5), (.string (ByteArray.mk #[109, 105, 115, 99])), (.int .i64 0), (.int .i64 32)] [(.one .slc), (.one (.int .i64))] (fun r10 r11 w =>
          callS Try.prog 29 #[(.pointer r5)] [(.agg [(.int .i64), (.int .i64), .bool, (.int .i64), (.int .i64), .bool]), (.one .bool), (.one (.int .i64))] (fun r12 r13 r14 r15 r16 r17 r18 r19 w =>
          semS Try.prog (Instr.alloc 29 true (.tuple #[])) (.one .adr) (fun x20 w =>
          semU Try.prog (Instr.storeAt 29 (.pointer (some x20)) (.agg #[(.int .i64 r12), (.int .i64 r13), (.bool r14), (.int .i64 r15), (.int .i64 r16), (.bool r17)])) (fun w =>
          callS Try.prog 21 #[(.slice r10.a r10.len r10.cap)] [(.agg [(.int .i64), (.int .i64), .bool, (.int .i64), (.int .i64), .bool]), (.one (.int .i64))] (fun r21 r22 r23 r24 r25 r26 r27 w =>
          semS Try.prog (Instr.alloc 36 true (.tuple #[])) (.one .adr) (fun x28 w =>
          semU Try.prog (Instr.storeAt 36 (.pointer (some x28)) (.agg #[(.int .i64 r21), (.int .i64 r22), (.bool r23), (.int .i64 r24), (.int .i64 r25), (.bool r26)])) (fun w =>
          drawS w fun C w =>
          cond (r19 != 0)
            (f9_t1 true K x1 r5 p2 p3 x2 w)
            (cond (!(r18 == (r27 != 0)))
              (f9_t1 true K x1 r5 p2 p3 x2 w)
              (cond (r27 == 0)
                (semQ Try.prog C (Instr.loadAt 29 (.pointer (some x20))) (.agg [(.int .i64), (.int .i64), .bool, (.int .i64), (.int .i64), .bool]) (fun x29 x30 x31 x32 x33 x34 =>
                semQ Try.prog C (Instr.loadAt 36 (.pointer (some x28))) (.agg [(.int .i64), (.int .i64), .bool, (.int .i64), (.int .i64), .bool]) (fun x35 x36 x37 x38 x39 x40 =>
                callS Try.prog 16 #[(.agg #[(.int .i64 x29), (.int .i64 x30), (.bool x31), (.int .i64 x32), (.int .i64 x33), (.bool x34)])] [(.agg [(.int .i64), (.int .i64), .bool, (.int .i64), (.int .i64), .bool])] (fun r41 r42 r43 r44 r45 r46 w =>
                moreS C w (fun C =>
                semQ Try.prog C (binS .neq 36 (.tmp 77) (.tmp 78) (.agg #[(.int .i64 r41), (.int .i64 r42), (.bool r43), (.int .i64 r44), (.int .i64 r45), (.bool r46)]) (.agg #[(.int .i64 x35), (.int .i64 x36), (.bool x37), (.int .i64 x38), (.int .i64 x39), (.bool x40)])) (.one .bool) (fun x47 =>
                cond x47
                  (f9_t1 true K x1 r5 p2 p3 x2 w)
                  (cond (r27 != 0)
                    (semQ Try.prog C (Instr.loadAt 29 (.pointer (some x20))) (.agg [(.int .i64), (.int .i64), .bool, (.int .i64), (.int .i64), .bool]) (fun x48 x49 x50 x51 x52 x53 =>
                    callS Try.prog 30 #[] [(.agg [(.int .i64), (.int .i64), .bool, (.int .i64), (.int .i64), .bool])] (fun r54 r55 r56 r57 r58 r59 w =>
                    moreS C w (fun C =>
                    semQ Try.prog C (binS .neq 29 (.tmp 86) (.tmp 87) (.agg #[(.int .i64 x48), (.int .i64 x49), (.bool x50), (.int .i64 x51), (.int .i64 x52), (.bool x53)]) (.agg #[(.int .i64 r54), (.int .i64 r55), (.bool r56), (.int .i64 r57), (.int .i64 r58), (.bool r59)])) (.one .bool) (fun x60 =>
                    f9_t1 x60 K x1 r5 p2 p3 x2 w))) w))
                    (f9_t1 false K x1 r5 p2 p3 x2 w))))) w)))
                (cond (r27 != 0)
                    (semQ Try.prog C (Instr.loadAt 29 (.pointer (some x20))) (.agg [(.int .i64), (.int .i64), .bool, (.int .i64), (.int .i64), .bool]) (fun x61 x62 x63 x64 x65 x66 =>
                    callS Try.prog 30 #[] [(.agg [(.int .i64), (.int .i64), .bool, (.int .i64), (.int .i64), .bool])] (fun r67 r68 r69 r70 r71 r72 w =>
                    moreS C w (fun C =>
                    semQ Try.prog C (binS .neq 29 (.tmp 86) (.tmp 87) (.agg #[(.int .i64 x61), (.int .i64 x62), (.bool x63), (.int .i64 x64), (.int .i64 x65), (.bool x66)]) (.agg #[(.int .i64 r67), (.int .i64 r68), (.bool r69), (.int .i64 r70), (.int .i64 r71), (.bool r72)])) (.one .bool) (fun x73 =>
                    f9_t1 x73 K x1 r5 p2 p3 x2 w))) w))
                    (f9_t1 false K x1 r5 p2 p3 x2 w))))) w) w) w) w) w) w) w) w)) fun J8 =>
      cond (r6 != 0)
        (J8 true w)
        (semS Try.prog (binS .eql 52 (.tmp 42) (.const (Go.Value.pointer none)) (.pointer r5) (.pointer none)) (.one .bool) (fun x188 w =>
          J8 x188 w) w)) w) w))) w) w) w
theorem f9_ok {p0_0 : Int} {p0_1 : Int} {p0_2 : Bool} {p0_3 : Int} {p0_4 : Int} {p0_5 : Bool} {p1_0 : Int} {p1_1 : Int} {p1_2 : Bool} {p1_3 : Int} {p1_4 : Int} {p1_5 : Bool} {p2 : Int} {p3 : Sl} {p4 : Sl} {K : Bool → World → Prop} {w : World} (h : f9 p0_0 p0_1 p0_2 p0_3 p0_4 p0_5 p1_0 p1_1 p1_2 p1_3 p1_4 p1_5 p2 p3 p4 K w) : callS Try.prog 9 #[(.agg #[(.int .i64 p0_0), (.int .i64 p0_1), (.bool p0_2), (.int .i64 p0_3), (.int .i64 p0_4), (.bool p0_5)]), (.agg #[(.int .i64 p1_0), (.int .i64 p1_1), (.bool p1_2), (.int .i64 p1_3), (.int .i64 p1_4), (.bool p1_5)]), (.int .i64 p2), (.slice p3.a p3.len p3.cap), (.slice p4.a p4.len p4.cap)] [(.one .bool)] K w :=
  calls_of_fn (args := [(.agg #[(.int .i64 p0_0), (.int .i64 p0_1), (.bool p0_2), (.int .i64 p0_3), (.int .i64 p0_4), (.bool p0_5)]), (.agg #[(.int .i64 p1_0), (.int .i64 p1_1), (.bool p1_2), (.int .i64 p1_3), (.int .i64 p1_4), (.bool p1_5)]), (.int .i64 p2), (.slice p3.a p3.len p3.cap), (.slice p4.a p4.len p4.cap)]) Try.f9 [] [] [] (.two .nil (.two .nil (.two .nil (.two .nil (.two .nil (.two .nil (.two .nil (.two .nil (.two (.two .nil (.two (.draw [0, 1, 3, 7, 7, 23, 63, 127, 255, 511, 1023, 2047, 4095, 8191, 4095, 32767, 65535, 131071, 262143, 524287, 1048575, 2097151, 4194303, 4194303, 16777215, 33554431, 67108863]) .nil)) .nil))))))))) (by kernel_rfl) (by kernel_rfl)
    (Eq.mp (by kernel_rfl : f9 p0_0 p0_1 p0_2 p0_3 p0_4 p0_5 p1_0 p1_1 p1_2 p1_3 p1_4 p1_5 p2 p3 p4 K w = evFn Try.prog Try.f9 [] [] [] (.two .nil (.two .nil (.two .nil (.two .nil (.two .nil (.two .nil (.two .nil (.two .nil (.two (.two .nil (.two (.draw [0, 1, 3, 7, 7, 23, 63, 127, 255, 511, 1023, 2047, 4095, 8191, 4095, 32767, 65535, 131071, 262143, 524287, 1048575, 2097151, 4194303, 4194303, 16777215, 33554431, 67108863]) .nil)) .nil))))))))) [(.agg #[(.int .i64 p0_0), (.int .i64 p0_1), (.bool p0_2), (.int .i64 p0_3), (.int .i64 p0_4), (.bool p0_5)]), (.agg #[(.int .i64 p1_0), (.int .i64 p1_1), (.bool p1_2), (.int .i64 p1_3), (.int .i64 p1_4), (.bool p1_5)]), (.int .i64 p2), (.slice p3.a p3.len p3.cap), (.slice p4.a p4.len p4.cap)] [(.one .bool)] K w) h)

end Go.Proofs.Ytmcejfmjclngaaa
