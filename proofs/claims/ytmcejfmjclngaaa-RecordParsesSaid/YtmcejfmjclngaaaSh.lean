/- The functions of the program, each as a plain statement, with the proof that it suffices for a call: printed by sh.py out of the loaded code. -/
import Derived.Test.YtmcejfmjclngaaaEng4
import Derived.Test.YtmcejfmjclngaaaProg
set_option maxRecDepth 100000
set_option linter.unusedVariables false
namespace Go.Proofs.Ytmcejfmjclngaaa
open Go Go.Eng

/-- sallyport/record.Sum -/
def f11 (p0 : Sl) (K : Int → World → Prop) (w : World) : Prop :=
  loopS (σ := Int × Int) (fun s1 w again2 =>
    cond (decide (s1.2 < (p0.len : Int)))
      (semS Try.prog (Instr.indexAt 22 (.slice p0.a p0.len p0.cap) (.int .i64 s1.2)) (.one .adr) (fun x3 w =>
      semS Try.prog (Instr.loadAt 5 (.pointer (some x3))) (.one (.int .u8)) (fun x4 w =>
      loopS (σ := Int × Int) (fun s5 w again6 =>
        cond (decide (s5.2 < 8))
          (again6 (xorI .u32 (shrI .u32 s5.1 1) (IntKind.wrap .u32 (3988292384 * (andI .u32 s5.1 1))), IntKind.wrap .i64 (s5.2 + 1)) w)
          (again2 (s5.1, IntKind.wrap .i64 (s1.2 + 1)) w)) (xorI .u32 s1.1 (IntKind.wrap .u32 x4), 0) w) w) w)
      (K (IntKind.wrap .i64 (xorI .u32 (IntKind.max .u32) s1.1)) w)) (4294967295, 0) w
theorem f11_ok {p0 : Sl} {K : Int → World → Prop} {w : World} (h : f11 p0 K w) : callS Try.prog 11 #[(.slice p0.a p0.len p0.cap)] [(.one (.int .i64))] K w :=
  calls_of_fn (args := [(.slice p0.a p0.len p0.cap)]) Try.f11 [] [] [] (.two .nil (.two .nil (.two (.two .nil (.one (.loop [(3, (.int .u32)), (8, (.int .i64))] (.two .nil (.two .nil (.two (.one (.two .nil (.two .nil (.two .nil (.one (.loop [(3, (.int .u32)), (16, (.int .i64))] .nil)))))) .nil)))))) .nil))) (by kernel_rfl) (by kernel_rfl)
    (Eq.mp (by kernel_rfl : f11 p0 K w = evFn Try.prog Try.f11 [] [] [] (.two .nil (.two .nil (.two (.two .nil (.one (.loop [(3, (.int .u32)), (8, (.int .i64))] (.two .nil (.two .nil (.two (.one (.two .nil (.two .nil (.two .nil (.one (.loop [(3, (.int .u32)), (16, (.int .i64))] .nil)))))) .nil)))))) .nil))) [(.slice p0.a p0.len p0.cap)] [(.one (.int .i64))] K w) h)

/-- (sallyport/record.Half).Bootable -/
def f14 (p0_0 : Int) (p0_1 : Int) (p0_2 : Bool) (K : Bool → World → Prop) (w : World) : Prop :=
  semS Try.prog (Instr.box 27 (.agg #[(.int .i64 p0_0), (.int .i64 p0_1), (.bool p0_2)])) (.one .adr) (fun x1 w =>
  semS Try.prog (Instr.loadAt 3 (.pointer (some (x1.add 0)))) (.one (.int .i64)) (fun x2 w =>
  joinS (σ := Bool) (fun b3 w =>
    K b3 w) fun J4 =>
  cond (decide (x2 > 0))
    (semS Try.prog (Instr.loadAt 4 (.pointer (some (x1.add 2)))) (.one .bool) (fun x5 w =>
      joinS (σ := Bool) (fun b6 w =>
        J4 b6 w) fun J7 =>
      cond x5
        (J7 true w)
        (semS Try.prog (Instr.loadAt 3 (.pointer (some (x1.add 1)))) (.one (.int .i64)) (fun x8 w =>
          J7 (decide (x8 > 0)) w) w)) w)
    (J4 false w)) w) w
theorem f14_ok {p0_0 : Int} {p0_1 : Int} {p0_2 : Bool} {K : Bool → World → Prop} {w : World} (h : f14 p0_0 p0_1 p0_2 K w) : callS Try.prog 14 #[(.agg #[(.int .i64 p0_0), (.int .i64 p0_1), (.bool p0_2)])] [(.one .bool)] K w :=
  calls_of_fn (args := [(.agg #[(.int .i64 p0_0), (.int .i64 p0_1), (.bool p0_2)])]) Try.f14 [] [] [] .nil (by kernel_rfl) (by kernel_rfl)
    (Eq.mp (by kernel_rfl : f14 p0_0 p0_1 p0_2 K w = evFn Try.prog Try.f14 [] [] [] .nil [(.agg #[(.int .i64 p0_0), (.int .i64 p0_1), (.bool p0_2)])] [(.one .bool)] K w) h)

/-- (sallyport/record.Record).Pick -/
def f13 (p0_0 : Int) (p0_1 : Int) (p0_2 : Bool) (p0_3 : Int) (p0_4 : Int) (p0_5 : Bool) (K : Int → Bool → World → Prop) (w : World) : Prop :=
  semS Try.prog (Instr.box 29 (.agg #[(.int .i64 p0_0), (.int .i64 p0_1), (.bool p0_2), (.int .i64 p0_3), (.int .i64 p0_4), (.bool p0_5)])) (.one .adr) (fun x1 w =>
  drawS w fun C w =>
  semQ Try.prog C (Instr.loadAt 27 (.pointer (some (x1.add 0)))) (.agg [(.int .i64), (.int .i64), .bool]) (fun x2 x3 x4 =>
  semQ Try.prog C (Instr.loadAt 27 (.pointer (some (x1.add 3)))) (.agg [(.int .i64), (.int .i64), .bool]) (fun x5 x6 x7 =>
  callS Try.prog 14 #[(.agg #[(.int .i64 x2), (.int .i64 x3), (.bool x4)])] [(.one .bool)] (fun r8 w =>
  moreS C w (fun C =>
  callS Try.prog 14 #[(.agg #[(.int .i64 x5), (.int .i64 x6), (.bool x7)])] [(.one .bool)] (fun r9 w =>
  joinS (σ := Bool) (fun b10 w =>
    cond b10
      (K 1 true w)
      (K 0 r8 w)) fun J11 =>
  cond r9
    (joinS (σ := Bool) (fun b12 w =>
        J11 b12 w) fun J13 =>
      cond (!r8)
        (J13 true w)
        (semS Try.prog (Instr.loadAt 3 (.pointer (some ((x1.add 3).add 0)))) (.one (.int .i64)) (fun x14 w =>
          semS Try.prog (Instr.loadAt 3 (.pointer (some ((x1.add 0).add 0)))) (.one (.int .i64)) (fun x15 w =>
          J13 (decide (x14 > x15)) w) w) w))
    (J11 false w)) w)) w))) w
theorem f13_ok {p0_0 : Int} {p0_1 : Int} {p0_2 : Bool} {p0_3 : Int} {p0_4 : Int} {p0_5 : Bool} {K : Int → Bool → World → Prop} {w : World} (h : f13 p0_0 p0_1 p0_2 p0_3 p0_4 p0_5 K w) : callS Try.prog 13 #[(.agg #[(.int .i64 p0_0), (.int .i64 p0_1), (.bool p0_2), (.int .i64 p0_3), (.int .i64 p0_4), (.bool p0_5)])] [(.one (.int .i64)), (.one .bool)] K w :=
  calls_of_fn (args := [(.agg #[(.int .i64 p0_0), (.int .i64 p0_1), (.bool p0_2), (.int .i64 p0_3), (.int .i64 p0_4), (.bool p0_5)])]) Try.f13 [] [] [] (.two .nil (.two (.draw [0, 1, 3, 0, 8, 31, 63, 127]) .nil)) (by kernel_rfl) (by kernel_rfl)
    (Eq.mp (by kernel_rfl : f13 p0_0 p0_1 p0_2 p0_3 p0_4 p0_5 K w = evFn Try.prog Try.f13 [] [] [] (.two .nil (.two (.draw [0, 1, 3, 0, 8, 31, 63, 127]) .nil)) [(.agg #[(.int .i64 p0_0), (.int .i64 p0_1), (.bool p0_2), (.int .i64 p0_3), (.int .i64 p0_4), (.bool p0_5)])] [(.one (.int .i64)), (.one .bool)] K w) h)

/-- sallyport/record.First -/
def f30  (K : Int → Int → Bool → Int → Int → Bool → World → Prop) (w : World) : Prop :=
  semS Try.prog (Instr.alloc 29 true (.tuple #[])) (.one .adr) (fun x1 w =>
  semU Try.prog (Instr.storeAt 29 (.pointer (some x1)) (.agg #[(.int .i64 15), (.int .i64 7), (.bool false), (.int .i64 14), (.int .i64 7), (.bool false)])) (fun w =>
  ∃ v2, (loadVar 29 x1).run Try.prog w = .ok v2 w ∧ decR [(.agg [(.int .i64), (.int .i64), .bool, (.int .i64), (.int .i64), .bool])] v2 K fun r => r w) w) w
theorem f30_ok  {K : Int → Int → Bool → Int → Int → Bool → World → Prop} {w : World} (h : f30  K w) : callS Try.prog 30 #[] [(.agg [(.int .i64), (.int .i64), .bool, (.int .i64), (.int .i64), .bool])] K w :=
  calls_of_fn (args := []) Try.f30 [] [] [] .nil (by kernel_rfl) (by kernel_rfl)
    (Eq.mp (by kernel_rfl : f30  K w = evFn Try.prog Try.f30 [] [] [] .nil [] [(.agg [(.int .i64), (.int .i64), .bool, (.int .i64), (.int .i64), .bool])] K w) h)

/-- sallyport/sallyportlaw16.anchor -/
def f10  (K : Bool → World → Prop) (w : World) : Prop :=
  callS Try.prog 30 #[] [(.agg [(.int .i64), (.int .i64), .bool, (.int .i64), (.int .i64), .bool])] (fun r1 r2 r3 r4 r5 r6 w =>
  callS Try.prog 13 #[(.agg #[(.int .i64 r1), (.int .i64 r2), (.bool r3), (.int .i64 r4), (.int .i64 r5), (.bool r6)])] [(.one (.int .i64)), (.one .bool)] (fun r7 r8 w =>
  semS Try.prog (Instr.buildSlice 22 9 #[(0, (.int .u8 49)), (1, (.int .u8 50)), (2, (.int .u8 51)), (3, (.int .u8 52)), (4, (.int .u8 53)), (5, (.int .u8 54)), (6, (.int .u8 55)), (7, (.int .u8 56)), (8, (.int .u8 57))]) (.one .slc) (fun x9 w =>
  semS Try.prog (convert 22 22 (.slice x9.a x9.len x9.cap)) (.one .slc) (fun x10 w =>
  callS Try.prog 11 #[(.slice x10.a x10.len x10.cap)] [(.one (.int .i64))] (fun r11 w =>
  joinS (σ := Bool) (fun b12 w =>
    K b12 w) fun J13 =>
  cond (((r11 == 3421780262) && (r7 == 0)) && r8)
    (callS Try.prog 30 #[] [(.agg [(.int .i64), (.int .i64), .bool, (.int .i64), (.int .i64), .bool])] (fun r14 r15 r16 r17 r18 r19 w =>
      J13 (r17 == 14) w) w)
    (J13 false w)) w) w) w) w) w
theorem f10_ok  {K : Bool → World → Prop} {w : World} (h : f10  K w) : callS Try.prog 10 #[] [(.one .bool)] K w :=
  calls_of_fn (args := []) Try.f10 [] [] [] .nil (by kernel_rfl) (by kernel_rfl)
    (Eq.mp (by kernel_rfl : f10  K w = evFn Try.prog Try.f10 [] [] [] .nil [] [(.one .bool)] K w) h)

/-- sallyport/sallyportref16.Sum -/
def f12 (p0 : Sl) (K : Int → World → Prop) (w : World) : Prop :=
  loopS (σ := Int × Int) (fun s1 w again2 =>
    cond (decide (s1.2 < (p0.len : Int)))
      (semS Try.prog (Instr.indexAt 22 (.slice p0.a p0.len p0.cap) (.int .i64 s1.2)) (.one .adr) (fun x3 w =>
      semS Try.prog (Instr.loadAt 5 (.pointer (some x3))) (.one (.int .u8)) (fun x4 w =>
      loopS (σ := Int × Int) (fun s5 w again6 =>
        cond (decide (s5.2 < 8))
          (cond ((Int.tmod s5.1 2) == 1)
            (again6 (xorI .i64 (IntKind.wrap .i64 (Int.tdiv s5.1 2)) 3988292384, IntKind.wrap .i64 (s5.2 + 1)) w)
            (again6 (IntKind.wrap .i64 (Int.tdiv s5.1 2), IntKind.wrap .i64 (s5.2 + 1)) w))
          (again2 (s5.1, IntKind.wrap .i64 (s1.2 + 1)) w)) (xorI .i64 s1.1 (IntKind.wrap .i64 x4), 0) w) w) w)
      (K (IntKind.wrap .i64 (4294967295 - s1.1)) w)) (4294967295, 0) w
theorem f12_ok {p0 : Sl} {K : Int → World → Prop} {w : World} (h : f12 p0 K w) : callS Try.prog 12 #[(.slice p0.a p0.len p0.cap)] [(.one (.int .i64))] K w :=
  calls_of_fn (args := [(.slice p0.a p0.len p0.cap)]) Try.f12 [] [] [] (.two .nil (.two .nil (.two (.two .nil (.one (.loop [(3, (.int .i64)), (4, (.int .i64))] (.two .nil (.two (.one (.two .nil (.two .nil (.one (.loop [(3, (.int .i64)), (5, (.int .i64))] .nil))))) .nil))))) .nil))) (by kernel_rfl) (by kernel_rfl)
    (Eq.mp (by kernel_rfl : f12 p0 K w = evFn Try.prog Try.f12 [] [] [] (.two .nil (.two .nil (.two (.two .nil (.one (.loop [(3, (.int .i64)), (4, (.int .i64))] (.two .nil (.two (.one (.two .nil (.two .nil (.one (.loop [(3, (.int .i64)), (5, (.int .i64))] .nil))))) .nil))))) .nil))) [(.slice p0.a p0.len p0.cap)] [(.one (.int .i64))] K w) h)

/-- sallyport/sallyportlaw16.RecordSums -/
def f3 (p0 : Sl) (p1 : Int) (K : Bool → World → Prop) (w : World) : Prop :=
  callS Try.prog 10 #[] [(.one .bool)] (fun r1 w =>
  cond (!r1)
    (K false w)
    (cond ((decide ((p0.len : Int) > 1000)) || (decide (p1 < 0)))
      (K true w)
      (callS Try.prog 11 #[(.slice p0.a p0.len p0.cap)] [(.one (.int .i64))] (fun r2 w =>
      callS Try.prog 12 #[(.slice p0.a p0.len p0.cap)] [(.one (.int .i64))] (fun r3 w =>
      cond (((r2 != r3) || (decide (r2 < 0))) || (decide (r2 ≥ 4294967296)))
        (K false w)
        (cond ((p0.len : Int) == 0)
          (K (r2 == 0) w)
          (semS Try.prog (Instr.buildSlice 22 0 #[]) (.one .slc) (fun x4 w =>
          semS Try.prog (Builtin.append_ #[22, 22] 22 #[(.slice x4.a x4.len x4.cap), (.slice p0.a p0.len p0.cap)]) (.one .slc) (fun r5 w =>
          drawS w fun C w =>
          semQ Try.prog C (binS .rem 3 (.tmp 40) (.tmp 42) (.int .i64 (IntKind.wrap .i64 (Int.tdiv p1 8))) (.int .i64 (r5.len : Int))) (.one (.int .i64)) (fun x6 =>
          semQ Try.prog C (Instr.indexAt 22 (.slice r5.a r5.len r5.cap) (.int .i64 x6)) (.one .adr) (fun x7 =>
          semQ Try.prog C (Instr.loadAt 5 (.pointer (some x7))) (.one (.int .u8)) (fun x8 =>
          semQ Try.prog C (binS .shl 5 (.const (Go.Value.int Go.IntKind.u8 1)) (.tmp 47) (.int .u8 1) (.int .i64 (Int.tmod p1 8))) (.one (.int .u8)) (fun x9 =>
          semQ Try.prog C (Instr.indexAt 22 (.slice r5.a r5.len r5.cap) (.int .i64 x6)) (.one .adr) (fun x10 =>
          semU Try.prog (Instr.storeAt 5 (.pointer (some x10)) (.int .u8 (xorI .u8 x8 x9))) (fun w =>
          callS Try.prog 11 #[(.slice r5.a r5.len r5.cap)] [(.one (.int .i64))] (fun r11 w =>
          K (r11 != r2) w) w) w)))))) w) w))) w) w))) w
theorem f3_ok {p0 : Sl} {p1 : Int} {K : Bool → World → Prop} {w : World} (h : f3 p0 p1 K w) : callS Try.prog 3 #[(.slice p0.a p0.len p0.cap), (.int .i64 p1)] [(.one .bool)] K w :=
  calls_of_fn (args := [(.slice p0.a p0.len p0.cap), (.int .i64 p1)]) Try.f3 [] [] [] (.two .nil (.two .nil (.two .nil (.two .nil (.two .nil (.two .nil (.two .nil (.two (.draw [0, 0, 2, 0, 8, 30, 63, 127, 0, 256, 768, 2047, 4095, 8191]) .nil)))))))) (by kernel_rfl) (by kernel_rfl)
    (Eq.mp (by kernel_rfl : f3 p0 p1 K w = evFn Try.prog Try.f3 [] [] [] (.two .nil (.two .nil (.two .nil (.two .nil (.two .nil (.two .nil (.two .nil (.two (.draw [0, 0, 2, 0, 8, 30, 63, 127, 0, 256, 768, 2047, 4095, 8191]) .nil)))))))) [(.slice p0.a p0.len p0.cap), (.int .i64 p1)] [(.one .bool)] K w) h)

/-- (sallyport/record.Record).Half -/
def f15 (p0_0 : Int) (p0_1 : Int) (p0_2 : Bool) (p0_3 : Int) (p0_4 : Int) (p0_5 : Bool) (p1 : Int) (K : Int → Int → Bool → World → Prop) (w : World) : Prop :=
  semS Try.prog (Instr.box 29 (.agg #[(.int .i64 p0_0), (.int .i64 p0_1), (.bool p0_2), (.int .i64 p0_3), (.int .i64 p0_4), (.bool p0_5)])) (.one .adr) (fun x1 w =>
  semS Try.prog (Instr.alloc 27 true (.tuple #[])) (.one .adr) (fun x2 w =>
  cond (p1 == 0)
    (semS Try.prog (Instr.loadAt 27 (.pointer (some (x1.add 0)))) (.agg [(.int .i64), (.int .i64), .bool]) (fun x3 x4 x5 w =>
    semU Try.prog (Instr.storeAt 27 (.pointer (some x2)) (.agg #[(.int .i64 x3), (.int .i64 x4), (.bool x5)])) (fun w =>
    ∃ v6, (loadVar 27 x2).run Try.prog w = .ok v6 w ∧ decR [(.agg [(.int .i64), (.int .i64), .bool])] v6 K fun r => r w) w) w)
    (cond (p1 == 1)
      (semS Try.prog (Instr.loadAt 27 (.pointer (some (x1.add 3)))) (.agg [(.int .i64), (.int .i64), .bool]) (fun x7 x8 x9 w =>
      semU Try.prog (Instr.storeAt 27 (.pointer (some x2)) (.agg #[(.int .i64 x7), (.int .i64 x8), (.bool x9)])) (fun w =>
      ∃ v10, (loadVar 27 x2).run Try.prog w = .ok v10 w ∧ decR [(.agg [(.int .i64), (.int .i64), .bool])] v10 K fun r => r w) w) w)
      (semU Try.prog (Instr.storeAt 27 (.pointer (some x2)) (.agg #[(.int .i64 0), (.int .i64 0), (.bool false)])) (fun w =>
      ∃ v11, (loadVar 27 x2).run Try.prog w = .ok v11 w ∧ decR [(.agg [(.int .i64), (.int .i64), .bool])] v11 K fun r => r w) w))) w) w
theorem f15_ok {p0_0 : Int} {p0_1 : Int} {p0_2 : Bool} {p0_3 : Int} {p0_4 : Int} {p0_5 : Bool} {p1 : Int} {K : Int → Int → Bool → World → Prop} {w : World} (h : f15 p0_0 p0_1 p0_2 p0_3 p0_4 p0_5 p1 K w) : callS Try.prog 15 #[(.agg #[(.int .i64 p0_0), (.int .i64 p0_1), (.bool p0_2), (.int .i64 p0_3), (.int .i64 p0_4), (.bool p0_5)]), (.int .i64 p1)] [(.agg [(.int .i64), (.int .i64), .bool])] K w :=
  calls_of_fn (args := [(.agg #[(.int .i64 p0_0), (.int .i64 p0_1), (.bool p0_2), (.int .i64 p0_3), (.int .i64 p0_4), (.bool p0_5)]), (.int .i64 p1)]) Try.f15 [] [] [] .nil (by kernel_rfl) (by kernel_rfl)
    (Eq.mp (by kernel_rfl : f15 p0_0 p0_1 p0_2 p0_3 p0_4 p0_5 p1 K w = evFn Try.prog Try.f15 [] [] [] .nil [(.agg #[(.int .i64 p0_0), (.int .i64 p0_1), (.bool p0_2), (.int .i64 p0_3), (.int .i64 p0_4), (.bool p0_5)]), (.int .i64 p1)] [(.agg [(.int .i64), (.int .i64), .bool])] K w) h)

/-- sallyport/sallyportlaw16.RecordSwaps -/
def f4 (p0_0 : Int) (p0_1 : Int) (p0_2 : Bool) (p0_3 : Int) (p0_4 : Int) (p0_5 : Bool) (K : Bool → World → Prop) (w : World) : Prop :=
  semS Try.prog (Instr.box 29 (.agg #[(.int .i64 p0_0), (.int .i64 p0_1), (.bool p0_2), (.int .i64 p0_3), (.int .i64 p0_4), (.bool p0_5)])) (.one .adr) (fun x1 w =>
  callS Try.prog 10 #[] [(.one .bool)] (fun r2 w =>
  cond (!r2)
    (K false w)
    (semS Try.prog (Instr.loadAt 29 (.pointer (some x1))) (.agg [(.int .i64), (.int .i64), .bool, (.int .i64), (.int .i64), .bool]) (fun x3 x4 x5 x6 x7 x8 w =>
    callS Try.prog 13 #[(.agg #[(.int .i64 x3), (.int .i64 x4), (.bool x5), (.int .i64 x6), (.int .i64 x7), (.bool x8)])] [(.one (.int .i64)), (.one .bool)] (fun r9 r10 w =>
    semS Try.prog (Instr.loadAt 27 (.pointer (some (x1.add 3)))) (.agg [(.int .i64), (.int .i64), .bool]) (fun x11 x12 x13 w =>
    semS Try.prog (Instr.loadAt 27 (.pointer (some (x1.add 0)))) (.agg [(.int .i64), (.int .i64), .bool]) (fun x14 x15 x16 w =>
    callS Try.prog 13 #[(.agg #[(.int .i64 x11), (.int .i64 x12), (.bool x13), (.int .i64 x14), (.int .i64 x15), (.bool x16)])] [(.one (.int .i64)), (.one .bool)] (fun r17 r18 w =>
    cond (!(r10 == r18))
      (K false w)
      (cond (!r10)
        (K ((r9 == 0) && (r17 == 0)) w)
        (semS Try.prog (Instr.loadAt 27 (.pointer (some (x1.add 0)))) (.agg [(.int .i64), (.int .i64), .bool]) (fun x19 x20 x21 w =>
        callS Try.prog 14 #[(.agg #[(.int .i64 x19), (.int .i64 x20), (.bool x21)])] [(.one .bool)] (fun r22 w =>
        joinS (σ := Bool) (fun b23 w =>
          joinS (σ := Bool) (fun b25 w =>
            cond b25
              (K ((r9 == 0) && (r17 == 0)) w)
              (drawS w fun C w =>
              cond (r9 != r17)
                (semQ Try.prog C (Instr.loadAt 29 (.pointer (some x1))) (.agg [(.int .i64), (.int .i64), .bool, (.int .i64), (.int .i64), .bool]) (fun x27 x28 x29 x30 x31 x32 =>
                semQ Try.prog C (Instr.loadAt 27 (.pointer (some (x1.add 3)))) (.agg [(.int .i64), (.int .i64), .bool]) (fun x33 x34 x35 =>
                semQ Try.prog C (Instr.loadAt 27 (.pointer (some (x1.add 0)))) (.agg [(.int .i64), (.int .i64), .bool]) (fun x36 x37 x38 =>
                callS Try.prog 15 #[(.agg #[(.int .i64 x27), (.int .i64 x28), (.bool x29), (.int .i64 x30), (.int .i64 x31), (.bool x32)]), (.int .i64 r9)] [(.agg [(.int .i64), (.int .i64), .bool])] (fun r39 r40 r41 w =>
                moreS C w (fun C =>
                callS Try.prog 15 #[(.agg #[(.int .i64 x33), (.int .i64 x34), (.bool x35), (.int .i64 x36), (.int .i64 x37), (.bool x38)]), (.int .i64 r17)] [(.agg [(.int .i64), (.int .i64), .bool])] (fun r42 r43 r44 w =>
                moreS C w (fun C =>
                semQ Try.prog C (binS .eql 27 (.tmp 63) (.tmp 70) (.agg #[(.int .i64 r39), (.int .i64 r40), (.bool r41)]) (.agg #[(.int .i64 r42), (.int .i64 r43), (.bool r44)])) (.one .bool) (fun x45 =>
                cond x45
                  (semQ Try.prog C (Instr.loadAt 29 (.pointer (some x1))) (.agg [(.int .i64), (.int .i64), .bool, (.int .i64), (.int .i64), .bool]) (fun x46 x47 x48 x49 x50 x51 =>
                  callS Try.prog 15 #[(.agg #[(.int .i64 x46), (.int .i64 x47), (.bool x48), (.int .i64 x49), (.int .i64 x50), (.bool x51)]), (.int .i64 r9)] [(.agg [(.int .i64), (.int .i64), .bool])] (fun r52 r53 r54 w =>
                  callS Try.prog 14 #[(.agg #[(.int .i64 r52), (.int .i64 r53), (.bool r54)])] [(.one .bool)] (fun r55 w =>
                  K r55 w) w) w))
                  (K false w)))) w)) w))))
                (K false w))) fun J26 =>
          cond b23
            (semS Try.prog (Instr.loadAt 3 (.pointer (some ((x1.add 0).add 0)))) (.one (.int .i64)) (fun x56 w =>
              semS Try.prog (Instr.loadAt 3 (.pointer (some ((x1.add 3).add 0)))) (.one (.int .i64)) (fun x57 w =>
              J26 (x56 == x57) w) w) w)
            (J26 false w)) fun J24 =>
        cond r22
          (semS Try.prog (Instr.loadAt 27 (.pointer (some (x1.add 3)))) (.agg [(.int .i64), (.int .i64), .bool]) (fun x58 x59 x60 w =>
            callS Try.prog 14 #[(.agg #[(.int .i64 x58), (.int .i64 x59), (.bool x60)])] [(.one .bool)] (fun r61 w =>
            J24 r61 w) w) w)
          (J24 false w)) w) w))) w) w) w) w) w)) w) w
theorem f4_ok {p0_0 : Int} {p0_1 : Int} {p0_2 : Bool} {p0_3 : Int} {p0_4 : Int} {p0_5 : Bool} {K : Bool → World → Prop} {w : World} (h : f4 p0_0 p0_1 p0_2 p0_3 p0_4 p0_5 K w) : callS Try.prog 4 #[(.agg #[(.int .i64 p0_0), (.int .i64 p0_1), (.bool p0_2), (.int .i64 p0_3), (.int .i64 p0_4), (.bool p0_5)])] [(.one .bool)] K w :=
  calls_of_fn (args := [(.agg #[(.int .i64 p0_0), (.int .i64 p0_1), (.bool p0_2), (.int .i64 p0_3), (.int .i64 p0_4), (.bool p0_5)])]) Try.f4 [] [] [] (.two .nil (.two .nil (.two .nil (.two .nil (.two .nil (.two .nil (.two .nil (.two (.draw [0, 0, 3, 7, 15, 15, 63, 15, 143, 15, 527, 1935, 15, 8191, 16383, 32767, 65535, 131071, 131071, 524287, 1048575, 2097151, 4194303]) .nil)))))))) (by kernel_rfl) (by kernel_rfl)
    (Eq.mp (by kernel_rfl : f4 p0_0 p0_1 p0_2 p0_3 p0_4 p0_5 K w = evFn Try.prog Try.f4 [] [] [] (.two .nil (.two .nil (.two .nil (.two .nil (.two .nil (.two .nil (.two .nil (.two (.draw [0, 0, 3, 7, 15, 15, 63, 15, 143, 15, 527, 1935, 15, 8191, 16383, 32767, 65535, 131071, 131071, 524287, 1048575, 2097151, 4194303]) .nil)))))))) [(.agg #[(.int .i64 p0_0), (.int .i64 p0_1), (.bool p0_2), (.int .i64 p0_3), (.int .i64 p0_4), (.bool p0_5)])] [(.one .bool)] K w) h)

/-- sallyport/sallyportlaw16.model -/
def f16 (p0_0 : Int) (p0_1 : Int) (p0_2 : Bool) (p0_3 : Int) (p0_4 : Int) (p0_5 : Bool) (K : Int → Int → Bool → Int → Int → Bool → World → Prop) (w : World) : Prop :=
  semS Try.prog (Instr.box 29 (.agg #[(.int .i64 p0_0), (.int .i64 p0_1), (.bool p0_2), (.int .i64 p0_3), (.int .i64 p0_4), (.bool p0_5)])) (.one .adr) (fun x1 w =>
  semS Try.prog (Instr.alloc 36 true (.tuple #[])) (.one .adr) (fun x2 w =>
  semS Try.prog (Instr.loadAt 27 (.pointer (some (x1.add 0)))) (.agg [(.int .i64), (.int .i64), .bool]) (fun x3 x4 x5 w =>
  semS Try.prog (Instr.loadAt 27 (.pointer (some (x1.add 3)))) (.agg [(.int .i64), (.int .i64), .bool]) (fun x6 x7 x8 w =>
  semU Try.prog (Instr.storeAt 36 (.pointer (some x2)) (.agg #[(.int .i64 x3), (.int .i64 x4), (.bool x5), (.int .i64 x6), (.int .i64 x7), (.bool x8)])) (fun w =>
  ∃ v9, (loadVar 36 x2).run Try.prog w = .ok v9 w ∧ decR [(.agg [(.int .i64), (.int .i64), .bool, (.int .i64), (.int .i64), .bool])] v9 K fun r => r w) w) w) w) w) w
theorem f16_ok {p0_0 : Int} {p0_1 : Int} {p0_2 : Bool} {p0_3 : Int} {p0_4 : Int} {p0_5 : Bool} {K : Int → Int → Bool → Int → Int → Bool → World → Prop} {w : World} (h : f16 p0_0 p0_1 p0_2 p0_3 p0_4 p0_5 K w) : callS Try.prog 16 #[(.agg #[(.int .i64 p0_0), (.int .i64 p0_1), (.bool p0_2), (.int .i64 p0_3), (.int .i64 p0_4), (.bool p0_5)])] [(.agg [(.int .i64), (.int .i64), .bool, (.int .i64), (.int .i64), .bool])] K w :=
  calls_of_fn (args := [(.agg #[(.int .i64 p0_0), (.int .i64 p0_1), (.bool p0_2), (.int .i64 p0_3), (.int .i64 p0_4), (.bool p0_5)])]) Try.f16 [] [] [] .nil (by kernel_rfl) (by kernel_rfl)
    (Eq.mp (by kernel_rfl : f16 p0_0 p0_1 p0_2 p0_3 p0_4 p0_5 K w = evFn Try.prog Try.f16 [] [] [] .nil [(.agg #[(.int .i64 p0_0), (.int .i64 p0_1), (.bool p0_2), (.int .i64 p0_3), (.int .i64 p0_4), (.bool p0_5)])] [(.agg [(.int .i64), (.int .i64), .bool, (.int .i64), (.int .i64), .bool])] K w) h)

/-- (sallyport/sallyportref16.Half).Bootable -/
def f18 (p0_0 : Int) (p0_1 : Int) (p0_2 : Bool) (K : Bool → World → Prop) (w : World) : Prop :=
  semS Try.prog (Instr.box 34 (.agg #[(.int .i64 p0_0), (.int .i64 p0_1), (.bool p0_2)])) (.one .adr) (fun x1 w =>
  semS Try.prog (Instr.loadAt 3 (.pointer (some (x1.add 0)))) (.one (.int .i64)) (fun x2 w =>
  joinS (σ := Bool) (fun b3 w =>
    K b3 w) fun J4 =>
  cond (decide (x2 > 0))
    (semS Try.prog (Instr.loadAt 4 (.pointer (some (x1.add 2)))) (.one .bool) (fun x5 w =>
      joinS (σ := Bool) (fun b6 w =>
        J4 b6 w) fun J7 =>
      cond x5
        (J7 true w)
        (semS Try.prog (Instr.loadAt 3 (.pointer (some (x1.add 1)))) (.one (.int .i64)) (fun x8 w =>
          J7 (decide (x8 > 0)) w) w)) w)
    (J4 false w)) w) w
theorem f18_ok {p0_0 : Int} {p0_1 : Int} {p0_2 : Bool} {K : Bool → World → Prop} {w : World} (h : f18 p0_0 p0_1 p0_2 K w) : callS Try.prog 18 #[(.agg #[(.int .i64 p0_0), (.int .i64 p0_1), (.bool p0_2)])] [(.one .bool)] K w :=
  calls_of_fn (args := [(.agg #[(.int .i64 p0_0), (.int .i64 p0_1), (.bool p0_2)])]) Try.f18 [] [] [] .nil (by kernel_rfl) (by kernel_rfl)
    (Eq.mp (by kernel_rfl : f18 p0_0 p0_1 p0_2 K w = evFn Try.prog Try.f18 [] [] [] .nil [(.agg #[(.int .i64 p0_0), (.int .i64 p0_1), (.bool p0_2)])] [(.one .bool)] K w) h)

/-- (sallyport/sallyportref16.Record).Pick -/
def f17 (p0_0 : Int) (p0_1 : Int) (p0_2 : Bool) (p0_3 : Int) (p0_4 : Int) (p0_5 : Bool) (K : Int → World → Prop) (w : World) : Prop :=
  semS Try.prog (Instr.box 36 (.agg #[(.int .i64 p0_0), (.int .i64 p0_1), (.bool p0_2), (.int .i64 p0_3), (.int .i64 p0_4), (.bool p0_5)])) (.one .adr) (fun x1 w =>
  semS Try.prog (Instr.loadAt 34 (.pointer (some (x1.add 0)))) (.agg [(.int .i64), (.int .i64), .bool]) (fun x2 x3 x4 w =>
  callS Try.prog 18 #[(.agg #[(.int .i64 x2), (.int .i64 x3), (.bool x4)])] [(.one .bool)] (fun r5 w =>
  joinS (σ := Bool) (fun b6 w =>
    cond b6
      (K 0 w)
      (semS Try.prog (Instr.loadAt 34 (.pointer (some (x1.add 3)))) (.agg [(.int .i64), (.int .i64), .bool]) (fun x8 x9 x10 w =>
      callS Try.prog 18 #[(.agg #[(.int .i64 x8), (.int .i64 x9), (.bool x10)])] [(.one .bool)] (fun r11 w =>
      cond r11
        (K 1 w)
        (K (-1) w)) w) w)) fun J7 =>
  cond r5
    (semS Try.prog (Instr.loadAt 34 (.pointer (some (x1.add 3)))) (.agg [(.int .i64), (.int .i64), .bool]) (fun x12 x13 x14 w =>
      callS Try.prog 18 #[(.agg #[(.int .i64 x12), (.int .i64 x13), (.bool x14)])] [(.one .bool)] (fun r15 w =>
      joinS (σ := Bool) (fun b16 w =>
        J7 b16 w) fun J17 =>
      cond (!r15)
        (J17 true w)
        (semS Try.prog (Instr.loadAt 3 (.pointer (some ((x1.add 0).add 0)))) (.one (.int .i64)) (fun x18 w =>
          semS Try.prog (Instr.loadAt 3 (.pointer (some ((x1.add 3).add 0)))) (.one (.int .i64)) (fun x19 w =>
          J17 (decide (x18 ≥ x19)) w) w) w)) w) w)
    (J7 false w)) w) w) w
theorem f17_ok {p0_0 : Int} {p0_1 : Int} {p0_2 : Bool} {p0_3 : Int} {p0_4 : Int} {p0_5 : Bool} {K : Int → World → Prop} {w : World} (h : f17 p0_0 p0_1 p0_2 p0_3 p0_4 p0_5 K w) : callS Try.prog 17 #[(.agg #[(.int .i64 p0_0), (.int .i64 p0_1), (.bool p0_2), (.int .i64 p0_3), (.int .i64 p0_4), (.bool p0_5)])] [(.one (.int .i64))] K w :=
  calls_of_fn (args := [(.agg #[(.int .i64 p0_0), (.int .i64 p0_1), (.bool p0_2), (.int .i64 p0_3), (.int .i64 p0_4), (.bool p0_5)])]) Try.f17 [] [] [] .nil (by kernel_rfl) (by kernel_rfl)
    (Eq.mp (by kernel_rfl : f17 p0_0 p0_1 p0_2 p0_3 p0_4 p0_5 K w = evFn Try.prog Try.f17 [] [] [] .nil [(.agg #[(.int .i64 p0_0), (.int .i64 p0_1), (.bool p0_2), (.int .i64 p0_3), (.int .i64 p0_4), (.bool p0_5)])] [(.one (.int .i64))] K w) h)

/-- (sallyport/record.Record).With -/
def f19 (p0_0 : Int) (p0_1 : Int) (p0_2 : Bool) (p0_3 : Int) (p0_4 : Int) (p0_5 : Bool) (p1 : Int) (p2_0 : Int) (p2_1 : Int) (p2_2 : Bool) (K : Int → Int → Bool → Int → Int → Bool → World → Prop) (w : World) : Prop :=
  semS Try.prog (Instr.box 29 (.agg #[(.int .i64 p0_0), (.int .i64 p0_1), (.bool p0_2), (.int .i64 p0_3), (.int .i64 p0_4), (.bool p0_5)])) (.one .adr) (fun x1 w =>
  semS Try.prog (Instr.box 27 (.agg #[(.int .i64 p2_0), (.int .i64 p2_1), (.bool p2_2)])) (.one .adr) (fun x2 w =>
  semS Try.prog (Instr.alloc 29 true (.tuple #[])) (.one .adr) (fun x3 w =>
  cond (p1 == 0)
    (semS Try.prog (Instr.loadAt 27 (.pointer (some x2))) (.agg [(.int .i64), (.int .i64), .bool]) (fun x4 x5 x6 w =>
    semU Try.prog (Instr.storeAt 27 (.pointer (some (x1.add 0))) (.agg #[(.int .i64 x4), (.int .i64 x5), (.bool x6)])) (fun w =>
    semS Try.prog (Instr.loadAt 29 (.pointer (some x1))) (.agg [(.int .i64), (.int .i64), .bool, (.int .i64), (.int .i64), .bool]) (fun x7 x8 x9 x10 x11 x12 w =>
    semU Try.prog (Instr.storeAt 29 (.pointer (some x3)) (.agg #[(.int .i64 x7), (.int .i64 x8), (.bool x9), (.int .i64 x10), (.int .i64 x11), (.bool x12)])) (fun w =>
    ∃ v13, (loadVar 29 x3).run Try.prog w = .ok v13 w ∧ decR [(.agg [(.int .i64), (.int .i64), .bool, (.int .i64), (.int .i64), .bool])] v13 K fun r => r w) w) w) w) w)
    (cond (p1 == 1)
      (semS Try.prog (Instr.loadAt 27 (.pointer (some x2))) (.agg [(.int .i64), (.int .i64), .bool]) (fun x14 x15 x16 w =>
      semU Try.prog (Instr.storeAt 27 (.pointer (some (x1.add 3))) (.agg #[(.int .i64 x14), (.int .i64 x15), (.bool x16)])) (fun w =>
      semS Try.prog (Instr.loadAt 29 (.pointer (some x1))) (.agg [(.int .i64), (.int .i64), .bool, (.int .i64), (.int .i64), .bool]) (fun x17 x18 x19 x20 x21 x22 w =>
      semU Try.prog (Instr.storeAt 29 (.pointer (some x3)) (.agg #[(.int .i64 x17), (.int .i64 x18), (.bool x19), (.int .i64 x20), (.int .i64 x21), (.bool x22)])) (fun w =>
      ∃ v23, (loadVar 29 x3).run Try.prog w = .ok v23 w ∧ decR [(.agg [(.int .i64), (.int .i64), .bool, (.int .i64), (.int .i64), .bool])] v23 K fun r => r w) w) w) w) w)
      (semS Try.prog (Instr.loadAt 29 (.pointer (some x1))) (.agg [(.int .i64), (.int .i64), .bool, (.int .i64), (.int .i64), .bool]) (fun x24 x25 x26 x27 x28 x29 w =>
      semU Try.prog (Instr.storeAt 29 (.pointer (some x3)) (.agg #[(.int .i64 x24), (.int .i64 x25), (.bool x26), (.int .i64 x27), (.int .i64 x28), (.bool x29)])) (fun w =>
      ∃ v30, (loadVar 29 x3).run Try.prog w = .ok v30 w ∧ decR [(.agg [(.int .i64), (.int .i64), .bool, (.int .i64), (.int .i64), .bool])] v30 K fun r => r w) w) w))) w) w) w
theorem f19_ok {p0_0 : Int} {p0_1 : Int} {p0_2 : Bool} {p0_3 : Int} {p0_4 : Int} {p0_5 : Bool} {p1 : Int} {p2_0 : Int} {p2_1 : Int} {p2_2 : Bool} {K : Int → Int → Bool → Int → Int → Bool → World → Prop} {w : World} (h : f19 p0_0 p0_1 p0_2 p0_3 p0_4 p0_5 p1 p2_0 p2_1 p2_2 K w) : callS Try.prog 19 #[(.agg #[(.int .i64 p0_0), (.int .i64 p0_1), (.bool p0_2), (.int .i64 p0_3), (.int .i64 p0_4), (.bool p0_5)]), (.int .i64 p1), (.agg #[(.int .i64 p2_0), (.int .i64 p2_1), (.bool p2_2)])] [(.agg [(.int .i64), (.int .i64), .bool, (.int .i64), (.int .i64), .bool])] K w :=
  calls_of_fn (args := [(.agg #[(.int .i64 p0_0), (.int .i64 p0_1), (.bool p0_2), (.int .i64 p0_3), (.int .i64 p0_4), (.bool p0_5)]), (.int .i64 p1), (.agg #[(.int .i64 p2_0), (.int .i64 p2_1), (.bool p2_2)])]) Try.f19 [] [] [] .nil (by kernel_rfl) (by kernel_rfl)
    (Eq.mp (by kernel_rfl : f19 p0_0 p0_1 p0_2 p0_3 p0_4 p0_5 p1 p2_0 p2_1 p2_2 K w = evFn Try.prog Try.f19 [] [] [] .nil [(.agg #[(.int .i64 p0_0), (.int .i64 p0_1), (.bool p0_2), (.int .i64 p0_3), (.int .i64 p0_4), (.bool p0_5)]), (.int .i64 p1), (.agg #[(.int .i64 p2_0), (.int .i64 p2_1), (.bool p2_2)])] [(.agg [(.int .i64), (.int .i64), .bool, (.int .i64), (.int .i64), .bool])] K w) h)

/-- sallyport/sallyportlaw16.RecordPicks -/
def f5 (p0_0 : Int) (p0_1 : Int) (p0_2 : Bool) (p0_3 : Int) (p0_4 : Int) (p0_5 : Bool) (p1 : Int) (p2_0 : Int) (p2_1 : Int) (p2_2 : Bool) (K : Bool → World → Prop) (w : World) : Prop :=
  semS Try.prog (Instr.box 29 (.agg #[(.int .i64 p0_0), (.int .i64 p0_1), (.bool p0_2), (.int .i64 p0_3), (.int .i64 p0_4), (.bool p0_5)])) (.one .adr) (fun x1 w =>
  semS Try.prog (Instr.box 27 (.agg #[(.int .i64 p2_0), (.int .i64 p2_1), (.bool p2_2)])) (.one .adr) (fun x2 w =>
  callS Try.prog 10 #[] [(.one .bool)] (fun r3 w =>
  cond (!r3)
    (K false w)
    (semS Try.prog (Instr.loadAt 29 (.pointer (some x1))) (.agg [(.int .i64), (.int .i64), .bool, (.int .i64), (.int .i64), .bool]) (fun x4 x5 x6 x7 x8 x9 w =>
    callS Try.prog 13 #[(.agg #[(.int .i64 x4), (.int .i64 x5), (.bool x6), (.int .i64 x7), (.int .i64 x8), (.bool x9)])] [(.one (.int .i64)), (.one .bool)] (fun r10 r11 w =>
    semS Try.prog (Instr.loadAt 29 (.pointer (some x1))) (.agg [(.int .i64), (.int .i64), .bool, (.int .i64), (.int .i64), .bool]) (fun x12 x13 x14 x15 x16 x17 w =>
    callS Try.prog 16 #[(.agg #[(.int .i64 x12), (.int .i64 x13), (.bool x14), (.int .i64 x15), (.int .i64 x16), (.bool x17)])] [(.agg [(.int .i64), (.int .i64), .bool, (.int .i64), (.int .i64), .bool])] (fun r18 r19 r20 r21 r22 r23 w =>
    callS Try.prog 17 #[(.agg #[(.int .i64 r18), (.int .i64 r19), (.bool r20), (.int .i64 r21), (.int .i64 r22), (.bool r23)])] [(.one (.int .i64))] (fun r24 w =>
    drawS w fun C w =>
    cond (!(r11 == (decide (r24 ≥ 0))))
      (K false w)
      (cond r11
        (cond (r10 != r24)
          (K false w)
          (cond (!r11)
            (cond (r10 != 0)
              (K false w)
              (semQ Try.prog C (Instr.loadAt 27 (.pointer (some (x1.add 0)))) (.agg [(.int .i64), (.int .i64), .bool]) (fun x25 x26 x27 =>
              semQ Try.prog C (Instr.loadAt 29 (.pointer (some x1))) (.agg [(.int .i64), (.int .i64), .bool, (.int .i64), (.int .i64), .bool]) (fun x28 x29 x30 x31 x32 x33 =>
              callS Try.prog 14 #[(.agg #[(.int .i64 x25), (.int .i64 x26), (.bool x27)])] [(.one .bool)] (fun r34 w =>
              moreS C w (fun C =>
              callS Try.prog 16 #[(.agg #[(.int .i64 x28), (.int .i64 x29), (.bool x30), (.int .i64 x31), (.int .i64 x32), (.bool x33)])] [(.agg [(.int .i64), (.int .i64), .bool, (.int .i64), (.int .i64), .bool])] (fun r35 r36 r37 r38 r39 r40 w =>
              callS Try.prog 18 #[(.agg #[(.int .i64 r35), (.int .i64 r36), (.bool r37)])] [(.one .bool)] (fun r41 w =>
              cond (!(r34 == r41))
                (K false w)
                (semS Try.prog (Instr.loadAt 29 (.pointer (some x1))) (.agg [(.int .i64), (.int .i64), .bool, (.int .i64), (.int .i64), .bool]) (fun x42 x43 x44 x45 x46 x47 w =>
                semS Try.prog (Instr.loadAt 27 (.pointer (some x2))) (.agg [(.int .i64), (.int .i64), .bool]) (fun x48 x49 x50 w =>
                callS Try.prog 19 #[(.agg #[(.int .i64 x42), (.int .i64 x43), (.bool x44), (.int .i64 x45), (.int .i64 x46), (.bool x47)]), (.int .i64 p1), (.agg #[(.int .i64 x48), (.int .i64 x49), (.bool x50)])] [(.agg [(.int .i64), (.int .i64), .bool, (.int .i64), (.int .i64), .bool])] (fun r51 r52 r53 r54 r55 r56 w =>
                semS Try.prog (Instr.alloc 29 true (.tuple #[])) (.one .adr) (fun x57 w =>
                semU Try.prog (Instr.storeAt 29 (.pointer (some x57)) (.agg #[(.int .i64 r51), (.int .i64 r52), (.bool r53), (.int .i64 r54), (.int .i64 r55), (.bool r56)])) (fun w =>
                cond (p1 == 0)
                  (drawS w fun C w =>
                  semQ Try.prog C (Instr.loadAt 29 (.pointer (some x1))) (.agg [(.int .i64), (.int .i64), .bool, (.int .i64), (.int .i64), .bool]) (fun x58 x59 x60 x61 x62 x63 =>
                  semQ Try.prog C (Instr.loadAt 27 (.pointer (some (x1.add 0)))) (.agg [(.int .i64), (.int .i64), .bool]) (fun x64 x65 x66 =>
                  callS Try.prog 15 #[(.agg #[(.int .i64 x58), (.int .i64 x59), (.bool x60), (.int .i64 x61), (.int .i64 x62), (.bool x63)]), (.int .i64 0)] [(.agg [(.int .i64), (.int .i64), .bool])] (fun r67 r68 r69 w =>
                  moreS C w (fun C =>
                  semQ Try.prog C (binS .eql 27 (.tmp 59) (.tmp 61) (.agg #[(.int .i64 r67), (.int .i64 r68), (.bool r69)]) (.agg #[(.int .i64 x64), (.int .i64 x65), (.bool x66)])) (.one .bool) (fun x70 =>
                  cond x70
                    (semQ Try.prog C (Instr.loadAt 27 (.pointer (some (x57.add 0)))) (.agg [(.int .i64), (.int .i64), .bool]) (fun x71 x72 x73 =>
                    semQ Try.prog C (Instr.loadAt 27 (.pointer (some x2))) (.agg [(.int .i64), (.int .i64), .bool]) (fun x74 x75 x76 =>
                    semQ Try.prog C (binS .eql 27 (.tmp 65) (.tmp 66) (.agg #[(.int .i64 x71), (.int .i64 x72), (.bool x73)]) (.agg #[(.int .i64 x74), (.int .i64 x75), (.bool x76)])) (.one .bool) (fun x77 =>
                    cond x77
                      (semQ Try.prog C (Instr.loadAt 27 (.pointer (some (x57.add 3)))) (.agg [(.int .i64), (.int .i64), .bool]) (fun x78 x79 x80 =>
                      semQ Try.prog C (Instr.loadAt 27 (.pointer (some (x1.add 3)))) (.agg [(.int .i64), (.int .i64), .bool]) (fun x81 x82 x83 =>
                      semQ Try.prog C (binS .eql 27 (.tmp 71) (.tmp 73) (.agg #[(.int .i64 x78), (.int .i64 x79), (.bool x80)]) (.agg #[(.int .i64 x81), (.int .i64 x82), (.bool x83)])) (.one .bool) (fun x84 =>
                      K x84 w))))
                      (K false w)))))
                    (K false w)))) w)))
                  (cond (p1 == 1)
                    (drawS w fun C w =>
                    semQ Try.prog C (Instr.loadAt 29 (.pointer (some x1))) (.agg [(.int .i64), (.int .i64), .bool, (.int .i64), (.int .i64), .bool]) (fun x85 x86 x87 x88 x89 x90 =>
                    semQ Try.prog C (Instr.loadAt 27 (.pointer (some (x1.add 3)))) (.agg [(.int .i64), (.int .i64), .bool]) (fun x91 x92 x93 =>
                    callS Try.prog 15 #[(.agg #[(.int .i64 x85), (.int .i64 x86), (.bool x87), (.int .i64 x88), (.int .i64 x89), (.bool x90)]), (.int .i64 1)] [(.agg [(.int .i64), (.int .i64), .bool])] (fun r94 r95 r96 w =>
                    moreS C w (fun C =>
                    semQ Try.prog C (binS .eql 27 (.tmp 79) (.tmp 81) (.agg #[(.int .i64 r94), (.int .i64 r95), (.bool r96)]) (.agg #[(.int .i64 x91), (.int .i64 x92), (.bool x93)])) (.one .bool) (fun x97 =>
                    cond x97
                      (semQ Try.prog C (Instr.loadAt 27 (.pointer (some (x57.add 3)))) (.agg [(.int .i64), (.int .i64), .bool]) (fun x98 x99 x100 =>
                      semQ Try.prog C (Instr.loadAt 27 (.pointer (some x2))) (.agg [(.int .i64), (.int .i64), .bool]) (fun x101 x102 x103 =>
                      semQ Try.prog C (binS .eql 27 (.tmp 85) (.tmp 86) (.agg #[(.int .i64 x98), (.int .i64 x99), (.bool x100)]) (.agg #[(.int .i64 x101), (.int .i64 x102), (.bool x103)])) (.one .bool) (fun x104 =>
                      cond x104
                        (semQ Try.prog C (Instr.loadAt 27 (.pointer (some (x57.add 0)))) (.agg [(.int .i64), (.int .i64), .bool]) (fun x105 x106 x107 =>
                        semQ Try.prog C (Instr.loadAt 27 (.pointer (some (x1.add 0)))) (.agg [(.int .i64), (.int .i64), .bool]) (fun x108 x109 x110 =>
                        semQ Try.prog C (binS .eql 27 (.tmp 91) (.tmp 93) (.agg #[(.int .i64 x105), (.int .i64 x106), (.bool x107)]) (.agg #[(.int .i64 x108), (.int .i64 x109), (.bool x110)])) (.one .bool) (fun x111 =>
                        K x111 w))))
                        (K false w)))))
                      (K false w)))) w)))
                    (semS Try.prog (Instr.loadAt 29 (.pointer (some x1))) (.agg [(.int .i64), (.int .i64), .bool, (.int .i64), (.int .i64), .bool]) (fun x112 x113 x114 x115 x116 x117 w =>
                    callS Try.prog 15 #[(.agg #[(.int .i64 x112), (.int .i64 x113), (.bool x114), (.int .i64 x115), (.int .i64 x116), (.bool x117)]), (.int .i64 p1)] [(.agg [(.int .i64), (.int .i64), .bool])] (fun r118 r119 r120 w =>
                    semS Try.prog (binS .eql 27 (.tmp 98) (.tmp 99) (.agg #[(.int .i64 r118), (.int .i64 r119), (.bool r120)]) (.agg #[(.int .i64 0), (.int .i64 0), (.bool false)])) (.one .bool) (fun x121 w =>
                    joinS (σ := Bool) (fun b122 w =>
                      K b122 w) fun J123 =>
                    cond x121
                      (semS Try.prog (Instr.loadAt 29 (.pointer (some x57))) (.agg [(.int .i64), (.int .i64), .bool, (.int .i64), (.int .i64), .bool]) (fun x124 x125 x126 x127 x128 x129 w =>
                        semS Try.prog (Instr.loadAt 29 (.pointer (some x1))) (.agg [(.int .i64), (.int .i64), .bool, (.int .i64), (.int .i64), .bool]) (fun x130 x131 x132 x133 x134 x135 w =>
                        semS Try.prog (binS .eql 29 (.tmp 102) (.tmp 103) (.agg #[(.int .i64 x124), (.int .i64 x125), (.bool x126), (.int .i64 x127), (.int .i64 x128), (.bool x129)]) (.agg #[(.int .i64 x130), (.int .i64 x131), (.bool x132), (.int .i64 x133), (.int .i64 x134), (.bool x135)])) (.one .bool) (fun x136 w =>
                        J123 x136 w) w) w) w)
                      (J123 false w)) w) w) w))) w) w) w) w) w)) w) w)) w))))
            (semQ Try.prog C (Instr.loadAt 27 (.pointer (some (x1.add 0)))) (.agg [(.int .i64), (.int .i64), .bool]) (fun x137 x138 x139 =>
              semQ Try.prog C (Instr.loadAt 29 (.pointer (some x1))) (.agg [(.int .i64), (.int .i64), .bool, (.int .i64), (.int .i64), .bool]) (fun x140 x141 x142 x143 x144 x145 =>
              callS Try.prog 14 #[(.agg #[(.int .i64 x137), (.int .i64 x138), (.bool x139)])] [(.one .bool)] (fun r146 w =>
              moreS C w (fun C =>
              callS Try.prog 16 #[(.agg #[(.int .i64 x140), (.int .i64 x141), (.bool x142), (.int .i64 x143), (.int .i64 x144), (.bool x145)])] [(.agg [(.int .i64), (.int .i64), .bool, (.int .i64), (.int .i64), .bool])] (fun r147 r148 r149 r150 r151 r152 w =>
              callS Try.prog 18 #[(.agg #[(.int .i64 r147), (.int .i64 r148), (.bool r149)])] [(.one .bool)] (fun r153 w =>
              cond (!(r146 == r153))
                (K false w)
                (semS Try.prog (Instr.loadAt 29 (.pointer (some x1))) (.agg [(.int .i64), (.int .i64), .bool, (.int .i64), (.int .i64), .bool]) (fun x154 x155 x156 x157 x158 x159 w =>
                semS Try.prog (Instr.loadAt 27 (.pointer (some x2))) (.agg [(.int .i64), (.int .i64), .bool]) (fun x160 x161 x162 w =>
                callS Try.prog 19 #[(.agg #[(.int .i64 x154), (.int .i64 x155), (.bool x156), (.int .i64 x157), (.int .i64 x158), (.bool x159)]), (.int .i64 p1), (.agg #[(.int .i64 x160), (.int .i64 x161), (.bool x162)])] [(.agg [(.int .i64), (.int .i64), .bool, (.int .i64), (.int .i64), .bool])] (fun r163 r164 r165 r166 r167 r168 w =>
                semS Try.prog (Instr.alloc 29 true (.tuple #[])) (.one .adr) (fun x169 w =>
                semU Try.prog (Instr.storeAt 29 (.pointer (some x169)) (.agg #[(.int .i64 r163), (.int .i64 r164), (.bool r165), (.int .i64 r166), (.int .i64 r167), (.bool r168)])) (fun w =>
                cond (p1 == 0)
                  (drawS w fun C w =>
                  semQ Try.prog C (Instr.loadAt 29 (.pointer (some x1))) (.agg [(.int .i64), (.int .i64), .bool, (.int .i64), (.int .i64), .bool]) (fun x170 x171 x172 x173 x174 x175 =>
                  semQ Try.prog C (Instr.loadAt 27 (.pointer (some (x1.add 0)))) (.agg [(.int .i64), (.int .i64), .bool]) (fun x176 x177 x178 =>
                  callS Try.prog 15 #[(.agg #[(.int .i64 x170), (.int .i64 x171), (.bool x172), (.int .i64 x173), (.int .i64 x174), (.bool x175)]), (.int .i64 0)] [(.agg [(.int .i64), (.int .i64), .bool])] (fun r179 r180 r181 w =>
                  moreS C w (fun C =>
                  semQ Try.prog C (binS .eql 27 (.tmp 59) (.tmp 61) (.agg #[(.int .i64 r179), (.int .i64 r180), (.bool r181)]) (.agg #[(.int .i64 x176), (.int .i64 x177), (.bool x178)])) (.one .bool) (fun x182 =>
                  cond x182
                    (semQ Try.prog C (Instr.loadAt 27 (.pointer (some (x169.add 0)))) (.agg [(.int .i64), (.int .i64), .bool]) (fun x183 x184 x185 =>
                    semQ Try.prog C (Instr.loadAt 27 (.pointer (some x2))) (.agg [(.int .i64), (.int .i64), .bool]) (fun x186 x187 x188 =>
                    semQ Try.prog C (binS .eql 27 (.tmp 65) (.tmp 66) (.agg #[(.int .i64 x183), (.int .i64 x184), (.bool x185)]) (.agg #[(.int .i64 x186), (.int .i64 x187), (.bool x188)])) (.one .bool) (fun x189 =>
                    cond x189
                      (semQ Try.prog C (Instr.loadAt 27 (.pointer (some (x169.add 3)))) (.agg [(.int .i64), (.int .i64), .bool]) (fun x190 x191 x192 =>
                      semQ Try.prog C (Instr.loadAt 27 (.pointer (some (x1.add 3)))) (.agg [(.int .i64), (.int .i64), .bool]) (fun x193 x194 x195 =>
                      semQ Try.prog C (binS .eql 27 (.tmp 71) (.tmp 73) (.agg #[(.int .i64 x190), (.int .i64 x191), (.bool x192)]) (.agg #[(.int .i64 x193), (.int .i64 x194), (.bool x195)])) (.one .bool) (fun x196 =>
                      K x196 w))))
                      (K false w)))))
                    (K false w)))) w)))
                  (cond (p1 == 1)
                    (drawS w fun C w =>
                    semQ Try.prog C (Instr.loadAt 29 (.pointer (some x1))) (.agg [(.int .i64), (.int .i64), .bool, (.int .i64), (.int .i64), .bool]) (fun x197 x198 x199 x200 x201 x202 =>
                    semQ Try.prog C (Instr.loadAt 27 (.pointer (some (x1.add 3)))) (.agg [(.int .i64), (.int .i64), .bool]) (fun x203 x204 x205 =>
                    callS Try.prog 15 #[(.agg #[(.int .i64 x197), (.int .i64 x198), (.bool x199), (.int .i64 x200), (.int .i64 x201), (.bool x202)]), (.int .i64 1)] [(.agg [(.int .i64), (.int .i64), .bool])] (fun r206 r207 r208 w =>
                    moreS C w (fun C =>
                    semQ Try.prog C (binS .eql 27 (.tmp 79) (.tmp 81) (.agg #[(.int .i64 r206), (.int .i64 r207), (.bool r208)]) (.agg #[(.int .i64 x203), (.int .i64 x204), (.bool x205)])) (.one .bool) (fun x209 =>
                    cond x209
                      (semQ Try.prog C (Instr.loadAt 27 (.pointer (some (x169.add 3)))) (.agg [(.int .i64), (.int .i64), .bool]) (fun x210 x211 x212 =>
                      semQ Try.prog C (Instr.loadAt 27 (.pointer (some x2))) (.agg [(.int .i64), (.int .i64), .bool]) (fun x213 x214 x215 =>
                      semQ Try.prog C (binS .eql 27 (.tmp 85) (.tmp 86) (.agg #[(.int .i64 x210), (.int .i64 x211), (.bool x212)]) (.agg #[(.int .i64 x213), (.int .i64 x214), (.bool x215)])) (.one .bool) (fun x216 =>
                      cond x216
                        (semQ Try.prog C (Instr.loadAt 27 (.pointer (some (x169.add 0)))) (.agg [(.int .i64), (.int .i64), .bool]) (fun x217 x218 x219 =>
                        semQ Try.prog C (Instr.loadAt 27 (.pointer (some (x1.add 0)))) (.agg [(.int .i64), (.int .i64), .bool]) (fun x220 x221 x222 =>
                        semQ Try.prog C (binS .eql 27 (.tmp 91) (.tmp 93) (.agg #[(.int .i64 x217), (.int .i64 x218), (.bool x219)]) (.agg #[(.int .i64 x220), (.int .i64 x221), (.bool x222)])) (.one .bool) (fun x223 =>
                        K x223 w))))
                        (K false w)))))
                      (K false w)))) w)))
                    (semS Try.prog (Instr.loadAt 29 (.pointer (some x1))) (.agg [(.int .i64), (.int .i64), .bool, (.int .i64), (.int .i64), .bool]) (fun x224 x225 x226 x227 x228 x229 w =>
                    callS Try.prog 15 #[(.agg #[(.int .i64 x224), (.int .i64 x225), (.bool x226), (.int .i64 x227), (.int .i64 x228), (.bool x229)]), (.int .i64 p1)] [(.agg [(.int .i64), (.int .i64), .bool])] (fun r230 r231 r232 w =>
                    semS Try.prog (binS .eql 27 (.tmp 98) (.tmp 99) (.agg #[(.int .i64 r230), (.int .i64 r231), (.bool r232)]) (.agg #[(.int .i64 0), (.int .i64 0), (.bool false)])) (.one .bool) (fun x233 w =>
                    joinS (σ := Bool) (fun b234 w =>
                      K b234 w) fun J235 =>
                    cond x233
                      (semS Try.prog (Instr.loadAt 29 (.pointer (some x169))) (.agg [(.int .i64), (.int .i64), .bool, (.int .i64), (.int .i64), .bool]) (fun x236 x237 x238 x239 x240 x241 w =>
                        semS Try.prog (Instr.loadAt 29 (.pointer (some x1))) (.agg [(.int .i64), (.int .i64), .bool, (.int .i64), (.int .i64), .bool]) (fun x242 x243 x244 x245 x246 x247 w =>
                        semS Try.prog (binS .eql 29 (.tmp 102) (.tmp 103) (.agg #[(.int .i64 x236), (.int .i64 x237), (.bool x238), (.int .i64 x239), (.int .i64 x240), (.bool x241)]) (.agg #[(.int .i64 x242), (.int .i64 x243), (.bool x244), (.int .i64 x245), (.int .i64 x246), (.bool x247)])) (.one .bool) (fun x248 w =>
                        J235 x248 w) w) w) w)
                      (J235 false w)) w) w) w))) w) w) w) w) w)) w) w)) w)))))
        (cond (!r11)
            (cond (r10 != 0)
              (K false w)
              (semQ Try.prog C (Instr.loadAt 27 (.pointer (some (x1.add 0)))) (.agg [(.int .i64), (.int .i64), .bool]) (fun x249 x250 x251 =>
              semQ Try.prog C (Instr.loadAt 29 (.pointer (some x1))) (.agg [(.int .i64), (.int .i64), .bool, (.int .i64), (.int .i64), .bool]) (fun x252 x253 x254 x255 x256 x257 =>
              callS Try.prog 14 #[(.agg #[(.int .i64 x249), (.int .i64 x250), (.bool x251)])] [(.one .bool)] (fun r258 w =>
              moreS C w (fun C =>
              callS Try.prog 16 #[(.agg #[(.int .i64 x252), (.int .i64 x253), (.bool x254), (.int .i64 x255), (.int .i64 x256), (.bool x257)])] [(.agg [(.int .i64), (.int .i64), .bool, (.int .i64), (.int .i64), .bool])] (fun r259 r260 r261 r262 r263 r264 w =>
              callS Try.prog 18 #[(.agg #[(.int .i64 r259), (.int .i64 r260), (.bool r261)])] [(.one .bool)] (fun r265 w =>
              cond (!(r258 == r265))
                (K false w)
                (semS Try.prog (Instr.loadAt 29 (.pointer (some x1))) (.agg [(.int .i64), (.int .i64), .bool, (.int .i64), (.int .i64), .bool]) (fun x266 x267 x268 x269 x270 x271 w =>
                semS Try.prog (Instr.loadAt 27 (.pointer (some x2))) (.agg [(.int .i64), (.int .i64), .bool]) (fun x272 x273 x274 w =>
                callS Try.prog 19 #[(.agg #[(.int .i64 x266), (.int .i64 x267), (.bool x268), (.int .i64 x269), (.int .i64 x270), (.bool x271)]), (.int .i64 p1), (.agg #[(.int .i64 x272), (.int .i64 x273), (.bool x274)])] [(.agg [(.int .i64), (.int .i64), .bool, (.int .i64), (.int .i64), .bool])] (fun r275 r276 r277 r278 r279 r280 w =>
                semS Try.prog (Instr.alloc 29 true (.tuple #[])) (.one .adr) (fun x281 w =>
                semU Try.prog (Instr.storeAt 29 (.pointer (some x281)) (.agg #[(.int .i64 r275), (.int .i64 r276), (.bool r277), (.int .i64 r278), (.int .i64 r279), (.bool r280)])) (fun w =>
                cond (p1 == 0)
                  (drawS w fun C w =>
                  semQ Try.prog C (Instr.loadAt 29 (.pointer (some x1))) (.agg [(.int .i64), (.int .i64), .bool, (.int .i64), (.int .i64), .bool]) (fun x282 x283 x284 x285 x286 x287 =>
                  semQ Try.prog C (Instr.loadAt 27 (.pointer (some (x1.add 0)))) (.agg [(.int .i64), (.int .i64), .bool]) (fun x288 x289 x290 =>
                  callS Try.prog 15 #[(.agg #[(.int .i64 x282), (.int .i64 x283), (.bool x284), (.int .i64 x285), (.int .i64 x286), (.bool x287)]), (.int .i64 0)] [(.agg [(.int .i64), (.int .i64), .bool])] (fun r291 r292 r293 w =>
                  moreS C w (fun C =>
                  semQ Try.prog C (binS .eql 27 (.tmp 59) (.tmp 61) (.agg #[(.int .i64 r291), (.int .i64 r292), (.bool r293)]) (.agg #[(.int .i64 x288), (.int .i64 x289), (.bool x290)])) (.one .bool) (fun x294 =>
                  cond x294
                    (semQ Try.prog C (Instr.loadAt 27 (.pointer (some (x281.add 0)))) (.agg [(.int .i64), (.int .i64), .bool]) (fun x295 x296 x297 =>
                    semQ Try.prog C (Instr.loadAt 27 (.pointer (some x2))) (.agg [(.int .i64), (.int .i64), .bool]) (fun x298 x299 x300 =>
                    semQ Try.prog C (binS .eql 27 (.tmp 65) (.tmp 66) (.agg #[(.int .i64 x295), (.int .i64 x296), (.bool x297)]) (.agg #[(.int .i64 x298), (.int .i64 x299), (.bool x300)])) (.one .bool) (fun x301 =>
                    cond x301
                      (semQ Try.prog C (Instr.loadAt 27 (.pointer (some (x281.add 3)))) (.agg [(.int .i64), (.int .i64), .bool]) (fun x302 x303 x304 =>
                      semQ Try.prog C (Instr.loadAt 27 (.pointer (some (x1.add 3)))) (.agg [(.int .i64), (.int .i64), .bool]) (fun x305 x306 x307 =>
                      semQ Try.prog C (binS .eql 27 (.tmp 71) (.tmp 73) (.agg #[(.int .i64 x302), (.int .i64 x303), (.bool x304)]) (.agg #[(.int .i64 x305), (.int .i64 x306), (.bool x307)])) (.one .bool) (fun x308 =>
                      K x308 w))))
                      (K false w)))))
                    (K false w)))) w)))
                  (cond (p1 == 1)
                    (drawS w fun C w =>
                    semQ Try.prog C (Instr.loadAt 29 (.pointer (some x1))) (.agg [(.int .i64), (.int .i64), .bool, (.int .i64), (.int .i64), .bool]) (fun x309 x310 x311 x312 x313 x314 =>
                    semQ Try.prog C (Instr.loadAt 27 (.pointer (some (x1.add 3)))) (.agg [(.int .i64), (.int .i64), .bool]) (fun x315 x316 x317 =>
                    callS Try.prog 15 #[(.agg #[(.int .i64 x309), (.int .i64 x310), (.bool x311), (.int .i64 x312), (.int .i64 x313), (.bool x314)]), (.int .i64 1)] [(.agg [(.int .i64), (.int .i64), .bool])] (fun r318 r319 r320 w =>
                    moreS C w (fun C =>
                    semQ Try.prog C (binS .eql 27 (.tmp 79) (.tmp 81) (.agg #[(.int .i64 r318), (.int .i64 r319), (.bool r320)]) (.agg #[(.int .i64 x315), (.int .i64 x316), (.bool x317)])) (.one .bool) (fun x321 =>
                    cond x321
                      (semQ Try.prog C (Instr.loadAt 27 (.pointer (some (x281.add 3)))) (.agg [(.int .i64), (.int .i64), .bool]) (fun x322 x323 x324 =>
                      semQ Try.prog C (Instr.loadAt 27 (.pointer (some x2))) (.agg [(.int .i64), (.int .i64), .bool]) (fun x325 x326 x327 =>
                      semQ Try.prog C (binS .eql 27 (.tmp 85) (.tmp 86) (.agg #[(.int .i64 x322), (.int .i64 x323), (.bool x324)]) (.agg #[(.int .i64 x325), (.int .i64 x326), (.bool x327)])) (.one .bool) (fun x328 =>
                      cond x328
                        (semQ Try.prog C (Instr.loadAt 27 (.pointer (some (x281.add 0)))) (.agg [(.int .i64), (.int .i64), .bool]) (fun x329 x330 x331 =>
                        semQ Try.prog C (Instr.loadAt 27 (.pointer (some (x1.add 0)))) (.agg [(.int .i64), (.int .i64), .bool]) (fun x332 x333 x334 =>
                        semQ Try.prog C (binS .eql 27 (.tmp 91) (.tmp 93) (.agg #[(.int .i64 x329), (.int .i64 x330), (.bool x331)]) (.agg #[(.int .i64 x332), (.int .i64 x333), (.bool x334)])) (.one .bool) (fun x335 =>
                        K x335 w))))
                        (K false w)))))
                      (K false w)))) w)))
                    (semS Try.prog (Instr.loadAt 29 (.pointer (some x1))) (.agg [(.int .i64), (.int .i64), .bool, (.int .i64), (.int .i64), .bool]) (fun x336 x337 x338 x339 x340 x341 w =>
                    callS Try.prog 15 #[(.agg #[(.int .i64 x336), (.int .i64 x337), (.bool x338), (.int .i64 x339), (.int .i64 x340), (.bool x341)]), (.int .i64 p1)] [(.agg [(.int .i64), (.int .i64), .bool])] (fun r342 r343 r344 w =>
                    semS Try.prog (binS .eql 27 (.tmp 98) (.tmp 99) (.agg #[(.int .i64 r342), (.int .i64 r343), (.bool r344)]) (.agg #[(.int .i64 0), (.int .i64 0), (.bool false)])) (.one .bool) (fun x345 w =>
                    joinS (σ := Bool) (fun b346 w =>
                      K b346 w) fun J347 =>
                    cond x345
                      (semS Try.prog (Instr.loadAt 29 (.pointer (some x281))) (.agg [(.int .i64), (.int .i64), .bool, (.int .i64), (.int .i64), .bool]) (fun x348 x349 x350 x351 x352 x353 w =>
                        semS Try.prog (Instr.loadAt 29 (.pointer (some x1))) (.agg [(.int .i64), (.int .i64), .bool, (.int .i64), (.int .i64), .bool]) (fun x354 x355 x356 x357 x358 x359 w =>
                        semS Try.prog (binS .eql 29 (.tmp 102) (.tmp 103) (.agg #[(.int .i64 x348), (.int .i64 x349), (.bool x350), (.int .i64 x351), (.int .i64 x352), (.bool x353)]) (.agg #[(.int .i64 x354), (.int .i64 x355), (.bool x356), (.int .i64 x357), (.int .i64 x358), (.bool x359)])) (.one .bool) (fun x360 w =>
                        J347 x360 w) w) w) w)
                      (J347 false w)) w) w) w))) w) w) w) w) w)) w) w)) w))))
            (semQ Try.prog C (Instr.loadAt 27 (.pointer (some (x1.add 0)))) (.agg [(.int .i64), (.int .i64), .bool]) (fun x361 x362 x363 =>
              semQ Try.prog C (Instr.loadAt 29 (.pointer (some x1))) (.agg [(.int .i64), (.int .i64), .bool, (.int .i64), (.int .i64), .bool]) (fun x364 x365 x366 x367 x368 x369 =>
              callS Try.prog 14 #[(.agg #[(.int .i64 x361), (.int .i64 x362), (.bool x363)])] [(.one .bool)] (fun r370 w =>
              moreS C w (fun C =>
              callS Try.prog 16 #[(.agg #[(.int .i64 x364), (.int .i64 x365), (.bool x366), (.int .i64 x367), (.int .i64 x368), (.bool x369)])] [(.agg [(.int .i64), (.int .i64), .bool, (.int .i64), (.int .i64), .bool])] (fun r371 r372 r373 r374 r375 r376 w =>
              callS Try.prog 18 #[(.agg #[(.int .i64 r371), (.int .i64 r372), (.bool r373)])] [(.one .bool)] (fun r377 w =>
              cond (!(r370 == r377))
                (K false w)
                (semS Try.prog (Instr.loadAt 29 (.pointer (some x1))) (.agg [(.int .i64), (.int .i64), .bool, (.int .i64), (.int .i64), .bool]) (fun x378 x379 x380 x381 x382 x383 w =>
                semS Try.prog (Instr.loadAt 27 (.pointer (some x2))) (.agg [(.int .i64), (.int .i64), .bool]) (fun x384 x385 x386 w =>
                callS Try.prog 19 #[(.agg #[(.int .i64 x378), (.int .i64 x379), (.bool x380), (.int .i64 x381), (.int .i64 x382), (.bool x383)]), (.int .i64 p1), (.agg #[(.int .i64 x384), (.int .i64 x385), (.bool x386)])] [(.agg [(.int .i64), (.int .i64), .bool, (.int .i64), (.int .i64), .bool])] (fun r387 r388 r389 r390 r391 r392 w =>
                semS Try.prog (Instr.alloc 29 true (.tuple #[])) (.one .adr) (fun x393 w =>
                semU Try.prog (Instr.storeAt 29 (.pointer (some x393)) (.agg #[(.int .i64 r387), (.int .i64 r388), (.bool r389), (.int .i64 r390), (.int .i64 r391), (.bool r392)])) (fun w =>
                cond (p1 == 0)
                  (drawS w fun C w =>
                  semQ Try.prog C (Instr.loadAt 29 (.pointer (some x1))) (.agg [(.int .i64), (.int .i64), .bool, (.int .i64), (.int .i64), .bool]) (fun x394 x395 x396 x397 x398 x399 =>
                  semQ Try.prog C (Instr.loadAt 27 (.pointer (some (x1.add 0)))) (.agg [(.int .i64), (.int .i64), .bool]) (fun x400 x401 x402 =>
                  callS Try.prog 15 #[(.agg #[(.int .i64 x394), (.int .i64 x395), (.bool x396), (.int .i64 x397), (.int .i64 x398), (.bool x399)]), (.int .i64 0)] [(.agg [(.int .i64), (.int .i64), .bool])] (fun r403 r404 r405 w =>
                  moreS C w (fun C =>
                  semQ Try.prog C (binS .eql 27 (.tmp 59) (.tmp 61) (.agg #[(.int .i64 r403), (.int .i64 r404), (.bool r405)]) (.agg #[(.int .i64 x400), (.int .i64 x401), (.bool x402)])) (.one .bool) (fun x406 =>
                  cond x406
                    (semQ Try.prog C (Instr.loadAt 27 (.pointer (some (x393.add 0)))) (.agg [(.int .i64), (.int .i64), .bool]) (fun x407 x408 x409 =>
                    semQ Try.prog C (Instr.loadAt 27 (.pointer (some x2))) (.agg [(.int .i64), (.int .i64), .bool]) (fun x410 x411 x412 =>
                    semQ Try.prog C (binS .eql 27 (.tmp 65) (.tmp 66) (.agg #[(.int .i64 x407), (.int .i64 x408), (.bool x409)]) (.agg #[(.int .i64 x410), (.int .i64 x411), (.bool x412)])) (.one .bool) (fun x413 =>
                    cond x413
                      (semQ Try.prog C (Instr.loadAt 27 (.pointer (some (x393.add 3)))) (.agg [(.int .i64), (.int .i64), .bool]) (fun x414 x415 x416 =>
                      semQ Try.prog C (Instr.loadAt 27 (.pointer (some (x1.add 3)))) (.agg [(.int .i64), (.int .i64), .bool]) (fun x417 x418 x419 =>
                      semQ Try.prog C (binS .eql 27 (.tmp 71) (.tmp 73) (.agg #[(.int .i64 x414), (.int .i64 x415), (.bool x416)]) (.agg #[(.int .i64 x417), (.int .i64 x418), (.bool x419)])) (.one .bool) (fun x420 =>
                      K x420 w))))
                      (K false w)))))
                    (K false w)))) w)))
                  (cond (p1 == 1)
                    (drawS w fun C w =>
                    semQ Try.prog C (Instr.loadAt 29 (.pointer (some x1))) (.agg [(.int .i64), (.int .i64), .bool, (.int .i64), (.int .i64), .bool]) (fun x421 x422 x423 x424 x425 x426 =>
                    semQ Try.prog C (Instr.loadAt 27 (.pointer (some (x1.add 3)))) (.agg [(.int .i64), (.int .i64), .bool]) (fun x427 x428 x429 =>
                    callS Try.prog 15 #[(.agg #[(.int .i64 x421), (.int .i64 x422), (.bool x423), (.int .i64 x424), (.int .i64 x425), (.bool x426)]), (.int .i64 1)] [(.agg [(.int .i64), (.int .i64), .bool])] (fun r430 r431 r432 w =>
                    moreS C w (fun C =>
                    semQ Try.prog C (binS .eql 27 (.tmp 79) (.tmp 81) (.agg #[(.int .i64 r430), (.int .i64 r431), (.bool r432)]) (.agg #[(.int .i64 x427), (.int .i64 x428), (.bool x429)])) (.one .bool) (fun x433 =>
                    cond x433
                      (semQ Try.prog C (Instr.loadAt 27 (.pointer (some (x393.add 3)))) (.agg [(.int .i64), (.int .i64), .bool]) (fun x434 x435 x436 =>
                      semQ Try.prog C (Instr.loadAt 27 (.pointer (some x2))) (.agg [(.int .i64), (.int .i64), .bool]) (fun x437 x438 x439 =>
                      semQ Try.prog C (binS .eql 27 (.tmp 85) (.tmp 86) (.agg #[(.int .i64 x434), (.int .i64 x435), (.bool x436)]) (.agg #[(.int .i64 x437), (.int .i64 x438), (.bool x439)])) (.one .bool) (fun x440 =>
                      cond x440
                        (semQ Try.prog C (Instr.loadAt 27 (.pointer (some (x393.add 0)))) (.agg [(.int .i64), (.int .i64), .bool]) (fun x441 x442 x443 =>
                        semQ Try.prog C (Instr.loadAt 27 (.pointer (some (x1.add 0)))) (.agg [(.int .i64), (.int .i64), .bool]) (fun x444 x445 x446 =>
                        semQ Try.prog C (binS .eql 27 (.tmp 91) (.tmp 93) (.agg #[(.int .i64 x441), (.int .i64 x442), (.bool x443)]) (.agg #[(.int .i64 x444), (.int .i64 x445), (.bool x446)])) (.one .bool) (fun x447 =>
                        K x447 w))))
                        (K false w)))))
                      (K false w)))) w)))
                    (semS Try.prog (Instr.loadAt 29 (.pointer (some x1))) (.agg [(.int .i64), (.int .i64), .bool, (.int .i64), (.int .i64), .bool]) (fun x448 x449 x450 x451 x452 x453 w =>
                    callS Try.prog 15 #[(.agg #[(.int .i64 x448), (.int .i64 x449), (.bool x450), (.int .i64 x451), (.int .i64 x452), (.bool x453)]), (.int .i64 p1)] [(.agg [(.int .i64), (.int .i64), .bool])] (fun r454 r455 r456 w =>
                    semS Try.prog (binS .eql 27 (.tmp 98) (.tmp 99) (.agg #[(.int .i64 r454), (.int .i64 r455), (.bool r456)]) (.agg #[(.int .i64 0), (.int .i64 0), (.bool false)])) (.one .bool) (fun x457 w =>
                    joinS (σ := Bool) (fun b458 w =>
                      K b458 w) fun J459 =>
                    cond x457
                      (semS Try.prog (Instr.loadAt 29 (.pointer (some x393))) (.agg [(.int .i64), (.int .i64), .bool, (.int .i64), (.int .i64), .bool]) (fun x460 x461 x462 x463 x464 x465 w =>
                        semS Try.prog (Instr.loadAt 29 (.pointer (some x1))) (.agg [(.int .i64), (.int .i64), .bool, (.int .i64), (.int .i64), .bool]) (fun x466 x467 x468 x469 x470 x471 w =>
                        semS Try.prog (binS .eql 29 (.tmp 102) (.tmp 103) (.agg #[(.int .i64 x460), (.int .i64 x461), (.bool x462), (.int .i64 x463), (.int .i64 x464), (.bool x465)]) (.agg #[(.int .i64 x466), (.int .i64 x467), (.bool x468), (.int .i64 x469), (.int .i64 x470), (.bool x471)])) (.one .bool) (fun x472 w =>
                        J459 x472 w) w) w) w)
                      (J459 false w)) w) w) w))) w) w) w) w) w)) w) w)) w)))))) w) w) w) w) w)) w) w) w
theorem f5_ok {p0_0 : Int} {p0_1 : Int} {p0_2 : Bool} {p0_3 : Int} {p0_4 : Int} {p0_5 : Bool} {p1 : Int} {p2_0 : Int} {p2_1 : Int} {p2_2 : Bool} {K : Bool → World → Prop} {w : World} (h : f5 p0_0 p0_1 p0_2 p0_3 p0_4 p0_5 p1 p2_0 p2_1 p2_2 K w) : callS Try.prog 5 #[(.agg #[(.int .i64 p0_0), (.int .i64 p0_1), (.bool p0_2), (.int .i64 p0_3), (.int .i64 p0_4), (.bool p0_5)]), (.int .i64 p1), (.agg #[(.int .i64 p2_0), (.int .i64 p2_1), (.bool p2_2)])] [(.one .bool)] K w :=
  calls_of_fn (args := [(.agg #[(.int .i64 p0_0), (.int .i64 p0_1), (.bool p0_2), (.int .i64 p0_3), (.int .i64 p0_4), (.bool p0_5)]), (.int .i64 p1), (.agg #[(.int .i64 p2_0), (.int .i64 p2_1), (.bool p2_2)])]) Try.f5 [] [] [] (.two .nil (.two .nil (.two .nil (.two .nil (.two (.two (.draw [0, 0, 2, 7, 15, 31, 63, 127, 127, 511, 1023, 2047, 4095, 8191, 16383, 32767, 65535, 131071, 262143, 524287, 1048575, 2097151, 4194303, 8388607, 2097151, 33554431, 67108863, 134217727, 268435455, 536870911]) .nil) (.two .nil (.two (.two .nil (.one (.two .nil (.two (.two (.draw [0, 1, 0, 4, 15, 31, 63, 127, 63, 511, 1023, 2047, 4095, 8191, 4095, 20479, 65535, 131071, 262143]) .nil) (.two .nil (.two (.two (.draw [0, 1, 0, 4, 15, 31, 63, 127, 63, 511, 1023, 2047, 4095, 8191, 4095, 20479, 65535, 131071, 262143]) .nil) .nil)))))) .nil))))))) (by kernel_rfl) (by kernel_rfl)
    (Eq.mp (by kernel_rfl : f5 p0_0 p0_1 p0_2 p0_3 p0_4 p0_5 p1 p2_0 p2_1 p2_2 K w = evFn Try.prog Try.f5 [] [] [] (.two .nil (.two .nil (.two .nil (.two .nil (.two (.two (.draw [0, 0, 2, 7, 15, 31, 63, 127, 127, 511, 1023, 2047, 4095, 8191, 16383, 32767, 65535, 131071, 262143, 524287, 1048575, 2097151, 4194303, 8388607, 2097151, 33554431, 67108863, 134217727, 268435455, 536870911]) .nil) (.two .nil (.two (.two .nil (.one (.two .nil (.two (.two (.draw [0, 1, 0, 4, 15, 31, 63, 127, 63, 511, 1023, 2047, 4095, 8191, 4095, 20479, 65535, 131071, 262143]) .nil) (.two .nil (.two (.two (.draw [0, 1, 0, 4, 15, 31, 63, 127, 63, 511, 1023, 2047, 4095, 8191, 4095, 20479, 65535, 131071, 262143]) .nil) .nil)))))) .nil))))))) [(.agg #[(.int .i64 p0_0), (.int .i64 p0_1), (.bool p0_2), (.int .i64 p0_3), (.int .i64 p0_4), (.bool p0_5)]), (.int .i64 p1), (.agg #[(.int .i64 p2_0), (.int .i64 p2_1), (.bool p2_2)])] [(.one .bool)] K w) h)

/-- (sallyport/record.Half).right -/
def f39 (p0_0 : Int) (p0_1 : Int) (p0_2 : Bool) (K : Bool → World → Prop) (w : World) : Prop :=
  semS Try.prog (Instr.box 27 (.agg #[(.int .i64 p0_0), (.int .i64 p0_1), (.bool p0_2)])) (.one .adr) (fun x1 w =>
  semS Try.prog (Instr.loadAt 3 (.pointer (some (x1.add 0)))) (.one (.int .i64)) (fun x2 w =>
  joinS (σ := Bool) (fun b3 w =>
    joinS (σ := Bool) (fun b5 w =>
      joinS (σ := Bool) (fun b7 w =>
        joinS (σ := Bool) (fun b9 w =>
          K b9 w) fun J10 =>
        cond b7
          (semS Try.prog (Instr.loadAt 4 (.pointer (some (x1.add 2)))) (.one .bool) (fun x11 w =>
            joinS (σ := Bool) (fun b12 w =>
              J10 (!b12) w) fun J13 =>
            cond x11
              (semS Try.prog (Instr.loadAt 3 (.pointer (some (x1.add 1)))) (.one (.int .i64)) (fun x14 w =>
                J13 (decide (x14 > 0)) w) w)
              (J13 false w)) w)
          (J10 false w)) fun J8 =>
      cond b5
        (semS Try.prog (Instr.loadAt 3 (.pointer (some (x1.add 1)))) (.one (.int .i64)) (fun x15 w =>
          J8 (decide (x15 ≤ 7)) w) w)
        (J8 false w)) fun J6 =>
    cond b3
      (semS Try.prog (Instr.loadAt 3 (.pointer (some (x1.add 1)))) (.one (.int .i64)) (fun x16 w =>
        J6 (decide (x16 ≥ 0)) w) w)
      (J6 false w)) fun J4 =>
  cond (decide (x2 ≥ 0))
    (semS Try.prog (Instr.loadAt 3 (.pointer (some (x1.add 0)))) (.one (.int .i64)) (fun x17 w =>
      J4 (decide (x17 ≤ 15)) w) w)
    (J4 false w)) w) w
theorem f39_ok {p0_0 : Int} {p0_1 : Int} {p0_2 : Bool} {K : Bool → World → Prop} {w : World} (h : f39 p0_0 p0_1 p0_2 K w) : callS Try.prog 39 #[(.agg #[(.int .i64 p0_0), (.int .i64 p0_1), (.bool p0_2)])] [(.one .bool)] K w :=
  calls_of_fn (args := [(.agg #[(.int .i64 p0_0), (.int .i64 p0_1), (.bool p0_2)])]) Try.f39 [] [] [] .nil (by kernel_rfl) (by kernel_rfl)
    (Eq.mp (by kernel_rfl : f39 p0_0 p0_1 p0_2 K w = evFn Try.prog Try.f39 [] [] [] .nil [(.agg #[(.int .i64 p0_0), (.int .i64 p0_1), (.bool p0_2)])] [(.one .bool)] K w) h)

/-- (sallyport/record.Record).Right -/
def f23 (p0_0 : Int) (p0_1 : Int) (p0_2 : Bool) (p0_3 : Int) (p0_4 : Int) (p0_5 : Bool) (K : Bool → World → Prop) (w : World) : Prop :=
  semS Try.prog (Instr.box 29 (.agg #[(.int .i64 p0_0), (.int .i64 p0_1), (.bool p0_2), (.int .i64 p0_3), (.int .i64 p0_4), (.bool p0_5)])) (.one .adr) (fun x1 w =>
  semS Try.prog (Instr.loadAt 27 (.pointer (some (x1.add 0)))) (.agg [(.int .i64), (.int .i64), .bool]) (fun x2 x3 x4 w =>
  callS Try.prog 39 #[(.agg #[(.int .i64 x2), (.int .i64 x3), (.bool x4)])] [(.one .bool)] (fun r5 w =>
  joinS (σ := Bool) (fun b6 w =>
    K b6 w) fun J7 =>
  cond r5
    (semS Try.prog (Instr.loadAt 27 (.pointer (some (x1.add 3)))) (.agg [(.int .i64), (.int .i64), .bool]) (fun x8 x9 x10 w =>
      callS Try.prog 39 #[(.agg #[(.int .i64 x8), (.int .i64 x9), (.bool x10)])] [(.one .bool)] (fun r11 w =>
      J7 r11 w) w) w)
    (J7 false w)) w) w) w
theorem f23_ok {p0_0 : Int} {p0_1 : Int} {p0_2 : Bool} {p0_3 : Int} {p0_4 : Int} {p0_5 : Bool} {K : Bool → World → Prop} {w : World} (h : f23 p0_0 p0_1 p0_2 p0_3 p0_4 p0_5 K w) : callS Try.prog 23 #[(.agg #[(.int .i64 p0_0), (.int .i64 p0_1), (.bool p0_2), (.int .i64 p0_3), (.int .i64 p0_4), (.bool p0_5)])] [(.one .bool)] K w :=
  calls_of_fn (args := [(.agg #[(.int .i64 p0_0), (.int .i64 p0_1), (.bool p0_2), (.int .i64 p0_3), (.int .i64 p0_4), (.bool p0_5)])]) Try.f23 [] [] [] .nil (by kernel_rfl) (by kernel_rfl)
    (Eq.mp (by kernel_rfl : f23 p0_0 p0_1 p0_2 p0_3 p0_4 p0_5 K w = evFn Try.prog Try.f23 [] [] [] .nil [(.agg #[(.int .i64 p0_0), (.int .i64 p0_1), (.bool p0_2), (.int .i64 p0_3), (.int .i64 p0_4), (.bool p0_5)])] [(.one .bool)] K w) h)

/-- sallyport/span.Within -/
def f49 (p0 : Int) (p1 : Int) (p2 : Int) (K : Bool → World → Prop) (w : World) : Prop :=
  K (((((decide (p0 ≥ 0)) && (decide (p1 ≥ 0))) && (decide (p2 ≥ 0))) && (decide (p0 ≤ p2))) && (decide (p1 ≤ (IntKind.wrap .i64 (p2 - p0))))) w
theorem f49_ok {p0 : Int} {p1 : Int} {p2 : Int} {K : Bool → World → Prop} {w : World} (h : f49 p0 p1 p2 K w) : callS Try.prog 49 #[(.int .i64 p0), (.int .i64 p1), (.int .i64 p2)] [(.one .bool)] K w :=
  calls_of_fn (args := [(.int .i64 p0), (.int .i64 p1), (.int .i64 p2)]) Try.f49 [] [] [] .nil (by kernel_rfl) (by kernel_rfl)
    (Eq.mp (by kernel_rfl : f49 p0 p1 p2 K w = evFn Try.prog Try.f49 [] [] [] .nil [(.int .i64 p0), (.int .i64 p1), (.int .i64 p2)] [(.one .bool)] K w) h)

/-- sallyport/span.Get -/
def f34 (p0 : Sl) (p1 : Int) (p2 : Int) (K : Int → Int → World → Prop) (w : World) : Prop :=
  cond ((decide (p2 < 1)) || (decide (p2 > 8)))
    (K 0 12 w)
    (callS Try.prog 49 #[(.int .i64 p1), (.int .i64 p2), (.int .i64 (p0.len : Int))] [(.one .bool)] (fun r1 w =>
    cond (!r1)
      (K 0 10 w)
      (semS Try.prog (Instr.sliceAt 22 (.slice p0.a p0.len p0.cap) (some (.int .i64 p1)) (some (.int .i64 (IntKind.wrap .i64 (p1 + p2)))) none) (.one .slc) (fun x2 w =>
      loopS (σ := Int × Int) (fun s3 w again4 =>
        cond (decide (s3.2 < (x2.len : Int)))
          (semS Try.prog (Instr.indexAt 22 (.slice x2.a x2.len x2.cap) (.int .i64 s3.2)) (.one .adr) (fun x5 w =>
          semS Try.prog (Instr.loadAt 5 (.pointer (some x5))) (.one (.int .u8)) (fun x6 w =>
          again4 (orI .u64 (shlI .u64 s3.1 8) (IntKind.wrap .u64 x6), IntKind.wrap .i64 (s3.2 + 1)) w) w) w)
          (cond ((shrI .u64 s3.1 63) == 1)
            (K 0 11 w)
            (K (IntKind.wrap .i64 s3.1) 0 w))) (0, 0) w) w)) w)
theorem f34_ok {p0 : Sl} {p1 : Int} {p2 : Int} {K : Int → Int → World → Prop} {w : World} (h : f34 p0 p1 p2 K w) : callS Try.prog 34 #[(.slice p0.a p0.len p0.cap), (.int .i64 p1), (.int .i64 p2)] [(.one (.int .i64)), (.one (.int .i64))] K w :=
  calls_of_fn (args := [(.slice p0.a p0.len p0.cap), (.int .i64 p1), (.int .i64 p2)]) Try.f34 [] [] [] (.two .nil (.two .nil (.two .nil (.two (.two .nil (.one (.loop [(8, (.int .u64)), (32, (.int .i64))] .nil))) .nil)))) (by kernel_rfl) (by kernel_rfl)
    (Eq.mp (by kernel_rfl : f34 p0 p1 p2 K w = evFn Try.prog Try.f34 [] [] [] (.two .nil (.two .nil (.two .nil (.two (.two .nil (.one (.loop [(8, (.int .u64)), (32, (.int .i64))] .nil))) .nil)))) [(.slice p0.a p0.len p0.cap), (.int .i64 p1), (.int .i64 p2)] [(.one (.int .i64)), (.one (.int .i64))] K w) h)

/-- sallyport/record.Parse$1 -/
def f35 (p0 : Int) (c0 : Addr) (K : Int → Int → Bool → World → Prop) (w : World) : Prop :=
  semS Try.prog (Instr.alloc 27 true (.tuple #[])) (.one .adr) (fun x1 w =>
  drawS w fun C w =>
  semQ Try.prog C (Instr.loadAt 22 (.pointer (some c0))) (.one .slc) (fun x2 =>
  semQ Try.prog C (Instr.indexAt 22 (.slice x2.a x2.len x2.cap) (.int .i64 p0)) (.one .adr) (fun x3 =>
  semQ Try.prog C (Instr.loadAt 5 (.pointer (some x3))) (.one (.int .u8)) (fun x4 =>
  semQ Try.prog C (Instr.loadAt 22 (.pointer (some c0))) (.one .slc) (fun x5 =>
  semQ Try.prog C (Instr.indexAt 22 (.slice x5.a x5.len x5.cap) (.int .i64 (IntKind.wrap .i64 (p0 + 1)))) (.one .adr) (fun x6 =>
  semQ Try.prog C (Instr.loadAt 5 (.pointer (some x6))) (.one (.int .u8)) (fun x7 =>
  semQ Try.prog C (Instr.loadAt 22 (.pointer (some c0))) (.one .slc) (fun x8 =>
  semQ Try.prog C (Instr.indexAt 22 (.slice x8.a x8.len x8.cap) (.int .i64 (IntKind.wrap .i64 (p0 + 2)))) (.one .adr) (fun x9 =>
  semQ Try.prog C (Instr.loadAt 5 (.pointer (some x9))) (.one (.int .u8)) (fun x10 =>
  semU Try.prog (Instr.storeAt 27 (.pointer (some x1)) (.agg #[(.int .i64 (IntKind.wrap .i64 x4)), (.int .i64 (IntKind.wrap .i64 x7)), (.bool (x10 == 1))])) (fun w =>
  ∃ v11, (loadVar 27 x1).run Try.prog w = .ok v11 w ∧ decR [(.agg [(.int .i64), (.int .i64), .bool])] v11 K fun r => r w) w)))))))))) w
theorem f35_ok {p0 : Int} {c0 : Addr} {K : Int → Int → Bool → World → Prop} {w : World} (h : f35 p0 c0 K w) : callS Try.prog 35 #[(.int .i64 p0), (.pointer (some c0))] [(.agg [(.int .i64), (.int .i64), .bool])] K w :=
  calls_of_fn (args := [(.int .i64 p0), (.pointer (some c0))]) Try.f35 [] [] [] (.two .nil (.two (.draw [0, 0, 3, 7, 15, 0, 0, 64, 224, 480, 992, 0, 0, 4096, 14336, 30720, 63488, 131071, 262143]) .nil)) (by kernel_rfl) (by kernel_rfl)
    (Eq.mp (by kernel_rfl : f35 p0 c0 K w = evFn Try.prog Try.f35 [] [] [] (.two .nil (.two (.draw [0, 0, 3, 7, 15, 0, 0, 64, 224, 480, 992, 0, 0, 4096, 14336, 30720, 63488, 131071, 262143]) .nil)) [(.int .i64 p0), (.pointer (some c0))] [(.agg [(.int .i64), (.int .i64), .bool])] K w) h)

/-- bytes.Equal -/
def f36 (p0 : Sl) (p1 : Sl) (K : Bool → World → Prop) (w : World) : Prop :=
  semS Try.prog (convert 22 9 (.slice p0.a p0.len p0.cap)) (.one .str) (fun x1 w =>
  semS Try.prog (convert 22 9 (.slice p1.a p1.len p1.cap)) (.one .str) (fun x2 w =>
  K (x1.toList == x2.toList) w) w) w
theorem f36_ok {p0 : Sl} {p1 : Sl} {K : Bool → World → Prop} {w : World} (h : f36 p0 p1 K w) : callS Try.prog 36 #[(.slice p0.a p0.len p0.cap), (.slice p1.a p1.len p1.cap)] [(.one .bool)] K w :=
  calls_of_fn (args := [(.slice p0.a p0.len p0.cap), (.slice p1.a p1.len p1.cap)]) Try.f36 [] [] [] .nil (by kernel_rfl) (by kernel_rfl)
    (Eq.mp (by kernel_rfl : f36 p0 p1 K w = evFn Try.prog Try.f36 [] [] [] .nil [(.slice p0.a p0.len p0.cap), (.slice p1.a p1.len p1.cap)] [(.one .bool)] K w) h)

/-- slices.Clone[[]byte,byte] -/
def f47 (p0 : Sl) (K : Sl → World → Prop) (w : World) : Prop :=
  semS Try.prog (binS .eql 22 (.tmp 3) (.const (Go.Value.slice none 0 0)) (.slice p0.a p0.len p0.cap) (.slice none 0 0)) (.one .bool) (fun x1 w =>
  cond x1
    (K (⟨none, 0, 0⟩) w)
    (semS Try.prog (Instr.buildSlice 22 0 #[]) (.one .slc) (fun x2 w =>
    semS Try.prog (Builtin.append_ #[22, 22] 22 #[(.slice x2.a x2.len x2.cap), (.slice p0.a p0.len p0.cap)]) (.one .slc) (fun r3 w =>
    K r3 w) w) w)) w
theorem f47_ok {p0 : Sl} {K : Sl → World → Prop} {w : World} (h : f47 p0 K w) : callS Try.prog 47 #[(.slice p0.a p0.len p0.cap)] [(.one .slc)] K w :=
  calls_of_fn (args := [(.slice p0.a p0.len p0.cap)]) Try.f47 [] [] [] .nil (by kernel_rfl) (by kernel_rfl)
    (Eq.mp (by kernel_rfl : f47 p0 K w = evFn Try.prog Try.f47 [] [] [] .nil [(.slice p0.a p0.len p0.cap)] [(.one .slc)] K w) h)

/-- sallyport/span.Put -/
def f50 (p0 : Sl) (p1 : Int) (p2 : Int) (K : Sl → Int → World → Prop) (w : World) : Prop :=
  cond ((decide (p1 < 1)) || (decide (p1 > 8)))
    (K (⟨none, 0, 0⟩) 12 w)
    (joinS (σ := Bool) (fun b1 w =>
      cond b1
        (K (⟨none, 0, 0⟩) 11 w)
        (callS Try.prog 47 #[(.slice p0.a p0.len p0.cap)] [(.one .slc)] (fun r3 w =>
        loopS (σ := Sl × Int) (fun s4 w again5 =>
          cond (decide (s4.2 ≥ 0))
            (semS Try.prog (binS .shr 3 (.tmp 40) (.tmp 42) (.int .i64 p2) (.int .i64 (IntKind.wrap .i64 (8 * s4.2)))) (.one (.int .i64)) (fun x6 w =>
            semS Try.prog (Instr.buildSlice 22 1 #[(0, (.int .u8 (IntKind.wrap .u8 x6)))]) (.one .slc) (fun x7 w =>
            semS Try.prog (Builtin.append_ #[22, 22] 22 #[(.slice s4.1.a s4.1.len s4.1.cap), (.slice x7.a x7.len x7.cap)]) (.one .slc) (fun r8 w =>
            again5 (r8, IntKind.wrap .i64 (s4.2 - 1)) w) w) w) w)
            (K s4.1 0 w)) (r3, IntKind.wrap .i64 (p1 - 1)) w) w)) fun J2 =>
    cond (decide (p2 < 0))
      (J2 true w)
      (joinS (σ := Bool) (fun b9 w =>
          J2 b9 w) fun J10 =>
        cond (decide (p1 < 8))
          (semS Try.prog (binS .shr 3 (.tmp 24) (.tmp 26) (.int .i64 p2) (.int .i64 (IntKind.wrap .i64 (8 * p1)))) (.one (.int .i64)) (fun x11 w =>
            J10 (x11 != 0) w) w)
          (J10 false w)))
theorem f50_ok {p0 : Sl} {p1 : Int} {p2 : Int} {K : Sl → Int → World → Prop} {w : World} (h : f50 p0 p1 p2 K w) : callS Try.prog 50 #[(.slice p0.a p0.len p0.cap), (.int .i64 p1), (.int .i64 p2)] [(.one .slc), (.one (.int .i64))] K w :=
  calls_of_fn (args := [(.slice p0.a p0.len p0.cap), (.int .i64 p1), (.int .i64 p2)]) Try.f50 [] [] [] (.two .nil (.two .nil (.two .nil (.two (.two .nil (.one (.loop [(8, .slc), (9, (.int .i64))] .nil))) .nil)))) (by kernel_rfl) (by kernel_rfl)
    (Eq.mp (by kernel_rfl : f50 p0 p1 p2 K w = evFn Try.prog Try.f50 [] [] [] (.two .nil (.two .nil (.two .nil (.two (.two .nil (.one (.loop [(8, .slc), (9, (.int .i64))] .nil))) .nil)))) [(.slice p0.a p0.len p0.cap), (.int .i64 p1), (.int .i64 p2)] [(.one .slc), (.one (.int .i64))] K w) h)

/-- (sallyport/record.Record).bytes -/
def f37 (p0_0 : Int) (p0_1 : Int) (p0_2 : Bool) (p0_3 : Int) (p0_4 : Int) (p0_5 : Bool) (K : Sl → World → Prop) (w : World) : Prop :=
  semS Try.prog (Instr.box 29 (.agg #[(.int .i64 p0_0), (.int .i64 p0_1), (.bool p0_2), (.int .i64 p0_3), (.int .i64 p0_4), (.bool p0_5)])) (.one .adr) (fun x1 w =>
  semS Try.prog (Instr.buildSlice 22 4 #[(0, (.int .u8 0)), (1, (.int .u8 65)), (2, (.int .u8 66)), (3, (.int .u8 48))]) (.one .slc) (fun x2 w =>
  semS Try.prog (convert 22 22 (.slice x2.a x2.len x2.cap)) (.one .slc) (fun x3 w =>
  semS Try.prog (Instr.buildSlice 22 1 #[(0, (.int .u8 1))]) (.one .slc) (fun x4 w =>
  semS Try.prog (Builtin.append_ #[22, 22] 22 #[(.slice x3.a x3.len x3.cap), (.slice x4.a x4.len x4.cap)]) (.one .slc) (fun r5 w =>
  semS Try.prog (Instr.loadAt 27 (.pointer (some (x1.add 0)))) (.agg [(.int .i64), (.int .i64), .bool]) (fun x6 x7 x8 w =>
  semS Try.prog (Instr.loadAt 27 (.pointer (some (x1.add 3)))) (.agg [(.int .i64), (.int .i64), .bool]) (fun x9 x10 x11 w =>
  loopS (σ := Sl × Int) (fun s12 w again13 =>
    cond (decide (s12.2 < 2))
      (semS Try.prog (Instr.index 90 (.agg #[(.int .i64 x6), (.int .i64 x7), (.bool x8), (.int .i64 x9), (.int .i64 x10), (.bool x11)]) (.int .i64 s12.2)) (.agg [(.int .i64), (.int .i64), .bool]) (fun x14 x15 x16 w =>
      semS Try.prog (Instr.alloc 27 true (.tuple #[])) (.one .adr) (fun x17 w =>
      semU Try.prog (Instr.storeAt 27 (.pointer (some x17)) (.agg #[(.int .i64 x14), (.int .i64 x15), (.bool x16)])) (fun w =>
      joinS (σ := Int) (fun x18 w =>
        semS Try.prog (Instr.loadAt 3 (.pointer (some (x17.add 0)))) (.one (.int .i64)) (fun x20 w =>
        semS Try.prog (Instr.loadAt 3 (.pointer (some (x17.add 1)))) (.one (.int .i64)) (fun x21 w =>
        semS Try.prog (Instr.buildSlice 22 4 #[(0, (.int .u8 (IntKind.wrap .u8 x20))), (1, (.int .u8 (IntKind.wrap .u8 x21))), (2, (.int .u8 x18)), (3, (.int .u8 0))]) (.one .slc) (fun x22 w =>
        semS Try.prog (Builtin.append_ #[22, 22] 22 #[(.slice s12.1.a s12.1.len s12.1.cap), (.slice x22.a x22.len x22.cap)]) (.one .slc) (fun r23 w =>
        again13 (r23, IntKind.wrap .i64 (s12.2 + 1)) w) w) w) w) w) fun J19 =>
      semS Try.prog (Instr.loadAt 4 (.pointer (some (x17.add 2)))) (.one .bool) (fun x24 w =>
      cond x24
        (J19 1 w)
        (J19 0 w)) w) w) w) w)
      (semS Try.prog (Builtin.append_ #[22, 3] 22 #[(.slice s12.1.a s12.1.len s12.1.cap), (.int .i64 (IntKind.wrap .i64 (28 - (s12.1.len : Int))))]) (.one .slc) (fun r25 w =>
      callS Try.prog 11 #[(.slice r25.a r25.len r25.cap)] [(.one (.int .i64))] (fun r26 w =>
      callS Try.prog 50 #[(.slice r25.a r25.len r25.cap), (.int .i64 4), (.int .i64 r26)] [(.one .slc), (.one (.int .i64))] (fun r27 r28 w =>
      K r27 w) w) w) w)) (r5, 0) w) w) w) w) w) w) w) w
theorem f37_ok {p0_0 : Int} {p0_1 : Int} {p0_2 : Bool} {p0_3 : Int} {p0_4 : Int} {p0_5 : Bool} {K : Sl → World → Prop} {w : World} (h : f37 p0_0 p0_1 p0_2 p0_3 p0_4 p0_5 K w) : callS Try.prog 37 #[(.agg #[(.int .i64 p0_0), (.int .i64 p0_1), (.bool p0_2), (.int .i64 p0_3), (.int .i64 p0_4), (.bool p0_5)])] [(.one .slc)] K w :=
  calls_of_fn (args := [(.agg #[(.int .i64 p0_0), (.int .i64 p0_1), (.bool p0_2), (.int .i64 p0_3), (.int .i64 p0_4), (.bool p0_5)])]) Try.f37 [] [] [] (.two .nil (.two .nil (.two (.two .nil (.one (.loop [(3, .slc), (16, (.int .i64))] (.two .nil (.two .nil (.two (.one (.two .nil (.two .nil (.join [(6, (.int .u8))] .nil .nil)))) .nil)))))) .nil))) (by kernel_rfl) (by kernel_rfl)
    (Eq.mp (by kernel_rfl : f37 p0_0 p0_1 p0_2 p0_3 p0_4 p0_5 K w = evFn Try.prog Try.f37 [] [] [] (.two .nil (.two .nil (.two (.two .nil (.one (.loop [(3, .slc), (16, (.int .i64))] (.two .nil (.two .nil (.two (.one (.two .nil (.two .nil (.join [(6, (.int .u8))] .nil .nil)))) .nil)))))) .nil))) [(.agg #[(.int .i64 p0_0), (.int .i64 p0_1), (.bool p0_2), (.int .i64 p0_3), (.int .i64 p0_4), (.bool p0_5)])] [(.one .slc)] K w) h)

/-- sallyport/record.Parse -/
def f20 (p0 : Sl) (K : Int → Int → Bool → Int → Int → Bool → Int → World → Prop) (w : World) : Prop :=
  semS Try.prog (Instr.box 22 (.slice p0.a p0.len p0.cap)) (.one .adr) (fun x1 w =>
  semS Try.prog (Instr.alloc 29 true (.tuple #[])) (.one .adr) (fun x2 w =>
  semS Try.prog (Instr.loadAt 22 (.pointer (some x1))) (.one .slc) (fun x3 w =>
  cond ((x3.len : Int) != 32)
    (semU Try.prog (Instr.storeAt 29 (.pointer (some x2)) (.agg #[(.int .i64 0), (.int .i64 0), (.bool false), (.int .i64 0), (.int .i64 0), (.bool false)])) (fun w =>
    ∃ v4, (loadVar 29 x2).run Try.prog w = .ok v4 w ∧ decR [(.agg [(.int .i64), (.int .i64), .bool, (.int .i64), (.int .i64), .bool]), (.one (.int .i64))] (.tuple #[v4, (.int .i64 10)]) K fun r => r w) w)
    (semS Try.prog (Instr.loadAt 22 (.pointer (some x1))) (.one .slc) (fun x5 w =>
    semS Try.prog (Instr.sliceAt 22 (.slice x5.a x5.len x5.cap) none (some (.int .i64 4)) none) (.one .slc) (fun x6 w =>
    semS Try.prog (convert 22 9 (.slice x6.a x6.len x6.cap)) (.one .str) (fun x7 w =>
    cond (!(x7.toList == (ByteArray.mk #[0, 65, 66, 48]).toList))
      (semU Try.prog (Instr.storeAt 29 (.pointer (some x2)) (.agg #[(.int .i64 0), (.int .i64 0), (.bool false), (.int .i64 0), (.int .i64 0), (.bool false)])) (fun w =>
      ∃ v8, (loadVar 29 x2).run Try.prog w = .ok v8 w ∧ decR [(.agg [(.int .i64), (.int .i64), .bool, (.int .i64), (.int .i64), .bool]), (.one (.int .i64))] (.tuple #[v8, (.int .i64 30)]) K fun r => r w) w)
      (semS Try.prog (Instr.loadAt 22 (.pointer (some x1))) (.one .slc) (fun x9 w =>
      semS Try.prog (Instr.indexAt 22 (.slice x9.a x9.len x9.cap) (.int .i64 4)) (.one .adr) (fun x10 w =>
      semS Try.prog (Instr.loadAt 5 (.pointer (some x10))) (.one (.int .u8)) (fun x11 w =>
      cond (x11 != 1)
        (semU Try.prog (Instr.storeAt 29 (.pointer (some x2)) (.agg #[(.int .i64 0), (.int .i64 0), (.bool false), (.int .i64 0), (.int .i64 0), (.bool false)])) (fun w =>
        ∃ v12, (loadVar 29 x2).run Try.prog w = .ok v12 w ∧ decR [(.agg [(.int .i64), (.int .i64), .bool, (.int .i64), (.int .i64), .bool]), (.one (.int .i64))] (.tuple #[v12, (.int .i64 31)]) K fun r => r w) w)
        (semS Try.prog (Instr.loadAt 22 (.pointer (some x1))) (.one .slc) (fun x13 w =>
        callS Try.prog 34 #[(.slice x13.a x13.len x13.cap), (.int .i64 28), (.int .i64 4)] [(.one (.int .i64)), (.one (.int .i64))] (fun r14 r15 w =>
        semS Try.prog (Instr.loadAt 22 (.pointer (some x1))) (.one .slc) (fun x16 w =>
        semS Try.prog (Instr.sliceAt 22 (.slice x16.a x16.len x16.cap) none (some (.int .i64 28)) none) (.one .slc) (fun x17 w =>
        callS Try.prog 11 #[(.slice x17.a x17.len x17.cap)] [(.one (.int .i64))] (fun r18 w =>
        cond (r14 != r18)
          (semU Try.prog (Instr.storeAt 29 (.pointer (some x2)) (.agg #[(.int .i64 0), (.int .i64 0), (.bool false), (.int .i64 0), (.int .i64 0), (.bool false)])) (fun w =>
          ∃ v19, (loadVar 29 x2).run Try.prog w = .ok v19 w ∧ decR [(.agg [(.int .i64), (.int .i64), .bool, (.int .i64), (.int .i64), .bool]), (.one (.int .i64))] (.tuple #[v19, (.int .i64 55)]) K fun r => r w) w)
          (callS Try.prog 35 #[(.int .i64 5), (.pointer (some x1))] [(.agg [(.int .i64), (.int .i64), .bool])] (fun r20 r21 r22 w =>
          callS Try.prog 35 #[(.int .i64 9), (.pointer (some x1))] [(.agg [(.int .i64), (.int .i64), .bool])] (fun r23 r24 r25 w =>
          semS Try.prog (Instr.alloc 29 true (.tuple #[])) (.one .adr) (fun x26 w =>
          semU Try.prog (Instr.storeAt 29 (.pointer (some x26)) (.agg #[(.int .i64 r20), (.int .i64 r21), (.bool r22), (.int .i64 r23), (.int .i64 r24), (.bool r25)])) (fun w =>
          drawS w fun C w =>
          semQ Try.prog C (Instr.loadAt 29 (.pointer (some x26))) (.agg [(.int .i64), (.int .i64), .bool, (.int .i64), (.int .i64), .bool]) (fun x27 x28 x29 x30 x31 x32 =>
          callS Try.prog 23 #[(.agg #[(.int .i64 x27), (.int .i64 x28), (.bool x29), (.int .i64 x30), (.int .i64 x31), (.bool x32)])] [(.one .bool)] (fun r33 w =>
          moreS C w (fun C =>
          cond (!r33)
            (semU Try.prog (Instr.storeAt 29 (.pointer (some x2)) (.agg #[(.int .i64 0), (.int .i64 0), (.bool false), (.int .i64 0), (.int .i64 0), (.bool false)])) (fun w =>
            ∃ v34, (loadVar 29 x2).run Try.prog w = .ok v34 w ∧ decR [(.agg [(.int .i64), (.int .i64), .bool, (.int .i64), (.int .i64), .bool]), (.one (.int .i64))] (.tuple #[v34, (.int .i64 12)]) K fun r => r w) w)
            (semQ Try.prog C (Instr.loadAt 29 (.pointer (some x26))) (.agg [(.int .i64), (.int .i64), .bool, (.int .i64), (.int .i64), .bool]) (fun x35 x36 x37 x38 x39 x40 =>
            semQ Try.prog C (Instr.loadAt 22 (.pointer (some x1))) (.one .slc) (fun x41 =>
            callS Try.prog 37 #[(.agg #[(.int .i64 x35), (.int .i64 x36), (.bool x37), (.int .i64 x38), (.int .i64 x39), (.bool x40)])] [(.one .slc)] (fun r42 w =>
            moreS C w (fun C =>
            callS Try.prog 36 #[(.slice r42.a r42.len r42.cap), (.slice x41.a x41.len x41.cap)] [(.one .bool)] (fun r43 w =>
            cond (!r43)
              (semU Try.prog (Instr.storeAt 29 (.pointer (some x2)) (.agg #[(.int .i64 0), (.int .i64 0), (.bool false), (.int .i64 0), (.int .i64 0), (.bool false)])) (fun w =>
              ∃ v44, (loadVar 29 x2).run Try.prog w = .ok v44 w ∧ decR [(.agg [(.int .i64), (.int .i64), .bool, (.int .i64), (.int .i64), .bool]), (.one (.int .i64))] (.tuple #[v44, (.int .i64 12)]) K fun r => r w) w)
              (semS Try.prog (Instr.loadAt 29 (.pointer (some x26))) (.agg [(.int .i64), (.int .i64), .bool, (.int .i64), (.int .i64), .bool]) (fun x45 x46 x47 x48 x49 x50 w =>
              semU Try.prog (Instr.storeAt 29 (.pointer (some x2)) (.agg #[(.int .i64 x45), (.int .i64 x46), (.bool x47), (.int .i64 x48), (.int .i64 x49), (.bool x50)])) (fun w =>
              ∃ v51, (loadVar 29 x2).run Try.prog w = .ok v51 w ∧ decR [(.agg [(.int .i64), (.int .i64), .bool, (.int .i64), (.int .i64), .bool]), (.one (.int .i64))] (.tuple #[v51, (.int .i64 0)]) K fun r => r w) w) w)) w)) w))))) w)) w) w) w) w)) w) w) w) w) w)) w) w) w)) w) w) w)) w) w) w
theorem f20_ok {p0 : Sl} {K : Int → Int → Bool → Int → Int → Bool → Int → World → Prop} {w : World} (h : f20 p0 K w) : callS Try.prog 20 #[(.slice p0.a p0.len p0.cap)] [(.agg [(.int .i64), (.int .i64), .bool, (.int .i64), (.int .i64), .bool]), (.one (.int .i64))] K w :=
  calls_of_fn (args := [(.slice p0.a p0.len p0.cap)]) Try.f20 [] [] [] (.two .nil (.two .nil (.two .nil (.two .nil (.two .nil (.two (.two (.draw [0, 1, 3, 7, 15, 31, 15, 127, 255, 511]) .nil) .nil)))))) (by kernel_rfl) (by kernel_rfl)
    (Eq.mp (by kernel_rfl : f20 p0 K w = evFn Try.prog Try.f20 [] [] [] (.two .nil (.two .nil (.two .nil (.two .nil (.two .nil (.two (.two (.draw [0, 1, 3, 7, 15, 31, 15, 127, 255, 511]) .nil) .nil)))))) [(.slice p0.a p0.len p0.cap)] [(.agg [(.int .i64), (.int .i64), .bool, (.int .i64), (.int .i64), .bool]), (.one (.int .i64))] K w) h)

/-- (sallyport/sallyportref16.Half).Right -/
def f40 (p0_0 : Int) (p0_1 : Int) (p0_2 : Bool) (K : Bool → World → Prop) (w : World) : Prop :=
  semS Try.prog (Instr.box 34 (.agg #[(.int .i64 p0_0), (.int .i64 p0_1), (.bool p0_2)])) (.one .adr) (fun x1 w =>
  semS Try.prog (Instr.loadAt 3 (.pointer (some (x1.add 0)))) (.one (.int .i64)) (fun x2 w =>
  joinS (σ := Bool) (fun b3 w =>
    joinS (σ := Bool) (fun b5 w =>
      joinS (σ := Bool) (fun b7 w =>
        joinS (σ := Bool) (fun b9 w =>
          K b9 w) fun J10 =>
        cond b7
          (semS Try.prog (Instr.loadAt 4 (.pointer (some (x1.add 2)))) (.one .bool) (fun x11 w =>
            joinS (σ := Bool) (fun b12 w =>
              J10 b12 w) fun J13 =>
            cond (!x11)
              (J13 true w)
              (semS Try.prog (Instr.loadAt 3 (.pointer (some (x1.add 1)))) (.one (.int .i64)) (fun x14 w =>
                J13 (x14 == 0) w) w)) w)
          (J10 false w)) fun J8 =>
      cond b5
        (semS Try.prog (Instr.loadAt 3 (.pointer (some (x1.add 1)))) (.one (.int .i64)) (fun x15 w =>
          J8 (decide (x15 ≤ 7)) w) w)
        (J8 false w)) fun J6 =>
    cond b3
      (semS Try.prog (Instr.loadAt 3 (.pointer (some (x1.add 1)))) (.one (.int .i64)) (fun x16 w =>
        J6 (decide (x16 ≥ 0)) w) w)
      (J6 false w)) fun J4 =>
  cond (decide (x2 ≥ 0))
    (semS Try.prog (Instr.loadAt 3 (.pointer (some (x1.add 0)))) (.one (.int .i64)) (fun x17 w =>
      J4 (decide (x17 ≤ 15)) w) w)
    (J4 false w)) w) w
theorem f40_ok {p0_0 : Int} {p0_1 : Int} {p0_2 : Bool} {K : Bool → World → Prop} {w : World} (h : f40 p0_0 p0_1 p0_2 K w) : callS Try.prog 40 #[(.agg #[(.int .i64 p0_0), (.int .i64 p0_1), (.bool p0_2)])] [(.one .bool)] K w :=
  calls_of_fn (args := [(.agg #[(.int .i64 p0_0), (.int .i64 p0_1), (.bool p0_2)])]) Try.f40 [] [] [] .nil (by kernel_rfl) (by kernel_rfl)
    (Eq.mp (by kernel_rfl : f40 p0_0 p0_1 p0_2 K w = evFn Try.prog Try.f40 [] [] [] .nil [(.agg #[(.int .i64 p0_0), (.int .i64 p0_1), (.bool p0_2)])] [(.one .bool)] K w) h)

/-- (sallyport/sallyportref16.Record).Right -/
def f24 (p0_0 : Int) (p0_1 : Int) (p0_2 : Bool) (p0_3 : Int) (p0_4 : Int) (p0_5 : Bool) (K : Bool → World → Prop) (w : World) : Prop :=
  semS Try.prog (Instr.box 36 (.agg #[(.int .i64 p0_0), (.int .i64 p0_1), (.bool p0_2), (.int .i64 p0_3), (.int .i64 p0_4), (.bool p0_5)])) (.one .adr) (fun x1 w =>
  semS Try.prog (Instr.loadAt 34 (.pointer (some (x1.add 0)))) (.agg [(.int .i64), (.int .i64), .bool]) (fun x2 x3 x4 w =>
  callS Try.prog 40 #[(.agg #[(.int .i64 x2), (.int .i64 x3), (.bool x4)])] [(.one .bool)] (fun r5 w =>
  joinS (σ := Bool) (fun b6 w =>
    K b6 w) fun J7 =>
  cond r5
    (semS Try.prog (Instr.loadAt 34 (.pointer (some (x1.add 3)))) (.agg [(.int .i64), (.int .i64), .bool]) (fun x8 x9 x10 w =>
      callS Try.prog 40 #[(.agg #[(.int .i64 x8), (.int .i64 x9), (.bool x10)])] [(.one .bool)] (fun r11 w =>
      J7 r11 w) w) w)
    (J7 false w)) w) w) w
theorem f24_ok {p0_0 : Int} {p0_1 : Int} {p0_2 : Bool} {p0_3 : Int} {p0_4 : Int} {p0_5 : Bool} {K : Bool → World → Prop} {w : World} (h : f24 p0_0 p0_1 p0_2 p0_3 p0_4 p0_5 K w) : callS Try.prog 24 #[(.agg #[(.int .i64 p0_0), (.int .i64 p0_1), (.bool p0_2), (.int .i64 p0_3), (.int .i64 p0_4), (.bool p0_5)])] [(.one .bool)] K w :=
  calls_of_fn (args := [(.agg #[(.int .i64 p0_0), (.int .i64 p0_1), (.bool p0_2), (.int .i64 p0_3), (.int .i64 p0_4), (.bool p0_5)])]) Try.f24 [] [] [] .nil (by kernel_rfl) (by kernel_rfl)
    (Eq.mp (by kernel_rfl : f24 p0_0 p0_1 p0_2 p0_3 p0_4 p0_5 K w = evFn Try.prog Try.f24 [] [] [] .nil [(.agg #[(.int .i64 p0_0), (.int .i64 p0_1), (.bool p0_2), (.int .i64 p0_3), (.int .i64 p0_4), (.bool p0_5)])] [(.one .bool)] K w) h)

/-- (sallyport/sallyportref16.Half).bytes -/
def f41 (p0_0 : Int) (p0_1 : Int) (p0_2 : Bool) (K : Sl → World → Prop) (w : World) : Prop :=
  semS Try.prog (Instr.box 34 (.agg #[(.int .i64 p0_0), (.int .i64 p0_1), (.bool p0_2)])) (.one .adr) (fun x1 w =>
  semS Try.prog (Instr.loadAt 3 (.pointer (some (x1.add 0)))) (.one (.int .i64)) (fun x2 w =>
  semS Try.prog (Instr.loadAt 3 (.pointer (some (x1.add 1)))) (.one (.int .i64)) (fun x3 w =>
  semS Try.prog (Instr.buildSlice 22 4 #[(0, (.int .u8 (IntKind.wrap .u8 x2))), (1, (.int .u8 (IntKind.wrap .u8 x3))), (2, (.int .u8 0)), (3, (.int .u8 0))]) (.one .slc) (fun x4 w =>
  semS Try.prog (Instr.loadAt 4 (.pointer (some (x1.add 2)))) (.one .bool) (fun x5 w =>
  cond x5
    (semS Try.prog (Instr.indexAt 22 (.slice x4.a x4.len x4.cap) (.int .i64 2)) (.one .adr) (fun x6 w =>
    semU Try.prog (Instr.storeAt 5 (.pointer (some x6)) (.int .u8 1)) (fun w =>
    K x4 w) w) w)
    (K x4 w)) w) w) w) w) w
theorem f41_ok {p0_0 : Int} {p0_1 : Int} {p0_2 : Bool} {K : Sl → World → Prop} {w : World} (h : f41 p0_0 p0_1 p0_2 K w) : callS Try.prog 41 #[(.agg #[(.int .i64 p0_0), (.int .i64 p0_1), (.bool p0_2)])] [(.one .slc)] K w :=
  calls_of_fn (args := [(.agg #[(.int .i64 p0_0), (.int .i64 p0_1), (.bool p0_2)])]) Try.f41 [] [] [] .nil (by kernel_rfl) (by kernel_rfl)
    (Eq.mp (by kernel_rfl : f41 p0_0 p0_1 p0_2 K w = evFn Try.prog Try.f41 [] [] [] .nil [(.agg #[(.int .i64 p0_0), (.int .i64 p0_1), (.bool p0_2)])] [(.one .slc)] K w) h)

/-- sallyport/sallyportref12.Number -/
def f42 (p0 : Int) (p1 : Int) (K : Sl → World → Prop) (w : World) : Prop :=
  semS Try.prog (Instr.makeSlice 22 (.int .i64 p1) (.int .i64 p1)) (.one .slc) (fun x1 w =>
  loopS (σ := Int × Int) (fun s2 w again3 =>
    cond (decide (s2.2 ≥ 0))
      (semS Try.prog (Instr.indexAt 22 (.slice x1.a x1.len x1.cap) (.int .i64 s2.2)) (.one .adr) (fun x4 w =>
      semU Try.prog (Instr.storeAt 5 (.pointer (some x4)) (.int .u8 (IntKind.wrap .u8 (Int.tmod s2.1 256)))) (fun w =>
      again3 (IntKind.wrap .i64 (Int.tdiv s2.1 256), IntKind.wrap .i64 (s2.2 - 1)) w) w) w)
      (K x1 w)) (p0, IntKind.wrap .i64 (p1 - 1)) w) w
theorem f42_ok {p0 : Int} {p1 : Int} {K : Sl → World → Prop} {w : World} (h : f42 p0 p1 K w) : callS Try.prog 42 #[(.int .i64 p0), (.int .i64 p1)] [(.one .slc)] K w :=
  calls_of_fn (args := [(.int .i64 p0), (.int .i64 p1)]) Try.f42 [] [] [] (.two .nil (.two .nil (.two (.two .nil (.one (.loop [(0, (.int .i64)), (6, (.int .i64))] .nil))) .nil))) (by kernel_rfl) (by kernel_rfl)
    (Eq.mp (by kernel_rfl : f42 p0 p1 K w = evFn Try.prog Try.f42 [] [] [] (.two .nil (.two .nil (.two (.two .nil (.one (.loop [(0, (.int .i64)), (6, (.int .i64))] .nil))) .nil))) [(.int .i64 p0), (.int .i64 p1)] [(.one .slc)] K w) h)

/-- (sallyport/sallyportref16.Record).Bytes -/
def f25 (p0_0 : Int) (p0_1 : Int) (p0_2 : Bool) (p0_3 : Int) (p0_4 : Int) (p0_5 : Bool) (K : Sl → World → Prop) (w : World) : Prop :=
  semS Try.prog (Instr.box 36 (.agg #[(.int .i64 p0_0), (.int .i64 p0_1), (.bool p0_2), (.int .i64 p0_3), (.int .i64 p0_4), (.bool p0_5)])) (.one .adr) (fun x1 w =>
  semS Try.prog (Instr.buildSlice 22 5 #[(0, (.int .u8 0)), (1, (.int .u8 65)), (2, (.int .u8 66)), (3, (.int .u8 48)), (4, (.int .u8 1))]) (.one .slc) (fun x2 w =>
  semS Try.prog (convert 22 22 (.slice x2.a x2.len x2.cap)) (.one .slc) (fun x3 w =>
  semS Try.prog (Instr.loadAt 34 (.pointer (some (x1.add 0)))) (.agg [(.int .i64), (.int .i64), .bool]) (fun x4 x5 x6 w =>
  callS Try.prog 41 #[(.agg #[(.int .i64 x4), (.int .i64 x5), (.bool x6)])] [(.one .slc)] (fun r7 w =>
  semS Try.prog (Builtin.append_ #[22, 22] 22 #[(.slice x3.a x3.len x3.cap), (.slice r7.a r7.len r7.cap)]) (.one .slc) (fun r8 w =>
  semS Try.prog (Instr.loadAt 34 (.pointer (some (x1.add 3)))) (.agg [(.int .i64), (.int .i64), .bool]) (fun x9 x10 x11 w =>
  callS Try.prog 41 #[(.agg #[(.int .i64 x9), (.int .i64 x10), (.bool x11)])] [(.one .slc)] (fun r12 w =>
  semS Try.prog (Builtin.append_ #[22, 22] 22 #[(.slice r8.a r8.len r8.cap), (.slice r12.a r12.len r12.cap)]) (.one .slc) (fun r13 w =>
  loopS (σ := Sl) (fun x14 w again15 =>
    cond (decide ((x14.len : Int) < 28))
      (semS Try.prog (Instr.buildSlice 22 1 #[(0, (.int .u8 0))]) (.one .slc) (fun x16 w =>
      semS Try.prog (Builtin.append_ #[22, 22] 22 #[(.slice x14.a x14.len x14.cap), (.slice x16.a x16.len x16.cap)]) (.one .slc) (fun r17 w =>
      again15 r17 w) w) w)
      (callS Try.prog 12 #[(.slice x14.a x14.len x14.cap)] [(.one (.int .i64))] (fun r18 w =>
      callS Try.prog 42 #[(.int .i64 r18), (.int .i64 4)] [(.one .slc)] (fun r19 w =>
      semS Try.prog (Builtin.append_ #[22, 22] 22 #[(.slice x14.a x14.len x14.cap), (.slice r19.a r19.len r19.cap)]) (.one .slc) (fun r20 w =>
      K r20 w) w) w) w)) r13 w) w) w) w) w) w) w) w) w) w
theorem f25_ok {p0_0 : Int} {p0_1 : Int} {p0_2 : Bool} {p0_3 : Int} {p0_4 : Int} {p0_5 : Bool} {K : Sl → World → Prop} {w : World} (h : f25 p0_0 p0_1 p0_2 p0_3 p0_4 p0_5 K w) : callS Try.prog 25 #[(.agg #[(.int .i64 p0_0), (.int .i64 p0_1), (.bool p0_2), (.int .i64 p0_3), (.int .i64 p0_4), (.bool p0_5)])] [(.one .slc)] K w :=
  calls_of_fn (args := [(.agg #[(.int .i64 p0_0), (.int .i64 p0_1), (.bool p0_2), (.int .i64 p0_3), (.int .i64 p0_4), (.bool p0_5)])]) Try.f25 [] [] [] (.two .nil (.two .nil (.two .nil (.two .nil (.two (.one (.loop [(3, .slc)] .nil)) .nil))))) (by kernel_rfl) (by kernel_rfl)
    (Eq.mp (by kernel_rfl : f25 p0_0 p0_1 p0_2 p0_3 p0_4 p0_5 K w = evFn Try.prog Try.f25 [] [] [] (.two .nil (.two .nil (.two .nil (.two .nil (.two (.one (.loop [(3, .slc)] .nil)) .nil))))) [(.agg #[(.int .i64 p0_0), (.int .i64 p0_1), (.bool p0_2), (.int .i64 p0_3), (.int .i64 p0_4), (.bool p0_5)])] [(.one .slc)] K w) h)

/-- sallyport/sallyportref12.Get -/
def f38 (p0 : Sl) (p1 : Int) (p2 : Int) (K : Int → World → Prop) (w : World) : Prop :=
  loopS (σ := Int × Int) (fun s1 w again2 =>
    cond (decide (s1.2 < (IntKind.wrap .i64 (p1 + p2))))
      (cond (decide (s1.1 > 18014398509481984))
        (K (-1) w)
        (semS Try.prog (Instr.indexAt 22 (.slice p0.a p0.len p0.cap) (.int .i64 s1.2)) (.one .adr) (fun x3 w =>
        semS Try.prog (Instr.loadAt 5 (.pointer (some x3))) (.one (.int .u8)) (fun x4 w =>
        again2 (IntKind.wrap .i64 ((IntKind.wrap .i64 (s1.1 * 256)) + (IntKind.wrap .i64 x4)), IntKind.wrap .i64 (s1.2 + 1)) w) w) w))
      (K s1.1 w)) (0, p1) w
theorem f38_ok {p0 : Sl} {p1 : Int} {p2 : Int} {K : Int → World → Prop} {w : World} (h : f38 p0 p1 p2 K w) : callS Try.prog 38 #[(.slice p0.a p0.len p0.cap), (.int .i64 p1), (.int .i64 p2)] [(.one (.int .i64))] K w :=
  calls_of_fn (args := [(.slice p0.a p0.len p0.cap), (.int .i64 p1), (.int .i64 p2)]) Try.f38 [] [] [] (.two .nil (.two .nil (.two (.two .nil (.one (.loop [(7, (.int .i64)), (8, (.int .i64))] .nil))) .nil))) (by kernel_rfl) (by kernel_rfl)
    (Eq.mp (by kernel_rfl : f38 p0 p1 p2 K w = evFn Try.prog Try.f38 [] [] [] (.two .nil (.two .nil (.two (.two .nil (.one (.loop [(7, (.int .i64)), (8, (.int .i64))] .nil))) .nil))) [(.slice p0.a p0.len p0.cap), (.int .i64 p1), (.int .i64 p2)] [(.one (.int .i64))] K w) h)

/-- sallyport/sallyportref16.Parse -/
def f21 (p0 : Sl) (K : Int → Int → Bool → Int → Int → Bool → Int → World → Prop) (w : World) : Prop :=
  semS Try.prog (Instr.alloc 36 true (.tuple #[])) (.one .adr) (fun x1 w =>
  cond ((p0.len : Int) != 32)
    (semU Try.prog (Instr.storeAt 36 (.pointer (some x1)) (.agg #[(.int .i64 0), (.int .i64 0), (.bool false), (.int .i64 0), (.int .i64 0), (.bool false)])) (fun w =>
    ∃ v2, (loadVar 36 x1).run Try.prog w = .ok v2 w ∧ decR [(.agg [(.int .i64), (.int .i64), .bool, (.int .i64), (.int .i64), .bool]), (.one (.int .i64))] (.tuple #[v2, (.int .i64 10)]) K fun r => r w) w)
    (semS Try.prog (Instr.sliceAt 22 (.slice p0.a p0.len p0.cap) none (some (.int .i64 4)) none) (.one .slc) (fun x3 w =>
    semS Try.prog (convert 22 9 (.slice x3.a x3.len x3.cap)) (.one .str) (fun x4 w =>
    cond (!(x4.toList == (ByteArray.mk #[0, 65, 66, 48]).toList))
      (semU Try.prog (Instr.storeAt 36 (.pointer (some x1)) (.agg #[(.int .i64 0), (.int .i64 0), (.bool false), (.int .i64 0), (.int .i64 0), (.bool false)])) (fun w =>
      ∃ v5, (loadVar 36 x1).run Try.prog w = .ok v5 w ∧ decR [(.agg [(.int .i64), (.int .i64), .bool, (.int .i64), (.int .i64), .bool]), (.one (.int .i64))] (.tuple #[v5, (.int .i64 30)]) K fun r => r w) w)
      (semS Try.prog (Instr.indexAt 22 (.slice p0.a p0.len p0.cap) (.int .i64 4)) (.one .adr) (fun x6 w =>
      semS Try.prog (Instr.loadAt 5 (.pointer (some x6))) (.one (.int .u8)) (fun x7 w =>
      cond (x7 != 1)
        (semU Try.prog (Instr.storeAt 36 (.pointer (some x1)) (.agg #[(.int .i64 0), (.int .i64 0), (.bool false), (.int .i64 0), (.int .i64 0), (.bool false)])) (fun w =>
        ∃ v8, (loadVar 36 x1).run Try.prog w = .ok v8 w ∧ decR [(.agg [(.int .i64), (.int .i64), .bool, (.int .i64), (.int .i64), .bool]), (.one (.int .i64))] (.tuple #[v8, (.int .i64 31)]) K fun r => r w) w)
        (drawS w fun C w =>
        semQ Try.prog C (Instr.sliceAt 22 (.slice p0.a p0.len p0.cap) none (some (.int .i64 28)) none) (.one .slc) (fun x9 =>
        callS Try.prog 38 #[(.slice p0.a p0.len p0.cap), (.int .i64 28), (.int .i64 4)] [(.one (.int .i64))] (fun r10 w =>
        moreS C w (fun C =>
        callS Try.prog 12 #[(.slice x9.a x9.len x9.cap)] [(.one (.int .i64))] (fun r11 w =>
        cond (r10 != r11)
          (semU Try.prog (Instr.storeAt 36 (.pointer (some x1)) (.agg #[(.int .i64 0), (.int .i64 0), (.bool false), (.int .i64 0), (.int .i64 0), (.bool false)])) (fun w =>
          ∃ v12, (loadVar 36 x1).run Try.prog w = .ok v12 w ∧ decR [(.agg [(.int .i64), (.int .i64), .bool, (.int .i64), (.int .i64), .bool]), (.one (.int .i64))] (.tuple #[v12, (.int .i64 55)]) K fun r => r w) w)
          (drawS w fun C w =>
          semQ Try.prog C (Instr.indexAt 22 (.slice p0.a p0.len p0.cap) (.int .i64 5)) (.one .adr) (fun x13 =>
          semQ Try.prog C (Instr.loadAt 5 (.pointer (some x13))) (.one (.int .u8)) (fun x14 =>
          semQ Try.prog C (Instr.indexAt 22 (.slice p0.a p0.len p0.cap) (.int .i64 6)) (.one .adr) (fun x15 =>
          semQ Try.prog C (Instr.loadAt 5 (.pointer (some x15))) (.one (.int .u8)) (fun x16 =>
          semQ Try.prog C (Instr.indexAt 22 (.slice p0.a p0.len p0.cap) (.int .i64 7)) (.one .adr) (fun x17 =>
          semQ Try.prog C (Instr.loadAt 5 (.pointer (some x17))) (.one (.int .u8)) (fun x18 =>
          semQ Try.prog C (Instr.indexAt 22 (.slice p0.a p0.len p0.cap) (.int .i64 9)) (.one .adr) (fun x19 =>
          semQ Try.prog C (Instr.loadAt 5 (.pointer (some x19))) (.one (.int .u8)) (fun x20 =>
          semQ Try.prog C (Instr.indexAt 22 (.slice p0.a p0.len p0.cap) (.int .i64 10)) (.one .adr) (fun x21 =>
          semQ Try.prog C (Instr.loadAt 5 (.pointer (some x21))) (.one (.int .u8)) (fun x22 =>
          semQ Try.prog C (Instr.indexAt 22 (.slice p0.a p0.len p0.cap) (.int .i64 11)) (.one .adr) (fun x23 =>
          semQ Try.prog C (Instr.loadAt 5 (.pointer (some x23))) (.one (.int .u8)) (fun x24 =>
          semS Try.prog (Instr.alloc 36 true (.tuple #[])) (.one .adr) (fun x25 w =>
          moreS C w (fun C =>
          semU Try.prog (Instr.storeAt 36 (.pointer (some x25)) (.agg #[(.int .i64 (IntKind.wrap .i64 x14)), (.int .i64 (IntKind.wrap .i64 x16)), (.bool (x18 == 1)), (.int .i64 (IntKind.wrap .i64 x20)), (.int .i64 (IntKind.wrap .i64 x22)), (.bool (x24 == 1))])) (fun w =>
          drawS w fun C w =>
          semQ Try.prog C (Instr.loadAt 36 (.pointer (some x25))) (.agg [(.int .i64), (.int .i64), .bool, (.int .i64), (.int .i64), .bool]) (fun x26 x27 x28 x29 x30 x31 =>
          callS Try.prog 24 #[(.agg #[(.int .i64 x26), (.int .i64 x27), (.bool x28), (.int .i64 x29), (.int .i64 x30), (.bool x31)])] [(.one .bool)] (fun r32 w =>
          moreS C w (fun C =>
          cond (!r32)
            (semU Try.prog (Instr.storeAt 36 (.pointer (some x1)) (.agg #[(.int .i64 0), (.int .i64 0), (.bool false), (.int .i64 0), (.int .i64 0), (.bool false)])) (fun w =>
            ∃ v33, (loadVar 36 x1).run Try.prog w = .ok v33 w ∧ decR [(.agg [(.int .i64), (.int .i64), .bool, (.int .i64), (.int .i64), .bool]), (.one (.int .i64))] (.tuple #[v33, (.int .i64 12)]) K fun r => r w) w)
            (semQ Try.prog C (Instr.loadAt 36 (.pointer (some x25))) (.agg [(.int .i64), (.int .i64), .bool, (.int .i64), (.int .i64), .bool]) (fun x34 x35 x36 x37 x38 x39 =>
            semQ Try.prog C (convert 22 9 (.slice p0.a p0.len p0.cap)) (.one .str) (fun x40 =>
            callS Try.prog 25 #[(.agg #[(.int .i64 x34), (.int .i64 x35), (.bool x36), (.int .i64 x37), (.int .i64 x38), (.bool x39)])] [(.one .slc)] (fun r41 w =>
            moreS C w (fun C =>
            semQ Try.prog C (convert 22 9 (.slice r41.a r41.len r41.cap)) (.one .str) (fun x42 =>
            cond (!(x42.toList == x40.toList))
              (semU Try.prog (Instr.storeAt 36 (.pointer (some x1)) (.agg #[(.int .i64 0), (.int .i64 0), (.bool false), (.int .i64 0), (.int .i64 0), (.bool false)])) (fun w =>
              ∃ v43, (loadVar 36 x1).run Try.prog w = .ok v43 w ∧ decR [(.agg [(.int .i64), (.int .i64), .bool, (.int .i64), (.int .i64), .bool]), (.one (.int .i64))] (.tuple #[v43, (.int .i64 12)]) K fun r => r w) w)
              (semS Try.prog (Instr.loadAt 36 (.pointer (some x25))) (.agg [(.int .i64), (.int .i64), .bool, (.int .i64), (.int .i64), .bool]) (fun x44 x45 x46 x47 x48 x49 w =>
              semU Try.prog (Instr.storeAt 36 (.pointer (some x1)) (.agg #[(.int .i64 x44), (.int .i64 x45), (.bool x46), (.int .i64 x47), (.int .i64 x48), (.bool x49)])) (fun w =>
              ∃ v50, (loadVar 36 x1).run Try.prog w = .ok v50 w ∧ decR [(.agg [(.int .i64), (.int .i64), .bool, (.int .i64), (.int .i64), .bool]), (.one (.int .i64))] (.tuple #[v50, (.int .i64 0)]) K fun r => r w) w) w)))) w))))) w)) w)) w)))))))))))))) w)) w))) w) w)) w) w)) w
theorem f21_ok {p0 : Sl} {K : Int → Int → Bool → Int → Int → Bool → Int → World → Prop} {w : World} (h : f21 p0 K w) : callS Try.prog 21 #[(.slice p0.a p0.len p0.cap)] [(.agg [(.int .i64), (.int .i64), .bool, (.int .i64), (.int .i64), .bool]), (.one (.int .i64))] K w :=
  calls_of_fn (args := [(.slice p0.a p0.len p0.cap)]) Try.f21 [] [] [] (.two .nil (.two .nil (.two .nil (.two .nil (.two (.two (.draw [0, 1, 0, 4, 15, 31]) .nil) (.two (.draw [0, 1, 3, 7, 0, 16, 48, 112, 0, 256, 768, 1792, 4095, 0, 8192, 24576, 57344, 0, 131072, 393216, 917504, 0, 2097152, 6291456, 14680064, 33546240, 67108863, 0, 268435455]) (.two (.two (.draw [0, 1, 3, 7, 15, 31, 63, 15, 143, 511, 1023]) .nil) .nil))))))) (by kernel_rfl) (by kernel_rfl)
    (Eq.mp (by kernel_rfl : f21 p0 K w = evFn Try.prog Try.f21 [] [] [] (.two .nil (.two .nil (.two .nil (.two .nil (.two (.two (.draw [0, 1, 0, 4, 15, 31]) .nil) (.two (.draw [0, 1, 3, 7, 0, 16, 48, 112, 0, 256, 768, 1792, 4095, 0, 8192, 24576, 57344, 0, 131072, 393216, 917504, 0, 2097152, 6291456, 14680064, 33546240, 67108863, 0, 268435455]) (.two (.two (.draw [0, 1, 3, 7, 15, 31, 63, 15, 143, 511, 1023]) .nil) .nil))))))) [(.slice p0.a p0.len p0.cap)] [(.agg [(.int .i64), (.int .i64), .bool, (.int .i64), (.int .i64), .bool]), (.one (.int .i64))] K w) h)

/-- sallyport/sallyportlaw16.RecordParses -/
def f6 (p0 : Sl) (K : Bool → World → Prop) (w : World) : Prop :=
  callS Try.prog 10 #[] [(.one .bool)] (fun r1 w =>
  cond (!r1)
    (K false w)
    (cond (decide ((p0.len : Int) > 200))
      (K true w)
      (callS Try.prog 20 #[(.slice p0.a p0.len p0.cap)] [(.agg [(.int .i64), (.int .i64), .bool, (.int .i64), (.int .i64), .bool]), (.one (.int .i64))] (fun r2 r3 r4 r5 r6 r7 r8 w =>
      semS Try.prog (Instr.alloc 29 true (.tuple #[])) (.one .adr) (fun x9 w =>
      semU Try.prog (Instr.storeAt 29 (.pointer (some x9)) (.agg #[(.int .i64 r2), (.int .i64 r3), (.bool r4), (.int .i64 r5), (.int .i64 r6), (.bool r7)])) (fun w =>
      callS Try.prog 21 #[(.slice p0.a p0.len p0.cap)] [(.agg [(.int .i64), (.int .i64), .bool, (.int .i64), (.int .i64), .bool]), (.one (.int .i64))] (fun r10 r11 r12 r13 r14 r15 r16 w =>
      semS Try.prog (Instr.alloc 36 true (.tuple #[])) (.one .adr) (fun x17 w =>
      semU Try.prog (Instr.storeAt 36 (.pointer (some x17)) (.agg #[(.int .i64 r10), (.int .i64 r11), (.bool r12), (.int .i64 r13), (.int .i64 r14), (.bool r15)])) (fun w =>
      drawS w fun C w =>
      cond (r8 == r16)
        (semQ Try.prog C (Instr.loadAt 29 (.pointer (some x9))) (.agg [(.int .i64), (.int .i64), .bool, (.int .i64), (.int .i64), .bool]) (fun x18 x19 x20 x21 x22 x23 =>
        semQ Try.prog C (Instr.loadAt 36 (.pointer (some x17))) (.agg [(.int .i64), (.int .i64), .bool, (.int .i64), (.int .i64), .bool]) (fun x24 x25 x26 x27 x28 x29 =>
        callS Try.prog 16 #[(.agg #[(.int .i64 x18), (.int .i64 x19), (.bool x20), (.int .i64 x21), (.int .i64 x22), (.bool x23)])] [(.agg [(.int .i64), (.int .i64), .bool, (.int .i64), (.int .i64), .bool])] (fun r30 r31 r32 r33 r34 r35 w =>
        moreS C w (fun C =>
        semQ Try.prog C (binS .eql 36 (.tmp 27) (.tmp 28) (.agg #[(.int .i64 r30), (.int .i64 r31), (.bool r32), (.int .i64 r33), (.int .i64 r34), (.bool r35)]) (.agg #[(.int .i64 x24), (.int .i64 x25), (.bool x26), (.int .i64 x27), (.int .i64 x28), (.bool x29)])) (.one .bool) (fun x36 =>
        K x36 w))) w)))
        (K false w)) w) w) w) w) w) w))) w
theorem f6_ok {p0 : Sl} {K : Bool → World → Prop} {w : World} (h : f6 p0 K w) : callS Try.prog 6 #[(.slice p0.a p0.len p0.cap)] [(.one .bool)] K w :=
  calls_of_fn (args := [(.slice p0.a p0.len p0.cap)]) Try.f6 [] [] [] (.two .nil (.two .nil (.two .nil (.two .nil (.two .nil (.two (.draw [0, 0, 3, 7, 15, 31, 15, 127, 255, 511]) .nil)))))) (by kernel_rfl) (by kernel_rfl)
    (Eq.mp (by kernel_rfl : f6 p0 K w = evFn Try.prog Try.f6 [] [] [] (.two .nil (.two .nil (.two .nil (.two .nil (.two .nil (.two (.draw [0, 0, 3, 7, 15, 31, 15, 127, 255, 511]) .nil)))))) [(.slice p0.a p0.len p0.cap)] [(.one .bool)] K w) h)

/-- sallyport/record.Encode -/
def f22 (p0_0 : Int) (p0_1 : Int) (p0_2 : Bool) (p0_3 : Int) (p0_4 : Int) (p0_5 : Bool) (K : Sl → Int → World → Prop) (w : World) : Prop :=
  semS Try.prog (Instr.box 29 (.agg #[(.int .i64 p0_0), (.int .i64 p0_1), (.bool p0_2), (.int .i64 p0_3), (.int .i64 p0_4), (.bool p0_5)])) (.one .adr) (fun x1 w =>
  semS Try.prog (Instr.loadAt 29 (.pointer (some x1))) (.agg [(.int .i64), (.int .i64), .bool, (.int .i64), (.int .i64), .bool]) (fun x2 x3 x4 x5 x6 x7 w =>
  callS Try.prog 23 #[(.agg #[(.int .i64 x2), (.int .i64 x3), (.bool x4), (.int .i64 x5), (.int .i64 x6), (.bool x7)])] [(.one .bool)] (fun r8 w =>
  cond (!r8)
    (K (⟨none, 0, 0⟩) 12 w)
    (semS Try.prog (Instr.loadAt 29 (.pointer (some x1))) (.agg [(.int .i64), (.int .i64), .bool, (.int .i64), (.int .i64), .bool]) (fun x9 x10 x11 x12 x13 x14 w =>
    callS Try.prog 37 #[(.agg #[(.int .i64 x9), (.int .i64 x10), (.bool x11), (.int .i64 x12), (.int .i64 x13), (.bool x14)])] [(.one .slc)] (fun r15 w =>
    K r15 0 w) w) w)) w) w) w
theorem f22_ok {p0_0 : Int} {p0_1 : Int} {p0_2 : Bool} {p0_3 : Int} {p0_4 : Int} {p0_5 : Bool} {K : Sl → Int → World → Prop} {w : World} (h : f22 p0_0 p0_1 p0_2 p0_3 p0_4 p0_5 K w) : callS Try.prog 22 #[(.agg #[(.int .i64 p0_0), (.int .i64 p0_1), (.bool p0_2), (.int .i64 p0_3), (.int .i64 p0_4), (.bool p0_5)])] [(.one .slc), (.one (.int .i64))] K w :=
  calls_of_fn (args := [(.agg #[(.int .i64 p0_0), (.int .i64 p0_1), (.bool p0_2), (.int .i64 p0_3), (.int .i64 p0_4), (.bool p0_5)])]) Try.f22 [] [] [] .nil (by kernel_rfl) (by kernel_rfl)
    (Eq.mp (by kernel_rfl : f22 p0_0 p0_1 p0_2 p0_3 p0_4 p0_5 K w = evFn Try.prog Try.f22 [] [] [] .nil [(.agg #[(.int .i64 p0_0), (.int .i64 p0_1), (.bool p0_2), (.int .i64 p0_3), (.int .i64 p0_4), (.bool p0_5)])] [(.one .slc), (.one (.int .i64))] K w) h)

/-- sallyport/sallyportlaw16.RecordEncodes -/
def f7 (p0_0 : Int) (p0_1 : Int) (p0_2 : Bool) (p0_3 : Int) (p0_4 : Int) (p0_5 : Bool) (K : Bool → World → Prop) (w : World) : Prop :=
  semS Try.prog (Instr.box 29 (.agg #[(.int .i64 p0_0), (.int .i64 p0_1), (.bool p0_2), (.int .i64 p0_3), (.int .i64 p0_4), (.bool p0_5)])) (.one .adr) (fun x1 w =>
  callS Try.prog 10 #[] [(.one .bool)] (fun r2 w =>
  cond (!r2)
    (K false w)
    (semS Try.prog (Instr.loadAt 29 (.pointer (some x1))) (.agg [(.int .i64), (.int .i64), .bool, (.int .i64), (.int .i64), .bool]) (fun x3 x4 x5 x6 x7 x8 w =>
    callS Try.prog 16 #[(.agg #[(.int .i64 x3), (.int .i64 x4), (.bool x5), (.int .i64 x6), (.int .i64 x7), (.bool x8)])] [(.agg [(.int .i64), (.int .i64), .bool, (.int .i64), (.int .i64), .bool])] (fun r9 r10 r11 r12 r13 r14 w =>
    semS Try.prog (Instr.alloc 36 true (.tuple #[])) (.one .adr) (fun x15 w =>
    semU Try.prog (Instr.storeAt 36 (.pointer (some x15)) (.agg #[(.int .i64 r9), (.int .i64 r10), (.bool r11), (.int .i64 r12), (.int .i64 r13), (.bool r14)])) (fun w =>
    semS Try.prog (Instr.loadAt 29 (.pointer (some x1))) (.agg [(.int .i64), (.int .i64), .bool, (.int .i64), (.int .i64), .bool]) (fun x16 x17 x18 x19 x20 x21 w =>
    callS Try.prog 22 #[(.agg #[(.int .i64 x16), (.int .i64 x17), (.bool x18), (.int .i64 x19), (.int .i64 x20), (.bool x21)])] [(.one .slc), (.one (.int .i64))] (fun r22 r23 w =>
    drawS w fun C w =>
    semQ Try.prog C (Instr.loadAt 29 (.pointer (some x1))) (.agg [(.int .i64), (.int .i64), .bool, (.int .i64), (.int .i64), .bool]) (fun x24 x25 x26 x27 x28 x29 =>
    semQ Try.prog C (Instr.loadAt 36 (.pointer (some x15))) (.agg [(.int .i64), (.int .i64), .bool, (.int .i64), (.int .i64), .bool]) (fun x30 x31 x32 x33 x34 x35 =>
    callS Try.prog 23 #[(.agg #[(.int .i64 x24), (.int .i64 x25), (.bool x26), (.int .i64 x27), (.int .i64 x28), (.bool x29)])] [(.one .bool)] (fun r36 w =>
    moreS C w (fun C =>
    callS Try.prog 24 #[(.agg #[(.int .i64 x30), (.int .i64 x31), (.bool x32), (.int .i64 x33), (.int .i64 x34), (.bool x35)])] [(.one .bool)] (fun r37 w =>
    cond (!(r36 == r37))
      (K false w)
      (semS Try.prog (Instr.loadAt 36 (.pointer (some x15))) (.agg [(.int .i64), (.int .i64), .bool, (.int .i64), (.int .i64), .bool]) (fun x38 x39 x40 x41 x42 x43 w =>
      callS Try.prog 24 #[(.agg #[(.int .i64 x38), (.int .i64 x39), (.bool x40), (.int .i64 x41), (.int .i64 x42), (.bool x43)])] [(.one .bool)] (fun r44 w =>
      cond (!r44)
        (K ((r23 == 12) && ((r22.len : Int) == 0)) w)
        (callS Try.prog 20 #[(.slice r22.a r22.len r22.cap)] [(.agg [(.int .i64), (.int .i64), .bool, (.int .i64), (.int .i64), .bool]), (.one (.int .i64))] (fun r45 r46 r47 r48 r49 r50 r51 w =>
        semS Try.prog (Instr.alloc 29 true (.tuple #[])) (.one .adr) (fun x52 w =>
        semU Try.prog (Instr.storeAt 29 (.pointer (some x52)) (.agg #[(.int .i64 r45), (.int .i64 r46), (.bool r47), (.int .i64 r48), (.int .i64 r49), (.bool r50)])) (fun w =>
        drawS w fun C w =>
        cond (r23 == 0)
          (semQ Try.prog C (convert 22 9 (.slice r22.a r22.len r22.cap)) (.one .str) (fun x53 =>
          semQ Try.prog C (Instr.loadAt 36 (.pointer (some x15))) (.agg [(.int .i64), (.int .i64), .bool, (.int .i64), (.int .i64), .bool]) (fun x54 x55 x56 x57 x58 x59 =>
          callS Try.prog 25 #[(.agg #[(.int .i64 x54), (.int .i64 x55), (.bool x56), (.int .i64 x57), (.int .i64 x58), (.bool x59)])] [(.one .slc)] (fun r60 w =>
          moreS C w (fun C =>
          semQ Try.prog C (convert 22 9 (.slice r60.a r60.len r60.cap)) (.one .str) (fun x61 =>
          cond (x53.toList == x61.toList)
            (cond (r51 == 0)
              (semQ Try.prog C (Instr.loadAt 29 (.pointer (some x52))) (.agg [(.int .i64), (.int .i64), .bool, (.int .i64), (.int .i64), .bool]) (fun x62 x63 x64 x65 x66 x67 =>
              semQ Try.prog C (Instr.loadAt 29 (.pointer (some x1))) (.agg [(.int .i64), (.int .i64), .bool, (.int .i64), (.int .i64), .bool]) (fun x68 x69 x70 x71 x72 x73 =>
              semQ Try.prog C (binS .eql 29 (.tmp 52) (.tmp 53) (.agg #[(.int .i64 x62), (.int .i64 x63), (.bool x64), (.int .i64 x65), (.int .i64 x66), (.bool x67)]) (.agg #[(.int .i64 x68), (.int .i64 x69), (.bool x70), (.int .i64 x71), (.int .i64 x72), (.bool x73)])) (.one .bool) (fun x74 =>
              K x74 w))))
              (K false w))
            (K false w)))) w)))
          (K false w)) w) w) w)) w) w)) w)) w))) w) w) w) w) w) w)) w) w
theorem f7_ok {p0_0 : Int} {p0_1 : Int} {p0_2 : Bool} {p0_3 : Int} {p0_4 : Int} {p0_5 : Bool} {K : Bool → World → Prop} {w : World} (h : f7 p0_0 p0_1 p0_2 p0_3 p0_4 p0_5 K w) : callS Try.prog 7 #[(.agg #[(.int .i64 p0_0), (.int .i64 p0_1), (.bool p0_2), (.int .i64 p0_3), (.int .i64 p0_4), (.bool p0_5)])] [(.one .bool)] K w :=
  calls_of_fn (args := [(.agg #[(.int .i64 p0_0), (.int .i64 p0_1), (.bool p0_2), (.int .i64 p0_3), (.int .i64 p0_4), (.bool p0_5)])]) Try.f7 [] [] [] (.two .nil (.two .nil (.two .nil (.two .nil (.two (.two (.draw [0, 1, 0, 7, 15]) .nil) (.two .nil (.two .nil (.two (.draw [0, 1, 3, 7, 15, 7, 39, 103, 255, 511, 1023, 2047, 4095, 8191, 16383, 32767, 32767, 131071, 262143, 524287]) .nil)))))))) (by kernel_rfl) (by kernel_rfl)
    (Eq.mp (by kernel_rfl : f7 p0_0 p0_1 p0_2 p0_3 p0_4 p0_5 K w = evFn Try.prog Try.f7 [] [] [] (.two .nil (.two .nil (.two .nil (.two .nil (.two (.two (.draw [0, 1, 0, 7, 15]) .nil) (.two .nil (.two .nil (.two (.draw [0, 1, 3, 7, 15, 7, 39, 103, 255, 511, 1023, 2047, 4095, 8191, 16383, 32767, 32767, 131071, 262143, 524287]) .nil)))))))) [(.agg #[(.int .i64 p0_0), (.int .i64 p0_1), (.bool p0_2), (.int .i64 p0_3), (.int .i64 p0_4), (.bool p0_5)])] [(.one .bool)] K w) h)

/-- sallyport/sallyportlaw16.RecordUnlike -/
def f8 (p0_0 : Int) (p0_1 : Int) (p0_2 : Bool) (p0_3 : Int) (p0_4 : Int) (p0_5 : Bool) (p1_0 : Int) (p1_1 : Int) (p1_2 : Bool) (p1_3 : Int) (p1_4 : Int) (p1_5 : Bool) (p2 : Int) (K : Bool → World → Prop) (w : World) : Prop :=
  semS Try.prog (Instr.box 29 (.agg #[(.int .i64 p0_0), (.int .i64 p0_1), (.bool p0_2), (.int .i64 p0_3), (.int .i64 p0_4), (.bool p0_5)])) (.one .adr) (fun x1 w =>
  semS Try.prog (Instr.box 29 (.agg #[(.int .i64 p1_0), (.int .i64 p1_1), (.bool p1_2), (.int .i64 p1_3), (.int .i64 p1_4), (.bool p1_5)])) (.one .adr) (fun x2 w =>
  callS Try.prog 10 #[] [(.one .bool)] (fun r3 w =>
  cond (!r3)
    (K false w)
    (semS Try.prog (Instr.loadAt 29 (.pointer (some x1))) (.agg [(.int .i64), (.int .i64), .bool, (.int .i64), (.int .i64), .bool]) (fun x4 x5 x6 x7 x8 x9 w =>
    callS Try.prog 22 #[(.agg #[(.int .i64 x4), (.int .i64 x5), (.bool x6), (.int .i64 x7), (.int .i64 x8), (.bool x9)])] [(.one .slc), (.one (.int .i64))] (fun r10 r11 w =>
    semS Try.prog (Instr.loadAt 29 (.pointer (some x2))) (.agg [(.int .i64), (.int .i64), .bool, (.int .i64), (.int .i64), .bool]) (fun x12 x13 x14 x15 x16 x17 w =>
    callS Try.prog 22 #[(.agg #[(.int .i64 x12), (.int .i64 x13), (.bool x14), (.int .i64 x15), (.int .i64 x16), (.bool x17)])] [(.one .slc), (.one (.int .i64))] (fun r18 r19 w =>
    cond (((r11 != 0) || (r19 != 0)) || (decide (p2 < 0)))
      (K true w)
      (semS Try.prog (Instr.buildSlice 22 0 #[]) (.one .slc) (fun x20 w =>
      semS Try.prog (Builtin.append_ #[22, 22] 22 #[(.slice x20.a x20.len x20.cap), (.slice r10.a r10.len r10.cap)]) (.one .slc) (fun r21 w =>
      drawS w fun C w =>
      semQ Try.prog C (binS .rem 3 (.tmp 41) (.tmp 43) (.int .i64 (IntKind.wrap .i64 (Int.tdiv p2 8))) (.int .i64 (r21.len : Int))) (.one (.int .i64)) (fun x22 =>
      semQ Try.prog C (Instr.indexAt 22 (.slice r21.a r21.len r21.cap) (.int .i64 x22)) (.one .adr) (fun x23 =>
      semQ Try.prog C (Instr.loadAt 5 (.pointer (some x23))) (.one (.int .u8)) (fun x24 =>
      semQ Try.prog C (binS .shl 5 (.const (Go.Value.int Go.IntKind.u8 1)) (.tmp 48) (.int .u8 1) (.int .i64 (Int.tmod p2 8))) (.one (.int .u8)) (fun x25 =>
      semQ Try.prog C (Instr.indexAt 22 (.slice r21.a r21.len r21.cap) (.int .i64 x22)) (.one .adr) (fun x26 =>
      semU Try.prog (Instr.storeAt 5 (.pointer (some x26)) (.int .u8 (xorI .u8 x24 x25))) (fun w =>
      callS Try.prog 20 #[(.slice r21.a r21.len r21.cap)] [(.agg [(.int .i64), (.int .i64), .bool, (.int .i64), (.int .i64), .bool]), (.one (.int .i64))] (fun r27 r28 r29 r30 r31 r32 r33 w =>
      semS Try.prog (Instr.alloc 29 true (.tuple #[])) (.one .adr) (fun x34 w =>
      semU Try.prog (Instr.storeAt 29 (.pointer (some x34)) (.agg #[(.int .i64 r27), (.int .i64 r28), (.bool r29), (.int .i64 r30), (.int .i64 r31), (.bool r32)])) (fun w =>
      drawS w fun C w =>
      semQ Try.prog C (convert 22 9 (.slice r10.a r10.len r10.cap)) (.one .str) (fun x35 =>
      semQ Try.prog C (convert 22 9 (.slice r18.a r18.len r18.cap)) (.one .str) (fun x36 =>
      semQ Try.prog C (Instr.loadAt 29 (.pointer (some x1))) (.agg [(.int .i64), (.int .i64), .bool, (.int .i64), (.int .i64), .bool]) (fun x37 x38 x39 x40 x41 x42 =>
      semQ Try.prog C (Instr.loadAt 29 (.pointer (some x2))) (.agg [(.int .i64), (.int .i64), .bool, (.int .i64), (.int .i64), .bool]) (fun x43 x44 x45 x46 x47 x48 =>
      semQ Try.prog C (binS .eql 29 (.tmp 62) (.tmp 63) (.agg #[(.int .i64 x37), (.int .i64 x38), (.bool x39), (.int .i64 x40), (.int .i64 x41), (.bool x42)]) (.agg #[(.int .i64 x43), (.int .i64 x44), (.bool x45), (.int .i64 x46), (.int .i64 x47), (.bool x48)])) (.one .bool) (fun x49 =>
      cond ((x35.toList == x36.toList) == x49)
        (cond (r33 != 0)
          (semQ Try.prog C (Instr.loadAt 29 (.pointer (some x34))) (.agg [(.int .i64), (.int .i64), .bool, (.int .i64), (.int .i64), .bool]) (fun x50 x51 x52 x53 x54 x55 =>
          semQ Try.prog C (binS .eql 29 (.tmp 71) (.tmp 72) (.agg #[(.int .i64 x50), (.int .i64 x51), (.bool x52), (.int .i64 x53), (.int .i64 x54), (.bool x55)]) (.agg #[(.int .i64 0), (.int .i64 0), (.bool false), (.int .i64 0), (.int .i64 0), (.bool false)])) (.one .bool) (fun x56 =>
          K x56 w)))
          (K false w))
        (K false w))))))) w) w) w) w)))))) w) w)) w) w) w) w)) w) w) w
theorem f8_ok {p0_0 : Int} {p0_1 : Int} {p0_2 : Bool} {p0_3 : Int} {p0_4 : Int} {p0_5 : Bool} {p1_0 : Int} {p1_1 : Int} {p1_2 : Bool} {p1_3 : Int} {p1_4 : Int} {p1_5 : Bool} {p2 : Int} {K : Bool → World → Prop} {w : World} (h : f8 p0_0 p0_1 p0_2 p0_3 p0_4 p0_5 p1_0 p1_1 p1_2 p1_3 p1_4 p1_5 p2 K w) : callS Try.prog 8 #[(.agg #[(.int .i64 p0_0), (.int .i64 p0_1), (.bool p0_2), (.int .i64 p0_3), (.int .i64 p0_4), (.bool p0_5)]), (.agg #[(.int .i64 p1_0), (.int .i64 p1_1), (.bool p1_2), (.int .i64 p1_3), (.int .i64 p1_4), (.bool p1_5)]), (.int .i64 p2)] [(.one .bool)] K w :=
  calls_of_fn (args := [(.agg #[(.int .i64 p0_0), (.int .i64 p0_1), (.bool p0_2), (.int .i64 p0_3), (.int .i64 p0_4), (.bool p0_5)]), (.agg #[(.int .i64 p1_0), (.int .i64 p1_1), (.bool p1_2), (.int .i64 p1_3), (.int .i64 p1_4), (.bool p1_5)]), (.int .i64 p2)]) Try.f8 [] [] [] (.two .nil (.two .nil (.two .nil (.two .nil (.two .nil (.two .nil (.two (.draw [0, 0, 2, 0, 8, 30, 63, 127, 0, 256, 768, 2047, 4095, 8191]) (.two .nil (.two (.draw [0, 1, 0, 4, 15, 0, 0, 96, 255, 511, 1023, 2047, 4095, 8191, 16383, 16383, 65535, 131071, 262143]) .nil))))))))) (by kernel_rfl) (by kernel_rfl)
    (Eq.mp (by kernel_rfl : f8 p0_0 p0_1 p0_2 p0_3 p0_4 p0_5 p1_0 p1_1 p1_2 p1_3 p1_4 p1_5 p2 K w = evFn Try.prog Try.f8 [] [] [] (.two .nil (.two .nil (.two .nil (.two .nil (.two .nil (.two .nil (.two (.draw [0, 0, 2, 0, 8, 30, 63, 127, 0, 256, 768, 2047, 4095, 8191]) (.two .nil (.two (.draw [0, 1, 0, 4, 15, 0, 0, 96, 255, 511, 1023, 2047, 4095, 8191, 16383, 16383, 65535, 131071, 262143]) .nil))))))))) [(.agg #[(.int .i64 p0_0), (.int .i64 p0_1), (.bool p0_2), (.int .i64 p0_3), (.int .i64 p0_4), (.bool p0_5)]), (.agg #[(.int .i64 p1_0), (.int .i64 p1_1), (.bool p1_2), (.int .i64 p1_3), (.int .i64 p1_4), (.bool p1_5)]), (.int .i64 p2)] [(.one .bool)] K w) h)

/-- slices.Clone[[]sallyport/drive.Part,sallyport/drive.Part] -/
def f43 (p0 : Sl) (K : Sl → World → Prop) (w : World) : Prop :=
  semS Try.prog (binS .eql 57 (.tmp 3) (.const (Go.Value.slice none 0 0)) (.slice p0.a p0.len p0.cap) (.slice none 0 0)) (.one .bool) (fun x1 w =>
  cond x1
    (K (⟨none, 0, 0⟩) w)
    (semS Try.prog (Instr.buildSlice 57 0 #[]) (.one .slc) (fun x2 w =>
    semS Try.prog (Builtin.append_ #[57, 57] 57 #[(.slice x2.a x2.len x2.cap), (.slice p0.a p0.len p0.cap)]) (.one .slc) (fun r3 w =>
    K r3 w) w) w)) w
theorem f43_ok {p0 : Sl} {K : Sl → World → Prop} {w : World} (h : f43 p0 K w) : callS Try.prog 43 #[(.slice p0.a p0.len p0.cap)] [(.one .slc)] K w :=
  calls_of_fn (args := [(.slice p0.a p0.len p0.cap)]) Try.f43 [] [] [] .nil (by kernel_rfl) (by kernel_rfl)
    (Eq.mp (by kernel_rfl : f43 p0 K w = evFn Try.prog Try.f43 [] [] [] .nil [(.slice p0.a p0.len p0.cap)] [(.one .slc)] K w) h)

/-- strings.IndexFunc -/
def f53 (p0 : ByteArray) (p1 : Value) (K : Int → World → Prop) (w : World) : Prop :=
  callS Try.prog 54 #[(.string p0), p1, (.bool true)] [(.one (.int .i64))] (fun r1 w =>
  K r1 w) w
theorem f53_ok {p0 : ByteArray} {p1 : Value} {K : Int → World → Prop} {w : World} (h : f53 p0 p1 K w) : callS Try.prog 53 #[(.string p0), p1] [(.one (.int .i64))] K w :=
  calls_of_fn (args := [(.string p0), p1]) Try.f53 [1, 6] [] [] .nil (by kernel_rfl) (by kernel_rfl)
    (Eq.mp (by kernel_rfl : f53 p0 p1 K w = evFn Try.prog Try.f53 [1, 6] [] [] .nil [(.string p0), p1] [(.one (.int .i64))] K w) h)

/-- strings.ContainsFunc -/
def f51 (p0 : ByteArray) (p1 : Value) (K : Bool → World → Prop) (w : World) : Prop :=
  callS Try.prog 53 #[(.string p0), p1] [(.one (.int .i64))] (fun r1 w =>
  K (decide (r1 ≥ 0)) w) w
theorem f51_ok {p0 : ByteArray} {p1 : Value} {K : Bool → World → Prop} {w : World} (h : f51 p0 p1 K w) : callS Try.prog 51 #[(.string p0), p1] [(.one .bool)] K w :=
  calls_of_fn (args := [(.string p0), p1]) Try.f51 [1, 6] [] [] .nil (by kernel_rfl) (by kernel_rfl)
    (Eq.mp (by kernel_rfl : f51 p0 p1 K w = evFn Try.prog Try.f51 [1, 6] [] [] .nil [(.string p0), p1] [(.one .bool)] K w) h)

/-- sallyport/drive.named$1 -/
def f52 (p0 : Int) (K : Bool → World → Prop) (w : World) : Prop :=
  K (!((((decide (p0 ≥ 97)) && (decide (p0 ≤ 122))) || ((decide (p0 ≥ 48)) && (decide (p0 ≤ 57)))) || (p0 == 95))) w
theorem f52_ok {p0 : Int} {K : Bool → World → Prop} {w : World} (h : f52 p0 K w) : callS Try.prog 52 #[(.int .i32 p0)] [(.one .bool)] K w :=
  calls_of_fn (args := [(.int .i32 p0)]) Try.f52 [] [] [] .nil (by kernel_rfl) (by kernel_rfl)
    (Eq.mp (by kernel_rfl : f52 p0 K w = evFn Try.prog Try.f52 [] [] [] .nil [(.int .i32 p0)] [(.one .bool)] K w) h)

/-- sallyport/drive.named -/
def f44 (p0 : ByteArray) (K : Bool → World → Prop) (w : World) : Prop :=
  joinS (σ := Bool) (fun b1 w =>
    K b1 w) fun J2 =>
  cond ((!(p0.toList == (ByteArray.mk #[]).toList)) && (decide ((p0.size : Int) ≤ 24)))
    (callS Try.prog 51 #[(.string p0), (.func (.func 52) #[] #[])] [(.one .bool)] (fun r3 w =>
      J2 (!r3) w) w)
    (J2 false w)
theorem f44_ok {p0 : ByteArray} {K : Bool → World → Prop} {w : World} (h : f44 p0 K w) : callS Try.prog 44 #[(.string p0)] [(.one .bool)] K w :=
  calls_of_fn (args := [(.string p0)]) Try.f44 [] [] [] .nil (by kernel_rfl) (by kernel_rfl)
    (Eq.mp (by kernel_rfl : f44 p0 K w = evFn Try.prog Try.f44 [] [] [] .nil [(.string p0)] [(.one .bool)] K w) h)

/-- sallyport/drive.New -/
def f26 (p0 : Sl) (K : (Option Addr) → Int → World → Prop) (w : World) : Prop :=
  cond (decide ((p0.len : Int) > 16))
    (K none 40 w)
    (callS Try.prog 43 #[(.slice p0.a p0.len p0.cap)] [(.one .slc)] (fun r1 w =>
    semS Try.prog (Instr.makeMap 74 none) (.one .mp) (fun x2 w =>
    semS Try.prog (Instr.box 76 (.agg #[(.slice r1.a r1.len r1.cap), (.map x2), (.int .i64 (-1)), (.slice none 0 0), (.bool false), (.int .i64 0), (.int .i64 0)])) (.one .adr) (fun x3 w =>
    loopS (σ := Int × Int) (fun s4 w again5 =>
      cond (decide (s4.2 < (p0.len : Int)))
        (semS Try.prog (Instr.indexAt 57 (.slice p0.a p0.len p0.cap) (.int .i64 s4.2)) (.one .adr) (fun x6 w =>
        semS Try.prog (Instr.loadAt 56 (.pointer (some x6))) (.agg [.str, (.int .i64)]) (fun x7 x8 w =>
        semS Try.prog (Instr.alloc 56 true (.tuple #[])) (.one .adr) (fun x9 w =>
        semU Try.prog (Instr.storeAt 56 (.pointer (some x9)) (.agg #[(.string x7), (.int .i64 x8)])) (fun w =>
        drawS w fun C w =>
        semQ Try.prog C (Instr.loadAt 9 (.pointer (some (x9.add 0)))) (.one .str) (fun x10 =>
        callS Try.prog 44 #[(.string x10)] [(.one .bool)] (fun r11 w =>
        moreS C w (fun C =>
        cond (!r11)
          (K none 40 w)
          (semQ Try.prog C (Instr.loadAt 74 (.pointer (some (x3.add 1)))) (.one .mp) (fun x12 =>
          semQ Try.prog C (Instr.loadAt 9 (.pointer (some (x9.add 0)))) (.one .str) (fun x13 =>
          semQ Try.prog C (Instr.lookup 74 (.map x12) (.string x13) false) (.one .ptr) (fun x14 =>
          semQ Try.prog C (binS .neq 78 (.tmp 35) (.const (Go.Value.pointer none)) (.pointer x14) (.pointer none)) (.one .bool) (fun x15 =>
          cond x15
            (K none 40 w)
            (semQ Try.prog C (Instr.loadAt 3 (.pointer (some (x9.add 1)))) (.one (.int .i64)) (fun x16 =>
            cond (decide (x16 < 64))
              (K none 40 w)
              (semQ Try.prog C (Instr.loadAt 3 (.pointer (some (x9.add 1)))) (.one (.int .i64)) (fun x17 =>
              cond (decide (x17 > 1048576))
                (K none 40 w)
                (semQ Try.prog C (Instr.loadAt 3 (.pointer (some (x9.add 1)))) (.one (.int .i64)) (fun x18 =>
                cond ((Int.tmod x18 64) != 0)
                  (K none 40 w)
                  (semS Try.prog (Instr.loadAt 3 (.pointer (some (x9.add 1)))) (.one (.int .i64)) (fun x19 w =>
                  drawS w fun C w =>
                  semQ Try.prog C (Instr.loadAt 74 (.pointer (some (x3.add 1)))) (.one .mp) (fun x20 =>
                  semQ Try.prog C (Instr.loadAt 9 (.pointer (some (x9.add 0)))) (.one .str) (fun x21 =>
                  semS Try.prog (Instr.makeMap 79 none) (.one .mp) (fun x22 w =>
                  moreS C w (fun C =>
                  semS Try.prog (Instr.box 81 (.agg #[(.slice none 0 0), (.map x22)])) (.one .adr) (fun x23 w =>
                  moreS C w (fun C =>
                  semU Try.prog (Instr.mapUpdate 74 (.map x20) (.string x21) (.pointer (some x23))) (fun w =>
                  again5 (IntKind.wrap .i64 (s4.1 + x19), IntKind.wrap .i64 (s4.2 + 1)) w) w)) w)) w))) w)))))))))))))) w)) w) w) w) w)
        (cond (decide (s4.1 > 1048576))
          (K none 11 w)
          (loopS (σ := Int) (fun x24 w again25 =>
            cond (decide (x24 < (p0.len : Int)))
              (semS Try.prog (Instr.indexAt 57 (.slice p0.a p0.len p0.cap) (.int .i64 x24)) (.one .adr) (fun x26 w =>
              semS Try.prog (Instr.loadAt 56 (.pointer (some x26))) (.agg [.str, (.int .i64)]) (fun x27 x28 w =>
              semS Try.prog (Instr.alloc 56 true (.tuple #[])) (.one .adr) (fun x29 w =>
              semU Try.prog (Instr.storeAt 56 (.pointer (some x29)) (.agg #[(.string x27), (.int .i64 x28)])) (fun w =>
              drawS w fun C w =>
              semQ Try.prog C (Instr.loadAt 74 (.pointer (some (x3.add 1)))) (.one .mp) (fun x30 =>
              semQ Try.prog C (Instr.loadAt 9 (.pointer (some (x29.add 0)))) (.one .str) (fun x31 =>
              semQ Try.prog C (Instr.lookup 74 (.map x30) (.string x31) false) (.one .ptr) (fun x32 =>
              semQ Try.prog C (Instr.loadAt 3 (.pointer (some (x29.add 1)))) (.one (.int .i64)) (fun x33 =>
              semS Try.prog (Instr.makeSlice 22 (.int .i64 x33) (.int .i64 x33)) (.one .slc) (fun x34 w =>
              moreS C w (fun C =>
              nilS x32 fun a35 =>
              semU Try.prog (Instr.storeAt 22 (.pointer (some (a35.add 0))) (.slice x34.a x34.len x34.cap)) (fun w =>
              again25 (IntKind.wrap .i64 (x24 + 1)) w) w)) w))))) w) w) w) w)
              (K (some x3) 0 w)) 0 w))) (0, 0) w) w) w) w)
theorem f26_ok {p0 : Sl} {K : (Option Addr) → Int → World → Prop} {w : World} (h : f26 p0 K w) : callS Try.prog 26 #[(.slice p0.a p0.len p0.cap)] [(.one .ptr), (.one (.int .i64))] K w :=
  calls_of_fn (args := [(.slice p0.a p0.len p0.cap)]) Try.f26 [] [] [] (.two .nil (.two .nil (.two .nil (.two .nil (.two (.two .nil (.one (.loop [(5, (.int .i64)), (20, (.int .i64))] (.two .nil (.two .nil (.two (.one (.two .nil (.two (.two (.draw [0, 1, 3, 7, 15, 31, 63, 127, 255, 31, 543, 2047, 4095, 8191, 16383, 32767, 65535, 131071, 262143, 524287, 1048575, 2097151, 4194303, 8388607, 16777215, 33554431, 67108863, 134217727, 268435455, 536870911]) .nil) (.two .nil (.draw [0, 1, 3, 7, 0, 16, 0, 64, 192, 511]))))) .nil)))))) (.two .nil (.two (.two .nil (.one (.loop [(72, (.int .i64))] (.two .nil (.two .nil (.two (.one (.two .nil (.draw [0, 1, 3, 7, 0, 16, 63, 0, 128, 384, 1023, 2047, 4095]))) .nil)))))) .nil))))))) (by kernel_rfl) (by kernel_rfl)
    (Eq.mp (by kernel_rfl : f26 p0 K w = evFn Try.prog Try.f26 [] [] [] (.two .nil (.two .nil (.two .nil (.two .nil (.two (.two .nil (.one (.loop [(5, (.int .i64)), (20, (.int .i64))] (.two .nil (.two .nil (.two (.one (.two .nil (.two (.two (.draw [0, 1, 3, 7, 15, 31, 63, 127, 255, 31, 543, 2047, 4095, 8191, 16383, 32767, 65535, 131071, 262143, 524287, 1048575, 2097151, 4194303, 8388607, 16777215, 33554431, 67108863, 134217727, 268435455, 536870911]) .nil) (.two .nil (.draw [0, 1, 3, 7, 0, 16, 0, 64, 192, 511]))))) .nil)))))) (.two .nil (.two (.two .nil (.one (.loop [(72, (.int .i64))] (.two .nil (.two .nil (.two (.one (.two .nil (.draw [0, 1, 3, 7, 0, 16, 63, 0, 128, 384, 1023, 2047, 4095]))) .nil)))))) .nil))))))) [(.slice p0.a p0.len p0.cap)] [(.one .ptr), (.one (.int .i64))] K w) h)

/-- (*sallyport/drive.Drive).find -/
def f45 (p0 : Option Addr) (p1 : ByteArray) (p2 : Int) (p3 : Int) (K : (Option Addr) → Int → World → Prop) (w : World) : Prop :=
  nilS p0 fun a1 =>
  semS Try.prog (Instr.loadAt 74 (.pointer (some (a1.add 1)))) (.one .mp) (fun x2 w =>
  semS Try.prog (Instr.lookup 74 (.map x2) (.string p1) false) (.one .ptr) (fun x3 w =>
  nilS p0 fun a4 =>
  semS Try.prog (Instr.loadAt 4 (.pointer (some (a4.add 4)))) (.one .bool) (fun x5 w =>
  cond x5
    (K none 42 w)
    (semS Try.prog (binS .eql 78 (.tmp 23) (.const (Go.Value.pointer none)) (.pointer x3) (.pointer none)) (.one .bool) (fun x6 w =>
    cond x6
      (K none 40 w)
      (nilS x3 fun a7 =>
      semS Try.prog (Instr.loadAt 22 (.pointer (some (a7.add 0)))) (.one .slc) (fun x8 w =>
      callS Try.prog 49 #[(.int .i64 p2), (.int .i64 p3), (.int .i64 (x8.len : Int))] [(.one .bool)] (fun r9 w =>
      cond (!r9)
        (K none 10 w)
        (K x3 0 w)) w) w)) w)) w) w) w
theorem f45_ok {p0 : Option Addr} {p1 : ByteArray} {p2 : Int} {p3 : Int} {K : (Option Addr) → Int → World → Prop} {w : World} (h : f45 p0 p1 p2 p3 K w) : callS Try.prog 45 #[(.pointer p0), (.string p1), (.int .i64 p2), (.int .i64 p3)] [(.one .ptr), (.one (.int .i64))] K w :=
  calls_of_fn (args := [(.pointer p0), (.string p1), (.int .i64 p2), (.int .i64 p3)]) Try.f45 [] [] [] .nil (by kernel_rfl) (by kernel_rfl)
    (Eq.mp (by kernel_rfl : f45 p0 p1 p2 p3 K w = evFn Try.prog Try.f45 [] [] [] .nil [(.pointer p0), (.string p1), (.int .i64 p2), (.int .i64 p3)] [(.one .ptr), (.one (.int .i64))] K w) h)

/-- sallyport/drive.sectors -/
def f46 (p0 : Int) (p1 : Int) (K : Int → Int → World → Prop) (w : World) : Prop :=
  cond (p1 == 0)
    (K (IntKind.wrap .i64 (Int.tdiv p0 64)) 0 w)
    (K (IntKind.wrap .i64 (Int.tdiv p0 64)) (IntKind.wrap .i64 ((IntKind.wrap .i64 ((IntKind.wrap .i64 (Int.tdiv (IntKind.wrap .i64 ((IntKind.wrap .i64 (p0 + p1)) - 1)) 64)) - (IntKind.wrap .i64 (Int.tdiv p0 64)))) + 1)) w)
theorem f46_ok {p0 : Int} {p1 : Int} {K : Int → Int → World → Prop} {w : World} (h : f46 p0 p1 K w) : callS Try.prog 46 #[(.int .i64 p0), (.int .i64 p1)] [(.one (.int .i64)), (.one (.int .i64))] K w :=
  calls_of_fn (args := [(.int .i64 p0), (.int .i64 p1)]) Try.f46 [] [] [] .nil (by kernel_rfl) (by kernel_rfl)
    (Eq.mp (by kernel_rfl : f46 p0 p1 K w = evFn Try.prog Try.f46 [] [] [] .nil [(.int .i64 p0), (.int .i64 p1)] [(.one (.int .i64)), (.one (.int .i64))] K w) h)

/-- (*sallyport/drive.Drive).Write -/
def f27 (p0 : Option Addr) (p1 : ByteArray) (p2 : Int) (p3 : Sl) (K : Int → World → Prop) (w : World) : Prop :=
  callS Try.prog 45 #[(.pointer p0), (.string p1), (.int .i64 p2), (.int .i64 (p3.len : Int))] [(.one .ptr), (.one (.int .i64))] (fun r1 r2 w =>
  cond (r2 != 0)
    (K r2 w)
    (nilS p0 fun a3 =>
    semS Try.prog (Instr.loadAt 3 (.pointer (some (a3.add 2)))) (.one (.int .i64)) (fun x4 w =>
    cond (x4 != 0)
      (nilS p0 fun a5 =>
      semS Try.prog (Instr.loadAt 3 (.pointer (some (a5.add 2)))) (.one (.int .i64)) (fun x6 w =>
      nilS p0 fun a7 =>
      semU Try.prog (Instr.storeAt 3 (.pointer (some (a7.add 2))) (.int .i64 (if (-1) > (IntKind.wrap .i64 (x6 - 1)) then -1 else IntKind.wrap .i64 (x6 - 1)))) (fun w =>
      nilS r1 fun a8 =>
      semS Try.prog (Instr.loadAt 22 (.pointer (some (a8.add 0)))) (.one .slc) (fun x9 w =>
      semS Try.prog (Instr.sliceAt 22 (.slice x9.a x9.len x9.cap) (some (.int .i64 p2)) none none) (.one .slc) (fun x10 w =>
      semS Try.prog (Builtin.copy_ #[22, 22] 3 #[(.slice x10.a x10.len x10.cap), (.slice p3.a p3.len p3.cap)]) (.one (.int .i64)) (fun r11 w =>
      K 0 w) w) w) w) w) w)
      (callS Try.prog 46 #[(.int .i64 p2), (.int .i64 (p3.len : Int))] [(.one (.int .i64)), (.one (.int .i64))] (fun r12 r13 w =>
      nilS p0 fun a14 =>
      semS Try.prog (Instr.loadAt 51 (.pointer (some (a14.add 3)))) (.one .slc) (fun x15 w =>
      loopS (σ := Int) (fun x16 w again17 =>
        cond (decide (x16 < (if (x15.len : Int) < r13 then (x15.len : Int) else r13)))
          (nilS p0 fun a18 =>
          semS Try.prog (Instr.loadAt 51 (.pointer (some (a18.add 3)))) (.one .slc) (fun x19 w =>
          semS Try.prog (Instr.indexAt 51 (.slice x19.a x19.len x19.cap) (.int .i64 x16)) (.one .adr) (fun x20 w =>
          semS Try.prog (Instr.loadAt 4 (.pointer (some x20))) (.one .bool) (fun x21 w =>
          cond x21
            (drawS w fun C w =>
            nilS r1 fun a22 =>
            semQ Try.prog C (Instr.loadAt 22 (.pointer (some (a22.add 0)))) (.one .slc) (fun x23 =>
            semQ Try.prog C (Instr.sliceAt 22 (.slice x23.a x23.len x23.cap) (some (.int .i64 (if (IntKind.wrap .i64 ((IntKind.wrap .i64 (r12 + x16)) * 64)) > p2 then IntKind.wrap .i64 ((IntKind.wrap .i64 (r12 + x16)) * 64) else p2))) (some (.int .i64 (if (IntKind.wrap .i64 ((IntKind.wrap .i64 ((IntKind.wrap .i64 (r12 + x16)) + 1)) * 64)) < (IntKind.wrap .i64 (p2 + (p3.len : Int))) then IntKind.wrap .i64 ((IntKind.wrap .i64 ((IntKind.wrap .i64 (r12 + x16)) + 1)) * 64) else IntKind.wrap .i64 (p2 + (p3.len : Int))))) none) (.one .slc) (fun x24 =>
            semQ Try.prog C (Instr.sliceAt 22 (.slice p3.a p3.len p3.cap) (some (.int .i64 (IntKind.wrap .i64 ((if (IntKind.wrap .i64 ((IntKind.wrap .i64 (r12 + x16)) * 64)) > p2 then IntKind.wrap .i64 ((IntKind.wrap .i64 (r12 + x16)) * 64) else p2) - p2)))) none none) (.one .slc) (fun x25 =>
            semS Try.prog (Builtin.copy_ #[22, 22] 3 #[(.slice x24.a x24.len x24.cap), (.slice x25.a x25.len x25.cap)]) (.one (.int .i64)) (fun r26 w =>
            again17 (IntKind.wrap .i64 (x16 + 1)) w) w))))
            (again17 (IntKind.wrap .i64 (x16 + 1)) w)) w) w) w)
          (nilS p0 fun a27 =>
          semU Try.prog (Instr.storeAt 4 (.pointer (some (a27.add 4))) (.bool true)) (fun w =>
          K 42 w) w)) 0 w) w) w)) w)) w
theorem f27_ok {p0 : Option Addr} {p1 : ByteArray} {p2 : Int} {p3 : Sl} {K : Int → World → Prop} {w : World} (h : f27 p0 p1 p2 p3 K w) : callS Try.prog 27 #[(.pointer p0), (.string p1), (.int .i64 p2), (.slice p3.a p3.len p3.cap)] [(.one (.int .i64))] K w :=
  calls_of_fn (args := [(.pointer p0), (.string p1), (.int .i64 p2), (.slice p3.a p3.len p3.cap)]) Try.f27 [] [] [] (.two .nil (.two .nil (.two .nil (.two .nil (.two .nil (.two (.two .nil (.one (.loop [(64, (.int .i64))] (.two .nil (.two .nil (.two (.one (.two .nil (.two .nil (.two (.two .nil (.draw [0, 1, 3, 7, 0, 0, 63, 0, 0, 0, 768, 1920, 4095])) .nil)))) .nil)))))) .nil)))))) (by kernel_rfl) (by kernel_rfl)
    (Eq.mp (by kernel_rfl : f27 p0 p1 p2 p3 K w = evFn Try.prog Try.f27 [] [] [] (.two .nil (.two .nil (.two .nil (.two .nil (.two .nil (.two (.two .nil (.one (.loop [(64, (.int .i64))] (.two .nil (.two .nil (.two (.one (.two .nil (.two .nil (.two (.two .nil (.draw [0, 1, 3, 7, 0, 0, 63, 0, 0, 0, 768, 1920, 4095])) .nil)))) .nil)))))) .nil)))))) [(.pointer p0), (.string p1), (.int .i64 p2), (.slice p3.a p3.len p3.cap)] [(.one (.int .i64))] K w) h)

/-- (*sallyport/drive.Drive).Read -/
def f28 (p0 : Option Addr) (p1 : ByteArray) (p2 : Int) (p3 : Int) (K : Sl → Int → World → Prop) (w : World) : Prop :=
  callS Try.prog 45 #[(.pointer p0), (.string p1), (.int .i64 p2), (.int .i64 p3)] [(.one .ptr), (.one (.int .i64))] (fun r1 r2 w =>
  cond (r2 != 0)
    (K (⟨none, 0, 0⟩) r2 w)
    (callS Try.prog 46 #[(.int .i64 p2), (.int .i64 p3)] [(.one (.int .i64)), (.one (.int .i64))] (fun r3 r4 w =>
    loopS (σ := Int) (fun x5 w again6 =>
      cond (decide (x5 < r4))
        (nilS r1 fun a7 =>
        semS Try.prog (Instr.loadAt 79 (.pointer (some (a7.add 1)))) (.one .mp) (fun x8 w =>
        semS Try.prog (Instr.lookup 79 (.map x8) (.int .i64 (IntKind.wrap .i64 (r3 + x5))) false) (.one .bool) (fun x9 w =>
        cond x9
          (K (⟨none, 0, 0⟩) 41 w)
          (again6 (IntKind.wrap .i64 (x5 + 1)) w)) w) w)
        (nilS p0 fun a10 =>
        semS Try.prog (Instr.loadAt 3 (.pointer (some (a10.add 5)))) (.one (.int .i64)) (fun x11 w =>
        nilS p0 fun a12 =>
        semU Try.prog (Instr.storeAt 3 (.pointer (some (a12.add 5))) (.int .i64 (if 1152921504606846976 < (IntKind.wrap .i64 (x11 + 1)) then 1152921504606846976 else IntKind.wrap .i64 (x11 + 1)))) (fun w =>
        nilS p0 fun a13 =>
        semS Try.prog (Instr.loadAt 3 (.pointer (some (a13.add 6)))) (.one (.int .i64)) (fun x14 w =>
        nilS p0 fun a15 =>
        semU Try.prog (Instr.storeAt 3 (.pointer (some (a15.add 6))) (.int .i64 (if 1152921504606846976 < (IntKind.wrap .i64 (x14 + p3)) then 1152921504606846976 else IntKind.wrap .i64 (x14 + p3)))) (fun w =>
        nilS r1 fun a16 =>
        semS Try.prog (Instr.loadAt 22 (.pointer (some (a16.add 0)))) (.one .slc) (fun x17 w =>
        semS Try.prog (Instr.sliceAt 22 (.slice x17.a x17.len x17.cap) (some (.int .i64 p2)) (some (.int .i64 (IntKind.wrap .i64 (p2 + p3)))) none) (.one .slc) (fun x18 w =>
        callS Try.prog 47 #[(.slice x18.a x18.len x18.cap)] [(.one .slc)] (fun r19 w =>
        K r19 0 w) w) w) w) w) w) w) w)) 0 w) w)) w
theorem f28_ok {p0 : Option Addr} {p1 : ByteArray} {p2 : Int} {p3 : Int} {K : Sl → Int → World → Prop} {w : World} (h : f28 p0 p1 p2 p3 K w) : callS Try.prog 28 #[(.pointer p0), (.string p1), (.int .i64 p2), (.int .i64 p3)] [(.one .slc), (.one (.int .i64))] K w :=
  calls_of_fn (args := [(.pointer p0), (.string p1), (.int .i64 p2), (.int .i64 p3)]) Try.f28 [] [] [] (.two .nil (.two .nil (.two .nil (.two .nil (.two (.two .nil (.one (.loop [(33, (.int .i64))] .nil))) .nil))))) (by kernel_rfl) (by kernel_rfl)
    (Eq.mp (by kernel_rfl : f28 p0 p1 p2 p3 K w = evFn Try.prog Try.f28 [] [] [] (.two .nil (.two .nil (.two .nil (.two .nil (.two (.two .nil (.one (.loop [(33, (.int .i64))] .nil))) .nil))))) [(.pointer p0), (.string p1), (.int .i64 p2), (.int .i64 p3)] [(.one .slc), (.one (.int .i64))] K w) h)

/-- sallyport/record.Load -/
def f29 (p0 : Option Addr) (K : Int → Int → Bool → Int → Int → Bool → Bool → Int → World → Prop) (w : World) : Prop :=
  semS Try.prog (Instr.alloc 29 true (.tuple #[])) (.one .adr) (fun x1 w =>
  callS Try.prog 28 #[(.pointer p0), (.string (ByteArray.mk #[109, 105, 115, 99])), (.int .i64 0), (.int .i64 32)] [(.one .slc), (.one (.int .i64))] (fun r2 r3 w =>
  cond (r3 != 0)
    (semU Try.prog (Instr.storeAt 29 (.pointer (some x1)) (.agg #[(.int .i64 0), (.int .i64 0), (.bool false), (.int .i64 0), (.int .i64 0), (.bool false)])) (fun w =>
    ∃ v4, (loadVar 29 x1).run Try.prog w = .ok v4 w ∧ decR [(.agg [(.int .i64), (.int .i64), .bool, (.int .i64), (.int .i64), .bool]), (.one .bool), (.one (.int .i64))] (.tuple #[v4, (.bool false), (.int .i64 r3)]) K fun r => r w) w)
    (callS Try.prog 20 #[(.slice r2.a r2.len r2.cap)] [(.agg [(.int .i64), (.int .i64), .bool, (.int .i64), (.int .i64), .bool]), (.one (.int .i64))] (fun r5 r6 r7 r8 r9 r10 r11 w =>
    semS Try.prog (Instr.alloc 29 true (.tuple #[])) (.one .adr) (fun x12 w =>
    semU Try.prog (Instr.storeAt 29 (.pointer (some x12)) (.agg #[(.int .i64 r5), (.int .i64 r6), (.bool r7), (.int .i64 r8), (.int .i64 r9), (.bool r10)])) (fun w =>
    cond (r11 == 0)
      (semS Try.prog (Instr.loadAt 29 (.pointer (some x12))) (.agg [(.int .i64), (.int .i64), .bool, (.int .i64), (.int .i64), .bool]) (fun x13 x14 x15 x16 x17 x18 w =>
      semU Try.prog (Instr.storeAt 29 (.pointer (some x1)) (.agg #[(.int .i64 x13), (.int .i64 x14), (.bool x15), (.int .i64 x16), (.int .i64 x17), (.bool x18)])) (fun w =>
      ∃ v19, (loadVar 29 x1).run Try.prog w = .ok v19 w ∧ decR [(.agg [(.int .i64), (.int .i64), .bool, (.int .i64), (.int .i64), .bool]), (.one .bool), (.one (.int .i64))] (.tuple #[v19, (.bool false), (.int .i64 0)]) K fun r => r w) w) w)
      (callS Try.prog 30 #[] [(.agg [(.int .i64), (.int .i64), .bool, (.int .i64), (.int .i64), .bool])] (fun r20 r21 r22 r23 r24 r25 w =>
      semU Try.prog (Instr.storeAt 29 (.pointer (some x1)) (.agg #[(.int .i64 r20), (.int .i64 r21), (.bool r22), (.int .i64 r23), (.int .i64 r24), (.bool r25)])) (fun w =>
      ∃ v26, (loadVar 29 x1).run Try.prog w = .ok v26 w ∧ decR [(.agg [(.int .i64), (.int .i64), .bool, (.int .i64), (.int .i64), .bool]), (.one .bool), (.one (.int .i64))] (.tuple #[v26, (.bool true), (.int .i64 0)]) K fun r => r w) w) w)) w) w) w)) w) w
theorem f29_ok {p0 : Option Addr} {K : Int → Int → Bool → Int → Int → Bool → Bool → Int → World → Prop} {w : World} (h : f29 p0 K w) : callS Try.prog 29 #[(.pointer p0)] [(.agg [(.int .i64), (.int .i64), .bool, (.int .i64), (.int .i64), .bool]), (.one .bool), (.one (.int .i64))] K w :=
  calls_of_fn (args := [(.pointer p0)]) Try.f29 [] [] [] .nil (by kernel_rfl) (by kernel_rfl)
    (Eq.mp (by kernel_rfl : f29 p0 K w = evFn Try.prog Try.f29 [] [] [] .nil [(.pointer p0)] [(.agg [(.int .i64), (.int .i64), .bool, (.int .i64), (.int .i64), .bool]), (.one .bool), (.one (.int .i64))] K w) h)

/-- sallyport/record.Save -/
def f31 (p0 : Option Addr) (p1_0 : Int) (p1_1 : Int) (p1_2 : Bool) (p1_3 : Int) (p1_4 : Int) (p1_5 : Bool) (K : Int → World → Prop) (w : World) : Prop :=
  semS Try.prog (Instr.box 29 (.agg #[(.int .i64 p1_0), (.int .i64 p1_1), (.bool p1_2), (.int .i64 p1_3), (.int .i64 p1_4), (.bool p1_5)])) (.one .adr) (fun x1 w =>
  semS Try.prog (Instr.loadAt 29 (.pointer (some x1))) (.agg [(.int .i64), (.int .i64), .bool, (.int .i64), (.int .i64), .bool]) (fun x2 x3 x4 x5 x6 x7 w =>
  callS Try.prog 22 #[(.agg #[(.int .i64 x2), (.int .i64 x3), (.bool x4), (.int .i64 x5), (.int .i64 x6), (.bool x7)])] [(.one .slc), (.one (.int .i64))] (fun r8 r9 w =>
  cond (r9 != 0)
    (K r9 w)
    (callS Try.prog 27 #[(.pointer p0), (.string (ByteArray.mk #[109, 105, 115, 99])), (.int .i64 0), (.slice r8.a r8.len r8.cap)] [(.one (.int .i64))] (fun r10 w =>
    K r10 w) w)) w) w) w
theorem f31_ok {p0 : Option Addr} {p1_0 : Int} {p1_1 : Int} {p1_2 : Bool} {p1_3 : Int} {p1_4 : Int} {p1_5 : Bool} {K : Int → World → Prop} {w : World} (h : f31 p0 p1_0 p1_1 p1_2 p1_3 p1_4 p1_5 K w) : callS Try.prog 31 #[(.pointer p0), (.agg #[(.int .i64 p1_0), (.int .i64 p1_1), (.bool p1_2), (.int .i64 p1_3), (.int .i64 p1_4), (.bool p1_5)])] [(.one (.int .i64))] K w :=
  calls_of_fn (args := [(.pointer p0), (.agg #[(.int .i64 p1_0), (.int .i64 p1_1), (.bool p1_2), (.int .i64 p1_3), (.int .i64 p1_4), (.bool p1_5)])]) Try.f31 [] [] [] .nil (by kernel_rfl) (by kernel_rfl)
    (Eq.mp (by kernel_rfl : f31 p0 p1_0 p1_1 p1_2 p1_3 p1_4 p1_5 K w = evFn Try.prog Try.f31 [] [] [] .nil [(.pointer p0), (.agg #[(.int .i64 p1_0), (.int .i64 p1_1), (.bool p1_2), (.int .i64 p1_3), (.int .i64 p1_4), (.bool p1_5)])] [(.one (.int .i64))] K w) h)

/-- slices.Clone[[]bool,bool] -/
def f48 (p0 : Sl) (K : Sl → World → Prop) (w : World) : Prop :=
  semS Try.prog (binS .eql 51 (.tmp 3) (.const (Go.Value.slice none 0 0)) (.slice p0.a p0.len p0.cap) (.slice none 0 0)) (.one .bool) (fun x1 w =>
  cond x1
    (K (⟨none, 0, 0⟩) w)
    (semS Try.prog (Instr.buildSlice 51 0 #[]) (.one .slc) (fun x2 w =>
    semS Try.prog (Builtin.append_ #[51, 51] 51 #[(.slice x2.a x2.len x2.cap), (.slice p0.a p0.len p0.cap)]) (.one .slc) (fun r3 w =>
    K r3 w) w) w)) w
theorem f48_ok {p0 : Sl} {K : Sl → World → Prop} {w : World} (h : f48 p0 K w) : callS Try.prog 48 #[(.slice p0.a p0.len p0.cap)] [(.one .slc)] K w :=
  calls_of_fn (args := [(.slice p0.a p0.len p0.cap)]) Try.f48 [] [] [] .nil (by kernel_rfl) (by kernel_rfl)
    (Eq.mp (by kernel_rfl : f48 p0 K w = evFn Try.prog Try.f48 [] [] [] .nil [(.slice p0.a p0.len p0.cap)] [(.one .slc)] K w) h)

/-- (*sallyport/drive.Drive).Arm -/
def f32 (p0 : Option Addr) (p1 : Int) (p2 : Sl) (K : World → Prop) (w : World) : Prop :=
  callS Try.prog 48 #[(.slice p2.a p2.len p2.cap)] [(.one .slc)] (fun r1 w =>
  nilS p0 fun a2 =>
  semU Try.prog (Instr.storeAt 3 (.pointer (some (a2.add 2))) (.int .i64 (if (-1) > p1 then -1 else p1))) (fun w =>
  nilS p0 fun a3 =>
  semU Try.prog (Instr.storeAt 51 (.pointer (some (a3.add 3))) (.slice r1.a r1.len r1.cap)) (fun w =>
  K w) w) w) w
theorem f32_ok {p0 : Option Addr} {p1 : Int} {p2 : Sl} {K : World → Prop} {w : World} (h : f32 p0 p1 p2 K w) : callS Try.prog 32 #[(.pointer p0), (.int .i64 p1), (.slice p2.a p2.len p2.cap)] [] K w :=
  calls_of_fn (args := [(.pointer p0), (.int .i64 p1), (.slice p2.a p2.len p2.cap)]) Try.f32 [] [] [] .nil (by kernel_rfl) (by kernel_rfl)
    (Eq.mp (by kernel_rfl : f32 p0 p1 p2 K w = evFn Try.prog Try.f32 [] [] [] .nil [(.pointer p0), (.int .i64 p1), (.slice p2.a p2.len p2.cap)] [] K w) h)

/-- (*sallyport/drive.Drive).Boot -/
def f33 (p0 : Option Addr) (K : World → Prop) (w : World) : Prop :=
  nilS p0 fun a1 =>
  semU Try.prog (Instr.storeAt 3 (.pointer (some (a1.add 2))) (.int .i64 (-1))) (fun w =>
  nilS p0 fun a2 =>
  semU Try.prog (Instr.storeAt 4 (.pointer (some (a2.add 4))) (.bool false)) (fun w =>
  K w) w) w
theorem f33_ok {p0 : Option Addr} {K : World → Prop} {w : World} (h : f33 p0 K w) : callS Try.prog 33 #[(.pointer p0)] [] K w :=
  calls_of_fn (args := [(.pointer p0)]) Try.f33 [] [] [] .nil (by kernel_rfl) (by kernel_rfl)
    (Eq.mp (by kernel_rfl : f33 p0 K w = evFn Try.prog Try.f33 [] [] [] .nil [(.pointer p0)] [] K w) h)

/-- sallyport/sallyportlaw16.RecordLasts -/
def f9 (p0_0 : Int) (p0_1 : Int) (p0_2 : Bool) (p0_3 : Int) (p0_4 : Int) (p0_5 : Bool) (p1_0 : Int) (p1_1 : Int) (p1_2 : Bool) (p1_3 : Int) (p1_4 : Int) (p1_5 : Bool) (p2 : Int) (p3 : Sl) (p4 : Sl) (K : Bool → World → Prop) (w : World) : Prop :=
  semS Try.prog (Instr.box 29 (.agg #[(.int .i64 p0_0), (.int .i64 p0_1), (.bool p0_2), (.int .i64 p0_3), (.int .i64 p0_4), (.bool p0_5)])) (.one .adr) (fun x1 w =>
  semS Try.prog (Instr.box 29 (.agg #[(.int .i64 p1_0), (.int .i64 p1_1), (.bool p1_2), (.int .i64 p1_3), (.int .i64 p1_4), (.bool p1_5)])) (.one .adr) (fun x2 w =>
  callS Try.prog 10 #[] [(.one .bool)] (fun r3 w =>
  cond (!r3)
    (K false w)
    (cond ((decide ((p3.len : Int) > 20)) || (decide ((p4.len : Int) > 64)))
      (K true w)
      (semS Try.prog (Instr.buildSlice 57 1 #[(0, (.agg #[(.string (ByteArray.mk #[109, 105, 115, 99])), (.int .i64 64)]))]) (.one .slc) (fun x4 w =>
      callS Try.prog 26 #[(.slice x4.a x4.len x4.cap)] [(.one .ptr), (.one (.int .i64))] (fun r5 r6 w =>
      joinS (σ := Bool) (fun b7 w =>
        cond b7
          (K false w)
          (callS Try.prog 27 #[(.pointer r5), (.string (ByteArray.mk #[109, 105, 115, 99])), (.int .i64 0), (.slice p4.a p4.len p4.cap)] [(.one (.int .i64))] (fun r9 w =>
          callS Try.prog 28 #[(.pointer r5), (.string (ByteArray.mk #[109, 105, 115, 99])), (.int .i64 0), (.int .i64 32)] [(.one .slc), (.one (.int .i64))] (fun r10 r11 w =>
          callS Try.prog 29 #[(.pointer r5)] [(.agg [(.int .i64), (.int .i64), .bool, (.int .i64), (.int .i64), .bool]), (.one .bool), (.one (.int .i64))] (fun r12 r13 r14 r15 r16 r17 r18 r19 w =>
          semS Try.prog (Instr.alloc 29 true (.tuple #[])) (.one .adr) (fun x20 w =>
          semU Try.prog (Instr.storeAt 29 (.pointer (some x20)) (.agg #[(.int .i64 r12), (.int .i64 r13), (.bool r14), (.int .i64 r15), (.int .i64 r16), (.bool r17)])) (fun w =>
          callS Try.prog 21 #[(.slice r10.a r10.len r10.cap)] [(.agg [(.int .i64), (.int .i64), .bool, (.int .i64), (.int .i64), .bool]), (.one (.int .i64))] (fun r21 r22 r23 r24 r25 r26 r27 w =>
          semS Try.prog (Instr.alloc 36 true (.tuple #[])) (.one .adr) (fun x28 w =>
          semU Try.prog (Instr.storeAt 36 (.pointer (some x28)) (.agg #[(.int .i64 r21), (.int .i64 r22), (.bool r23), (.int .i64 r24), (.int .i64 r25), (.bool r26)])) (fun w =>
          drawS w fun C w =>
          cond (r19 != 0)
            (K false w)
            (cond (!(r18 == (r27 != 0)))
              (K false w)
              (cond (r27 == 0)
                (semQ Try.prog C (Instr.loadAt 29 (.pointer (some x20))) (.agg [(.int .i64), (.int .i64), .bool, (.int .i64), (.int .i64), .bool]) (fun x29 x30 x31 x32 x33 x34 =>
                semQ Try.prog C (Instr.loadAt 36 (.pointer (some x28))) (.agg [(.int .i64), (.int .i64), .bool, (.int .i64), (.int .i64), .bool]) (fun x35 x36 x37 x38 x39 x40 =>
                callS Try.prog 16 #[(.agg #[(.int .i64 x29), (.int .i64 x30), (.bool x31), (.int .i64 x32), (.int .i64 x33), (.bool x34)])] [(.agg [(.int .i64), (.int .i64), .bool, (.int .i64), (.int .i64), .bool])] (fun r41 r42 r43 r44 r45 r46 w =>
                moreS C w (fun C =>
                semQ Try.prog C (binS .neq 36 (.tmp 77) (.tmp 78) (.agg #[(.int .i64 r41), (.int .i64 r42), (.bool r43), (.int .i64 r44), (.int .i64 r45), (.bool r46)]) (.agg #[(.int .i64 x35), (.int .i64 x36), (.bool x37), (.int .i64 x38), (.int .i64 x39), (.bool x40)])) (.one .bool) (fun x47 =>
                cond x47
                  (K false w)
                  (cond (r27 != 0)
                    (semQ Try.prog C (Instr.loadAt 29 (.pointer (some x20))) (.agg [(.int .i64), (.int .i64), .bool, (.int .i64), (.int .i64), .bool]) (fun x48 x49 x50 x51 x52 x53 =>
                    callS Try.prog 30 #[] [(.agg [(.int .i64), (.int .i64), .bool, (.int .i64), (.int .i64), .bool])] (fun r54 r55 r56 r57 r58 r59 w =>
                    moreS C w (fun C =>
                    semQ Try.prog C (binS .neq 29 (.tmp 86) (.tmp 87) (.agg #[(.int .i64 x48), (.int .i64 x49), (.bool x50), (.int .i64 x51), (.int .i64 x52), (.bool x53)]) (.agg #[(.int .i64 r54), (.int .i64 r55), (.bool r56), (.int .i64 r57), (.int .i64 r58), (.bool r59)])) (.one .bool) (fun x60 =>
                    cond x60
                      (K false w)
                      (semS Try.prog (Instr.loadAt 29 (.pointer (some x1))) (.agg [(.int .i64), (.int .i64), .bool, (.int .i64), (.int .i64), .bool]) (fun x61 x62 x63 x64 x65 x66 w =>
                      callS Try.prog 31 #[(.pointer r5), (.agg #[(.int .i64 x61), (.int .i64 x62), (.bool x63), (.int .i64 x64), (.int .i64 x65), (.bool x66)])] [(.one (.int .i64))] (fun r67 w =>
                      semS Try.prog (Instr.loadAt 29 (.pointer (some x1))) (.agg [(.int .i64), (.int .i64), .bool, (.int .i64), (.int .i64), .bool]) (fun x68 x69 x70 x71 x72 x73 w =>
                      callS Try.prog 16 #[(.agg #[(.int .i64 x68), (.int .i64 x69), (.bool x70), (.int .i64 x71), (.int .i64 x72), (.bool x73)])] [(.agg [(.int .i64), (.int .i64), .bool, (.int .i64), (.int .i64), .bool])] (fun r74 r75 r76 r77 r78 r79 w =>
                      callS Try.prog 24 #[(.agg #[(.int .i64 r74), (.int .i64 r75), (.bool r76), (.int .i64 r77), (.int .i64 r78), (.bool r79)])] [(.one .bool)] (fun r80 w =>
                      cond (!r80)
                        (K (r67 == 12) w)
                        (callS Try.prog 32 #[(.pointer r5), (.int .i64 p2), (.slice p3.a p3.len p3.cap)] [] (fun w =>
                        semS Try.prog (Instr.loadAt 29 (.pointer (some x2))) (.agg [(.int .i64), (.int .i64), .bool, (.int .i64), (.int .i64), .bool]) (fun x81 x82 x83 x84 x85 x86 w =>
                        callS Try.prog 31 #[(.pointer r5), (.agg #[(.int .i64 x81), (.int .i64 x82), (.bool x83), (.int .i64 x84), (.int .i64 x85), (.bool x86)])] [(.one (.int .i64))] (fun r87 w =>
                        callS Try.prog 33 #[(.pointer r5)] [] (fun w =>
                        callS Try.prog 29 #[(.pointer r5)] [(.agg [(.int .i64), (.int .i64), .bool, (.int .i64), (.int .i64), .bool]), (.one .bool), (.one (.int .i64))] (fun r88 r89 r90 r91 r92 r93 r94 r95 w =>
                        semS Try.prog (Instr.alloc 29 true (.tuple #[])) (.one .adr) (fun x96 w =>
                        semU Try.prog (Instr.storeAt 29 (.pointer (some x96)) (.agg #[(.int .i64 r88), (.int .i64 r89), (.bool r90), (.int .i64 r91), (.int .i64 r92), (.bool r93)])) (fun w =>
                        cond ((r95 != 0) || r94)
                          (K false w)
                          (semS Try.prog (Instr.loadAt 29 (.pointer (some x2))) (.agg [(.int .i64), (.int .i64), .bool, (.int .i64), (.int .i64), .bool]) (fun x97 x98 x99 x100 x101 x102 w =>
                          callS Try.prog 16 #[(.agg #[(.int .i64 x97), (.int .i64 x98), (.bool x99), (.int .i64 x100), (.int .i64 x101), (.bool x102)])] [(.agg [(.int .i64), (.int .i64), .bool, (.int .i64), (.int .i64), .bool])] (fun r103 r104 r105 r106 r107 r108 w =>
                          callS Try.prog 24 #[(.agg #[(.int .i64 r103), (.int .i64 r104), (.bool r105), (.int .i64 r106), (.int .i64 r107), (.bool r108)])] [(.one .bool)] (fun r109 w =>
                          cond (!r109)
                            (joinS (σ := Bool) (fun b110 w =>
                              K b110 w) fun J111 =>
                            cond (r87 == 12)
                              (semS Try.prog (Instr.loadAt 29 (.pointer (some x96))) (.agg [(.int .i64), (.int .i64), .bool, (.int .i64), (.int .i64), .bool]) (fun x112 x113 x114 x115 x116 x117 w =>
                                semS Try.prog (Instr.loadAt 29 (.pointer (some x1))) (.agg [(.int .i64), (.int .i64), .bool, (.int .i64), (.int .i64), .bool]) (fun x118 x119 x120 x121 x122 x123 w =>
                                semS Try.prog (binS .eql 29 (.tmp 128) (.tmp 129) (.agg #[(.int .i64 x112), (.int .i64 x113), (.bool x114), (.int .i64 x115), (.int .i64 x116), (.bool x117)]) (.agg #[(.int .i64 x118), (.int .i64 x119), (.bool x120), (.int .i64 x121), (.int .i64 x122), (.bool x123)])) (.one .bool) (fun x124 w =>
                                J111 x124 w) w) w) w)
                              (J111 false w))
                            (joinS (σ := Bool) (fun b125 w =>
                              cond b125
                                (joinS (σ := Bool) (fun b127 w =>
                                  K b127 w) fun J128 =>
                                cond (r87 == 42)
                                  (semS Try.prog (Instr.loadAt 29 (.pointer (some x96))) (.agg [(.int .i64), (.int .i64), .bool, (.int .i64), (.int .i64), .bool]) (fun x129 x130 x131 x132 x133 x134 w =>
                                    semS Try.prog (Instr.loadAt 29 (.pointer (some x2))) (.agg [(.int .i64), (.int .i64), .bool, (.int .i64), (.int .i64), .bool]) (fun x135 x136 x137 x138 x139 x140 w =>
                                    semS Try.prog (binS .eql 29 (.tmp 148) (.tmp 149) (.agg #[(.int .i64 x129), (.int .i64 x130), (.bool x131), (.int .i64 x132), (.int .i64 x133), (.bool x134)]) (.agg #[(.int .i64 x135), (.int .i64 x136), (.bool x137), (.int .i64 x138), (.int .i64 x139), (.bool x140)])) (.one .bool) (fun x141 w =>
                                    J128 x141 w) w) w) w)
                                  (J128 false w))
                                (cond (p2 == 0)
                                  (joinS (σ := Bool) (fun b142 w =>
                                    K b142 w) fun J143 =>
                                  cond (r87 == 42)
                                    (semS Try.prog (Instr.loadAt 29 (.pointer (some x96))) (.agg [(.int .i64), (.int .i64), .bool, (.int .i64), (.int .i64), .bool]) (fun x144 x145 x146 x147 x148 x149 w =>
                                      semS Try.prog (Instr.loadAt 29 (.pointer (some x1))) (.agg [(.int .i64), (.int .i64), .bool, (.int .i64), (.int .i64), .bool]) (fun x150 x151 x152 x153 x154 x155 w =>
                                      semS Try.prog (binS .eql 29 (.tmp 158) (.tmp 159) (.agg #[(.int .i64 x144), (.int .i64 x145), (.bool x146), (.int .i64 x147), (.int .i64 x148), (.bool x149)]) (.agg #[(.int .i64 x150), (.int .i64 x151), (.bool x152), (.int .i64 x153), (.int .i64 x154), (.bool x155)])) (.one .bool) (fun x156 w =>
                                      J143 x156 w) w) w) w)
                                    (J143 false w))
                                  (joinS (σ := Bool) (fun b157 w =>
                                    K b157 w) fun J158 =>
                                  cond (r87 == 0)
                                    (semS Try.prog (Instr.loadAt 29 (.pointer (some x96))) (.agg [(.int .i64), (.int .i64), .bool, (.int .i64), (.int .i64), .bool]) (fun x159 x160 x161 x162 x163 x164 w =>
                                      semS Try.prog (Instr.loadAt 29 (.pointer (some x2))) (.agg [(.int .i64), (.int .i64), .bool, (.int .i64), (.int .i64), .bool]) (fun x165 x166 x167 x168 x169 x170 w =>
                                      semS Try.prog (binS .eql 29 (.tmp 165) (.tmp 166) (.agg #[(.int .i64 x159), (.int .i64 x160), (.bool x161), (.int .i64 x162), (.int .i64 x163), (.bool x164)]) (.agg #[(.int .i64 x165), (.int .i64 x166), (.bool x167), (.int .i64 x168), (.int .i64 x169), (.bool x170)])) (.one .bool) (fun x171 w =>
                                      J158 x171 w) w) w) w)
                                    (J158 false w)))) fun J126 =>
                            cond ((p2 == 0) && (decide ((p3.len : Int) > 0)))
                              (semS Try.prog (Instr.indexAt 51 (.slice p3.a p3.len p3.cap) (.int .i64 0)) (.one .adr) (fun x172 w =>
                                semS Try.prog (Instr.loadAt 4 (.pointer (some x172))) (.one .bool) (fun x173 w =>
                                J126 x173 w) w) w)
                              (J126 false w))) w) w) w)) w) w) w) w) w) w) w)) w) w) w) w) w)))) w))
                    (semS Try.prog (Instr.loadAt 29 (.pointer (some x1))) (.agg [(.int .i64), (.int .i64), .bool, (.int .i64), (.int .i64), .bool]) (fun x174 x175 x176 x177 x178 x179 w =>
                    callS Try.prog 31 #[(.pointer r5), (.agg #[(.int .i64 x174), (.int .i64 x175), (.bool x176), (.int .i64 x177), (.int .i64 x178), (.bool x179)])] [(.one (.int .i64))] (fun r180 w =>
                    semS Try.prog (Instr.loadAt 29 (.pointer (some x1))) (.agg [(.int .i64), (.int .i64), .bool, (.int .i64), (.int .i64), .bool]) (fun x181 x182 x183 x184 x185 x186 w =>
                    callS Try.prog 16 #[(.agg #[(.int .i64 x181), (.int .i64 x182), (.bool x183), (.int .i64 x184), (.int .i64 x185), (.bool x186)])] [(.agg [(.int .i64), (.int .i64), .bool, (.int .i64), (.int .i64), .bool])] (fun r187 r188 r189 r190 r191 r192 w =>
                    callS Try.prog 24 #[(.agg #[(.int .i64 r187), (.int .i64 r188), (.bool r189), (.int .i64 r190), (.int .i64 r191), (.bool r192)])] [(.one .bool)] (fun r193 w =>
                    cond (!r193)
                      (K (r180 == 12) w)
                      (callS Try.prog 32 #[(.pointer r5), (.int .i64 p2), (.slice p3.a p3.len p3.cap)] [] (fun w =>
                      semS Try.prog (Instr.loadAt 29 (.pointer (some x2))) (.agg [(.int .i64), (.int .i64), .bool, (.int .i64), (.int .i64), .bool]) (fun x194 x195 x196 x197 x198 x199 w =>
                      callS Try.prog 31 #[(.pointer r5), (.agg #[(.int .i64 x194), (.int .i64 x195), (.bool x196), (.int .i64 x197), (.int .i64 x198), (.bool x199)])] [(.one (.int .i64))] (fun r200 w =>
                      callS Try.prog 33 #[(.pointer r5)] [] (fun w =>
                      callS Try.prog 29 #[(.pointer r5)] [(.agg [(.int .i64), (.int .i64), .bool, (.int .i64), (.int .i64), .bool]), (.one .bool), (.one (.int .i64))] (fun r201 r202 r203 r204 r205 r206 r207 r208 w =>
                      semS Try.prog (Instr.alloc 29 true (.tuple #[])) (.one .adr) (fun x209 w =>
                      semU Try.prog (Instr.storeAt 29 (.pointer (some x209)) (.agg #[(.int .i64 r201), (.int .i64 r202), (.bool r203), (.int .i64 r204), (.int .i64 r205), (.bool r206)])) (fun w =>
                      cond ((r208 != 0) || r207)
                        (K false w)
                        (semS Try.prog (Instr.loadAt 29 (.pointer (some x2))) (.agg [(.int .i64), (.int .i64), .bool, (.int .i64), (.int .i64), .bool]) (fun x210 x211 x212 x213 x214 x215 w =>
                        callS Try.prog 16 #[(.agg #[(.int .i64 x210), (.int .i64 x211), (.bool x212), (.int .i64 x213), (.int .i64 x214), (.bool x215)])] [(.agg [(.int .i64), (.int .i64), .bool, (.int .i64), (.int .i64), .bool])] (fun r216 r217 r218 r219 r220 r221 w =>
                        callS Try.prog 24 #[(.agg #[(.int .i64 r216), (.int .i64 r217), (.bool r218), (.int .i64 r219), (.int .i64 r220), (.bool r221)])] [(.one .bool)] (fun r222 w =>
                        cond (!r222)
                          (joinS (σ := Bool) (fun b223 w =>
                            K b223 w) fun J224 =>
                          cond (r200 == 12)
                            (semS Try.prog (Instr.loadAt 29 (.pointer (some x209))) (.agg [(.int .i64), (.int .i64), .bool, (.int .i64), (.int .i64), .bool]) (fun x225 x226 x227 x228 x229 x230 w =>
                              semS Try.prog (Instr.loadAt 29 (.pointer (some x1))) (.agg [(.int .i64), (.int .i64), .bool, (.int .i64), (.int .i64), .bool]) (fun x231 x232 x233 x234 x235 x236 w =>
                              semS Try.prog (binS .eql 29 (.tmp 128) (.tmp 129) (.agg #[(.int .i64 x225), (.int .i64 x226), (.bool x227), (.int .i64 x228), (.int .i64 x229), (.bool x230)]) (.agg #[(.int .i64 x231), (.int .i64 x232), (.bool x233), (.int .i64 x234), (.int .i64 x235), (.bool x236)])) (.one .bool) (fun x237 w =>
                              J224 x237 w) w) w) w)
                            (J224 false w))
                          (joinS (σ := Bool) (fun b238 w =>
                            cond b238
                              (joinS (σ := Bool) (fun b240 w =>
                                K b240 w) fun J241 =>
                              cond (r200 == 42)
                                (semS Try.prog (Instr.loadAt 29 (.pointer (some x209))) (.agg [(.int .i64), (.int .i64), .bool, (.int .i64), (.int .i64), .bool]) (fun x242 x243 x244 x245 x246 x247 w =>
                                  semS Try.prog (Instr.loadAt 29 (.pointer (some x2))) (.agg [(.int .i64), (.int .i64), .bool, (.int .i64), (.int .i64), .bool]) (fun x248 x249 x250 x251 x252 x253 w =>
                                  semS Try.prog (binS .eql 29 (.tmp 148) (.tmp 149) (.agg #[(.int .i64 x242), (.int .i64 x243), (.bool x244), (.int .i64 x245), (.int .i64 x246), (.bool x247)]) (.agg #[(.int .i64 x248), (.int .i64 x249), (.bool x250), (.int .i64 x251), (.int .i64 x252), (.bool x253)])) (.one .bool) (fun x254 w =>
                                  J241 x254 w) w) w) w)
                                (J241 false w))
                              (cond (p2 == 0)
                                (joinS (σ := Bool) (fun b255 w =>
                                  K b255 w) fun J256 =>
                                cond (r200 == 42)
                                  (semS Try.prog (Instr.loadAt 29 (.pointer (some x209))) (.agg [(.int .i64), (.int .i64), .bool, (.int .i64), (.int .i64), .bool]) (fun x257 x258 x259 x260 x261 x262 w =>
                                    semS Try.prog (Instr.loadAt 29 (.pointer (some x1))) (.agg [(.int .i64), (.int .i64), .bool, (.int .i64), (.int .i64), .bool]) (fun x263 x264 x265 x266 x267 x268 w =>
                                    semS Try.prog (binS .eql 29 (.tmp 158) (.tmp 159) (.agg #[(.int .i64 x257), (.int .i64 x258), (.bool x259), (.int .i64 x260), (.int .i64 x261), (.bool x262)]) (.agg #[(.int .i64 x263), (.int .i64 x264), (.bool x265), (.int .i64 x266), (.int .i64 x267), (.bool x268)])) (.one .bool) (fun x269 w =>
                                    J256 x269 w) w) w) w)
                                  (J256 false w))
                                (joinS (σ := Bool) (fun b270 w =>
                                  K b270 w) fun J271 =>
                                cond (r200 == 0)
                                  (semS Try.prog (Instr.loadAt 29 (.pointer (some x209))) (.agg [(.int .i64), (.int .i64), .bool, (.int .i64), (.int .i64), .bool]) (fun x272 x273 x274 x275 x276 x277 w =>
                                    semS Try.prog (Instr.loadAt 29 (.pointer (some x2))) (.agg [(.int .i64), (.int .i64), .bool, (.int .i64), (.int .i64), .bool]) (fun x278 x279 x280 x281 x282 x283 w =>
                                    semS Try.prog (binS .eql 29 (.tmp 165) (.tmp 166) (.agg #[(.int .i64 x272), (.int .i64 x273), (.bool x274), (.int .i64 x275), (.int .i64 x276), (.bool x277)]) (.agg #[(.int .i64 x278), (.int .i64 x279), (.bool x280), (.int .i64 x281), (.int .i64 x282), (.bool x283)])) (.one .bool) (fun x284 w =>
                                    J271 x284 w) w) w) w)
                                  (J271 false w)))) fun J239 =>
                          cond ((p2 == 0) && (decide ((p3.len : Int) > 0)))
                            (semS Try.prog (Instr.indexAt 51 (.slice p3.a p3.len p3.cap) (.int .i64 0)) (.one .adr) (fun x285 w =>
                              semS Try.prog (Instr.loadAt 4 (.pointer (some x285))) (.one .bool) (fun x286 w =>
                              J239 x286 w) w) w)
                            (J239 false w))) w) w) w)) w) w) w) w) w) w) w)) w) w) w) w) w))))) w)))
                (cond (r27 != 0)
                    (semQ Try.prog C (Instr.loadAt 29 (.pointer (some x20))) (.agg [(.int .i64), (.int .i64), .bool, (.int .i64), (.int .i64), .bool]) (fun x287 x288 x289 x290 x291 x292 =>
                    callS Try.prog 30 #[] [(.agg [(.int .i64), (.int .i64), .bool, (.int .i64), (.int .i64), .bool])] (fun r293 r294 r295 r296 r297 r298 w =>
                    moreS C w (fun C =>
                    semQ Try.prog C (binS .neq 29 (.tmp 86) (.tmp 87) (.agg #[(.int .i64 x287), (.int .i64 x288), (.bool x289), (.int .i64 x290), (.int .i64 x291), (.bool x292)]) (.agg #[(.int .i64 r293), (.int .i64 r294), (.bool r295), (.int .i64 r296), (.int .i64 r297), (.bool r298)])) (.one .bool) (fun x299 =>
                    cond x299
                      (K false w)
                      (semS Try.prog (Instr.loadAt 29 (.pointer (some x1))) (.agg [(.int .i64), (.int .i64), .bool, (.int .i64), (.int .i64), .bool]) (fun x300 x301 x302 x303 x304 x305 w =>
                      callS Try.prog 31 #[(.pointer r5), (.agg #[(.int .i64 x300), (.int .i64 x301), (.bool x302), (.int .i64 x303), (.int .i64 x304), (.bool x305)])] [(.one (.int .i64))] (fun r306 w =>
                      semS Try.prog (Instr.loadAt 29 (.pointer (some x1))) (.agg [(.int .i64), (.int .i64), .bool, (.int .i64), (.int .i64), .bool]) (fun x307 x308 x309 x310 x311 x312 w =>
                      callS Try.prog 16 #[(.agg #[(.int .i64 x307), (.int .i64 x308), (.bool x309), (.int .i64 x310), (.int .i64 x311), (.bool x312)])] [(.agg [(.int .i64), (.int .i64), .bool, (.int .i64), (.int .i64), .bool])] (fun r313 r314 r315 r316 r317 r318 w =>
                      callS Try.prog 24 #[(.agg #[(.int .i64 r313), (.int .i64 r314), (.bool r315), (.int .i64 r316), (.int .i64 r317), (.bool r318)])] [(.one .bool)] (fun r319 w =>
                      cond (!r319)
                        (K (r306 == 12) w)
                        (callS Try.prog 32 #[(.pointer r5), (.int .i64 p2), (.slice p3.a p3.len p3.cap)] [] (fun w =>
                        semS Try.prog (Instr.loadAt 29 (.pointer (some x2))) (.agg [(.int .i64), (.int .i64), .bool, (.int .i64), (.int .i64), .bool]) (fun x320 x321 x322 x323 x324 x325 w =>
                        callS Try.prog 31 #[(.pointer r5), (.agg #[(.int .i64 x320), (.int .i64 x321), (.bool x322), (.int .i64 x323), (.int .i64 x324), (.bool x325)])] [(.one (.int .i64))] (fun r326 w =>
                        callS Try.prog 33 #[(.pointer r5)] [] (fun w =>
                        callS Try.prog 29 #[(.pointer r5)] [(.agg [(.int .i64), (.int .i64), .bool, (.int .i64), (.int .i64), .bool]), (.one .bool), (.one (.int .i64))] (fun r327 r328 r329 r330 r331 r332 r333 r334 w =>
                        semS Try.prog (Instr.alloc 29 true (.tuple #[])) (.one .adr) (fun x335 w =>
                        semU Try.prog (Instr.storeAt 29 (.pointer (some x335)) (.agg #[(.int .i64 r327), (.int .i64 r328), (.bool r329), (.int .i64 r330), (.int .i64 r331), (.bool r332)])) (fun w =>
                        cond ((r334 != 0) || r333)
                          (K false w)
                          (semS Try.prog (Instr.loadAt 29 (.pointer (some x2))) (.agg [(.int .i64), (.int .i64), .bool, (.int .i64), (.int .i64), .bool]) (fun x336 x337 x338 x339 x340 x341 w =>
                          callS Try.prog 16 #[(.agg #[(.int .i64 x336), (.int .i64 x337), (.bool x338), (.int .i64 x339), (.int .i64 x340), (.bool x341)])] [(.agg [(.int .i64), (.int .i64), .bool, (.int .i64), (.int .i64), .bool])] (fun r342 r343 r344 r345 r346 r347 w =>
                          callS Try.prog 24 #[(.agg #[(.int .i64 r342), (.int .i64 r343), (.bool r344), (.int .i64 r345), (.int .i64 r346), (.bool r347)])] [(.one .bool)] (fun r348 w =>
                          cond (!r348)
                            (joinS (σ := Bool) (fun b349 w =>
                              K b349 w) fun J350 =>
                            cond (r326 == 12)
                              (semS Try.prog (Instr.loadAt 29 (.pointer (some x335))) (.agg [(.int .i64), (.int .i64), .bool, (.int .i64), (.int .i64), .bool]) (fun x351 x352 x353 x354 x355 x356 w =>
                                semS Try.prog (Instr.loadAt 29 (.pointer (some x1))) (.agg [(.int .i64), (.int .i64), .bool, (.int .i64), (.int .i64), .bool]) (fun x357 x358 x359 x360 x361 x362 w =>
                                semS Try.prog (binS .eql 29 (.tmp 128) (.tmp 129) (.agg #[(.int .i64 x351), (.int .i64 x352), (.bool x353), (.int .i64 x354), (.int .i64 x355), (.bool x356)]) (.agg #[(.int .i64 x357), (.int .i64 x358), (.bool x359), (.int .i64 x360), (.int .i64 x361), (.bool x362)])) (.one .bool) (fun x363 w =>
                                J350 x363 w) w) w) w)
                              (J350 false w))
                            (joinS (σ := Bool) (fun b364 w =>
                              cond b364
                                (joinS (σ := Bool) (fun b366 w =>
                                  K b366 w) fun J367 =>
                                cond (r326 == 42)
                                  (semS Try.prog (Instr.loadAt 29 (.pointer (some x335))) (.agg [(.int .i64), (.int .i64), .bool, (.int .i64), (.int .i64), .bool]) (fun x368 x369 x370 x371 x372 x373 w =>
                                    semS Try.prog (Instr.loadAt 29 (.pointer (some x2))) (.agg [(.int .i64), (.int .i64), .bool, (.int .i64), (.int .i64), .bool]) (fun x374 x375 x376 x377 x378 x379 w =>
                                    semS Try.prog (binS .eql 29 (.tmp 148) (.tmp 149) (.agg #[(.int .i64 x368), (.int .i64 x369), (.bool x370), (.int .i64 x371), (.int .i64 x372), (.bool x373)]) (.agg #[(.int .i64 x374), (.int .i64 x375), (.bool x376), (.int .i64 x377), (.int .i64 x378), (.bool x379)])) (.one .bool) (fun x380 w =>
                                    J367 x380 w) w) w) w)
                                  (J367 false w))
                                (cond (p2 == 0)
                                  (joinS (σ := Bool) (fun b381 w =>
                                    K b381 w) fun J382 =>
                                  cond (r326 == 42)
                                    (semS Try.prog (Instr.loadAt 29 (.pointer (some x335))) (.agg [(.int .i64), (.int .i64), .bool, (.int .i64), (.int .i64), .bool]) (fun x383 x384 x385 x386 x387 x388 w =>
                                      semS Try.prog (Instr.loadAt 29 (.pointer (some x1))) (.agg [(.int .i64), (.int .i64), .bool, (.int .i64), (.int .i64), .bool]) (fun x389 x390 x391 x392 x393 x394 w =>
                                      semS Try.prog (binS .eql 29 (.tmp 158) (.tmp 159) (.agg #[(.int .i64 x383), (.int .i64 x384), (.bool x385), (.int .i64 x386), (.int .i64 x387), (.bool x388)]) (.agg #[(.int .i64 x389), (.int .i64 x390), (.bool x391), (.int .i64 x392), (.int .i64 x393), (.bool x394)])) (.one .bool) (fun x395 w =>
                                      J382 x395 w) w) w) w)
                                    (J382 false w))
                                  (joinS (σ := Bool) (fun b396 w =>
                                    K b396 w) fun J397 =>
                                  cond (r326 == 0)
                                    (semS Try.prog (Instr.loadAt 29 (.pointer (some x335))) (.agg [(.int .i64), (.int .i64), .bool, (.int .i64), (.int .i64), .bool]) (fun x398 x399 x400 x401 x402 x403 w =>
                                      semS Try.prog (Instr.loadAt 29 (.pointer (some x2))) (.agg [(.int .i64), (.int .i64), .bool, (.int .i64), (.int .i64), .bool]) (fun x404 x405 x406 x407 x408 x409 w =>
                                      semS Try.prog (binS .eql 29 (.tmp 165) (.tmp 166) (.agg #[(.int .i64 x398), (.int .i64 x399), (.bool x400), (.int .i64 x401), (.int .i64 x402), (.bool x403)]) (.agg #[(.int .i64 x404), (.int .i64 x405), (.bool x406), (.int .i64 x407), (.int .i64 x408), (.bool x409)])) (.one .bool) (fun x410 w =>
                                      J397 x410 w) w) w) w)
                                    (J397 false w)))) fun J365 =>
                            cond ((p2 == 0) && (decide ((p3.len : Int) > 0)))
                              (semS Try.prog (Instr.indexAt 51 (.slice p3.a p3.len p3.cap) (.int .i64 0)) (.one .adr) (fun x411 w =>
                                semS Try.prog (Instr.loadAt 4 (.pointer (some x411))) (.one .bool) (fun x412 w =>
                                J365 x412 w) w) w)
                              (J365 false w))) w) w) w)) w) w) w) w) w) w) w)) w) w) w) w) w)))) w))
                    (semS Try.prog (Instr.loadAt 29 (.pointer (some x1))) (.agg [(.int .i64), (.int .i64), .bool, (.int .i64), (.int .i64), .bool]) (fun x413 x414 x415 x416 x417 x418 w =>
                    callS Try.prog 31 #[(.pointer r5), (.agg #[(.int .i64 x413), (.int .i64 x414), (.bool x415), (.int .i64 x416), (.int .i64 x417), (.bool x418)])] [(.one (.int .i64))] (fun r419 w =>
                    semS Try.prog (Instr.loadAt 29 (.pointer (some x1))) (.agg [(.int .i64), (.int .i64), .bool, (.int .i64), (.int .i64), .bool]) (fun x420 x421 x422 x423 x424 x425 w =>
                    callS Try.prog 16 #[(.agg #[(.int .i64 x420), (.int .i64 x421), (.bool x422), (.int .i64 x423), (.int .i64 x424), (.bool x425)])] [(.agg [(.int .i64), (.int .i64), .bool, (.int .i64), (.int .i64), .bool])] (fun r426 r427 r428 r429 r430 r431 w =>
                    callS Try.prog 24 #[(.agg #[(.int .i64 r426), (.int .i64 r427), (.bool r428), (.int .i64 r429), (.int .i64 r430), (.bool r431)])] [(.one .bool)] (fun r432 w =>
                    cond (!r432)
                      (K (r419 == 12) w)
                      (callS Try.prog 32 #[(.pointer r5), (.int .i64 p2), (.slice p3.a p3.len p3.cap)] [] (fun w =>
                      semS Try.prog (Instr.loadAt 29 (.pointer (some x2))) (.agg [(.int .i64), (.int .i64), .bool, (.int .i64), (.int .i64), .bool]) (fun x433 x434 x435 x436 x437 x438 w =>
                      callS Try.prog 31 #[(.pointer r5), (.agg #[(.int .i64 x433), (.int .i64 x434), (.bool x435), (.int .i64 x436), (.int .i64 x437), (.bool x438)])] [(.one (.int .i64))] (fun r439 w =>
                      callS Try.prog 33 #[(.pointer r5)] [] (fun w =>
                      callS Try.prog 29 #[(.pointer r5)] [(.agg [(.int .i64), (.int .i64), .bool, (.int .i64), (.int .i64), .bool]), (.one .bool), (.one (.int .i64))] (fun r440 r441 r442 r443 r444 r445 r446 r447 w =>
                      semS Try.prog (Instr.alloc 29 true (.tuple #[])) (.one .adr) (fun x448 w =>
                      semU Try.prog (Instr.storeAt 29 (.pointer (some x448)) (.agg #[(.int .i64 r440), (.int .i64 r441), (.bool r442), (.int .i64 r443), (.int .i64 r444), (.bool r445)])) (fun w =>
                      cond ((r447 != 0) || r446)
                        (K false w)
                        (semS Try.prog (Instr.loadAt 29 (.pointer (some x2))) (.agg [(.int .i64), (.int .i64), .bool, (.int .i64), (.int .i64), .bool]) (fun x449 x450 x451 x452 x453 x454 w =>
                        callS Try.prog 16 #[(.agg #[(.int .i64 x449), (.int .i64 x450), (.bool x451), (.int .i64 x452), (.int .i64 x453), (.bool x454)])] [(.agg [(.int .i64), (.int .i64), .bool, (.int .i64), (.int .i64), .bool])] (fun r455 r456 r457 r458 r459 r460 w =>
                        callS Try.prog 24 #[(.agg #[(.int .i64 r455), (.int .i64 r456), (.bool r457), (.int .i64 r458), (.int .i64 r459), (.bool r460)])] [(.one .bool)] (fun r461 w =>
                        cond (!r461)
                          (joinS (σ := Bool) (fun b462 w =>
                            K b462 w) fun J463 =>
                          cond (r439 == 12)
                            (semS Try.prog (Instr.loadAt 29 (.pointer (some x448))) (.agg [(.int .i64), (.int .i64), .bool, (.int .i64), (.int .i64), .bool]) (fun x464 x465 x466 x467 x468 x469 w =>
                              semS Try.prog (Instr.loadAt 29 (.pointer (some x1))) (.agg [(.int .i64), (.int .i64), .bool, (.int .i64), (.int .i64), .bool]) (fun x470 x471 x472 x473 x474 x475 w =>
                              semS Try.prog (binS .eql 29 (.tmp 128) (.tmp 129) (.agg #[(.int .i64 x464), (.int .i64 x465), (.bool x466), (.int .i64 x467), (.int .i64 x468), (.bool x469)]) (.agg #[(.int .i64 x470), (.int .i64 x471), (.bool x472), (.int .i64 x473), (.int .i64 x474), (.bool x475)])) (.one .bool) (fun x476 w =>
                              J463 x476 w) w) w) w)
                            (J463 false w))
                          (joinS (σ := Bool) (fun b477 w =>
                            cond b477
                              (joinS (σ := Bool) (fun b479 w =>
                                K b479 w) fun J480 =>
                              cond (r439 == 42)
                                (semS Try.prog (Instr.loadAt 29 (.pointer (some x448))) (.agg [(.int .i64), (.int .i64), .bool, (.int .i64), (.int .i64), .bool]) (fun x481 x482 x483 x484 x485 x486 w =>
                                  semS Try.prog (Instr.loadAt 29 (.pointer (some x2))) (.agg [(.int .i64), (.int .i64), .bool, (.int .i64), (.int .i64), .bool]) (fun x487 x488 x489 x490 x491 x492 w =>
                                  semS Try.prog (binS .eql 29 (.tmp 148) (.tmp 149) (.agg #[(.int .i64 x481), (.int .i64 x482), (.bool x483), (.int .i64 x484), (.int .i64 x485), (.bool x486)]) (.agg #[(.int .i64 x487), (.int .i64 x488), (.bool x489), (.int .i64 x490), (.int .i64 x491), (.bool x492)])) (.one .bool) (fun x493 w =>
                                  J480 x493 w) w) w) w)
                                (J480 false w))
                              (cond (p2 == 0)
                                (joinS (σ := Bool) (fun b494 w =>
                                  K b494 w) fun J495 =>
                                cond (r439 == 42)
                                  (semS Try.prog (Instr.loadAt 29 (.pointer (some x448))) (.agg [(.int .i64), (.int .i64), .bool, (.int .i64), (.int .i64), .bool]) (fun x496 x497 x498 x499 x500 x501 w =>
                                    semS Try.prog (Instr.loadAt 29 (.pointer (some x1))) (.agg [(.int .i64), (.int .i64), .bool, (.int .i64), (.int .i64), .bool]) (fun x502 x503 x504 x505 x506 x507 w =>
                                    semS Try.prog (binS .eql 29 (.tmp 158) (.tmp 159) (.agg #[(.int .i64 x496), (.int .i64 x497), (.bool x498), (.int .i64 x499), (.int .i64 x500), (.bool x501)]) (.agg #[(.int .i64 x502), (.int .i64 x503), (.bool x504), (.int .i64 x505), (.int .i64 x506), (.bool x507)])) (.one .bool) (fun x508 w =>
                                    J495 x508 w) w) w) w)
                                  (J495 false w))
                                (joinS (σ := Bool) (fun b509 w =>
                                  K b509 w) fun J510 =>
                                cond (r439 == 0)
                                  (semS Try.prog (Instr.loadAt 29 (.pointer (some x448))) (.agg [(.int .i64), (.int .i64), .bool, (.int .i64), (.int .i64), .bool]) (fun x511 x512 x513 x514 x515 x516 w =>
                                    semS Try.prog (Instr.loadAt 29 (.pointer (some x2))) (.agg [(.int .i64), (.int .i64), .bool, (.int .i64), (.int .i64), .bool]) (fun x517 x518 x519 x520 x521 x522 w =>
                                    semS Try.prog (binS .eql 29 (.tmp 165) (.tmp 166) (.agg #[(.int .i64 x511), (.int .i64 x512), (.bool x513), (.int .i64 x514), (.int .i64 x515), (.bool x516)]) (.agg #[(.int .i64 x517), (.int .i64 x518), (.bool x519), (.int .i64 x520), (.int .i64 x521), (.bool x522)])) (.one .bool) (fun x523 w =>
                                    J510 x523 w) w) w) w)
                                  (J510 false w)))) fun J478 =>
                          cond ((p2 == 0) && (decide ((p3.len : Int) > 0)))
                            (semS Try.prog (Instr.indexAt 51 (.slice p3.a p3.len p3.cap) (.int .i64 0)) (.one .adr) (fun x524 w =>
                              semS Try.prog (Instr.loadAt 4 (.pointer (some x524))) (.one .bool) (fun x525 w =>
                              J478 x525 w) w) w)
                            (J478 false w))) w) w) w)) w) w) w) w) w) w) w)) w) w) w) w) w))))) w) w) w) w) w) w) w) w)) fun J8 =>
      cond (r6 != 0)
        (J8 true w)
        (semS Try.prog (binS .eql 52 (.tmp 42) (.const (Go.Value.pointer none)) (.pointer r5) (.pointer none)) (.one .bool) (fun x526 w =>
          J8 x526 w) w)) w) w))) w) w) w
theorem f9_ok {p0_0 : Int} {p0_1 : Int} {p0_2 : Bool} {p0_3 : Int} {p0_4 : Int} {p0_5 : Bool} {p1_0 : Int} {p1_1 : Int} {p1_2 : Bool} {p1_3 : Int} {p1_4 : Int} {p1_5 : Bool} {p2 : Int} {p3 : Sl} {p4 : Sl} {K : Bool → World → Prop} {w : World} (h : f9 p0_0 p0_1 p0_2 p0_3 p0_4 p0_5 p1_0 p1_1 p1_2 p1_3 p1_4 p1_5 p2 p3 p4 K w) : callS Try.prog 9 #[(.agg #[(.int .i64 p0_0), (.int .i64 p0_1), (.bool p0_2), (.int .i64 p0_3), (.int .i64 p0_4), (.bool p0_5)]), (.agg #[(.int .i64 p1_0), (.int .i64 p1_1), (.bool p1_2), (.int .i64 p1_3), (.int .i64 p1_4), (.bool p1_5)]), (.int .i64 p2), (.slice p3.a p3.len p3.cap), (.slice p4.a p4.len p4.cap)] [(.one .bool)] K w :=
  calls_of_fn (args := [(.agg #[(.int .i64 p0_0), (.int .i64 p0_1), (.bool p0_2), (.int .i64 p0_3), (.int .i64 p0_4), (.bool p0_5)]), (.agg #[(.int .i64 p1_0), (.int .i64 p1_1), (.bool p1_2), (.int .i64 p1_3), (.int .i64 p1_4), (.bool p1_5)]), (.int .i64 p2), (.slice p3.a p3.len p3.cap), (.slice p4.a p4.len p4.cap)]) Try.f9 [] [] [] (.two .nil (.two .nil (.two .nil (.two .nil (.two .nil (.two .nil (.two .nil (.two .nil (.two (.two .nil (.two (.draw [0, 1, 3, 7, 7, 23, 63, 127, 255, 511, 1023, 2047, 4095, 8191, 4095, 32767, 65535, 131071, 262143, 524287, 1048575, 2097151, 4194303, 4194303, 16777215, 33554431, 67108863]) .nil)) .nil))))))))) (by kernel_rfl) (by kernel_rfl)
    (Eq.mp (by kernel_rfl : f9 p0_0 p0_1 p0_2 p0_3 p0_4 p0_5 p1_0 p1_1 p1_2 p1_3 p1_4 p1_5 p2 p3 p4 K w = evFn Try.prog Try.f9 [] [] [] (.two .nil (.two .nil (.two .nil (.two .nil (.two .nil (.two .nil (.two .nil (.two .nil (.two (.two .nil (.two (.draw [0, 1, 3, 7, 7, 23, 63, 127, 255, 511, 1023, 2047, 4095, 8191, 4095, 32767, 65535, 131071, 262143, 524287, 1048575, 2097151, 4194303, 4194303, 16777215, 33554431, 67108863]) .nil)) .nil))))))))) [(.agg #[(.int .i64 p0_0), (.int .i64 p0_1), (.bool p0_2), (.int .i64 p0_3), (.int .i64 p0_4), (.bool p0_5)]), (.agg #[(.int .i64 p1_0), (.int .i64 p1_1), (.bool p1_2), (.int .i64 p1_3), (.int .i64 p1_4), (.bool p1_5)]), (.int .i64 p2), (.slice p3.a p3.len p3.cap), (.slice p4.a p4.len p4.cap)] [(.one .bool)] K w) h)

end Go.Proofs.Ytmcejfmjclngaaa
