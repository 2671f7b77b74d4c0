/- The functions of the program, each as a plain statement, with the proof that it suffices for a call: printed by sh.py out of the loaded code. -/
import Derived.Test.YtmmhnlojldedbaaEng4
import Derived.Test.YtmmhnlojldedbaaProg
set_option maxRecDepth 100000
set_option linter.unusedVariables false
namespace Go.Proofs.Ytmmhnlojldedbaa
open Go Go.Eng

/-- sallyport/span.Align -/
def f12 (p0 : Int) (p1 : Int) (K : Int → Int → World → Prop) (w : World) : Prop :=
  cond (((decide (p0 < 0)) || (decide (p1 < 1))) || (decide (p1 > 65536)))
    (K 0 12 w)
    (cond (decide (p0 > 4611686018427387904))
      (K 0 11 w)
      (semS Try.prog (binS .quo 3 (.tmp 24) (.tmp 25) (.int .i64 (IntKind.wrap .i64 ((IntKind.wrap .i64 (p0 + p1)) - 1))) (.int .i64 p1)) (.one (.int .i64)) (fun x1 w =>
      cond (decide ((IntKind.wrap .i64 (x1 * p1)) ≤ 4611686018427387904))
        (K (IntKind.wrap .i64 (x1 * p1)) 0 w)
        (K 0 11 w)) w))
theorem f12_ok {p0 : Int} {p1 : Int} {K : Int → Int → World → Prop} {w : World} (h : f12 p0 p1 K w) : callS Try.prog 12 #[(.int .i64 p0), (.int .i64 p1)] [(.one (.int .i64)), (.one (.int .i64))] K w :=
  calls_of_fn (args := [(.int .i64 p0), (.int .i64 p1)]) Try.f12 [] [] [] .nil (by kernel_rfl) (by kernel_rfl)
    (Eq.mp (by kernel_rfl : f12 p0 p1 K w = evFn Try.prog Try.f12 [] [] [] .nil [(.int .i64 p0), (.int .i64 p1)] [(.one (.int .i64)), (.one (.int .i64))] K w) h)

/-- slices.Clone[[]byte,byte] -/
def f20 (p0 : Sl) (K : Sl → World → Prop) (w : World) : Prop :=
  semS Try.prog (binS .eql 27 (.tmp 3) (.const (Go.Value.slice none 0 0)) (.slice p0.a p0.len p0.cap) (.slice none 0 0)) (.one .bool) (fun x1 w =>
  cond x1
    (K (⟨none, 0, 0⟩) w)
    (semS Try.prog (Instr.buildSlice 27 0 #[]) (.one .slc) (fun x2 w =>
    semS Try.prog (Builtin.append_ #[27, 27] 27 #[(.slice x2.a x2.len x2.cap), (.slice p0.a p0.len p0.cap)]) (.one .slc) (fun r3 w =>
    K r3 w) w) w)) w
theorem f20_ok {p0 : Sl} {K : Sl → World → Prop} {w : World} (h : f20 p0 K w) : callS Try.prog 20 #[(.slice p0.a p0.len p0.cap)] [(.one .slc)] K w :=
  calls_of_fn (args := [(.slice p0.a p0.len p0.cap)]) Try.f20 [] [] [] .nil (by kernel_rfl) (by kernel_rfl)
    (Eq.mp (by kernel_rfl : f20 p0 K w = evFn Try.prog Try.f20 [] [] [] .nil [(.slice p0.a p0.len p0.cap)] [(.one .slc)] K w) h)

/-- sallyport/span.Put -/
def f13 (p0 : Sl) (p1 : Int) (p2 : Int) (K : Sl → Int → World → Prop) (w : World) : Prop :=
  cond ((decide (p1 < 1)) || (decide (p1 > 8)))
    (K (⟨none, 0, 0⟩) 12 w)
    (joinS (σ := Bool) (fun b1 w =>
      cond b1
        (K (⟨none, 0, 0⟩) 11 w)
        (callS Try.prog 20 #[(.slice p0.a p0.len p0.cap)] [(.one .slc)] (fun r3 w =>
        loopS (σ := Sl × Int) (fun s4 w again5 =>
          cond (decide (s4.2 ≥ 0))
            (semS Try.prog (binS .shr 3 (.tmp 40) (.tmp 42) (.int .i64 p2) (.int .i64 (IntKind.wrap .i64 (8 * s4.2)))) (.one (.int .i64)) (fun x6 w =>
            semS Try.prog (Instr.buildSlice 27 1 #[(0, (.int .u8 (IntKind.wrap .u8 x6)))]) (.one .slc) (fun x7 w =>
            semS Try.prog (Builtin.append_ #[27, 27] 27 #[(.slice s4.1.a s4.1.len s4.1.cap), (.slice x7.a x7.len x7.cap)]) (.one .slc) (fun r8 w =>
            again5 (r8, IntKind.wrap .i64 (s4.2 - 1)) w) w) w) w)
            (K s4.1 0 w)) (r3, IntKind.wrap .i64 (p1 - 1)) w) w)) fun J2 =>
    cond (decide (p2 < 0))
      (J2 true w)
      (joinS (σ := Bool) (fun b9 w =>
          J2 b9 w) fun J10 =>
        cond (decide (p1 < 8))
          (semS Try.prog (binS .shr 3 (.tmp 24) (.tmp 26) (.int .i64 p2) (.int .i64 (IntKind.wrap .i64 (8 * p1)))) (.one (.int .i64)) (fun x11 w =>
            J10 (x11 != 0) w) w)
          (J10 false w)))
theorem f13_ok {p0 : Sl} {p1 : Int} {p2 : Int} {K : Sl → Int → World → Prop} {w : World} (h : f13 p0 p1 p2 K w) : callS Try.prog 13 #[(.slice p0.a p0.len p0.cap), (.int .i64 p1), (.int .i64 p2)] [(.one .slc), (.one (.int .i64))] K w :=
  calls_of_fn (args := [(.slice p0.a p0.len p0.cap), (.int .i64 p1), (.int .i64 p2)]) Try.f13 [] [] [] (.two .nil (.two .nil (.two .nil (.two (.two .nil (.one (.loop [(8, .slc), (9, (.int .i64))] .nil))) .nil)))) (by kernel_rfl) (by kernel_rfl)
    (Eq.mp (by kernel_rfl : f13 p0 p1 p2 K w = evFn Try.prog Try.f13 [] [] [] (.two .nil (.two .nil (.two .nil (.two (.two .nil (.one (.loop [(8, .slc), (9, (.int .i64))] .nil))) .nil)))) [(.slice p0.a p0.len p0.cap), (.int .i64 p1), (.int .i64 p2)] [(.one .slc), (.one (.int .i64))] K w) h)

/-- sallyport/span.Within -/
def f14 (p0 : Int) (p1 : Int) (p2 : Int) (K : Bool → World → Prop) (w : World) : Prop :=
  K (((((decide (p0 ≥ 0)) && (decide (p1 ≥ 0))) && (decide (p2 ≥ 0))) && (decide (p0 ≤ p2))) && (decide (p1 ≤ (IntKind.wrap .i64 (p2 - p0))))) w
theorem f14_ok {p0 : Int} {p1 : Int} {p2 : Int} {K : Bool → World → Prop} {w : World} (h : f14 p0 p1 p2 K w) : callS Try.prog 14 #[(.int .i64 p0), (.int .i64 p1), (.int .i64 p2)] [(.one .bool)] K w :=
  calls_of_fn (args := [(.int .i64 p0), (.int .i64 p1), (.int .i64 p2)]) Try.f14 [] [] [] .nil (by kernel_rfl) (by kernel_rfl)
    (Eq.mp (by kernel_rfl : f14 p0 p1 p2 K w = evFn Try.prog Try.f14 [] [] [] .nil [(.int .i64 p0), (.int .i64 p1), (.int .i64 p2)] [(.one .bool)] K w) h)

/-- sallyport/sallyportlaw01.anchor -/
def f11  (K : Bool → World → Prop) (w : World) : Prop :=
  callS Try.prog 13 #[(.slice none 0 0), (.int .i64 3), (.int .i64 258)] [(.one .slc), (.one (.int .i64))] (fun r1 r2 w =>
  callS Try.prog 12 #[(.int .i64 65), (.int .i64 64)] [(.one (.int .i64)), (.one (.int .i64))] (fun r3 r4 w =>
  joinS (σ := Bool) (fun b5 w =>
    joinS (σ := Bool) (fun b7 w =>
      K ((b7 && (r4 == 0)) && (r3 == 128)) w) fun J8 =>
    cond b5
      (callS Try.prog 14 #[(.int .i64 5), (.int .i64 9223372036854775807), (.int .i64 10)] [(.one .bool)] (fun r9 w =>
        J8 (!r9) w) w)
      (J8 false w)) fun J6 =>
  cond (r2 == 0)
    (semS Try.prog (convert 27 9 (.slice r1.a r1.len r1.cap)) (.one .str) (fun x10 w =>
      J6 (x10.toList == (ByteArray.mk #[0, 1, 2]).toList) w) w)
    (J6 false w)) w) w
theorem f11_ok  {K : Bool → World → Prop} {w : World} (h : f11  K w) : callS Try.prog 11 #[] [(.one .bool)] K w :=
  calls_of_fn (args := []) Try.f11 [] [] [] .nil (by kernel_rfl) (by kernel_rfl)
    (Eq.mp (by kernel_rfl : f11  K w = evFn Try.prog Try.f11 [] [] [] .nil [] [(.one .bool)] K w) h)

/-- sallyport/sallyportlaw01.SpanAligns -/
def f3 (p0 : Int) (p1 : Int) (K : Bool → World → Prop) (w : World) : Prop :=
  callS Try.prog 11 #[] [(.one .bool)] (fun r1 w =>
  cond (!r1)
    (K false w)
    (callS Try.prog 12 #[(.int .i64 p0), (.int .i64 p1)] [(.one (.int .i64)), (.one (.int .i64))] (fun r2 r3 w =>
    cond (((decide (p0 < 0)) || (decide (p1 < 1))) || (decide (p1 > 65536)))
      (K ((r3 == 12) && (r2 == 0)) w)
      (cond (decide (p0 > 4611686018427387904))
        (K ((r3 == 11) && (r2 == 0)) w)
        (joinS (σ := Int) (fun x4 w =>
          cond (decide (x4 > (IntKind.wrap .i64 (4611686018427387904 - p0))))
            (K ((r3 == 11) && (r2 == 0)) w)
            (joinS (σ := Bool) (fun b6 w =>
              K b6 w) fun J7 =>
            cond ((r3 == 0) && (r2 == (IntKind.wrap .i64 (p0 + x4))))
              (semS Try.prog (binS .rem 3 (.tmp 69) (.tmp 70) (.int .i64 r2) (.int .i64 p1)) (.one (.int .i64)) (fun x8 w =>
                J7 (x8 == 0) w) w)
              (J7 false w))) fun J5 =>
        semS Try.prog (binS .rem 3 (.tmp 40) (.tmp 41) (.int .i64 p0) (.int .i64 p1)) (.one (.int .i64)) (fun x9 w =>
        cond (x9 != 0)
          (semS Try.prog (binS .rem 3 (.tmp 45) (.tmp 46) (.int .i64 p0) (.int .i64 p1)) (.one (.int .i64)) (fun x10 w =>
          J5 (IntKind.wrap .i64 (p1 - x10)) w) w)
          (J5 0 w)) w))) w)) w
theorem f3_ok {p0 : Int} {p1 : Int} {K : Bool → World → Prop} {w : World} (h : f3 p0 p1 K w) : callS Try.prog 3 #[(.int .i64 p0), (.int .i64 p1)] [(.one .bool)] K w :=
  calls_of_fn (args := [(.int .i64 p0), (.int .i64 p1)]) Try.f3 [] [] [] (.two .nil (.two .nil (.two .nil (.two .nil (.two .nil (.two .nil (.join [(7, (.int .i64))] .nil .nil))))))) (by kernel_rfl) (by kernel_rfl)
    (Eq.mp (by kernel_rfl : f3 p0 p1 K w = evFn Try.prog Try.f3 [] [] [] (.two .nil (.two .nil (.two .nil (.two .nil (.two .nil (.two .nil (.join [(7, (.int .i64))] .nil .nil))))))) [(.int .i64 p0), (.int .i64 p1)] [(.one .bool)] K w) h)

/-- sallyport/sallyportlaw01.SpanOrder -/
def f4 (p0 : Int) (p1 : Int) (p2 : Int) (K : Bool → World → Prop) (w : World) : Prop :=
  callS Try.prog 11 #[] [(.one .bool)] (fun r1 w =>
  cond (!r1)
    (K false w)
    (callS Try.prog 13 #[(.slice none 0 0), (.int .i64 p2), (.int .i64 p0)] [(.one .slc), (.one (.int .i64))] (fun r2 r3 w =>
    callS Try.prog 13 #[(.slice none 0 0), (.int .i64 p2), (.int .i64 p1)] [(.one .slc), (.one (.int .i64))] (fun r4 r5 w =>
    cond ((r3 != 0) || (r5 != 0))
      (K true w)
      (semS Try.prog (convert 27 9 (.slice r2.a r2.len r2.cap)) (.one .str) (fun x6 w =>
      semS Try.prog (convert 27 9 (.slice r4.a r4.len r4.cap)) (.one .str) (fun x7 w =>
      joinS (σ := Bool) (fun b8 w =>
        K b8 w) fun J9 =>
      cond ((Op.bytesLess x6.toList x7.toList) == (decide (p0 < p1)))
        (semS Try.prog (convert 27 9 (.slice r2.a r2.len r2.cap)) (.one .str) (fun x10 w =>
          semS Try.prog (convert 27 9 (.slice r4.a r4.len r4.cap)) (.one .str) (fun x11 w =>
          J9 ((x10.toList == x11.toList) == (p0 == p1)) w) w) w)
        (J9 false w)) w) w)) w) w)) w
theorem f4_ok {p0 : Int} {p1 : Int} {p2 : Int} {K : Bool → World → Prop} {w : World} (h : f4 p0 p1 p2 K w) : callS Try.prog 4 #[(.int .i64 p0), (.int .i64 p1), (.int .i64 p2)] [(.one .bool)] K w :=
  calls_of_fn (args := [(.int .i64 p0), (.int .i64 p1), (.int .i64 p2)]) Try.f4 [] [] [] .nil (by kernel_rfl) (by kernel_rfl)
    (Eq.mp (by kernel_rfl : f4 p0 p1 p2 K w = evFn Try.prog Try.f4 [] [] [] .nil [(.int .i64 p0), (.int .i64 p1), (.int .i64 p2)] [(.one .bool)] K w) h)

/-- sallyport/sallyportlaw01.within -/
def f15 (p0 : Int) (p1 : Int) (p2 : Int) (K : Bool → World → Prop) (w : World) : Prop :=
  cond ((((decide (p0 < 0)) || (decide (p1 < 0))) || (decide (p2 < 0))) || (decide (p0 > p2)))
    (K false w)
    (K (decide ((IntKind.wrap .i64 (p2 - p0)) ≥ p1)) w)
theorem f15_ok {p0 : Int} {p1 : Int} {p2 : Int} {K : Bool → World → Prop} {w : World} (h : f15 p0 p1 p2 K w) : callS Try.prog 15 #[(.int .i64 p0), (.int .i64 p1), (.int .i64 p2)] [(.one .bool)] K w :=
  calls_of_fn (args := [(.int .i64 p0), (.int .i64 p1), (.int .i64 p2)]) Try.f15 [] [] [] .nil (by kernel_rfl) (by kernel_rfl)
    (Eq.mp (by kernel_rfl : f15 p0 p1 p2 K w = evFn Try.prog Try.f15 [] [] [] .nil [(.int .i64 p0), (.int .i64 p1), (.int .i64 p2)] [(.one .bool)] K w) h)

/-- sallyport/span.Cut -/
def f16 (p0 : Sl) (p1 : Int) (p2 : Int) (K : Sl → Int → World → Prop) (w : World) : Prop :=
  callS Try.prog 14 #[(.int .i64 p1), (.int .i64 p2), (.int .i64 (p0.len : Int))] [(.one .bool)] (fun r1 w =>
  cond (!r1)
    (K (⟨none, 0, 0⟩) 10 w)
    (semS Try.prog (Instr.sliceAt 27 (.slice p0.a p0.len p0.cap) (some (.int .i64 p1)) (some (.int .i64 (IntKind.wrap .i64 (p1 + p2)))) none) (.one .slc) (fun x2 w =>
    callS Try.prog 20 #[(.slice x2.a x2.len x2.cap)] [(.one .slc)] (fun r3 w =>
    K r3 0 w) w) w)) w
theorem f16_ok {p0 : Sl} {p1 : Int} {p2 : Int} {K : Sl → Int → World → Prop} {w : World} (h : f16 p0 p1 p2 K w) : callS Try.prog 16 #[(.slice p0.a p0.len p0.cap), (.int .i64 p1), (.int .i64 p2)] [(.one .slc), (.one (.int .i64))] K w :=
  calls_of_fn (args := [(.slice p0.a p0.len p0.cap), (.int .i64 p1), (.int .i64 p2)]) Try.f16 [] [] [] .nil (by kernel_rfl) (by kernel_rfl)
    (Eq.mp (by kernel_rfl : f16 p0 p1 p2 K w = evFn Try.prog Try.f16 [] [] [] .nil [(.slice p0.a p0.len p0.cap), (.int .i64 p1), (.int .i64 p2)] [(.one .slc), (.one (.int .i64))] K w) h)

/-- sallyport/sallyportlaw01.SpanCuts -/
def f5 (p0 : Sl) (p1 : Int) (p2 : Int) (p3 : Int) (K : Bool → World → Prop) (w : World) : Prop :=
  callS Try.prog 11 #[] [(.one .bool)] (fun r1 w =>
  cond (!r1)
    (K false w)
    (cond (decide ((p0.len : Int) > 2000))
      (K true w)
      (callS Try.prog 14 #[(.int .i64 p1), (.int .i64 p2), (.int .i64 p3)] [(.one .bool)] (fun r2 w =>
      callS Try.prog 15 #[(.int .i64 p1), (.int .i64 p2), (.int .i64 p3)] [(.one .bool)] (fun r3 w =>
      cond (!(r2 == r3))
        (K false w)
        (callS Try.prog 16 #[(.slice p0.a p0.len p0.cap), (.int .i64 p1), (.int .i64 p2)] [(.one .slc), (.one (.int .i64))] (fun r4 r5 w =>
        callS Try.prog 15 #[(.int .i64 p1), (.int .i64 p2), (.int .i64 (p0.len : Int))] [(.one .bool)] (fun r6 w =>
        cond (!r6)
          (K ((r5 == 10) && ((r4.len : Int) == 0)) w)
          (drawS w fun C w =>
          cond (r5 != 0)
            (K false w)
            (semQ Try.prog C (convert 27 9 (.slice r4.a r4.len r4.cap)) (.one .str) (fun x7 =>
            semQ Try.prog C (Instr.sliceAt 27 (.slice p0.a p0.len p0.cap) (some (.int .i64 p1)) (some (.int .i64 (IntKind.wrap .i64 (p1 + p2)))) none) (.one .slc) (fun x8 =>
            semQ Try.prog C (convert 27 9 (.slice x8.a x8.len x8.cap)) (.one .str) (fun x9 =>
            cond (!(x7.toList == x9.toList))
              (K false w)
              (semS Try.prog (convert 27 9 (.slice p0.a p0.len p0.cap)) (.one .str) (fun x10 w =>
              loopS (σ := Int) (fun x11 w again12 =>
                cond (decide (x11 < (r4.len : Int)))
                  (semS Try.prog (Instr.indexAt 27 (.slice r4.a r4.len r4.cap) (.int .i64 x11)) (.one .adr) (fun x13 w =>
                  semS Try.prog (Instr.loadAt 5 (.pointer (some x13))) (.one (.int .u8)) (fun x14 w =>
                  semS Try.prog (Instr.indexAt 27 (.slice r4.a r4.len r4.cap) (.int .i64 x11)) (.one .adr) (fun x15 w =>
                  semU Try.prog (Instr.storeAt 5 (.pointer (some x15)) (.int .u8 (xorI .u8 x14 255))) (fun w =>
                  again12 (IntKind.wrap .i64 (x11 + 1)) w) w) w) w) w)
                  (semS Try.prog (convert 27 9 (.slice p0.a p0.len p0.cap)) (.one .str) (fun x16 w =>
                  K (x16.toList == x10.toList) w) w)) 0 w) w))))))) w) w)) w) w))) w
theorem f5_ok {p0 : Sl} {p1 : Int} {p2 : Int} {p3 : Int} {K : Bool → World → Prop} {w : World} (h : f5 p0 p1 p2 p3 K w) : callS Try.prog 5 #[(.slice p0.a p0.len p0.cap), (.int .i64 p1), (.int .i64 p2), (.int .i64 p3)] [(.one .bool)] K w :=
  calls_of_fn (args := [(.slice p0.a p0.len p0.cap), (.int .i64 p1), (.int .i64 p2), (.int .i64 p3)]) Try.f5 [] [] [] (.two .nil (.two .nil (.two .nil (.two .nil (.two .nil (.two .nil (.two (.two (.draw [0, 1, 3, 7, 15, 7, 7, 7, 7, 391, 999, 2023, 4095, 8191]) .nil) (.two .nil (.two (.two .nil (.one (.loop [(65, (.int .i64))] .nil))) .nil))))))))) (by kernel_rfl) (by kernel_rfl)
    (Eq.mp (by kernel_rfl : f5 p0 p1 p2 p3 K w = evFn Try.prog Try.f5 [] [] [] (.two .nil (.two .nil (.two .nil (.two .nil (.two .nil (.two .nil (.two (.two (.draw [0, 1, 3, 7, 15, 7, 7, 7, 7, 391, 999, 2023, 4095, 8191]) .nil) (.two .nil (.two (.two .nil (.one (.loop [(65, (.int .i64))] .nil))) .nil))))))))) [(.slice p0.a p0.len p0.cap), (.int .i64 p1), (.int .i64 p2), (.int .i64 p3)] [(.one .bool)] K w) h)

/-- sallyport/sallyportlaw01.SpanParts -/
def f6 (p0 : Sl) (p1 : Int) (p2 : Int) (p3 : Int) (p4 : Int) (K : Bool → World → Prop) (w : World) : Prop :=
  callS Try.prog 11 #[] [(.one .bool)] (fun r1 w =>
  cond (!r1)
    (K false w)
    (cond (decide ((p0.len : Int) > 2000))
      (K true w)
      (callS Try.prog 16 #[(.slice p0.a p0.len p0.cap), (.int .i64 p1), (.int .i64 p2)] [(.one .slc), (.one (.int .i64))] (fun r2 r3 w =>
      cond (r3 != 0)
        (K ((r2.len : Int) == 0) w)
        (callS Try.prog 16 #[(.slice r2.a r2.len r2.cap), (.int .i64 p3), (.int .i64 p4)] [(.one .slc), (.one (.int .i64))] (fun r4 r5 w =>
        callS Try.prog 15 #[(.int .i64 p3), (.int .i64 p4), (.int .i64 p2)] [(.one .bool)] (fun r6 w =>
        cond (!r6)
          (K ((r5 == 10) && ((r4.len : Int) == 0)) w)
          (callS Try.prog 16 #[(.slice p0.a p0.len p0.cap), (.int .i64 (IntKind.wrap .i64 (p1 + p3))), (.int .i64 p4)] [(.one .slc), (.one (.int .i64))] (fun r7 r8 w =>
          joinS (σ := Bool) (fun b9 w =>
            K b9 w) fun J10 =>
          cond ((r5 == 0) && (r8 == 0))
            (semS Try.prog (convert 27 9 (.slice r4.a r4.len r4.cap)) (.one .str) (fun x11 w =>
              semS Try.prog (convert 27 9 (.slice r7.a r7.len r7.cap)) (.one .str) (fun x12 w =>
              J10 (x11.toList == x12.toList) w) w) w)
            (J10 false w)) w)) w) w)) w))) w
theorem f6_ok {p0 : Sl} {p1 : Int} {p2 : Int} {p3 : Int} {p4 : Int} {K : Bool → World → Prop} {w : World} (h : f6 p0 p1 p2 p3 p4 K w) : callS Try.prog 6 #[(.slice p0.a p0.len p0.cap), (.int .i64 p1), (.int .i64 p2), (.int .i64 p3), (.int .i64 p4)] [(.one .bool)] K w :=
  calls_of_fn (args := [(.slice p0.a p0.len p0.cap), (.int .i64 p1), (.int .i64 p2), (.int .i64 p3), (.int .i64 p4)]) Try.f6 [] [] [] .nil (by kernel_rfl) (by kernel_rfl)
    (Eq.mp (by kernel_rfl : f6 p0 p1 p2 p3 p4 K w = evFn Try.prog Try.f6 [] [] [] .nil [(.slice p0.a p0.len p0.cap), (.int .i64 p1), (.int .i64 p2), (.int .i64 p3), (.int .i64 p4)] [(.one .bool)] K w) h)

/-- sallyport/span.Get -/
def f17 (p0 : Sl) (p1 : Int) (p2 : Int) (K : Int → Int → World → Prop) (w : World) : Prop :=
  cond ((decide (p2 < 1)) || (decide (p2 > 8)))
    (K 0 12 w)
    (callS Try.prog 14 #[(.int .i64 p1), (.int .i64 p2), (.int .i64 (p0.len : Int))] [(.one .bool)] (fun r1 w =>
    cond (!r1)
      (K 0 10 w)
      (semS Try.prog (Instr.sliceAt 27 (.slice p0.a p0.len p0.cap) (some (.int .i64 p1)) (some (.int .i64 (IntKind.wrap .i64 (p1 + p2)))) none) (.one .slc) (fun x2 w =>
      loopS (σ := Int × Int) (fun s3 w again4 =>
        cond (decide (s3.2 < (x2.len : Int)))
          (semS Try.prog (Instr.indexAt 27 (.slice x2.a x2.len x2.cap) (.int .i64 s3.2)) (.one .adr) (fun x5 w =>
          semS Try.prog (Instr.loadAt 5 (.pointer (some x5))) (.one (.int .u8)) (fun x6 w =>
          again4 (orI .u64 (shlI .u64 s3.1 8) (IntKind.wrap .u64 x6), IntKind.wrap .i64 (s3.2 + 1)) w) w) w)
          (cond ((shrI .u64 s3.1 63) == 1)
            (K 0 11 w)
            (K (IntKind.wrap .i64 s3.1) 0 w))) (0, 0) w) w)) w)
theorem f17_ok {p0 : Sl} {p1 : Int} {p2 : Int} {K : Int → Int → World → Prop} {w : World} (h : f17 p0 p1 p2 K w) : callS Try.prog 17 #[(.slice p0.a p0.len p0.cap), (.int .i64 p1), (.int .i64 p2)] [(.one (.int .i64)), (.one (.int .i64))] K w :=
  calls_of_fn (args := [(.slice p0.a p0.len p0.cap), (.int .i64 p1), (.int .i64 p2)]) Try.f17 [] [] [] (.two .nil (.two .nil (.two .nil (.two (.two .nil (.one (.loop [(8, (.int .u64)), (32, (.int .i64))] .nil))) .nil)))) (by kernel_rfl) (by kernel_rfl)
    (Eq.mp (by kernel_rfl : f17 p0 p1 p2 K w = evFn Try.prog Try.f17 [] [] [] (.two .nil (.two .nil (.two .nil (.two (.two .nil (.one (.loop [(8, (.int .u64)), (32, (.int .i64))] .nil))) .nil)))) [(.slice p0.a p0.len p0.cap), (.int .i64 p1), (.int .i64 p2)] [(.one (.int .i64)), (.one (.int .i64))] K w) h)

/-- sallyport/sallyportlaw01.SpanGets -/
def f7 (p0 : Sl) (p1 : Int) (p2 : Int) (K : Bool → World → Prop) (w : World) : Prop :=
  callS Try.prog 11 #[] [(.one .bool)] (fun r1 w =>
  cond (!r1)
    (K false w)
    (cond (decide ((p0.len : Int) > 2000))
      (K true w)
      (callS Try.prog 17 #[(.slice p0.a p0.len p0.cap), (.int .i64 p1), (.int .i64 p2)] [(.one (.int .i64)), (.one (.int .i64))] (fun r2 r3 w =>
      cond ((decide (p2 < 1)) || (decide (p2 > 8)))
        (K ((r3 == 12) && (r2 == 0)) w)
        (callS Try.prog 15 #[(.int .i64 p1), (.int .i64 p2), (.int .i64 (p0.len : Int))] [(.one .bool)] (fun r4 w =>
        cond (!r4)
          (K ((r3 == 10) && (r2 == 0)) w)
          (joinS (σ := Bool) (fun b5 w =>
            cond b5
              (K ((r3 == 11) && (r2 == 0)) w)
              (loopS (σ := Int × Int) (fun s7 w again8 =>
                cond (decide (s7.2 < p2))
                  (semS Try.prog (Instr.indexAt 27 (.slice p0.a p0.len p0.cap) (.int .i64 (IntKind.wrap .i64 (p1 + s7.2)))) (.one .adr) (fun x9 w =>
                  semS Try.prog (Instr.loadAt 5 (.pointer (some x9))) (.one (.int .u8)) (fun x10 w =>
                  again8 (IntKind.wrap .i64 ((IntKind.wrap .i64 (256 * s7.1)) + (IntKind.wrap .i64 x10)), IntKind.wrap .i64 (s7.2 + 1)) w) w) w)
                  (K ((r3 == 0) && (r2 == s7.1)) w)) (0, 0) w)) fun J6 =>
          cond (p2 == 8)
            (semS Try.prog (Instr.indexAt 27 (.slice p0.a p0.len p0.cap) (.int .i64 p1)) (.one .adr) (fun x11 w =>
              semS Try.prog (Instr.loadAt 5 (.pointer (some x11))) (.one (.int .u8)) (fun x12 w =>
              J6 (decide (x12 > 127)) w) w) w)
            (J6 false w))) w)) w))) w
theorem f7_ok {p0 : Sl} {p1 : Int} {p2 : Int} {K : Bool → World → Prop} {w : World} (h : f7 p0 p1 p2 K w) : callS Try.prog 7 #[(.slice p0.a p0.len p0.cap), (.int .i64 p1), (.int .i64 p2)] [(.one .bool)] K w :=
  calls_of_fn (args := [(.slice p0.a p0.len p0.cap), (.int .i64 p1), (.int .i64 p2)]) Try.f7 [] [] [] (.two .nil (.two .nil (.two .nil (.two .nil (.two .nil (.two .nil (.two .nil (.two .nil (.two (.two .nil (.one (.loop [(9, (.int .i64)), (63, (.int .i64))] .nil))) .nil))))))))) (by kernel_rfl) (by kernel_rfl)
    (Eq.mp (by kernel_rfl : f7 p0 p1 p2 K w = evFn Try.prog Try.f7 [] [] [] (.two .nil (.two .nil (.two .nil (.two .nil (.two .nil (.two .nil (.two .nil (.two .nil (.two (.two .nil (.one (.loop [(9, (.int .i64)), (63, (.int .i64))] .nil))) .nil))))))))) [(.slice p0.a p0.len p0.cap), (.int .i64 p1), (.int .i64 p2)] [(.one .bool)] K w) h)

/-- sallyport/sallyportlaw01.SpanPuts -/
def f8 (p0 : Sl) (p1 : Int) (p2 : Int) (K : Bool → World → Prop) (w : World) : Prop :=
  callS Try.prog 11 #[] [(.one .bool)] (fun r1 w =>
  cond (!r1)
    (K false w)
    (cond (decide ((p0.len : Int) > 2000))
      (K true w)
      (callS Try.prog 13 #[(.slice p0.a p0.len p0.cap), (.int .i64 p1), (.int .i64 p2)] [(.one .slc), (.one (.int .i64))] (fun r2 r3 w =>
      cond ((decide (p1 < 1)) || (decide (p1 > 8)))
        (K ((r3 == 12) && ((r2.len : Int) == 0)) w)
        (loopS (σ := Int × Int) (fun s4 w again5 =>
          cond (decide (s4.2 < p1))
            (again5 (IntKind.wrap .i64 (Int.tdiv s4.1 256), IntKind.wrap .i64 (s4.2 + 1)) w)
            (cond ((decide (p2 < 0)) || (s4.1 != 0))
              (K ((r3 == 11) && ((r2.len : Int) == 0)) w)
              (callS Try.prog 17 #[(.slice r2.a r2.len r2.cap), (.int .i64 (p0.len : Int)), (.int .i64 p1)] [(.one (.int .i64)), (.one (.int .i64))] (fun r6 r7 w =>
              drawS w fun C w =>
              cond (r3 == 0)
                (cond ((r2.len : Int) == (IntKind.wrap .i64 ((p0.len : Int) + p1)))
                  (semQ Try.prog C (Instr.sliceAt 27 (.slice r2.a r2.len r2.cap) none (some (.int .i64 (p0.len : Int))) none) (.one .slc) (fun x8 =>
                  semQ Try.prog C (convert 27 9 (.slice x8.a x8.len x8.cap)) (.one .str) (fun x9 =>
                  semQ Try.prog C (convert 27 9 (.slice p0.a p0.len p0.cap)) (.one .str) (fun x10 =>
                  cond (x9.toList == x10.toList)
                    (cond (r7 == 0)
                      (K (r6 == p2) w)
                      (K false w))
                    (K false w)))))
                  (K false w))
                (K false w)) w))) (p2, 0) w)) w))) w
theorem f8_ok {p0 : Sl} {p1 : Int} {p2 : Int} {K : Bool → World → Prop} {w : World} (h : f8 p0 p1 p2 K w) : callS Try.prog 8 #[(.slice p0.a p0.len p0.cap), (.int .i64 p1), (.int .i64 p2)] [(.one .bool)] K w :=
  calls_of_fn (args := [(.slice p0.a p0.len p0.cap), (.int .i64 p1), (.int .i64 p2)]) Try.f8 [] [] [] (.two .nil (.two .nil (.two .nil (.two .nil (.two .nil (.two .nil (.two (.two .nil (.one (.loop [(9, (.int .i64)), (39, (.int .i64))] .nil))) (.two .nil (.two .nil (.two (.draw [0, 1, 3, 7, 15, 7, 39, 7, 231, 511, 1023, 2047, 4095, 4095, 12287, 32767, 65535, 4095, 135167, 524287, 1048575, 2097151, 4194303, 8388607, 16777215, 33554431, 67108863, 67108863, 268435455, 536870911, 1073741823]) .nil)))))))))) (by kernel_rfl) (by kernel_rfl)
    (Eq.mp (by kernel_rfl : f8 p0 p1 p2 K w = evFn Try.prog Try.f8 [] [] [] (.two .nil (.two .nil (.two .nil (.two .nil (.two .nil (.two .nil (.two (.two .nil (.one (.loop [(9, (.int .i64)), (39, (.int .i64))] .nil))) (.two .nil (.two .nil (.two (.draw [0, 1, 3, 7, 15, 7, 39, 7, 231, 511, 1023, 2047, 4095, 4095, 12287, 32767, 65535, 4095, 135167, 524287, 1048575, 2097151, 4194303, 8388607, 16777215, 33554431, 67108863, 67108863, 268435455, 536870911, 1073741823]) .nil)))))))))) [(.slice p0.a p0.len p0.cap), (.int .i64 p1), (.int .i64 p2)] [(.one .bool)] K w) h)

/-- sallyport/sallyportlaw01.SpanRows -/
def f9 (p0 : Sl) (K : Bool → World → Prop) (w : World) : Prop :=
  callS Try.prog 11 #[] [(.one .bool)] (fun r1 w =>
  cond (!r1)
    (K false w)
    (cond (decide ((p0.len : Int) > 60))
      (K true w)
      (loopS (σ := Sl × Int) (fun s2 w again3 =>
        cond (decide (s2.2 < (p0.len : Int)))
          (semS Try.prog (Instr.indexAt 35 (.slice p0.a p0.len p0.cap) (.int .i64 s2.2)) (.one .adr) (fun x4 w =>
          semS Try.prog (Instr.loadAt 36 (.pointer (some x4))) (.agg [(.int .i64), (.int .i64)]) (fun x5 x6 w =>
          semS Try.prog (Instr.alloc 36 true (.tuple #[])) (.one .adr) (fun x7 w =>
          semU Try.prog (Instr.storeAt 36 (.pointer (some x7)) (.agg #[(.int .i64 x5), (.int .i64 x6)])) (fun w =>
          semS Try.prog (Instr.indexAt 36 (.pointer (some x7)) (.int .i64 0)) (.one .adr) (fun x8 w =>
          semS Try.prog (Instr.loadAt 3 (.pointer (some x8))) (.one (.int .i64)) (fun x9 w =>
          semS Try.prog (Instr.indexAt 36 (.pointer (some x7)) (.int .i64 1)) (.one .adr) (fun x10 w =>
          semS Try.prog (Instr.loadAt 3 (.pointer (some x10))) (.one (.int .i64)) (fun x11 w =>
          callS Try.prog 13 #[(.slice s2.1.a s2.1.len s2.1.cap), (.int .i64 x9), (.int .i64 x11)] [(.one .slc), (.one (.int .i64))] (fun r12 r13 w =>
          cond (r13 != 0)
            (K true w)
            (again3 (r12, IntKind.wrap .i64 (s2.2 + 1)) w)) w) w) w) w) w) w) w) w) w)
          (loopS (σ := Int × Int) (fun s14 w again15 =>
            cond (decide (s14.2 < (p0.len : Int)))
              (semS Try.prog (Instr.indexAt 35 (.slice p0.a p0.len p0.cap) (.int .i64 s14.2)) (.one .adr) (fun x16 w =>
              semS Try.prog (Instr.loadAt 36 (.pointer (some x16))) (.agg [(.int .i64), (.int .i64)]) (fun x17 x18 w =>
              semS Try.prog (Instr.alloc 36 true (.tuple #[])) (.one .adr) (fun x19 w =>
              semU Try.prog (Instr.storeAt 36 (.pointer (some x19)) (.agg #[(.int .i64 x17), (.int .i64 x18)])) (fun w =>
              semS Try.prog (Instr.indexAt 36 (.pointer (some x19)) (.int .i64 0)) (.one .adr) (fun x20 w =>
              semS Try.prog (Instr.loadAt 3 (.pointer (some x20))) (.one (.int .i64)) (fun x21 w =>
              callS Try.prog 17 #[(.slice s2.1.a s2.1.len s2.1.cap), (.int .i64 s14.1), (.int .i64 x21)] [(.one (.int .i64)), (.one (.int .i64))] (fun r22 r23 w =>
              joinS (σ := Bool) (fun b24 w =>
                cond b24
                  (K false w)
                  (semS Try.prog (Instr.indexAt 36 (.pointer (some x19)) (.int .i64 0)) (.one .adr) (fun x26 w =>
                  semS Try.prog (Instr.loadAt 3 (.pointer (some x26))) (.one (.int .i64)) (fun x27 w =>
                  again15 (IntKind.wrap .i64 (s14.1 + x27), IntKind.wrap .i64 (s14.2 + 1)) w) w) w)) fun J25 =>
              cond (r23 != 0)
                (J25 true w)
                (semS Try.prog (Instr.indexAt 36 (.pointer (some x19)) (.int .i64 1)) (.one .adr) (fun x28 w =>
                  semS Try.prog (Instr.loadAt 3 (.pointer (some x28))) (.one (.int .i64)) (fun x29 w =>
                  J25 (r22 != x29) w) w) w)) w) w) w) w) w) w) w)
              (callS Try.prog 17 #[(.slice s2.1.a s2.1.len s2.1.cap), (.int .i64 s14.1), (.int .i64 1)] [(.one (.int .i64)), (.one (.int .i64))] (fun r30 r31 w =>
              K ((s14.1 == (s2.1.len : Int)) && (r31 == 10)) w) w)) (0, 0) w)) (⟨none, 0, 0⟩, 0) w))) w
theorem f9_ok {p0 : Sl} {K : Bool → World → Prop} {w : World} (h : f9 p0 K w) : callS Try.prog 9 #[(.slice p0.a p0.len p0.cap)] [(.one .bool)] K w :=
  calls_of_fn (args := [(.slice p0.a p0.len p0.cap)]) Try.f9 [] [] [] (.two .nil (.two .nil (.two .nil (.two .nil (.two (.two .nil (.one (.loop [(3, .slc), (22, (.int .i64))] .nil))) (.two .nil (.two (.two .nil (.one (.loop [(8, (.int .i64)), (41, (.int .i64))] .nil))) .nil))))))) (by kernel_rfl) (by kernel_rfl)
    (Eq.mp (by kernel_rfl : f9 p0 K w = evFn Try.prog Try.f9 [] [] [] (.two .nil (.two .nil (.two .nil (.two .nil (.two (.two .nil (.one (.loop [(3, .slc), (22, (.int .i64))] .nil))) (.two .nil (.two (.two .nil (.one (.loop [(8, (.int .i64)), (41, (.int .i64))] .nil))) .nil))))))) [(.slice p0.a p0.len p0.cap)] [(.one .bool)] K w) h)

/-- sallyport/span.Pad -/
def f18 (p0 : Sl) (p1 : Int) (K : Sl → Int → World → Prop) (w : World) : Prop :=
  callS Try.prog 12 #[(.int .i64 (p0.len : Int)), (.int .i64 p1)] [(.one (.int .i64)), (.one (.int .i64))] (fun r1 r2 w =>
  cond (r2 != 0)
    (K (⟨none, 0, 0⟩) r2 w)
    (callS Try.prog 20 #[(.slice p0.a p0.len p0.cap)] [(.one .slc)] (fun r3 w =>
    semS Try.prog (Builtin.append_ #[27, 3] 27 #[(.slice r3.a r3.len r3.cap), (.int .i64 (IntKind.wrap .i64 (r1 - (p0.len : Int))))]) (.one .slc) (fun r4 w =>
    K r4 0 w) w) w)) w
theorem f18_ok {p0 : Sl} {p1 : Int} {K : Sl → Int → World → Prop} {w : World} (h : f18 p0 p1 K w) : callS Try.prog 18 #[(.slice p0.a p0.len p0.cap), (.int .i64 p1)] [(.one .slc), (.one (.int .i64))] K w :=
  calls_of_fn (args := [(.slice p0.a p0.len p0.cap), (.int .i64 p1)]) Try.f18 [] [] [] .nil (by kernel_rfl) (by kernel_rfl)
    (Eq.mp (by kernel_rfl : f18 p0 p1 K w = evFn Try.prog Try.f18 [] [] [] .nil [(.slice p0.a p0.len p0.cap), (.int .i64 p1)] [(.one .slc), (.one (.int .i64))] K w) h)

/-- slices.IndexFunc[[]byte,byte] -/
def f23 (p0 : Sl) (p1 : Value) (K : Int → World → Prop) (w : World) : Prop :=
  loopS (σ := Int) (fun x1 w again2 =>
    cond (decide (x1 < (p0.len : Int)))
      (semS Try.prog (Instr.indexAt 27 (.slice p0.a p0.len p0.cap) (.int .i64 x1)) (.one .adr) (fun x3 w =>
      semS Try.prog (Instr.loadAt 5 (.pointer (some x3))) (.one (.int .u8)) (fun x4 w =>
      callV Try.prog (callSem p1 #[(.int .u8 x4)]) [(.one .bool)] (fun r5 w =>
      cond r5
        (K x1 w)
        (again2 (IntKind.wrap .i64 (x1 + 1)) w)) w) w) w)
      (K (-1) w)) 0 w
theorem f23_ok {p0 : Sl} {p1 : Value} {K : Int → World → Prop} {w : World} (h : f23 p0 p1 K w) : callS Try.prog 23 #[(.slice p0.a p0.len p0.cap), p1] [(.one (.int .i64))] K w :=
  calls_of_fn (args := [(.slice p0.a p0.len p0.cap), p1]) Try.f23 [1, 11] [] [] (.two .nil (.two (.two .nil (.one (.loop [(8, (.int .i64))] .nil))) .nil)) (by kernel_rfl) (by kernel_rfl)
    (Eq.mp (by kernel_rfl : f23 p0 p1 K w = evFn Try.prog Try.f23 [1, 11] [] [] (.two .nil (.two (.two .nil (.one (.loop [(8, (.int .i64))] .nil))) .nil)) [(.slice p0.a p0.len p0.cap), p1] [(.one (.int .i64))] K w) h)

/-- slices.ContainsFunc[[]byte,byte] -/
def f21 (p0 : Sl) (p1 : Value) (K : Bool → World → Prop) (w : World) : Prop :=
  callS Try.prog 23 #[(.slice p0.a p0.len p0.cap), p1] [(.one (.int .i64))] (fun r1 w =>
  K (decide (r1 ≥ 0)) w) w
theorem f21_ok {p0 : Sl} {p1 : Value} {K : Bool → World → Prop} {w : World} (h : f21 p0 p1 K w) : callS Try.prog 21 #[(.slice p0.a p0.len p0.cap), p1] [(.one .bool)] K w :=
  calls_of_fn (args := [(.slice p0.a p0.len p0.cap), p1]) Try.f21 [1, 6] [] [] .nil (by kernel_rfl) (by kernel_rfl)
    (Eq.mp (by kernel_rfl : f21 p0 p1 K w = evFn Try.prog Try.f21 [1, 6] [] [] .nil [(.slice p0.a p0.len p0.cap), p1] [(.one .bool)] K w) h)

/-- sallyport/span.Zeros$1 -/
def f22 (p0 : Int) (K : Bool → World → Prop) (w : World) : Prop :=
  K (p0 != 0) w
theorem f22_ok {p0 : Int} {K : Bool → World → Prop} {w : World} (h : f22 p0 K w) : callS Try.prog 22 #[(.int .u8 p0)] [(.one .bool)] K w :=
  calls_of_fn (args := [(.int .u8 p0)]) Try.f22 [] [] [] .nil (by kernel_rfl) (by kernel_rfl)
    (Eq.mp (by kernel_rfl : f22 p0 K w = evFn Try.prog Try.f22 [] [] [] .nil [(.int .u8 p0)] [(.one .bool)] K w) h)

/-- sallyport/span.Zeros -/
def f19 (p0 : Sl) (K : Bool → World → Prop) (w : World) : Prop :=
  callS Try.prog 21 #[(.slice p0.a p0.len p0.cap), (.func (.func 22) #[] #[])] [(.one .bool)] (fun r1 w =>
  K (!r1) w) w
theorem f19_ok {p0 : Sl} {K : Bool → World → Prop} {w : World} (h : f19 p0 K w) : callS Try.prog 19 #[(.slice p0.a p0.len p0.cap)] [(.one .bool)] K w :=
  calls_of_fn (args := [(.slice p0.a p0.len p0.cap)]) Try.f19 [] [] [] .nil (by kernel_rfl) (by kernel_rfl)
    (Eq.mp (by kernel_rfl : f19 p0 K w = evFn Try.prog Try.f19 [] [] [] .nil [(.slice p0.a p0.len p0.cap)] [(.one .bool)] K w) h)

/-- sallyport/sallyportlaw01.SpanPads -/
def f10 (p0 : Sl) (p1 : Int) (K : Bool → World → Prop) (w : World) : Prop :=
  callS Try.prog 11 #[] [(.one .bool)] (fun r1 w =>
  cond (!r1)
    (K false w)
    (cond (decide ((p0.len : Int) > 2000))
      (K true w)
      (callS Try.prog 18 #[(.slice p0.a p0.len p0.cap), (.int .i64 p1)] [(.one .slc), (.one (.int .i64))] (fun r2 r3 w =>
      loopS (σ := Bool × Int) (fun s4 w again5 =>
        cond (decide (s4.2 < (p0.len : Int)))
          (semS Try.prog (Instr.indexAt 27 (.slice p0.a p0.len p0.cap) (.int .i64 s4.2)) (.one .adr) (fun x6 w =>
          semS Try.prog (Instr.loadAt 5 (.pointer (some x6))) (.one (.int .u8)) (fun x7 w =>
          again5 ((s4.1 && (x7 == 0)), IntKind.wrap .i64 (s4.2 + 1)) w) w) w)
          (callS Try.prog 19 #[(.slice p0.a p0.len p0.cap)] [(.one .bool)] (fun r8 w =>
          cond (!(r8 == s4.1))
            (K false w)
            (cond ((decide (p1 < 1)) || (decide (p1 > 65536)))
              (K ((r3 == 12) && ((r2.len : Int) == 0)) w)
              (drawS w fun C w =>
              cond (r3 == 0)
                (semQ Try.prog C (binS .rem 3 (.tmp 54) (.tmp 55) (.int .i64 (r2.len : Int)) (.int .i64 p1)) (.one (.int .i64)) (fun x9 =>
                cond (x9 == 0)
                  (cond (decide ((r2.len : Int) ≥ (p0.len : Int)))
                    (cond (decide ((IntKind.wrap .i64 ((r2.len : Int) - (p0.len : Int))) < p1))
                      (semQ Try.prog C (Instr.sliceAt 27 (.slice r2.a r2.len r2.cap) none (some (.int .i64 (p0.len : Int))) none) (.one .slc) (fun x10 =>
                      semQ Try.prog C (convert 27 9 (.slice x10.a x10.len x10.cap)) (.one .str) (fun x11 =>
                      semQ Try.prog C (convert 27 9 (.slice p0.a p0.len p0.cap)) (.one .str) (fun x12 =>
                      cond (x11.toList == x12.toList)
                        (semQ Try.prog C (Instr.sliceAt 27 (.slice r2.a r2.len r2.cap) (some (.int .i64 (p0.len : Int))) none none) (.one .slc) (fun x13 =>
                        callS Try.prog 19 #[(.slice x13.a x13.len x13.cap)] [(.one .bool)] (fun r14 w =>
                        cond r14
                          (callS Try.prog 19 #[(.slice r2.a r2.len r2.cap)] [(.one .bool)] (fun r15 w =>
                          K (r15 == s4.1) w) w)
                          (K false w)) w))
                        (K false w)))))
                      (K false w))
                    (K false w))
                  (K false w)))
                (K false w)))) w)) (true, 0) w) w))) w
theorem f10_ok {p0 : Sl} {p1 : Int} {K : Bool → World → Prop} {w : World} (h : f10 p0 p1 K w) : callS Try.prog 10 #[(.slice p0.a p0.len p0.cap), (.int .i64 p1)] [(.one .bool)] K w :=
  calls_of_fn (args := [(.slice p0.a p0.len p0.cap), (.int .i64 p1)]) Try.f10 [] [] [] (.two .nil (.two .nil (.two .nil (.two .nil (.two .nil (.two (.two .nil (.one (.loop [(7, .bool), (23, (.int .i64))] .nil))) (.two .nil (.two .nil (.two (.draw [0, 1, 3, 7, 15, 7, 63, 127, 255, 511, 1023, 2047, 1023, 5119, 16383, 32767, 65535, 131071, 262143, 131071, 655359, 2097151, 131071, 8388607, 16777215, 33554431, 67108863, 67108863, 201326591, 536870911, 1073741823, 67108863, 2214592511, 8589934591, 17179869183, 34359738367, 68719476735, 68719476735, 206158430207, 549755813887, 1099511627775, 2199023255551, 4398046511103, 8796093022207, 17592186044415, 8796093022207, 70368744177663, 140737488355327, 281474976710655]) .nil))))))))) (by kernel_rfl) (by kernel_rfl)
    (Eq.mp (by kernel_rfl : f10 p0 p1 K w = evFn Try.prog Try.f10 [] [] [] (.two .nil (.two .nil (.two .nil (.two .nil (.two .nil (.two (.two .nil (.one (.loop [(7, .bool), (23, (.int .i64))] .nil))) (.two .nil (.two .nil (.two (.draw [0, 1, 3, 7, 15, 7, 63, 127, 255, 511, 1023, 2047, 1023, 5119, 16383, 32767, 65535, 131071, 262143, 131071, 655359, 2097151, 131071, 8388607, 16777215, 33554431, 67108863, 67108863, 201326591, 536870911, 1073741823, 67108863, 2214592511, 8589934591, 17179869183, 34359738367, 68719476735, 68719476735, 206158430207, 549755813887, 1099511627775, 2199023255551, 4398046511103, 8796093022207, 17592186044415, 8796093022207, 70368744177663, 140737488355327, 281474976710655]) .nil))))))))) [(.slice p0.a p0.len p0.cap), (.int .i64 p1)] [(.one .bool)] K w) h)

end Go.Proofs.Ytmmhnlojldedbaa
