/- The functions of the program, each as a plain statement, with the proof that it suffices for a call: printed by sh.py out of the loaded code. -/
import Derived.Test.YtjphpadgbhegaaaEng5
import Derived.Test.YtjphpadgbhegaaaProg
set_option maxRecDepth 100000
set_option linter.unusedVariables false
namespace Go.Proofs.Ytjphpadgbhegaaa
open Go Go.Eng

/-- slices.Clone[[]sallyport/drive.Part,sallyport/drive.Part] -/
def f22 (p0 : Sl) (K : Sl → World → Prop) (w : World) : Prop :=
  semS Try.prog (binS .eql 31 (.tmp 3) (.const (Go.Value.slice none 0 0)) (.slice p0.a p0.len p0.cap) (.slice none 0 0)) (.one .bool) (fun x1 w =>
  cond x1
    (K (⟨none, 0, 0⟩) w)
    (semS Try.prog (Instr.buildSlice 31 0 #[]) (.one .slc) (fun x2 w =>
    semS Try.prog (Builtin.append_ #[31, 31] 31 #[(.slice x2.a x2.len x2.cap), (.slice p0.a p0.len p0.cap)]) (.one .slc) (fun r3 w =>
    K r3 w) w) w)) w
theorem f22_ok {p0 : Sl} {K : Sl → World → Prop} {w : World} (h : f22 p0 K w) : callS Try.prog 22 #[(.slice p0.a p0.len p0.cap)] [(.one .slc)] K w :=
  calls_of_fn (args := [(.slice p0.a p0.len p0.cap)]) Try.f22 [] [] [] .nil (by kernel_rfl) (by kernel_rfl)
    (Eq.mp (by kernel_rfl : f22 p0 K w = evFn Try.prog Try.f22 [] [] [] .nil [(.slice p0.a p0.len p0.cap)] [(.one .slc)] K w) h)

/-- strings.indexFunc -/
def f37 (p0 : ByteArray) (p1 : Value) (p2 : Bool) (K : Int → World → Prop) (w : World) : Prop :=
  semS Try.prog (Instr.range 9 (.string p0)) (.one .adr) (fun x1 w =>
  loopS (σ := Unit) (fun _ w again2 =>
    semS Try.prog (Instr.next (.pointer (some x1)) true 0) .nxt ⟨fun w =>
    K (-1) w, fun i3 c4 w =>
    callY Try.prog (callSem p1 #[(.int .i32 c4)]) [(.one .bool)] (fun r5 w =>
    cond (r5 == p2)
      (K i3 w)
      (again2 () w)) w⟩ w) () w) w
theorem f37_ok {p0 : ByteArray} {p1 : Value} {p2 : Bool} {K : Int → World → Prop} {w : World} (h : f37 p0 p1 p2 K w) : callS Try.prog 37 #[(.string p0), p1, (.bool p2)] [(.one (.int .i64))] K w :=
  calls_of_fn (args := [(.string p0), p1, (.bool p2)]) Try.f37 [1, 15] [] [] (.two .nil (.two (.two .nil (.one (.loop [] .nil))) .nil)) (by kernel_rfl) (by kernel_rfl)
    (Eq.mp (by kernel_rfl : f37 p0 p1 p2 K w = evFn Try.prog Try.f37 [1, 15] [] [] (.two .nil (.two (.two .nil (.one (.loop [] .nil))) .nil)) [(.string p0), p1, (.bool p2)] [(.one (.int .i64))] K w) h)

/-- strings.IndexFunc -/
def f36 (p0 : ByteArray) (p1 : Value) (K : Int → World → Prop) (w : World) : Prop :=
  callS Try.prog 37 #[(.string p0), p1, (.bool true)] [(.one (.int .i64))] (fun r1 w =>
  K r1 w) w
theorem f36_ok {p0 : ByteArray} {p1 : Value} {K : Int → World → Prop} {w : World} (h : f36 p0 p1 K w) : callS Try.prog 36 #[(.string p0), p1] [(.one (.int .i64))] K w :=
  calls_of_fn (args := [(.string p0), p1]) Try.f36 [1, 6] [] [] .nil (by kernel_rfl) (by kernel_rfl)
    (Eq.mp (by kernel_rfl : f36 p0 p1 K w = evFn Try.prog Try.f36 [1, 6] [] [] .nil [(.string p0), p1] [(.one (.int .i64))] K w) h)

/-- strings.ContainsFunc -/
def f34 (p0 : ByteArray) (p1 : Value) (K : Bool → World → Prop) (w : World) : Prop :=
  callS Try.prog 36 #[(.string p0), p1] [(.one (.int .i64))] (fun r1 w =>
  K (decide (r1 ≥ 0)) w) w
theorem f34_ok {p0 : ByteArray} {p1 : Value} {K : Bool → World → Prop} {w : World} (h : f34 p0 p1 K w) : callS Try.prog 34 #[(.string p0), p1] [(.one .bool)] K w :=
  calls_of_fn (args := [(.string p0), p1]) Try.f34 [1, 6] [] [] .nil (by kernel_rfl) (by kernel_rfl)
    (Eq.mp (by kernel_rfl : f34 p0 p1 K w = evFn Try.prog Try.f34 [1, 6] [] [] .nil [(.string p0), p1] [(.one .bool)] K w) h)

/-- sallyport/drive.named$1 -/
def f35 (p0 : Int) (K : Bool → World → Prop) (w : World) : Prop :=
  K (!((((decide (p0 ≥ 97)) && (decide (p0 ≤ 122))) || ((decide (p0 ≥ 48)) && (decide (p0 ≤ 57)))) || (p0 == 95))) w
theorem f35_ok {p0 : Int} {K : Bool → World → Prop} {w : World} (h : f35 p0 K w) : callS Try.prog 35 #[(.int .i32 p0)] [(.one .bool)] K w :=
  calls_of_fn (args := [(.int .i32 p0)]) Try.f35 [] [] [] .nil (by kernel_rfl) (by kernel_rfl)
    (Eq.mp (by kernel_rfl : f35 p0 K w = evFn Try.prog Try.f35 [] [] [] .nil [(.int .i32 p0)] [(.one .bool)] K w) h)

/-- sallyport/drive.named -/
def f23 (p0 : ByteArray) (K : Bool → World → Prop) (w : World) : Prop :=
  joinS (σ := Bool) (fun b1 w =>
    K b1 w) fun J2 =>
  cond ((!(p0.toList == (ByteArray.mk #[]).toList)) && (decide ((p0.size : Int) ≤ 24)))
    (callS Try.prog 34 #[(.string p0), (.func (.func 35) #[] #[])] [(.one .bool)] (fun r3 w =>
      J2 (!r3) w) w)
    (J2 false w)
theorem f23_ok {p0 : ByteArray} {K : Bool → World → Prop} {w : World} (h : f23 p0 K w) : callS Try.prog 23 #[(.string p0)] [(.one .bool)] K w :=
  calls_of_fn (args := [(.string p0)]) Try.f23 [] [] [] .nil (by kernel_rfl) (by kernel_rfl)
    (Eq.mp (by kernel_rfl : f23 p0 K w = evFn Try.prog Try.f23 [] [] [] .nil [(.string p0)] [(.one .bool)] K w) h)

def f9_t1 (z19 : Bool) (K : (Option Addr) → Int → World → Prop) (x9 : Addr) (x3 : Addr) (again5 : (Int × Int) → World → Prop) (s4 : Int × Int) (w : World) : Prop :=
  cond z19
    (K none 40 w)
    (semS Try.prog (Instr.loadAt 3 (.pointer (some (x9.add 1)))) (.one (.int .i64)) (fun x20 w =>
    drawS w fun C w =>
    semQ Try.prog C (Instr.loadAt 61 (.pointer (some (x3.add 1)))) (.one .mp) (fun x21 =>
    semQ Try.prog C (Instr.loadAt 9 (.pointer (some (x9.add 0)))) (.one .str) (fun x22 =>
    semS Try.prog (Instr.makeMap 66 none) (.one .mp) (fun x23 w =>
    moreS C w (fun C =>
    semS Try.prog (Instr.box 68 (.agg #[(.slice none 0 0), (.map x23)])) (.one .adr) (fun x24 w =>
    moreS C w (fun C =>
    semU Try.prog (Instr.mapUpdate 61 (.map x21) (.string x22) (.pointer (some x24))) (fun w =>
    again5 (IntKind.wrap .i64 (s4.1 + x20), IntKind.wrap .i64 (s4.2 + 1)) w) w)) w)) w))) w)

/-- sallyport/drive.New -/
def f9 (p0 : Sl) (K : (Option Addr) → Int → World → Prop) (w : World) : Prop :=
  cond (decide ((p0.len : Int) > 16))
    (K none 40 w)
    (callS Try.prog 22 #[(.slice p0.a p0.len p0.cap)] [(.one .slc)] (fun r1 w =>
    semS Try.prog (Instr.makeMap 61 none) (.one .mp) (fun x2 w =>
    semS Try.prog (Instr.box 63 (.agg #[(.slice r1.a r1.len r1.cap), (.map x2), (.int .i64 (-1)), (.slice none 0 0), (.bool false), (.int .i64 0), (.int .i64 0)])) (.one .adr) (fun x3 w =>
    loopS (σ := Int × Int) (fun s4 w again5 =>
      cond (decide (s4.2 < (p0.len : Int)))
        (semS Try.prog (Instr.indexAt 31 (.slice p0.a p0.len p0.cap) (.int .i64 s4.2)) (.one .adr) (fun x6 w =>
        semS Try.prog (Instr.loadAt 30 (.pointer (some x6))) (.agg [.str, (.int .i64)]) (fun x7 x8 w =>
        semS Try.prog (Instr.alloc 30 true (.tuple #[])) (.one .adr) (fun x9 w =>
        semU Try.prog (Instr.storeAt 30 (.pointer (some x9)) (.agg #[(.string x7), (.int .i64 x8)])) (fun w =>
        drawS w fun C w =>
        semQ Try.prog C (Instr.loadAt 9 (.pointer (some (x9.add 0)))) (.one .str) (fun x10 =>
        callS Try.prog 23 #[(.string x10)] [(.one .bool)] (fun r11 w =>
        moreS C w (fun C =>
        cond (!r11)
          (f9_t1 true K x9 x3 again5 s4 w)
          (semQ Try.prog C (Instr.loadAt 61 (.pointer (some (x3.add 1)))) (.one .mp) (fun x12 =>
          semQ Try.prog C (Instr.loadAt 9 (.pointer (some (x9.add 0)))) (.one .str) (fun x13 =>
          semQ Try.prog C (Instr.lookup 61 (.map x12) (.string x13) false) (.one .ptr) (fun x14 =>
          semQ Try.prog C (binS .neq 65 (.tmp 35) (.const (Go.Value.pointer none)) (.pointer x14) (.pointer none)) (.one .bool) (fun x15 =>
          cond x15
            (f9_t1 true K x9 x3 again5 s4 w)
            (semQ Try.prog C (Instr.loadAt 3 (.pointer (some (x9.add 1)))) (.one (.int .i64)) (fun x16 =>
            cond (decide (x16 < 64))
              (f9_t1 true K x9 x3 again5 s4 w)
              (semQ Try.prog C (Instr.loadAt 3 (.pointer (some (x9.add 1)))) (.one (.int .i64)) (fun x17 =>
              cond (decide (x17 > 1048576))
                (f9_t1 true K x9 x3 again5 s4 w)
                (semQ Try.prog C (Instr.loadAt 3 (.pointer (some (x9.add 1)))) (.one (.int .i64)) (fun x18 =>
                f9_t1 ((Int.tmod x18 64) != 0) K x9 x3 again5 s4 w))))))))))))) w)) w) w) w) w)
        (cond (decide (s4.1 > 1048576))
          (K none 11 w)
          (loopS (σ := Int) (fun x25 w again26 =>
            cond (decide (x25 < (p0.len : Int)))
              (semS Try.prog (Instr.indexAt 31 (.slice p0.a p0.len p0.cap) (.int .i64 x25)) (.one .adr) (fun x27 w =>
              semS Try.prog (Instr.loadAt 30 (.pointer (some x27))) (.agg [.str, (.int .i64)]) (fun x28 x29 w =>
              semS Try.prog (Instr.alloc 30 true (.tuple #[])) (.one .adr) (fun x30 w =>
              semU Try.prog (Instr.storeAt 30 (.pointer (some x30)) (.agg #[(.string x28), (.int .i64 x29)])) (fun w =>
              drawS w fun C w =>
              semQ Try.prog C (Instr.loadAt 61 (.pointer (some (x3.add 1)))) (.one .mp) (fun x31 =>
              semQ Try.prog C (Instr.loadAt 9 (.pointer (some (x30.add 0)))) (.one .str) (fun x32 =>
              semQ Try.prog C (Instr.lookup 61 (.map x31) (.string x32) false) (.one .ptr) (fun x33 =>
              semQ Try.prog C (Instr.loadAt 3 (.pointer (some (x30.add 1)))) (.one (.int .i64)) (fun x34 =>
              semS Try.prog (Instr.makeSlice 22 (.int .i64 x34) (.int .i64 x34)) (.one .slc) (fun x35 w =>
              moreS C w (fun C =>
              nilS x33 fun a36 =>
              semU Try.prog (Instr.storeAt 22 (.pointer (some (a36.add 0))) (.slice x35.a x35.len x35.cap)) (fun w =>
              again26 (IntKind.wrap .i64 (x25 + 1)) w) w)) w))))) w) w) w) w)
              (K (some x3) 0 w)) 0 w))) (0, 0) w) w) w) w)
theorem f9_ok {p0 : Sl} {K : (Option Addr) → Int → World → Prop} {w : World} (h : f9 p0 K w) : callS Try.prog 9 #[(.slice p0.a p0.len p0.cap)] [(.one .ptr), (.one (.int .i64))] K w :=
  calls_of_fn (args := [(.slice p0.a p0.len p0.cap)]) Try.f9 [] [] [] (.two .nil (.two .nil (.two .nil (.two .nil (.two (.two .nil (.one (.loop [(5, (.int .i64)), (20, (.int .i64))] (.two .nil (.two .nil (.two (.one (.two .nil (.two (.two (.draw [0, 1, 3, 7, 15, 31, 63, 127, 255, 31, 543, 2047, 4095, 8191, 16383, 32767, 65535, 131071, 262143, 524287, 1048575, 2097151, 4194303, 8388607, 16777215, 33554431, 67108863, 134217727, 268435455, 536870911]) .nil) (.two .nil (.draw [0, 1, 3, 7, 0, 16, 0, 64, 192, 511]))))) .nil)))))) (.two .nil (.two (.two .nil (.one (.loop [(72, (.int .i64))] (.two .nil (.two .nil (.two (.one (.two .nil (.draw [0, 1, 3, 7, 0, 16, 63, 0, 128, 384, 1023, 2047, 4095]))) .nil)))))) .nil))))))) (by kernel_rfl) (by kernel_rfl)
    (Eq.mp (by kernel_rfl : f9 p0 K w = evFn Try.prog Try.f9 [] [] [] (.two .nil (.two .nil (.two .nil (.two .nil (.two (.two .nil (.one (.loop [(5, (.int .i64)), (20, (.int .i64))] (.two .nil (.two .nil (.two (.one (.two .nil (.two (.two (.draw [0, 1, 3, 7, 15, 31, 63, 127, 255, 31, 543, 2047, 4095, 8191, 16383, 32767, 65535, 131071, 262143, 524287, 1048575, 2097151, 4194303, 8388607, 16777215, 33554431, 67108863, 134217727, 268435455, 536870911]) .nil) (.two .nil (.draw [0, 1, 3, 7, 0, 16, 0, 64, 192, 511]))))) .nil)))))) (.two .nil (.two (.two .nil (.one (.loop [(72, (.int .i64))] (.two .nil (.two .nil (.two (.one (.two .nil (.draw [0, 1, 3, 7, 0, 16, 63, 0, 128, 384, 1023, 2047, 4095]))) .nil)))))) .nil))))))) [(.slice p0.a p0.len p0.cap)] [(.one .ptr), (.one (.int .i64))] K w) h)

/-- sallyport/span.Within -/
def f28 (p0 : Int) (p1 : Int) (p2 : Int) (K : Bool → World → Prop) (w : World) : Prop :=
  K (((((decide (p0 ≥ 0)) && (decide (p1 ≥ 0))) && (decide (p2 ≥ 0))) && (decide (p0 ≤ p2))) && (decide (p1 ≤ (IntKind.wrap .i64 (p2 - p0))))) w
theorem f28_ok {p0 : Int} {p1 : Int} {p2 : Int} {K : Bool → World → Prop} {w : World} (h : f28 p0 p1 p2 K w) : callS Try.prog 28 #[(.int .i64 p0), (.int .i64 p1), (.int .i64 p2)] [(.one .bool)] K w :=
  calls_of_fn (args := [(.int .i64 p0), (.int .i64 p1), (.int .i64 p2)]) Try.f28 [] [] [] .nil (by kernel_rfl) (by kernel_rfl)
    (Eq.mp (by kernel_rfl : f28 p0 p1 p2 K w = evFn Try.prog Try.f28 [] [] [] .nil [(.int .i64 p0), (.int .i64 p1), (.int .i64 p2)] [(.one .bool)] K w) h)

/-- (*sallyport/drive.Drive).find -/
def f24 (p0 : Option Addr) (p1 : ByteArray) (p2 : Int) (p3 : Int) (K : (Option Addr) → Int → World → Prop) (w : World) : Prop :=
  nilS p0 fun a1 =>
  semS Try.prog (Instr.loadAt 61 (.pointer (some (a1.add 1)))) (.one .mp) (fun x2 w =>
  semS Try.prog (Instr.lookup 61 (.map x2) (.string p1) false) (.one .ptr) (fun x3 w =>
  nilS p0 fun a4 =>
  semS Try.prog (Instr.loadAt 4 (.pointer (some (a4.add 4)))) (.one .bool) (fun x5 w =>
  cond x5
    (K none 42 w)
    (semS Try.prog (binS .eql 65 (.tmp 23) (.const (Go.Value.pointer none)) (.pointer x3) (.pointer none)) (.one .bool) (fun x6 w =>
    cond x6
      (K none 40 w)
      (nilS x3 fun a7 =>
      semS Try.prog (Instr.loadAt 22 (.pointer (some (a7.add 0)))) (.one .slc) (fun x8 w =>
      callS Try.prog 28 #[(.int .i64 p2), (.int .i64 p3), (.int .i64 (x8.len : Int))] [(.one .bool)] (fun r9 w =>
      cond (!r9)
        (K none 10 w)
        (K x3 0 w)) w) w)) w)) w) w) w
theorem f24_ok {p0 : Option Addr} {p1 : ByteArray} {p2 : Int} {p3 : Int} {K : (Option Addr) → Int → World → Prop} {w : World} (h : f24 p0 p1 p2 p3 K w) : callS Try.prog 24 #[(.pointer p0), (.string p1), (.int .i64 p2), (.int .i64 p3)] [(.one .ptr), (.one (.int .i64))] K w :=
  calls_of_fn (args := [(.pointer p0), (.string p1), (.int .i64 p2), (.int .i64 p3)]) Try.f24 [] [] [] .nil (by kernel_rfl) (by kernel_rfl)
    (Eq.mp (by kernel_rfl : f24 p0 p1 p2 p3 K w = evFn Try.prog Try.f24 [] [] [] .nil [(.pointer p0), (.string p1), (.int .i64 p2), (.int .i64 p3)] [(.one .ptr), (.one (.int .i64))] K w) h)

/-- sallyport/drive.sectors -/
def f25 (p0 : Int) (p1 : Int) (K : Int → Int → World → Prop) (w : World) : Prop :=
  cond (p1 == 0)
    (K (IntKind.wrap .i64 (Int.tdiv p0 64)) 0 w)
    (K (IntKind.wrap .i64 (Int.tdiv p0 64)) (IntKind.wrap .i64 ((IntKind.wrap .i64 ((IntKind.wrap .i64 (Int.tdiv (IntKind.wrap .i64 ((IntKind.wrap .i64 (p0 + p1)) - 1)) 64)) - (IntKind.wrap .i64 (Int.tdiv p0 64)))) + 1)) w)
theorem f25_ok {p0 : Int} {p1 : Int} {K : Int → Int → World → Prop} {w : World} (h : f25 p0 p1 K w) : callS Try.prog 25 #[(.int .i64 p0), (.int .i64 p1)] [(.one (.int .i64)), (.one (.int .i64))] K w :=
  calls_of_fn (args := [(.int .i64 p0), (.int .i64 p1)]) Try.f25 [] [] [] .nil (by kernel_rfl) (by kernel_rfl)
    (Eq.mp (by kernel_rfl : f25 p0 p1 K w = evFn Try.prog Try.f25 [] [] [] .nil [(.int .i64 p0), (.int .i64 p1)] [(.one (.int .i64)), (.one (.int .i64))] K w) h)

/-- (*sallyport/drive.Drive).Write -/
def f10 (p0 : Option Addr) (p1 : ByteArray) (p2 : Int) (p3 : Sl) (K : Int → World → Prop) (w : World) : Prop :=
  callS Try.prog 24 #[(.pointer p0), (.string p1), (.int .i64 p2), (.int .i64 (p3.len : Int))] [(.one .ptr), (.one (.int .i64))] (fun r1 r2 w =>
  cond (r2 != 0)
    (K r2 w)
    (nilS p0 fun a3 =>
    semS Try.prog (Instr.loadAt 3 (.pointer (some (a3.add 2)))) (.one (.int .i64)) (fun x4 w =>
    cond (x4 != 0)
      (nilS p0 fun a5 =>
      semS Try.prog (Instr.loadAt 3 (.pointer (some (a5.add 2)))) (.one (.int .i64)) (fun x6 w =>
      nilS p0 fun a7 =>
      semU Try.prog (Instr.storeAt 3 (.pointer (some (a7.add 2))) (.int .i64 (if (-1) > (IntKind.wrap .i64 (x6 - 1)) then -1 else IntKind.wrap .i64 (x6 - 1)))) (fun w =>
      nilS r1 fun a8 =>
      semS Try.prog (Instr.loadAt 22 (.pointer (some (a8.add 0)))) (.one .slc) (fun x9 w =>
      semS Try.prog (Instr.sliceAt 22 (.slice x9.a x9.len x9.cap) (some (.int .i64 p2)) none none) (.one .slc) (fun x10 w =>
      semS Try.prog (Builtin.copy_ #[22, 22] 3 #[(.slice x10.a x10.len x10.cap), (.slice p3.a p3.len p3.cap)]) (.one (.int .i64)) (fun r11 w =>
      K 0 w) w) w) w) w) w)
      (callS Try.prog 25 #[(.int .i64 p2), (.int .i64 (p3.len : Int))] [(.one (.int .i64)), (.one (.int .i64))] (fun r12 r13 w =>
      nilS p0 fun a14 =>
      semS Try.prog (Instr.loadAt 23 (.pointer (some (a14.add 3)))) (.one .slc) (fun x15 w =>
      loopS (σ := Int) (fun x16 w again17 =>
        cond (decide (x16 < (if (x15.len : Int) < r13 then (x15.len : Int) else r13)))
          (nilS p0 fun a18 =>
          semS Try.prog (Instr.loadAt 23 (.pointer (some (a18.add 3)))) (.one .slc) (fun x19 w =>
          semS Try.prog (Instr.indexAt 23 (.slice x19.a x19.len x19.cap) (.int .i64 x16)) (.one .adr) (fun x20 w =>
          semS Try.prog (Instr.loadAt 4 (.pointer (some x20))) (.one .bool) (fun x21 w =>
          cond x21
            (drawS w fun C w =>
            nilS r1 fun a22 =>
            semQ Try.prog C (Instr.loadAt 22 (.pointer (some (a22.add 0)))) (.one .slc) (fun x23 =>
            semQ Try.prog C (Instr.sliceAt 22 (.slice x23.a x23.len x23.cap) (some (.int .i64 (if (IntKind.wrap .i64 ((IntKind.wrap .i64 (r12 + x16)) * 64)) > p2 then IntKind.wrap .i64 ((IntKind.wrap .i64 (r12 + x16)) * 64) else p2))) (some (.int .i64 (if (IntKind.wrap .i64 ((IntKind.wrap .i64 ((IntKind.wrap .i64 (r12 + x16)) + 1)) * 64)) < (IntKind.wrap .i64 (p2 + (p3.len : Int))) then IntKind.wrap .i64 ((IntKind.wrap .i64 ((IntKind.wrap .i64 (r12 + x16)) + 1)) * 64) else IntKind.wrap .i64 (p2 + (p3.len : Int))))) none) (.one .slc) (fun x24 =>
            semQ Try.prog C (Instr.sliceAt 22 (.slice p3.a p3.len p3.cap) (some (.int .i64 (IntKind.wrap .i64 ((if (IntKind.wrap .i64 ((IntKind.wrap .i64 (r12 + x16)) * 64)) > p2 then IntKind.wrap .i64 ((IntKind.wrap .i64 (r12 + x16)) * 64) else p2) - p2)))) none none) (.one .slc) (fun x25 =>
            semS Try.prog (Builtin.copy_ #[22, 22] 3 #[(.slice x24.a x24.len x24.cap), (.slice x25.a x25.len x25.cap)]) (.one (.int .i64)) (fun r26 w =>
            again17 (IntKind.wrap .i64 (x16 + 1)) w) w))))
            (again17 (IntKind.wrap .i64 (x16 + 1)) w)) w) w) w)
          (nilS p0 fun a27 =>
          semU Try.prog (Instr.storeAt 4 (.pointer (some (a27.add 4))) (.bool true)) (fun w =>
          K 42 w) w)) 0 w) w) w)) w)) w
theorem f10_ok {p0 : Option Addr} {p1 : ByteArray} {p2 : Int} {p3 : Sl} {K : Int → World → Prop} {w : World} (h : f10 p0 p1 p2 p3 K w) : callS Try.prog 10 #[(.pointer p0), (.string p1), (.int .i64 p2), (.slice p3.a p3.len p3.cap)] [(.one (.int .i64))] K w :=
  calls_of_fn (args := [(.pointer p0), (.string p1), (.int .i64 p2), (.slice p3.a p3.len p3.cap)]) Try.f10 [] [] [] (.two .nil (.two .nil (.two .nil (.two .nil (.two .nil (.two (.two .nil (.one (.loop [(64, (.int .i64))] (.two .nil (.two .nil (.two (.one (.two .nil (.two .nil (.two (.two .nil (.draw [0, 1, 3, 7, 0, 0, 63, 0, 0, 0, 768, 1920, 4095])) .nil)))) .nil)))))) .nil)))))) (by kernel_rfl) (by kernel_rfl)
    (Eq.mp (by kernel_rfl : f10 p0 p1 p2 p3 K w = evFn Try.prog Try.f10 [] [] [] (.two .nil (.two .nil (.two .nil (.two .nil (.two .nil (.two (.two .nil (.one (.loop [(64, (.int .i64))] (.two .nil (.two .nil (.two (.one (.two .nil (.two .nil (.two (.two .nil (.draw [0, 1, 3, 7, 0, 0, 63, 0, 0, 0, 768, 1920, 4095])) .nil)))) .nil)))))) .nil)))))) [(.pointer p0), (.string p1), (.int .i64 p2), (.slice p3.a p3.len p3.cap)] [(.one (.int .i64))] K w) h)

/-- slices.Clone[[]byte,byte] -/
def f26 (p0 : Sl) (K : Sl → World → Prop) (w : World) : Prop :=
  semS Try.prog (binS .eql 22 (.tmp 3) (.const (Go.Value.slice none 0 0)) (.slice p0.a p0.len p0.cap) (.slice none 0 0)) (.one .bool) (fun x1 w =>
  cond x1
    (K (⟨none, 0, 0⟩) w)
    (semS Try.prog (Instr.buildSlice 22 0 #[]) (.one .slc) (fun x2 w =>
    semS Try.prog (Builtin.append_ #[22, 22] 22 #[(.slice x2.a x2.len x2.cap), (.slice p0.a p0.len p0.cap)]) (.one .slc) (fun r3 w =>
    K r3 w) w) w)) w
theorem f26_ok {p0 : Sl} {K : Sl → World → Prop} {w : World} (h : f26 p0 K w) : callS Try.prog 26 #[(.slice p0.a p0.len p0.cap)] [(.one .slc)] K w :=
  calls_of_fn (args := [(.slice p0.a p0.len p0.cap)]) Try.f26 [] [] [] .nil (by kernel_rfl) (by kernel_rfl)
    (Eq.mp (by kernel_rfl : f26 p0 K w = evFn Try.prog Try.f26 [] [] [] .nil [(.slice p0.a p0.len p0.cap)] [(.one .slc)] K w) h)

/-- (*sallyport/drive.Drive).Read -/
def f11 (p0 : Option Addr) (p1 : ByteArray) (p2 : Int) (p3 : Int) (K : Sl → Int → World → Prop) (w : World) : Prop :=
  callS Try.prog 24 #[(.pointer p0), (.string p1), (.int .i64 p2), (.int .i64 p3)] [(.one .ptr), (.one (.int .i64))] (fun r1 r2 w =>
  cond (r2 != 0)
    (K (⟨none, 0, 0⟩) r2 w)
    (callS Try.prog 25 #[(.int .i64 p2), (.int .i64 p3)] [(.one (.int .i64)), (.one (.int .i64))] (fun r3 r4 w =>
    loopS (σ := Int) (fun x5 w again6 =>
      cond (decide (x5 < r4))
        (nilS r1 fun a7 =>
        semS Try.prog (Instr.loadAt 66 (.pointer (some (a7.add 1)))) (.one .mp) (fun x8 w =>
        semS Try.prog (Instr.lookup 66 (.map x8) (.int .i64 (IntKind.wrap .i64 (r3 + x5))) false) (.one .bool) (fun x9 w =>
        cond x9
          (K (⟨none, 0, 0⟩) 41 w)
          (again6 (IntKind.wrap .i64 (x5 + 1)) w)) w) w)
        (nilS p0 fun a10 =>
        semS Try.prog (Instr.loadAt 3 (.pointer (some (a10.add 5)))) (.one (.int .i64)) (fun x11 w =>
        nilS p0 fun a12 =>
        semU Try.prog (Instr.storeAt 3 (.pointer (some (a12.add 5))) (.int .i64 (if 1152921504606846976 < (IntKind.wrap .i64 (x11 + 1)) then 1152921504606846976 else IntKind.wrap .i64 (x11 + 1)))) (fun w =>
        nilS p0 fun a13 =>
        semS Try.prog (Instr.loadAt 3 (.pointer (some (a13.add 6)))) (.one (.int .i64)) (fun x14 w =>
        nilS p0 fun a15 =>
        semU Try.prog (Instr.storeAt 3 (.pointer (some (a15.add 6))) (.int .i64 (if 1152921504606846976 < (IntKind.wrap .i64 (x14 + p3)) then 1152921504606846976 else IntKind.wrap .i64 (x14 + p3)))) (fun w =>
        nilS r1 fun a16 =>
        semS Try.prog (Instr.loadAt 22 (.pointer (some (a16.add 0)))) (.one .slc) (fun x17 w =>
        semS Try.prog (Instr.sliceAt 22 (.slice x17.a x17.len x17.cap) (some (.int .i64 p2)) (some (.int .i64 (IntKind.wrap .i64 (p2 + p3)))) none) (.one .slc) (fun x18 w =>
        callS Try.prog 26 #[(.slice x18.a x18.len x18.cap)] [(.one .slc)] (fun r19 w =>
        K r19 0 w) w) w) w) w) w) w) w)) 0 w) w)) w
theorem f11_ok {p0 : Option Addr} {p1 : ByteArray} {p2 : Int} {p3 : Int} {K : Sl → Int → World → Prop} {w : World} (h : f11 p0 p1 p2 p3 K w) : callS Try.prog 11 #[(.pointer p0), (.string p1), (.int .i64 p2), (.int .i64 p3)] [(.one .slc), (.one (.int .i64))] K w :=
  calls_of_fn (args := [(.pointer p0), (.string p1), (.int .i64 p2), (.int .i64 p3)]) Try.f11 [] [] [] (.two .nil (.two .nil (.two .nil (.two .nil (.two (.two .nil (.one (.loop [(33, (.int .i64))] .nil))) .nil))))) (by kernel_rfl) (by kernel_rfl)
    (Eq.mp (by kernel_rfl : f11 p0 p1 p2 p3 K w = evFn Try.prog Try.f11 [] [] [] (.two .nil (.two .nil (.two .nil (.two .nil (.two (.two .nil (.one (.loop [(33, (.int .i64))] .nil))) .nil))))) [(.pointer p0), (.string p1), (.int .i64 p2), (.int .i64 p3)] [(.one .slc), (.one (.int .i64))] K w) h)

/-- slices.Clone[[]bool,bool] -/
def f27 (p0 : Sl) (K : Sl → World → Prop) (w : World) : Prop :=
  semS Try.prog (binS .eql 23 (.tmp 3) (.const (Go.Value.slice none 0 0)) (.slice p0.a p0.len p0.cap) (.slice none 0 0)) (.one .bool) (fun x1 w =>
  cond x1
    (K (⟨none, 0, 0⟩) w)
    (semS Try.prog (Instr.buildSlice 23 0 #[]) (.one .slc) (fun x2 w =>
    semS Try.prog (Builtin.append_ #[23, 23] 23 #[(.slice x2.a x2.len x2.cap), (.slice p0.a p0.len p0.cap)]) (.one .slc) (fun r3 w =>
    K r3 w) w) w)) w
theorem f27_ok {p0 : Sl} {K : Sl → World → Prop} {w : World} (h : f27 p0 K w) : callS Try.prog 27 #[(.slice p0.a p0.len p0.cap)] [(.one .slc)] K w :=
  calls_of_fn (args := [(.slice p0.a p0.len p0.cap)]) Try.f27 [] [] [] .nil (by kernel_rfl) (by kernel_rfl)
    (Eq.mp (by kernel_rfl : f27 p0 K w = evFn Try.prog Try.f27 [] [] [] .nil [(.slice p0.a p0.len p0.cap)] [(.one .slc)] K w) h)

/-- (*sallyport/drive.Drive).Arm -/
def f12 (p0 : Option Addr) (p1 : Int) (p2 : Sl) (K : World → Prop) (w : World) : Prop :=
  callS Try.prog 27 #[(.slice p2.a p2.len p2.cap)] [(.one .slc)] (fun r1 w =>
  nilS p0 fun a2 =>
  semU Try.prog (Instr.storeAt 3 (.pointer (some (a2.add 2))) (.int .i64 (if (-1) > p1 then -1 else p1))) (fun w =>
  nilS p0 fun a3 =>
  semU Try.prog (Instr.storeAt 23 (.pointer (some (a3.add 3))) (.slice r1.a r1.len r1.cap)) (fun w =>
  K w) w) w) w
theorem f12_ok {p0 : Option Addr} {p1 : Int} {p2 : Sl} {K : World → Prop} {w : World} (h : f12 p0 p1 p2 K w) : callS Try.prog 12 #[(.pointer p0), (.int .i64 p1), (.slice p2.a p2.len p2.cap)] [] K w :=
  calls_of_fn (args := [(.pointer p0), (.int .i64 p1), (.slice p2.a p2.len p2.cap)]) Try.f12 [] [] [] .nil (by kernel_rfl) (by kernel_rfl)
    (Eq.mp (by kernel_rfl : f12 p0 p1 p2 K w = evFn Try.prog Try.f12 [] [] [] .nil [(.pointer p0), (.int .i64 p1), (.slice p2.a p2.len p2.cap)] [] K w) h)

/-- (*sallyport/drive.Drive).Boot -/
def f13 (p0 : Option Addr) (K : World → Prop) (w : World) : Prop :=
  nilS p0 fun a1 =>
  semU Try.prog (Instr.storeAt 3 (.pointer (some (a1.add 2))) (.int .i64 (-1))) (fun w =>
  nilS p0 fun a2 =>
  semU Try.prog (Instr.storeAt 4 (.pointer (some (a2.add 4))) (.bool false)) (fun w =>
  K w) w) w
theorem f13_ok {p0 : Option Addr} {K : World → Prop} {w : World} (h : f13 p0 K w) : callS Try.prog 13 #[(.pointer p0)] [] K w :=
  calls_of_fn (args := [(.pointer p0)]) Try.f13 [] [] [] .nil (by kernel_rfl) (by kernel_rfl)
    (Eq.mp (by kernel_rfl : f13 p0 K w = evFn Try.prog Try.f13 [] [] [] .nil [(.pointer p0)] [] K w) h)

/-- (*sallyport/drive.Drive).Down -/
def f17 (p0 : Option Addr) (K : Bool → World → Prop) (w : World) : Prop :=
  nilS p0 fun a1 =>
  semS Try.prog (Instr.loadAt 4 (.pointer (some (a1.add 4)))) (.one .bool) (fun x2 w =>
  K x2 w) w
theorem f17_ok {p0 : Option Addr} {K : Bool → World → Prop} {w : World} (h : f17 p0 K w) : callS Try.prog 17 #[(.pointer p0)] [(.one .bool)] K w :=
  calls_of_fn (args := [(.pointer p0)]) Try.f17 [] [] [] .nil (by kernel_rfl) (by kernel_rfl)
    (Eq.mp (by kernel_rfl : f17 p0 K w = evFn Try.prog Try.f17 [] [] [] .nil [(.pointer p0)] [(.one .bool)] K w) h)

/-- sallyport/sallyportlaw10.anchor -/
def f8  (K : Bool → World → Prop) (w : World) : Prop :=
  semS Try.prog (Instr.buildSlice 31 1 #[(0, (.agg #[(.string (ByteArray.mk #[97])), (.int .i64 128)]))]) (.one .slc) (fun x1 w =>
  callS Try.prog 9 #[(.slice x1.a x1.len x1.cap)] [(.one .ptr), (.one (.int .i64))] (fun r2 r3 w =>
  joinS (σ := Bool) (fun b4 w =>
    cond b4
      (K false w)
      (semS Try.prog (Instr.buildSlice 23 2 #[(0, (.bool false)), (1, (.bool true))]) (.one .slc) (fun x6 w =>
      callS Try.prog 12 #[(.pointer r2), (.int .i64 0), (.slice x6.a x6.len x6.cap)] [] (fun w =>
      semS Try.prog (Instr.makeSlice 22 (.int .i64 128) (.int .i64 128)) (.one .slc) (fun x7 w =>
      loopS (σ := Int) (fun x8 w again9 =>
        cond (decide (x8 < (x7.len : Int)))
          (semS Try.prog (Instr.indexAt 22 (.slice x7.a x7.len x7.cap) (.int .i64 x8)) (.one .adr) (fun x10 w =>
          semU Try.prog (Instr.storeAt 5 (.pointer (some x10)) (.int .u8 255)) (fun w =>
          again9 (IntKind.wrap .i64 (x8 + 1)) w) w) w)
          (callS Try.prog 10 #[(.pointer r2), (.string (ByteArray.mk #[97])), (.int .i64 0), (.slice x7.a x7.len x7.cap)] [(.one (.int .i64))] (fun r11 w =>
          joinS (σ := Bool) (fun b12 w =>
            cond b12
              (K false w)
              (callS Try.prog 13 #[(.pointer r2)] [] (fun w =>
              callS Try.prog 11 #[(.pointer r2), (.string (ByteArray.mk #[97])), (.int .i64 0), (.int .i64 128)] [(.one .slc), (.one (.int .i64))] (fun r14 r15 w =>
              joinS (σ := Bool) (fun b16 w =>
                joinS (σ := Bool) (fun b18 w =>
                  joinS (σ := Bool) (fun b20 w =>
                    K b20 w) fun J21 =>
                  cond b18
                    (semS Try.prog (Instr.indexAt 22 (.slice r14.a r14.len r14.cap) (.int .i64 127)) (.one .adr) (fun x22 w =>
                      semS Try.prog (Instr.loadAt 5 (.pointer (some x22))) (.one (.int .u8)) (fun x23 w =>
                      J21 (x23 == 255) w) w) w)
                    (J21 false w)) fun J19 =>
                cond b16
                  (semS Try.prog (Instr.indexAt 22 (.slice r14.a r14.len r14.cap) (.int .i64 64)) (.one .adr) (fun x24 w =>
                    semS Try.prog (Instr.loadAt 5 (.pointer (some x24))) (.one (.int .u8)) (fun x25 w =>
                    J19 (x25 == 255) w) w) w)
                  (J19 false w)) fun J17 =>
              cond ((r15 == 0) && ((r14.len : Int) == 128))
                (semS Try.prog (Instr.indexAt 22 (.slice r14.a r14.len r14.cap) (.int .i64 63)) (.one .adr) (fun x26 w =>
                  semS Try.prog (Instr.loadAt 5 (.pointer (some x26))) (.one (.int .u8)) (fun x27 w =>
                  J17 (x27 == 0) w) w) w)
                (J17 false w)) w) w)) fun J13 =>
          cond (r11 != 42)
            (J13 true w)
            (callS Try.prog 17 #[(.pointer r2)] [(.one .bool)] (fun r28 w =>
              J13 (!r28) w) w)) w)) 0 w) w) w) w)) fun J5 =>
  cond (r3 != 0)
    (J5 true w)
    (semS Try.prog (binS .eql 25 (.tmp 16) (.const (Go.Value.pointer none)) (.pointer r2) (.pointer none)) (.one .bool) (fun x29 w =>
      J5 x29 w) w)) w) w
theorem f8_ok  {K : Bool → World → Prop} {w : World} (h : f8  K w) : callS Try.prog 8 #[] [(.one .bool)] K w :=
  calls_of_fn (args := []) Try.f8 [] [] [] (.two .nil (.two .nil (.two .nil (.two .nil (.two .nil (.two (.two .nil (.one (.loop [(25, (.int .i64))] .nil))) .nil)))))) (by kernel_rfl) (by kernel_rfl)
    (Eq.mp (by kernel_rfl : f8  K w = evFn Try.prog Try.f8 [] [] [] (.two .nil (.two .nil (.two .nil (.two .nil (.two .nil (.two (.two .nil (.one (.loop [(25, (.int .i64))] .nil))) .nil)))))) [] [(.one .bool)] K w) h)

/-- sallyport/sallyportlaw10.DriveTears -/
def f3 (p0 : Sl) (p1 : Sl) (p2 : Int) (p3 : Sl) (K : Bool → World → Prop) (w : World) : Prop :=
  callS Try.prog 8 #[] [(.one .bool)] (fun r1 w =>
  cond (!r1)
    (K false w)
    (cond (((((decide ((p0.len : Int) > 640)) || (decide ((p1.len : Int) > 640))) || (decide (p2 < 0))) || (decide (p2 > (IntKind.wrap .i64 (640 - (p1.len : Int)))))) || (decide ((p3.len : Int) > 20)))
      (K true w)
      (semS Try.prog (Instr.buildSlice 31 1 #[(0, (.agg #[(.string (ByteArray.mk #[120])), (.int .i64 640)]))]) (.one .slc) (fun x2 w =>
      callS Try.prog 9 #[(.slice x2.a x2.len x2.cap)] [(.one .ptr), (.one (.int .i64))] (fun r3 r4 w =>
      joinS (σ := Bool) (fun b5 w =>
        joinS (σ := Bool) (fun b7 w =>
          cond b7
            (K false w)
            (callS Try.prog 11 #[(.pointer r3), (.string (ByteArray.mk #[120])), (.int .i64 0), (.int .i64 640)] [(.one .slc), (.one (.int .i64))] (fun r9 r10 w =>
            callS Try.prog 12 #[(.pointer r3), (.int .i64 0), (.slice p3.a p3.len p3.cap)] [] (fun w =>
            callS Try.prog 10 #[(.pointer r3), (.string (ByteArray.mk #[120])), (.int .i64 p2), (.slice p1.a p1.len p1.cap)] [(.one (.int .i64))] (fun r11 w =>
            cond (r11 != 42)
              (K false w)
              (callS Try.prog 13 #[(.pointer r3)] [] (fun w =>
              callS Try.prog 11 #[(.pointer r3), (.string (ByteArray.mk #[120])), (.int .i64 0), (.int .i64 640)] [(.one .slc), (.one (.int .i64))] (fun r12 r13 w =>
              cond (((r13 != 0) || ((r9.len : Int) != 640)) || ((r12.len : Int) != 640))
                (K false w)
                (loopS (σ := Int) (fun x14 w again15 =>
                  cond (decide (x14 < (r12.len : Int)))
                    (semS Try.prog (Instr.indexAt 22 (.slice r9.a r9.len r9.cap) (.int .i64 x14)) (.one .adr) (fun x16 w =>
                    semS Try.prog (Instr.loadAt 5 (.pointer (some x16))) (.one (.int .u8)) (fun x17 w =>
                    joinS (σ := Bool) (fun b18 w =>
                      cond b18
                        (semS Try.prog (Instr.indexAt 22 (.slice p1.a p1.len p1.cap) (.int .i64 (IntKind.wrap .i64 (x14 - p2)))) (.one .adr) (fun x20 w =>
                        semS Try.prog (Instr.loadAt 5 (.pointer (some x20))) (.one (.int .u8)) (fun x21 w =>
                        semS Try.prog (Instr.indexAt 22 (.slice r12.a r12.len r12.cap) (.int .i64 x14)) (.one .adr) (fun x22 w =>
                        semS Try.prog (Instr.loadAt 5 (.pointer (some x22))) (.one (.int .u8)) (fun x23 w =>
                        cond (x23 != x21)
                          (K false w)
                          (again15 (IntKind.wrap .i64 (x14 + 1)) w)) w) w) w) w)
                        (semS Try.prog (Instr.indexAt 22 (.slice r12.a r12.len r12.cap) (.int .i64 x14)) (.one .adr) (fun x24 w =>
                        semS Try.prog (Instr.loadAt 5 (.pointer (some x24))) (.one (.int .u8)) (fun x25 w =>
                        cond (x25 != x17)
                          (K false w)
                          (again15 (IntKind.wrap .i64 (x14 + 1)) w)) w) w)) fun J19 =>
                    cond (((decide (x14 ≥ p2)) && (decide (x14 < (IntKind.wrap .i64 (p2 + (p1.len : Int)))))) && (decide ((IntKind.wrap .i64 ((IntKind.wrap .i64 (Int.tdiv x14 64)) - (IntKind.wrap .i64 (Int.tdiv p2 64)))) < (p3.len : Int))))
                      (semS Try.prog (Instr.indexAt 23 (.slice p3.a p3.len p3.cap) (.int .i64 (IntKind.wrap .i64 ((IntKind.wrap .i64 (Int.tdiv x14 64)) - (IntKind.wrap .i64 (Int.tdiv p2 64)))))) (.one .adr) (fun x26 w =>
                        semS Try.prog (Instr.loadAt 4 (.pointer (some x26))) (.one .bool) (fun x27 w =>
                        J19 x27 w) w) w)
                      (J19 false w)) w) w)
                    (K true w)) 0 w)) w) w)) w) w) w)) fun J8 =>
        cond b5
          (J8 true w)
          (callS Try.prog 10 #[(.pointer r3), (.string (ByteArray.mk #[120])), (.int .i64 0), (.slice p0.a p0.len p0.cap)] [(.one (.int .i64))] (fun r28 w =>
            J8 (r28 != 0) w) w)) fun J6 =>
      cond (r4 != 0)
        (J6 true w)
        (semS Try.prog (binS .eql 25 (.tmp 53) (.const (Go.Value.pointer none)) (.pointer r3) (.pointer none)) (.one .bool) (fun x29 w =>
          J6 x29 w) w)) w) w))) w
theorem f3_ok {p0 : Sl} {p1 : Sl} {p2 : Int} {p3 : Sl} {K : Bool → World → Prop} {w : World} (h : f3 p0 p1 p2 p3 K w) : callS Try.prog 3 #[(.slice p0.a p0.len p0.cap), (.slice p1.a p1.len p1.cap), (.int .i64 p2), (.slice p3.a p3.len p3.cap)] [(.one .bool)] K w :=
  calls_of_fn (args := [(.slice p0.a p0.len p0.cap), (.slice p1.a p1.len p1.cap), (.int .i64 p2), (.slice p3.a p3.len p3.cap)]) Try.f3 [] [] [] (.two .nil (.two .nil (.two .nil (.two .nil (.two .nil (.two .nil (.two .nil (.two .nil (.two .nil (.two .nil (.two .nil (.two (.two .nil (.one (.loop [(96, (.int .i64))] .nil))) .nil)))))))))))) (by kernel_rfl) (by kernel_rfl)
    (Eq.mp (by kernel_rfl : f3 p0 p1 p2 p3 K w = evFn Try.prog Try.f3 [] [] [] (.two .nil (.two .nil (.two .nil (.two .nil (.two .nil (.two .nil (.two .nil (.two .nil (.two .nil (.two .nil (.two .nil (.two (.two .nil (.one (.loop [(96, (.int .i64))] .nil))) .nil)))))))))))) [(.slice p0.a p0.len p0.cap), (.slice p1.a p1.len p1.cap), (.int .i64 p2), (.slice p3.a p3.len p3.cap)] [(.one .bool)] K w) h)

/-- (*sallyport/drive.Drive).Bad -/
def f14 (p0 : Option Addr) (p1 : ByteArray) (p2 : Int) (p3 : Bool) (K : Bool → World → Prop) (w : World) : Prop :=
  nilS p0 fun a1 =>
  semS Try.prog (Instr.loadAt 61 (.pointer (some (a1.add 1)))) (.one .mp) (fun x2 w =>
  semS Try.prog (Instr.lookup 61 (.map x2) (.string p1) false) (.one .ptr) (fun x3 w =>
  semS Try.prog (binS .eql 65 (.tmp 16) (.const (Go.Value.pointer none)) (.pointer x3) (.pointer none)) (.one .bool) (fun x4 w =>
  joinS (σ := Bool) (fun b5 w =>
    cond b5
      (K false w)
      (nilS x3 fun a7 =>
      semS Try.prog (Instr.loadAt 66 (.pointer (some (a7.add 1)))) (.one .mp) (fun x8 w =>
      semU Try.prog (Instr.mapUpdate 66 (.map x8) (.int .i64 p2) (.bool true)) (fun w =>
      cond (!p3)
        (nilS x3 fun a9 =>
        semS Try.prog (Instr.loadAt 66 (.pointer (some (a9.add 1)))) (.one .mp) (fun x10 w =>
        semS Try.prog (Builtin.delete_ #[66, 3] 0 #[(.map x10), (.int .i64 p2)]) (.tup []) (fun w =>
        K true w) w) w)
        (K true w)) w) w)) fun J6 =>
  cond (x4 || (decide (p2 < 0)))
    (J6 true w)
    (nilS x3 fun a11 =>
      semS Try.prog (Instr.loadAt 22 (.pointer (some (a11.add 0)))) (.one .slc) (fun x12 w =>
      J6 (decide (p2 ≥ (IntKind.wrap .i64 (Int.tdiv (x12.len : Int) 64)))) w) w)) w) w) w
theorem f14_ok {p0 : Option Addr} {p1 : ByteArray} {p2 : Int} {p3 : Bool} {K : Bool → World → Prop} {w : World} (h : f14 p0 p1 p2 p3 K w) : callS Try.prog 14 #[(.pointer p0), (.string p1), (.int .i64 p2), (.bool p3)] [(.one .bool)] K w :=
  calls_of_fn (args := [(.pointer p0), (.string p1), (.int .i64 p2), (.bool p3)]) Try.f14 [] [] [] .nil (by kernel_rfl) (by kernel_rfl)
    (Eq.mp (by kernel_rfl : f14 p0 p1 p2 p3 K w = evFn Try.prog Try.f14 [] [] [] .nil [(.pointer p0), (.string p1), (.int .i64 p2), (.bool p3)] [(.one .bool)] K w) h)

/-- (*sallyport/drive.Drive).Reads -/
def f15 (p0 : Option Addr) (K : Int → Int → World → Prop) (w : World) : Prop :=
  drawS w fun C w =>
  nilS p0 fun a1 =>
  semQ Try.prog C (Instr.loadAt 3 (.pointer (some (a1.add 5)))) (.one (.int .i64)) (fun x2 =>
  nilS p0 fun a3 =>
  semQ Try.prog C (Instr.loadAt 3 (.pointer (some (a3.add 6)))) (.one (.int .i64)) (fun x4 =>
  K x2 x4 w))
theorem f15_ok {p0 : Option Addr} {K : Int → Int → World → Prop} {w : World} (h : f15 p0 K w) : callS Try.prog 15 #[(.pointer p0)] [(.one (.int .i64)), (.one (.int .i64))] K w :=
  calls_of_fn (args := [(.pointer p0)]) Try.f15 [] [] [] (.two .nil (.two (.draw [0, 1, 3, 7, 0, 16, 48, 112, 15, 511]) .nil)) (by kernel_rfl) (by kernel_rfl)
    (Eq.mp (by kernel_rfl : f15 p0 K w = evFn Try.prog Try.f15 [] [] [] (.two .nil (.two (.draw [0, 1, 3, 7, 0, 16, 48, 112, 15, 511]) .nil)) [(.pointer p0)] [(.one (.int .i64)), (.one (.int .i64))] K w) h)

/-- sallyport/sallyportlaw10.DriveCounts -/
def f4 (p0 : Sl) (p1 : Int) (K : Bool → World → Prop) (w : World) : Prop :=
  callS Try.prog 8 #[] [(.one .bool)] (fun r1 w =>
  cond (!r1)
    (K false w)
    (cond (decide ((p0.len : Int) > 60))
      (K true w)
      (semS Try.prog (Instr.buildSlice 31 1 #[(0, (.agg #[(.string (ByteArray.mk #[97])), (.int .i64 256)]))]) (.one .slc) (fun x2 w =>
      callS Try.prog 9 #[(.slice x2.a x2.len x2.cap)] [(.one .ptr), (.one (.int .i64))] (fun r3 r4 w =>
      joinS (σ := Bool) (fun b5 w =>
        cond b5
          (K false w)
          (callS Try.prog 14 #[(.pointer r3), (.string (ByteArray.mk #[97])), (.int .i64 p1), (.bool true)] [(.one .bool)] (fun r7 w =>
          loopS (σ := Int × Int × Int) (fun s8 w again9 =>
            cond (decide (s8.2.2 < (p0.len : Int)))
              (semS Try.prog (Instr.indexAt 37 (.slice p0.a p0.len p0.cap) (.int .i64 s8.2.2)) (.one .adr) (fun x10 w =>
              semS Try.prog (Instr.loadAt 39 (.pointer (some x10))) (.agg [(.int .i64), (.int .i64)]) (fun x11 x12 w =>
              semS Try.prog (Instr.alloc 39 true (.tuple #[])) (.one .adr) (fun x13 w =>
              semU Try.prog (Instr.storeAt 39 (.pointer (some x13)) (.agg #[(.int .i64 x11), (.int .i64 x12)])) (fun w =>
              semS Try.prog (Instr.indexAt 39 (.pointer (some x13)) (.int .i64 0)) (.one .adr) (fun x14 w =>
              semS Try.prog (Instr.loadAt 3 (.pointer (some x14))) (.one (.int .i64)) (fun x15 w =>
              semS Try.prog (Instr.indexAt 39 (.pointer (some x13)) (.int .i64 1)) (.one .adr) (fun x16 w =>
              semS Try.prog (Instr.loadAt 3 (.pointer (some x16))) (.one (.int .i64)) (fun x17 w =>
              callS Try.prog 11 #[(.pointer r3), (.string (ByteArray.mk #[97])), (.int .i64 x15), (.int .i64 x17)] [(.one .slc), (.one (.int .i64))] (fun r18 r19 w =>
              joinS (σ := Int × Int) (fun s20 w =>
                joinS (σ := Bool) (fun b22 w =>
                  cond (b22 || ((r19 != 0) && ((r18.len : Int) != 0)))
                    (K false w)
                    (callS Try.prog 15 #[(.pointer r3)] [(.one (.int .i64)), (.one (.int .i64))] (fun r24 r25 w =>
                    cond ((r24 != s20.1) || (r25 != s20.2))
                      (K false w)
                      (again9 (s20.1, s20.2, IntKind.wrap .i64 (s8.2.2 + 1)) w)) w)) fun J23 =>
                cond (r19 == 0)
                  (semS Try.prog (Instr.indexAt 39 (.pointer (some x13)) (.int .i64 1)) (.one .adr) (fun x26 w =>
                    semS Try.prog (Instr.loadAt 3 (.pointer (some x26))) (.one (.int .i64)) (fun x27 w =>
                    J23 ((r18.len : Int) != x27) w) w) w)
                  (J23 false w)) fun J21 =>
              cond (r19 == 0)
                (drawS w fun C w =>
                semQ Try.prog C (Instr.indexAt 39 (.pointer (some x13)) (.int .i64 1)) (.one .adr) (fun x28 =>
                semQ Try.prog C (Instr.loadAt 3 (.pointer (some x28))) (.one (.int .i64)) (fun x29 =>
                J21 (IntKind.wrap .i64 (s8.1 + 1), IntKind.wrap .i64 (s8.2.1 + x29)) w)))
                (J21 (s8.1, s8.2.1) w)) w) w) w) w) w) w) w) w) w)
              (K true w)) (0, 0, 0) w) w)) fun J6 =>
      cond (r4 != 0)
        (J6 true w)
        (semS Try.prog (binS .eql 25 (.tmp 29) (.const (Go.Value.pointer none)) (.pointer r3) (.pointer none)) (.one .bool) (fun x30 w =>
          J6 x30 w) w)) w) w))) w
theorem f4_ok {p0 : Sl} {p1 : Int} {K : Bool → World → Prop} {w : World} (h : f4 p0 p1 K w) : callS Try.prog 4 #[(.slice p0.a p0.len p0.cap), (.int .i64 p1)] [(.one .bool)] K w :=
  calls_of_fn (args := [(.slice p0.a p0.len p0.cap), (.int .i64 p1)]) Try.f4 [] [] [] (.two .nil (.two .nil (.two .nil (.two .nil (.two .nil (.two .nil (.two .nil (.two (.two .nil (.one (.loop [(7, (.int .i64)), (8, (.int .i64)), (37, (.int .i64))] (.two .nil (.two .nil (.two (.one (.two .nil (.two .nil (.join [(7, (.int .i64)), (8, (.int .i64))] (.two .nil (.two (.draw [0, 1, 0, 0, 8, 28, 3, 127]) .nil)) .nil)))) .nil)))))) .nil)))))))) (by kernel_rfl) (by kernel_rfl)
    (Eq.mp (by kernel_rfl : f4 p0 p1 K w = evFn Try.prog Try.f4 [] [] [] (.two .nil (.two .nil (.two .nil (.two .nil (.two .nil (.two .nil (.two .nil (.two (.two .nil (.one (.loop [(7, (.int .i64)), (8, (.int .i64)), (37, (.int .i64))] (.two .nil (.two .nil (.two (.one (.two .nil (.two .nil (.join [(7, (.int .i64)), (8, (.int .i64))] (.two .nil (.two (.draw [0, 1, 0, 0, 8, 28, 3, 127]) .nil)) .nil)))) .nil)))))) .nil)))))))) [(.slice p0.a p0.len p0.cap), (.int .i64 p1)] [(.one .bool)] K w) h)

/-- (*sallyport/drive.Drive).Turn -/
def f16 (p0 : Option Addr) (p1 : ByteArray) (p2 : Int) (p3 : Sl) (K : Bool → World → Prop) (w : World) : Prop :=
  nilS p0 fun a1 =>
  semS Try.prog (Instr.loadAt 61 (.pointer (some (a1.add 1)))) (.one .mp) (fun x2 w =>
  semS Try.prog (Instr.lookup 61 (.map x2) (.string p1) false) (.one .ptr) (fun x3 w =>
  semS Try.prog (binS .eql 65 (.tmp 18) (.const (Go.Value.pointer none)) (.pointer x3) (.pointer none)) (.one .bool) (fun x4 w =>
  joinS (σ := Bool) (fun b5 w =>
    cond b5
      (K false w)
      (loopS (σ := Int) (fun x7 w again8 =>
        cond (decide (x7 < (p3.len : Int)))
          (semS Try.prog (Instr.indexAt 22 (.slice p3.a p3.len p3.cap) (.int .i64 x7)) (.one .adr) (fun x9 w =>
          semS Try.prog (Instr.loadAt 5 (.pointer (some x9))) (.one (.int .u8)) (fun x10 w =>
          nilS x3 fun a11 =>
          semS Try.prog (Instr.loadAt 22 (.pointer (some (a11.add 0)))) (.one .slc) (fun x12 w =>
          semS Try.prog (Instr.indexAt 22 (.slice x12.a x12.len x12.cap) (.int .i64 (IntKind.wrap .i64 (p2 + x7)))) (.one .adr) (fun x13 w =>
          semS Try.prog (Instr.loadAt 5 (.pointer (some x13))) (.one (.int .u8)) (fun x14 w =>
          semS Try.prog (Instr.indexAt 22 (.slice x12.a x12.len x12.cap) (.int .i64 (IntKind.wrap .i64 (p2 + x7)))) (.one .adr) (fun x15 w =>
          semU Try.prog (Instr.storeAt 5 (.pointer (some x15)) (.int .u8 (xorI .u8 x14 x10))) (fun w =>
          again8 (IntKind.wrap .i64 (x7 + 1)) w) w) w) w) w) w) w) w)
          (K true w)) 0 w)) fun J6 =>
  cond x4
    (J6 true w)
    (nilS x3 fun a16 =>
      semS Try.prog (Instr.loadAt 22 (.pointer (some (a16.add 0)))) (.one .slc) (fun x17 w =>
      callS Try.prog 28 #[(.int .i64 p2), (.int .i64 (p3.len : Int)), (.int .i64 (x17.len : Int))] [(.one .bool)] (fun r18 w =>
      J6 (!r18) w) w) w)) w) w) w
theorem f16_ok {p0 : Option Addr} {p1 : ByteArray} {p2 : Int} {p3 : Sl} {K : Bool → World → Prop} {w : World} (h : f16 p0 p1 p2 p3 K w) : callS Try.prog 16 #[(.pointer p0), (.string p1), (.int .i64 p2), (.slice p3.a p3.len p3.cap)] [(.one .bool)] K w :=
  calls_of_fn (args := [(.pointer p0), (.string p1), (.int .i64 p2), (.slice p3.a p3.len p3.cap)]) Try.f16 [] [] [] (.two .nil (.two .nil (.two .nil (.two (.two .nil (.one (.loop [(34, (.int .i64))] .nil))) .nil)))) (by kernel_rfl) (by kernel_rfl)
    (Eq.mp (by kernel_rfl : f16 p0 p1 p2 p3 K w = evFn Try.prog Try.f16 [] [] [] (.two .nil (.two .nil (.two .nil (.two (.two .nil (.one (.loop [(34, (.int .i64))] .nil))) .nil)))) [(.pointer p0), (.string p1), (.int .i64 p2), (.slice p3.a p3.len p3.cap)] [(.one .bool)] K w) h)

/-- sallyport/sallyportlaw10.DriveTwice -/
def f5 (p0 : Sl) (p1 : Int) (p2 : Sl) (p3 : Int) (K : Bool → World → Prop) (w : World) : Prop :=
  callS Try.prog 8 #[] [(.one .bool)] (fun r1 w =>
  cond (!r1)
    (K false w)
    (cond ((decide ((p0.len : Int) > 256)) || (decide ((p2.len : Int) > 300)))
      (K true w)
      (semS Try.prog (Instr.buildSlice 31 1 #[(0, (.agg #[(.string (ByteArray.mk #[120])), (.int .i64 256)]))]) (.one .slc) (fun x2 w =>
      callS Try.prog 9 #[(.slice x2.a x2.len x2.cap)] [(.one .ptr), (.one (.int .i64))] (fun r3 r4 w =>
      joinS (σ := Bool) (fun b5 w =>
        joinS (σ := Bool) (fun b7 w =>
          cond b7
            (K false w)
            (callS Try.prog 11 #[(.pointer r3), (.string (ByteArray.mk #[120])), (.int .i64 0), (.int .i64 256)] [(.one .slc), (.one (.int .i64))] (fun r9 r10 w =>
            callS Try.prog 16 #[(.pointer r3), (.string (ByteArray.mk #[120])), (.int .i64 p1), (.slice p2.a p2.len p2.cap)] [(.one .bool)] (fun r11 w =>
            callS Try.prog 16 #[(.pointer r3), (.string (ByteArray.mk #[120])), (.int .i64 p1), (.slice p2.a p2.len p2.cap)] [(.one .bool)] (fun r12 w =>
            callS Try.prog 14 #[(.pointer r3), (.string (ByteArray.mk #[120])), (.int .i64 p3), (.bool true)] [(.one .bool)] (fun r13 w =>
            callS Try.prog 11 #[(.pointer r3), (.string (ByteArray.mk #[120])), (.int .i64 0), (.int .i64 256)] [(.one .slc), (.one (.int .i64))] (fun r14 r15 w =>
            callS Try.prog 14 #[(.pointer r3), (.string (ByteArray.mk #[120])), (.int .i64 p3), (.bool false)] [(.one .bool)] (fun r16 w =>
            callS Try.prog 11 #[(.pointer r3), (.string (ByteArray.mk #[120])), (.int .i64 0), (.int .i64 256)] [(.one .slc), (.one (.int .i64))] (fun r17 r18 w =>
            joinS (σ := Bool) (fun b19 w =>
              K b19 w) fun J20 =>
            cond ((((r11 == r12) && (r13 == ((decide (p3 ≥ 0)) && (decide (p3 < 4))))) && ((r15 == 41) == ((decide (p3 ≥ 0)) && (decide (p3 < 4))))) && (r18 == 0))
              (semS Try.prog (convert 22 9 (.slice r17.a r17.len r17.cap)) (.one .str) (fun x21 w =>
                semS Try.prog (convert 22 9 (.slice r9.a r9.len r9.cap)) (.one .str) (fun x22 w =>
                J20 (x21.toList == x22.toList) w) w) w)
              (J20 false w)) w) w) w) w) w) w) w)) fun J8 =>
        cond b5
          (J8 true w)
          (callS Try.prog 10 #[(.pointer r3), (.string (ByteArray.mk #[120])), (.int .i64 0), (.slice p0.a p0.len p0.cap)] [(.one (.int .i64))] (fun r23 w =>
            J8 (r23 != 0) w) w)) fun J6 =>
      cond (r4 != 0)
        (J6 true w)
        (semS Try.prog (binS .eql 25 (.tmp 40) (.const (Go.Value.pointer none)) (.pointer r3) (.pointer none)) (.one .bool) (fun x24 w =>
          J6 x24 w) w)) w) w))) w
theorem f5_ok {p0 : Sl} {p1 : Int} {p2 : Sl} {p3 : Int} {K : Bool → World → Prop} {w : World} (h : f5 p0 p1 p2 p3 K w) : callS Try.prog 5 #[(.slice p0.a p0.len p0.cap), (.int .i64 p1), (.slice p2.a p2.len p2.cap), (.int .i64 p3)] [(.one .bool)] K w :=
  calls_of_fn (args := [(.slice p0.a p0.len p0.cap), (.int .i64 p1), (.slice p2.a p2.len p2.cap), (.int .i64 p3)]) Try.f5 [] [] [] .nil (by kernel_rfl) (by kernel_rfl)
    (Eq.mp (by kernel_rfl : f5 p0 p1 p2 p3 K w = evFn Try.prog Try.f5 [] [] [] .nil [(.slice p0.a p0.len p0.cap), (.int .i64 p1), (.slice p2.a p2.len p2.cap), (.int .i64 p3)] [(.one .bool)] K w) h)

/-- sallyport/sallyportlaw10.DriveApart -/
def f6 (p0 : Sl) (p1 : Sl) (K : Bool → World → Prop) (w : World) : Prop :=
  callS Try.prog 8 #[] [(.one .bool)] (fun r1 w =>
  cond (!r1)
    (K false w)
    (cond ((decide ((p0.len : Int) > 128)) || (decide ((p1.len : Int) > 60)))
      (K true w)
      (semS Try.prog (Instr.buildSlice 31 3 #[(0, (.agg #[(.string (ByteArray.mk #[107, 101, 101, 112])), (.int .i64 128)])), (1, (.agg #[(.string (ByteArray.mk #[97])), (.int .i64 192)])), (2, (.agg #[(.string (ByteArray.mk #[98])), (.int .i64 64)]))]) (.one .slc) (fun x2 w =>
      callS Try.prog 9 #[(.slice x2.a x2.len x2.cap)] [(.one .ptr), (.one (.int .i64))] (fun r3 r4 w =>
      joinS (σ := Bool) (fun b5 w =>
        joinS (σ := Bool) (fun b7 w =>
          cond b7
            (K false w)
            (callS Try.prog 11 #[(.pointer r3), (.string (ByteArray.mk #[107, 101, 101, 112])), (.int .i64 0), (.int .i64 128)] [(.one .slc), (.one (.int .i64))] (fun r9 r10 w =>
            loopS (σ := Int) (fun x11 w again12 =>
              cond (decide (x11 < (p1.len : Int)))
                (semS Try.prog (Instr.indexAt 45 (.slice p1.a p1.len p1.cap) (.int .i64 x11)) (.one .adr) (fun x13 w =>
                semS Try.prog (Instr.loadAt 47 (.pointer (some x13))) (.agg [(.int .i64), (.int .i64), (.int .i64), .str, .slc, .bool, .slc]) (fun x14 x15 x16 x17 x18 x19 x20 w =>
                semS Try.prog (Instr.alloc 47 true (.tuple #[])) (.one .adr) (fun x21 w =>
                semU Try.prog (Instr.storeAt 47 (.pointer (some x21)) (.agg #[(.int .i64 x14), (.int .i64 x15), (.int .i64 x16), (.string x17), (.slice x18.a x18.len x18.cap), (.bool x19), (.slice x20.a x20.len x20.cap)])) (fun w =>
                semS Try.prog (Instr.loadAt 9 (.pointer (some (x21.add 3)))) (.one .str) (fun x22 w =>
                joinS (σ := Bool) (fun b23 w =>
                  joinS (σ := Bool) (fun b25 w =>
                    cond b25
                      (again12 (IntKind.wrap .i64 (x11 + 1)) w)
                      (joinS (σ := Unit) (fun _ w =>
                        callS Try.prog 11 #[(.pointer r3), (.string (ByteArray.mk #[107, 101, 101, 112])), (.int .i64 0), (.int .i64 128)] [(.one .slc), (.one (.int .i64))] (fun r28 r29 w =>
                        callS Try.prog 17 #[(.pointer r3)] [(.one .bool)] (fun r30 w =>
                        joinS (σ := Bool) (fun b31 w =>
                          cond b31
                            (K false w)
                            (again12 (IntKind.wrap .i64 (x11 + 1)) w)) fun J32 =>
                        cond (r30 && (r29 != 42))
                          (J32 true w)
                          (callS Try.prog 17 #[(.pointer r3)] [(.one .bool)] (fun r33 w =>
                            joinS (σ := Bool) (fun b34 w =>
                              J32 b34 w) fun J35 =>
                            cond (!r33)
                              (joinS (σ := Bool) (fun b36 w =>
                                  J35 b36 w) fun J37 =>
                                cond (r29 != 0)
                                  (J37 true w)
                                  (semS Try.prog (convert 22 9 (.slice r28.a r28.len r28.cap)) (.one .str) (fun x38 w =>
                                    semS Try.prog (convert 22 9 (.slice r9.a r9.len r9.cap)) (.one .str) (fun x39 w =>
                                    J37 (!(x38.toList == x39.toList)) w) w) w))
                              (J35 false w)) w)) w) w) fun J27 =>
                      semS Try.prog (Instr.loadAt 3 (.pointer (some (x21.add 0)))) (.one (.int .i64)) (fun x40 w =>
                      cond (x40 == 2)
                        (semS Try.prog (Instr.loadAt 9 (.pointer (some (x21.add 3)))) (.one .str) (fun x41 w =>
                        semS Try.prog (Instr.loadAt 3 (.pointer (some (x21.add 1)))) (.one (.int .i64)) (fun x42 w =>
                        semS Try.prog (Instr.loadAt 22 (.pointer (some (x21.add 4)))) (.one .slc) (fun x43 w =>
                        callS Try.prog 10 #[(.pointer r3), (.string x41), (.int .i64 x42), (.slice x43.a x43.len x43.cap)] [(.one (.int .i64))] (fun r44 w =>
                        J27 () w) w) w) w) w)
                        (cond (x40 == 3)
                          (semS Try.prog (Instr.loadAt 9 (.pointer (some (x21.add 3)))) (.one .str) (fun x45 w =>
                          semS Try.prog (Instr.loadAt 3 (.pointer (some (x21.add 1)))) (.one (.int .i64)) (fun x46 w =>
                          semS Try.prog (Instr.loadAt 22 (.pointer (some (x21.add 4)))) (.one .slc) (fun x47 w =>
                          callS Try.prog 16 #[(.pointer r3), (.string x45), (.int .i64 x46), (.slice x47.a x47.len x47.cap)] [(.one .bool)] (fun r48 w =>
                          J27 () w) w) w) w) w)
                          (cond (x40 == 4)
                            (semS Try.prog (Instr.loadAt 9 (.pointer (some (x21.add 3)))) (.one .str) (fun x49 w =>
                            semS Try.prog (Instr.loadAt 3 (.pointer (some (x21.add 1)))) (.one (.int .i64)) (fun x50 w =>
                            semS Try.prog (Instr.loadAt 4 (.pointer (some (x21.add 5)))) (.one .bool) (fun x51 w =>
                            callS Try.prog 14 #[(.pointer r3), (.string x49), (.int .i64 x50), (.bool x51)] [(.one .bool)] (fun r52 w =>
                            J27 () w) w) w) w) w)
                            (cond (x40 == 5)
                              (semS Try.prog (Instr.loadAt 3 (.pointer (some (x21.add 2)))) (.one (.int .i64)) (fun x53 w =>
                              semS Try.prog (Instr.loadAt 23 (.pointer (some (x21.add 6)))) (.one .slc) (fun x54 w =>
                              callS Try.prog 12 #[(.pointer r3), (.int .i64 x53), (.slice x54.a x54.len x54.cap)] [] (fun w =>
                              J27 () w) w) w) w)
                              (cond (x40 == 6)
                                (callS Try.prog 13 #[(.pointer r3)] [] (fun w =>
                                J27 () w) w)
                                (J27 () w)))))) w)) fun J26 =>
                  cond b23
                    (J26 true w)
                    (semS Try.prog (Instr.loadAt 23 (.pointer (some (x21.add 6)))) (.one .slc) (fun x55 w =>
                      J26 (decide ((x55.len : Int) > 30)) w) w)) fun J24 =>
                cond (x22.toList == (ByteArray.mk #[107, 101, 101, 112]).toList)
                  (J24 true w)
                  (semS Try.prog (Instr.loadAt 22 (.pointer (some (x21.add 4)))) (.one .slc) (fun x56 w =>
                    J24 (decide ((x56.len : Int) > 300)) w) w)) w) w) w) w) w)
                (K true w)) 0 w) w)) fun J8 =>
        cond b5
          (J8 true w)
          (callS Try.prog 10 #[(.pointer r3), (.string (ByteArray.mk #[107, 101, 101, 112])), (.int .i64 0), (.slice p0.a p0.len p0.cap)] [(.one (.int .i64))] (fun r57 w =>
            J8 (r57 != 0) w) w)) fun J6 =>
      cond (r4 != 0)
        (J6 true w)
        (semS Try.prog (binS .eql 25 (.tmp 34) (.const (Go.Value.pointer none)) (.pointer r3) (.pointer none)) (.one .bool) (fun x58 w =>
          J6 x58 w) w)) w) w))) w
theorem f6_ok {p0 : Sl} {p1 : Sl} {K : Bool → World → Prop} {w : World} (h : f6 p0 p1 K w) : callS Try.prog 6 #[(.slice p0.a p0.len p0.cap), (.slice p1.a p1.len p1.cap)] [(.one .bool)] K w :=
  calls_of_fn (args := [(.slice p0.a p0.len p0.cap), (.slice p1.a p1.len p1.cap)]) Try.f6 [] [] [] (.two .nil (.two .nil (.two .nil (.two .nil (.two .nil (.two .nil (.two (.two .nil (.one (.loop [(50, (.int .i64))] (.two .nil (.two .nil (.two (.one (.two .nil (.two .nil (.join [] .nil .nil)))) .nil)))))) .nil))))))) (by kernel_rfl) (by kernel_rfl)
    (Eq.mp (by kernel_rfl : f6 p0 p1 K w = evFn Try.prog Try.f6 [] [] [] (.two .nil (.two .nil (.two .nil (.two .nil (.two .nil (.two .nil (.two (.two .nil (.one (.loop [(50, (.int .i64))] (.two .nil (.two .nil (.two (.one (.two .nil (.two .nil (.join [] .nil .nil)))) .nil)))))) .nil))))))) [(.slice p0.a p0.len p0.cap), (.slice p1.a p1.len p1.cap)] [(.one .bool)] K w) h)

/-- sallyport/sallyportlaw10.named -/
def f29 (p0 : ByteArray) (K : Bool → World → Prop) (w : World) : Prop :=
  loopS (σ := Int) (fun x1 w again2 =>
    cond (decide (x1 < (p0.size : Int)))
      (semS Try.prog (Instr.index 9 (.string p0) (.int .i64 x1)) (.one (.int .u8)) (fun x3 w =>
      cond (!((((decide (x3 ≥ 97)) && (decide (x3 ≤ 122))) || ((decide (x3 ≥ 48)) && (decide (x3 ≤ 57)))) || (x3 == 95)))
        (K false w)
        (again2 (IntKind.wrap .i64 (x1 + 1)) w)) w)
      (K ((decide ((p0.size : Int) ≥ 1)) && (decide ((p0.size : Int) ≤ 24))) w)) 0 w
theorem f29_ok {p0 : ByteArray} {K : Bool → World → Prop} {w : World} (h : f29 p0 K w) : callS Try.prog 29 #[(.string p0)] [(.one .bool)] K w :=
  calls_of_fn (args := [(.string p0)]) Try.f29 [] [] [] (.two .nil (.two (.two .nil (.one (.loop [(7, (.int .i64))] .nil))) .nil)) (by kernel_rfl) (by kernel_rfl)
    (Eq.mp (by kernel_rfl : f29 p0 K w = evFn Try.prog Try.f29 [] [] [] (.two .nil (.two (.two .nil (.one (.loop [(7, (.int .i64))] .nil))) .nil)) [(.string p0)] [(.one .bool)] K w) h)

/-- (*sallyport/sallyportlaw10.twin).made -/
def f18 (p0 : Option Addr) (p1 : Sl) (K : Int → World → Prop) (w : World) : Prop :=
  cond (decide ((p1.len : Int) > 16))
    (K 40 w)
    (loopS (σ := Int × Int) (fun s1 w again2 =>
      cond (decide (s1.2 < (p1.len : Int)))
        (semS Try.prog (Instr.indexAt 31 (.slice p1.a p1.len p1.cap) (.int .i64 s1.2)) (.one .adr) (fun x3 w =>
        semS Try.prog (Instr.loadAt 30 (.pointer (some x3))) (.agg [.str, (.int .i64)]) (fun x4 x5 w =>
        semS Try.prog (Instr.alloc 30 true (.tuple #[])) (.one .adr) (fun x6 w =>
        semU Try.prog (Instr.storeAt 30 (.pointer (some x6)) (.agg #[(.string x4), (.int .i64 x5)])) (fun w =>
        semS Try.prog (Instr.loadAt 9 (.pointer (some (x6.add 0)))) (.one .str) (fun x7 w =>
        callS Try.prog 29 #[(.string x7)] [(.one .bool)] (fun r8 w =>
        joinS (σ := Bool) (fun b9 w =>
          joinS (σ := Bool) (fun b11 w =>
            joinS (σ := Bool) (fun b13 w =>
              cond b13
                (K 40 w)
                (semS Try.prog (Instr.sliceAt 31 (.slice p1.a p1.len p1.cap) none (some (.int .i64 s1.2)) none) (.one .slc) (fun x15 w =>
                loopS (σ := Int) (fun x16 w again17 =>
                  cond (decide (x16 < (x15.len : Int)))
                    (semS Try.prog (Instr.indexAt 31 (.slice x15.a x15.len x15.cap) (.int .i64 x16)) (.one .adr) (fun x18 w =>
                    semS Try.prog (Instr.loadAt 30 (.pointer (some x18))) (.agg [.str, (.int .i64)]) (fun x19 x20 w =>
                    semS Try.prog (Instr.alloc 30 true (.tuple #[])) (.one .adr) (fun x21 w =>
                    semU Try.prog (Instr.storeAt 30 (.pointer (some x21)) (.agg #[(.string x19), (.int .i64 x20)])) (fun w =>
                    semS Try.prog (Instr.loadAt 9 (.pointer (some (x21.add 0)))) (.one .str) (fun x22 w =>
                    semS Try.prog (Instr.loadAt 9 (.pointer (some (x6.add 0)))) (.one .str) (fun x23 w =>
                    cond (x22.toList == x23.toList)
                      (K 40 w)
                      (again17 (IntKind.wrap .i64 (x16 + 1)) w)) w) w) w) w) w) w)
                    (semS Try.prog (Instr.loadAt 3 (.pointer (some (x6.add 1)))) (.one (.int .i64)) (fun x24 w =>
                    again2 (IntKind.wrap .i64 (s1.1 + x24), IntKind.wrap .i64 (s1.2 + 1)) w) w)) 0 w) w)) fun J14 =>
            cond b11
              (J14 true w)
              (semS Try.prog (Instr.loadAt 3 (.pointer (some (x6.add 1)))) (.one (.int .i64)) (fun x25 w =>
                J14 ((Int.tmod x25 64) != 0) w) w)) fun J12 =>
          cond b9
            (J12 true w)
            (semS Try.prog (Instr.loadAt 3 (.pointer (some (x6.add 1)))) (.one (.int .i64)) (fun x26 w =>
              J12 (decide (x26 > 1048576)) w) w)) fun J10 =>
        cond (!r8)
          (J10 true w)
          (semS Try.prog (Instr.loadAt 3 (.pointer (some (x6.add 1)))) (.one (.int .i64)) (fun x27 w =>
            J10 (decide (x27 < 64)) w) w)) w) w) w) w) w) w)
        (cond (decide (s1.1 > 1048576))
          (K 11 w)
          (semS Try.prog (Instr.buildSlice 31 0 #[]) (.one .slc) (fun x28 w =>
          semS Try.prog (Builtin.append_ #[31, 31] 31 #[(.slice x28.a x28.len x28.cap), (.slice p1.a p1.len p1.cap)]) (.one .slc) (fun r29 w =>
          nilS p0 fun a30 =>
          semU Try.prog (Instr.storeAt 31 (.pointer (some (a30.add 0))) (.slice r29.a r29.len r29.cap)) (fun w =>
          loopS (σ := Int) (fun x31 w again32 =>
            cond (decide (x31 < (p1.len : Int)))
              (semS Try.prog (Instr.indexAt 31 (.slice p1.a p1.len p1.cap) (.int .i64 x31)) (.one .adr) (fun x33 w =>
              semS Try.prog (Instr.loadAt 30 (.pointer (some x33))) (.agg [.str, (.int .i64)]) (fun x34 x35 w =>
              semS Try.prog (Instr.alloc 30 true (.tuple #[])) (.one .adr) (fun x36 w =>
              semU Try.prog (Instr.storeAt 30 (.pointer (some x36)) (.agg #[(.string x34), (.int .i64 x35)])) (fun w =>
              drawS w fun C w =>
              nilS p0 fun a37 =>
              semQ Try.prog C (Instr.loadAt 50 (.pointer (some (a37.add 1)))) (.one .slc) (fun x38 =>
              semQ Try.prog C (Instr.loadAt 3 (.pointer (some (x36.add 1)))) (.one (.int .i64)) (fun x39 =>
              semS Try.prog (Instr.makeSlice 22 (.int .i64 x39) (.int .i64 x39)) (.one .slc) (fun x40 w =>
              moreS C w (fun C =>
              semS Try.prog (Instr.buildSlice 50 1 #[(0, (.slice x40.a x40.len x40.cap))]) (.one .slc) (fun x41 w =>
              moreS C w (fun C =>
              semS Try.prog (Builtin.append_ #[50, 50] 50 #[(.slice x38.a x38.len x38.cap), (.slice x41.a x41.len x41.cap)]) (.one .slc) (fun r42 w =>
              nilS p0 fun a43 =>
              semU Try.prog (Instr.storeAt 50 (.pointer (some (a43.add 1))) (.slice r42.a r42.len r42.cap)) (fun w =>
              drawS w fun C w =>
              nilS p0 fun a44 =>
              semQ Try.prog C (Instr.loadAt 51 (.pointer (some (a44.add 2)))) (.one .slc) (fun x45 =>
              semQ Try.prog C (Instr.loadAt 3 (.pointer (some (x36.add 1)))) (.one (.int .i64)) (fun x46 =>
              semS Try.prog (Instr.makeSlice 23 (.int .i64 (IntKind.wrap .i64 (Int.tdiv x46 64))) (.int .i64 (IntKind.wrap .i64 (Int.tdiv x46 64)))) (.one .slc) (fun x47 w =>
              moreS C w (fun C =>
              semS Try.prog (Instr.buildSlice 51 1 #[(0, (.slice x47.a x47.len x47.cap))]) (.one .slc) (fun x48 w =>
              moreS C w (fun C =>
              semS Try.prog (Builtin.append_ #[51, 51] 51 #[(.slice x45.a x45.len x45.cap), (.slice x48.a x48.len x48.cap)]) (.one .slc) (fun r49 w =>
              nilS p0 fun a50 =>
              semU Try.prog (Instr.storeAt 51 (.pointer (some (a50.add 2))) (.slice r49.a r49.len r49.cap)) (fun w =>
              again32 (IntKind.wrap .i64 (x31 + 1)) w) w) w)) w)) w))) w) w)) w)) w))) w) w) w) w)
              (K 0 w)) 0 w) w) w) w))) (0, 0) w)
theorem f18_ok {p0 : Option Addr} {p1 : Sl} {K : Int → World → Prop} {w : World} (h : f18 p0 p1 K w) : callS Try.prog 18 #[(.pointer p0), (.slice p1.a p1.len p1.cap)] [(.one (.int .i64))] K w :=
  calls_of_fn (args := [(.pointer p0), (.slice p1.a p1.len p1.cap)]) Try.f18 [] [] [] (.two .nil (.two .nil (.two .nil (.two (.two .nil (.one (.loop [(5, (.int .i64)), (17, (.int .i64))] (.two .nil (.two .nil (.two (.one (.two .nil (.two .nil (.two (.two .nil (.one (.loop [(46, (.int .i64))] .nil))) .nil)))) .nil)))))) (.two .nil (.two .nil (.two (.two .nil (.one (.loop [(71, (.int .i64))] (.two .nil (.two .nil (.two (.one (.two .nil (.two (.draw [0, 0, 2, 6, 14, 0, 32, 96, 224, 510, 1023, 2047, 4095]) (.draw [0, 0, 2, 6, 14, 0, 32, 96, 224, 480, 1022, 2047, 4095, 8191])))) .nil)))))) .nil))))))) (by kernel_rfl) (by kernel_rfl)
    (Eq.mp (by kernel_rfl : f18 p0 p1 K w = evFn Try.prog Try.f18 [] [] [] (.two .nil (.two .nil (.two .nil (.two (.two .nil (.one (.loop [(5, (.int .i64)), (17, (.int .i64))] (.two .nil (.two .nil (.two (.one (.two .nil (.two .nil (.two (.two .nil (.one (.loop [(46, (.int .i64))] .nil))) .nil)))) .nil)))))) (.two .nil (.two .nil (.two (.two .nil (.one (.loop [(71, (.int .i64))] (.two .nil (.two .nil (.two (.one (.two .nil (.two (.draw [0, 0, 2, 6, 14, 0, 32, 96, 224, 510, 1023, 2047, 4095]) (.draw [0, 0, 2, 6, 14, 0, 32, 96, 224, 480, 1022, 2047, 4095, 8191])))) .nil)))))) .nil))))))) [(.pointer p0), (.slice p1.a p1.len p1.cap)] [(.one (.int .i64))] K w) h)

/-- (*sallyport/drive.Drive).Parts -/
def f19 (p0 : Option Addr) (K : Sl → World → Prop) (w : World) : Prop :=
  nilS p0 fun a1 =>
  semS Try.prog (Instr.loadAt 31 (.pointer (some (a1.add 0)))) (.one .slc) (fun x2 w =>
  callS Try.prog 22 #[(.slice x2.a x2.len x2.cap)] [(.one .slc)] (fun r3 w =>
  K r3 w) w) w
theorem f19_ok {p0 : Option Addr} {K : Sl → World → Prop} {w : World} (h : f19 p0 K w) : callS Try.prog 19 #[(.pointer p0)] [(.one .slc)] K w :=
  calls_of_fn (args := [(.pointer p0)]) Try.f19 [] [] [] .nil (by kernel_rfl) (by kernel_rfl)
    (Eq.mp (by kernel_rfl : f19 p0 K w = evFn Try.prog Try.f19 [] [] [] .nil [(.pointer p0)] [(.one .slc)] K w) h)

/-- (*sallyport/sallyportlaw10.twin).part -/
def f30 (p0 : Option Addr) (p1 : ByteArray) (K : Int → World → Prop) (w : World) : Prop :=
  nilS p0 fun a1 =>
  semS Try.prog (Instr.loadAt 31 (.pointer (some (a1.add 0)))) (.one .slc) (fun x2 w =>
  loopS (σ := Int) (fun x3 w again4 =>
    cond (decide (x3 < (x2.len : Int)))
      (semS Try.prog (Instr.indexAt 31 (.slice x2.a x2.len x2.cap) (.int .i64 x3)) (.one .adr) (fun x5 w =>
      semS Try.prog (Instr.loadAt 30 (.pointer (some x5))) (.agg [.str, (.int .i64)]) (fun x6 x7 w =>
      semS Try.prog (Instr.alloc 30 true (.tuple #[])) (.one .adr) (fun x8 w =>
      semU Try.prog (Instr.storeAt 30 (.pointer (some x8)) (.agg #[(.string x6), (.int .i64 x7)])) (fun w =>
      semS Try.prog (Instr.loadAt 9 (.pointer (some (x8.add 0)))) (.one .str) (fun x9 w =>
      cond (x9.toList == p1.toList)
        (K x3 w)
        (again4 (IntKind.wrap .i64 (x3 + 1)) w)) w) w) w) w) w)
      (K (-1) w)) 0 w) w
theorem f30_ok {p0 : Option Addr} {p1 : ByteArray} {K : Int → World → Prop} {w : World} (h : f30 p0 p1 K w) : callS Try.prog 30 #[(.pointer p0), (.string p1)] [(.one (.int .i64))] K w :=
  calls_of_fn (args := [(.pointer p0), (.string p1)]) Try.f30 [] [] [] (.two .nil (.two (.two .nil (.one (.loop [(12, (.int .i64))] .nil))) .nil)) (by kernel_rfl) (by kernel_rfl)
    (Eq.mp (by kernel_rfl : f30 p0 p1 K w = evFn Try.prog Try.f30 [] [] [] (.two .nil (.two (.two .nil (.one (.loop [(12, (.int .i64))] .nil))) .nil)) [(.pointer p0), (.string p1)] [(.one (.int .i64))] K w) h)

/-- (*sallyport/sallyportlaw10.twin).in -/
def f33 (p0 : Option Addr) (p1 : Int) (p2 : Int) (p3 : Int) (K : Bool → World → Prop) (w : World) : Prop :=
  joinS (σ := Bool) (fun b1 w =>
    joinS (σ := Bool) (fun b3 w =>
      K b3 w) fun J4 =>
    cond b1
      (nilS p0 fun a5 =>
        semS Try.prog (Instr.loadAt 50 (.pointer (some (a5.add 1)))) (.one .slc) (fun x6 w =>
        semS Try.prog (Instr.indexAt 50 (.slice x6.a x6.len x6.cap) (.int .i64 p1)) (.one .adr) (fun x7 w =>
        semS Try.prog (Instr.loadAt 22 (.pointer (some x7))) (.one .slc) (fun x8 w =>
        J4 (decide (p3 ≤ (IntKind.wrap .i64 ((x8.len : Int) - p2)))) w) w) w) w)
      (J4 false w)) fun J2 =>
  cond ((decide (p2 ≥ 0)) && (decide (p3 ≥ 0)))
    (nilS p0 fun a9 =>
      semS Try.prog (Instr.loadAt 50 (.pointer (some (a9.add 1)))) (.one .slc) (fun x10 w =>
      semS Try.prog (Instr.indexAt 50 (.slice x10.a x10.len x10.cap) (.int .i64 p1)) (.one .adr) (fun x11 w =>
      semS Try.prog (Instr.loadAt 22 (.pointer (some x11))) (.one .slc) (fun x12 w =>
      J2 (decide (p2 ≤ (x12.len : Int))) w) w) w) w)
    (J2 false w)
theorem f33_ok {p0 : Option Addr} {p1 : Int} {p2 : Int} {p3 : Int} {K : Bool → World → Prop} {w : World} (h : f33 p0 p1 p2 p3 K w) : callS Try.prog 33 #[(.pointer p0), (.int .i64 p1), (.int .i64 p2), (.int .i64 p3)] [(.one .bool)] K w :=
  calls_of_fn (args := [(.pointer p0), (.int .i64 p1), (.int .i64 p2), (.int .i64 p3)]) Try.f33 [] [] [] .nil (by kernel_rfl) (by kernel_rfl)
    (Eq.mp (by kernel_rfl : f33 p0 p1 p2 p3 K w = evFn Try.prog Try.f33 [] [] [] .nil [(.pointer p0), (.int .i64 p1), (.int .i64 p2), (.int .i64 p3)] [(.one .bool)] K w) h)

/-- (*sallyport/sallyportlaw10.twin).read -/
def f31 (p0 : Option Addr) (p1_0 : Int) (p1_1 : Int) (p1_2 : Int) (p1_3 : ByteArray) (p1_4 : Sl) (p1_5 : Bool) (p1_6 : Sl) (K : Sl → Int → World → Prop) (w : World) : Prop :=
  semS Try.prog (Instr.box 47 (.agg #[(.int .i64 p1_0), (.int .i64 p1_1), (.int .i64 p1_2), (.string p1_3), (.slice p1_4.a p1_4.len p1_4.cap), (.bool p1_5), (.slice p1_6.a p1_6.len p1_6.cap)])) (.one .adr) (fun x1 w =>
  semS Try.prog (Instr.loadAt 9 (.pointer (some (x1.add 3)))) (.one .str) (fun x2 w =>
  callS Try.prog 30 #[(.pointer p0), (.string x2)] [(.one (.int .i64))] (fun r3 w =>
  nilS p0 fun a4 =>
  semS Try.prog (Instr.loadAt 4 (.pointer (some (a4.add 6)))) (.one .bool) (fun x5 w =>
  cond x5
    (K (⟨none, 0, 0⟩) 42 w)
    (cond (decide (r3 < 0))
      (K (⟨none, 0, 0⟩) 40 w)
      (semS Try.prog (Instr.loadAt 3 (.pointer (some (x1.add 1)))) (.one (.int .i64)) (fun x6 w =>
      semS Try.prog (Instr.loadAt 3 (.pointer (some (x1.add 2)))) (.one (.int .i64)) (fun x7 w =>
      callS Try.prog 33 #[(.pointer p0), (.int .i64 r3), (.int .i64 x6), (.int .i64 x7)] [(.one .bool)] (fun r8 w =>
      cond (!r8)
        (K (⟨none, 0, 0⟩) 10 w)
        (semS Try.prog (Instr.loadAt 3 (.pointer (some (x1.add 2)))) (.one (.int .i64)) (fun x9 w =>
        loopS (σ := Int) (fun x10 w again11 =>
          cond (decide (x10 < x9))
            (drawS w fun C w =>
            nilS p0 fun a12 =>
            semQ Try.prog C (Instr.loadAt 51 (.pointer (some (a12.add 2)))) (.one .slc) (fun x13 =>
            semQ Try.prog C (Instr.indexAt 51 (.slice x13.a x13.len x13.cap) (.int .i64 r3)) (.one .adr) (fun x14 =>
            semQ Try.prog C (Instr.loadAt 23 (.pointer (some x14))) (.one .slc) (fun x15 =>
            semQ Try.prog C (Instr.loadAt 3 (.pointer (some (x1.add 1)))) (.one (.int .i64)) (fun x16 =>
            semQ Try.prog C (Instr.indexAt 23 (.slice x15.a x15.len x15.cap) (.int .i64 (IntKind.wrap .i64 (Int.tdiv (IntKind.wrap .i64 (x16 + x10)) 64)))) (.one .adr) (fun x17 =>
            semQ Try.prog C (Instr.loadAt 4 (.pointer (some x17))) (.one .bool) (fun x18 =>
            cond x18
              (K (⟨none, 0, 0⟩) 41 w)
              (again11 (IntKind.wrap .i64 (x10 + 1)) w))))))))
            (nilS p0 fun a19 =>
            semS Try.prog (Instr.loadAt 3 (.pointer (some (a19.add 7)))) (.one (.int .i64)) (fun x20 w =>
            nilS p0 fun a21 =>
            semU Try.prog (Instr.storeAt 3 (.pointer (some (a21.add 7))) (.int .i64 (IntKind.wrap .i64 (x20 + 1)))) (fun w =>
            drawS w fun C w =>
            nilS p0 fun a22 =>
            semQ Try.prog C (Instr.loadAt 3 (.pointer (some (a22.add 8)))) (.one (.int .i64)) (fun x23 =>
            semQ Try.prog C (Instr.loadAt 3 (.pointer (some (x1.add 2)))) (.one (.int .i64)) (fun x24 =>
            nilS p0 fun a25 =>
            semU Try.prog (Instr.storeAt 3 (.pointer (some (a25.add 8))) (.int .i64 (IntKind.wrap .i64 (x23 + x24)))) (fun w =>
            drawS w fun C w =>
            nilS p0 fun a26 =>
            semQ Try.prog C (Instr.loadAt 50 (.pointer (some (a26.add 1)))) (.one .slc) (fun x27 =>
            semQ Try.prog C (Instr.indexAt 50 (.slice x27.a x27.len x27.cap) (.int .i64 r3)) (.one .adr) (fun x28 =>
            semQ Try.prog C (Instr.loadAt 22 (.pointer (some x28))) (.one .slc) (fun x29 =>
            semQ Try.prog C (Instr.loadAt 3 (.pointer (some (x1.add 1)))) (.one (.int .i64)) (fun x30 =>
            semQ Try.prog C (Instr.loadAt 3 (.pointer (some (x1.add 1)))) (.one (.int .i64)) (fun x31 =>
            semQ Try.prog C (Instr.loadAt 3 (.pointer (some (x1.add 2)))) (.one (.int .i64)) (fun x32 =>
            semQ Try.prog C (Instr.sliceAt 22 (.slice x29.a x29.len x29.cap) (some (.int .i64 x30)) (some (.int .i64 (IntKind.wrap .i64 (x31 + x32)))) none) (.one .slc) (fun x33 =>
            K x33 0 w)))))))) w))) w) w)) 0 w) w)) w) w) w))) w) w) w) w
theorem f31_ok {p0 : Option Addr} {p1_0 : Int} {p1_1 : Int} {p1_2 : Int} {p1_3 : ByteArray} {p1_4 : Sl} {p1_5 : Bool} {p1_6 : Sl} {K : Sl → Int → World → Prop} {w : World} (h : f31 p0 p1_0 p1_1 p1_2 p1_3 p1_4 p1_5 p1_6 K w) : callS Try.prog 31 #[(.pointer p0), (.agg #[(.int .i64 p1_0), (.int .i64 p1_1), (.int .i64 p1_2), (.string p1_3), (.slice p1_4.a p1_4.len p1_4.cap), (.bool p1_5), (.slice p1_6.a p1_6.len p1_6.cap)])] [(.one .slc), (.one (.int .i64))] K w :=
  calls_of_fn (args := [(.pointer p0), (.agg #[(.int .i64 p1_0), (.int .i64 p1_1), (.int .i64 p1_2), (.string p1_3), (.slice p1_4.a p1_4.len p1_4.cap), (.bool p1_5), (.slice p1_6.a p1_6.len p1_6.cap)])]) Try.f31 [] [] [] (.two .nil (.two .nil (.two .nil (.two (.two .nil (.one (.loop [(31, (.int .i64))] (.two .nil (.two .nil (.two (.one (.two .nil (.two (.draw [0, 1, 3, 7, 0, 31, 63, 0, 128, 0, 896, 1920, 4095, 8191]) .nil))) .nil)))))) (.two .nil (.two (.draw [0, 1, 3, 7, 0, 16, 63, 127, 255, 511]) (.two (.draw [0, 1, 3, 7, 0, 31, 63, 0, 128, 0, 512, 0, 2048, 7680, 16383, 32767, 65535]) .nil))))))) (by kernel_rfl) (by kernel_rfl)
    (Eq.mp (by kernel_rfl : f31 p0 p1_0 p1_1 p1_2 p1_3 p1_4 p1_5 p1_6 K w = evFn Try.prog Try.f31 [] [] [] (.two .nil (.two .nil (.two .nil (.two (.two .nil (.one (.loop [(31, (.int .i64))] (.two .nil (.two .nil (.two (.one (.two .nil (.two (.draw [0, 1, 3, 7, 0, 31, 63, 0, 128, 0, 896, 1920, 4095, 8191]) .nil))) .nil)))))) (.two .nil (.two (.draw [0, 1, 3, 7, 0, 16, 63, 127, 255, 511]) (.two (.draw [0, 1, 3, 7, 0, 31, 63, 0, 128, 0, 512, 0, 2048, 7680, 16383, 32767, 65535]) .nil))))))) [(.pointer p0), (.agg #[(.int .i64 p1_0), (.int .i64 p1_1), (.int .i64 p1_2), (.string p1_3), (.slice p1_4.a p1_4.len p1_4.cap), (.bool p1_5), (.slice p1_6.a p1_6.len p1_6.cap)])] [(.one .slc), (.one (.int .i64))] K w) h)

/-- (*sallyport/sallyportlaw10.twin).write -/
def f32 (p0 : Option Addr) (p1_0 : Int) (p1_1 : Int) (p1_2 : Int) (p1_3 : ByteArray) (p1_4 : Sl) (p1_5 : Bool) (p1_6 : Sl) (K : Int → World → Prop) (w : World) : Prop :=
  semS Try.prog (Instr.box 47 (.agg #[(.int .i64 p1_0), (.int .i64 p1_1), (.int .i64 p1_2), (.string p1_3), (.slice p1_4.a p1_4.len p1_4.cap), (.bool p1_5), (.slice p1_6.a p1_6.len p1_6.cap)])) (.one .adr) (fun x1 w =>
  semS Try.prog (Instr.loadAt 9 (.pointer (some (x1.add 3)))) (.one .str) (fun x2 w =>
  callS Try.prog 30 #[(.pointer p0), (.string x2)] [(.one (.int .i64))] (fun r3 w =>
  nilS p0 fun a4 =>
  semS Try.prog (Instr.loadAt 4 (.pointer (some (a4.add 6)))) (.one .bool) (fun x5 w =>
  cond x5
    (K 42 w)
    (cond (decide (r3 < 0))
      (K 40 w)
      (semS Try.prog (Instr.loadAt 3 (.pointer (some (x1.add 1)))) (.one (.int .i64)) (fun x6 w =>
      semS Try.prog (Instr.loadAt 22 (.pointer (some (x1.add 4)))) (.one .slc) (fun x7 w =>
      callS Try.prog 33 #[(.pointer p0), (.int .i64 r3), (.int .i64 x6), (.int .i64 (x7.len : Int))] [(.one .bool)] (fun r8 w =>
      cond (!r8)
        (K 10 w)
        (nilS p0 fun a9 =>
        semS Try.prog (Instr.loadAt 4 (.pointer (some (a9.add 4)))) (.one .bool) (fun x10 w =>
        joinS (σ := Bool) (fun b11 w =>
          semS Try.prog (Instr.loadAt 22 (.pointer (some (x1.add 4)))) (.one .slc) (fun x13 w =>
          loopS (σ := Int) (fun x14 w again15 =>
            cond (decide (x14 < (x13.len : Int)))
              (semS Try.prog (Instr.indexAt 22 (.slice x13.a x13.len x13.cap) (.int .i64 x14)) (.one .adr) (fun x16 w =>
              semS Try.prog (Instr.loadAt 5 (.pointer (some x16))) (.one (.int .u8)) (fun x17 w =>
              semS Try.prog (Instr.loadAt 3 (.pointer (some (x1.add 1)))) (.one (.int .i64)) (fun x18 w =>
              semS Try.prog (Instr.loadAt 3 (.pointer (some (x1.add 1)))) (.one (.int .i64)) (fun x19 w =>
              joinS (σ := Bool) (fun b20 w =>
                cond b20
                  (drawS w fun C w =>
                  nilS p0 fun a22 =>
                  semQ Try.prog C (Instr.loadAt 50 (.pointer (some (a22.add 1)))) (.one .slc) (fun x23 =>
                  semQ Try.prog C (Instr.indexAt 50 (.slice x23.a x23.len x23.cap) (.int .i64 r3)) (.one .adr) (fun x24 =>
                  semQ Try.prog C (Instr.loadAt 22 (.pointer (some x24))) (.one .slc) (fun x25 =>
                  semQ Try.prog C (Instr.loadAt 3 (.pointer (some (x1.add 1)))) (.one (.int .i64)) (fun x26 =>
                  semQ Try.prog C (Instr.indexAt 22 (.slice x25.a x25.len x25.cap) (.int .i64 (IntKind.wrap .i64 (x26 + x14)))) (.one .adr) (fun x27 =>
                  semU Try.prog (Instr.storeAt 5 (.pointer (some x27)) (.int .u8 x17)) (fun w =>
                  again15 (IntKind.wrap .i64 (x14 + 1)) w) w))))))
                  (again15 (IntKind.wrap .i64 (x14 + 1)) w)) fun J21 =>
              cond (!b11)
                (J21 true w)
                (nilS p0 fun a28 =>
                  semS Try.prog (Instr.loadAt 23 (.pointer (some (a28.add 5)))) (.one .slc) (fun x29 w =>
                  joinS (σ := Bool) (fun b30 w =>
                    J21 b30 w) fun J31 =>
                  cond (decide ((IntKind.wrap .i64 ((IntKind.wrap .i64 (Int.tdiv (IntKind.wrap .i64 (x18 + x14)) 64)) - (IntKind.wrap .i64 (Int.tdiv x19 64)))) < (x29.len : Int)))
                    (nilS p0 fun a32 =>
                      semS Try.prog (Instr.loadAt 23 (.pointer (some (a32.add 5)))) (.one .slc) (fun x33 w =>
                      semS Try.prog (Instr.indexAt 23 (.slice x33.a x33.len x33.cap) (.int .i64 (IntKind.wrap .i64 ((IntKind.wrap .i64 (Int.tdiv (IntKind.wrap .i64 (x18 + x14)) 64)) - (IntKind.wrap .i64 (Int.tdiv x19 64)))))) (.one .adr) (fun x34 w =>
                      semS Try.prog (Instr.loadAt 4 (.pointer (some x34))) (.one .bool) (fun x35 w =>
                      J31 x35 w) w) w) w)
                    (J31 false w)) w)) w) w) w) w)
              (joinS (σ := Unit) (fun _ w =>
                cond b11
                  (nilS p0 fun a37 =>
                  semU Try.prog (Instr.storeAt 4 (.pointer (some (a37.add 6))) (.bool true)) (fun w =>
                  K 42 w) w)
                  (K 0 w)) fun J36 =>
              nilS p0 fun a38 =>
              semS Try.prog (Instr.loadAt 4 (.pointer (some (a38.add 4)))) (.one .bool) (fun x39 w =>
              cond (x39 && (!b11))
                (nilS p0 fun a40 =>
                semS Try.prog (Instr.loadAt 3 (.pointer (some (a40.add 3)))) (.one (.int .i64)) (fun x41 w =>
                nilS p0 fun a42 =>
                semU Try.prog (Instr.storeAt 3 (.pointer (some (a42.add 3))) (.int .i64 (IntKind.wrap .i64 (x41 - 1)))) (fun w =>
                J36 () w) w) w)
                (J36 () w)) w)) 0 w) w) fun J12 =>
        cond x10
          (nilS p0 fun a43 =>
            semS Try.prog (Instr.loadAt 3 (.pointer (some (a43.add 3)))) (.one (.int .i64)) (fun x44 w =>
            J12 (x44 == 0) w) w)
          (J12 false w)) w)) w) w) w))) w) w) w) w
theorem f32_ok {p0 : Option Addr} {p1_0 : Int} {p1_1 : Int} {p1_2 : Int} {p1_3 : ByteArray} {p1_4 : Sl} {p1_5 : Bool} {p1_6 : Sl} {K : Int → World → Prop} {w : World} (h : f32 p0 p1_0 p1_1 p1_2 p1_3 p1_4 p1_5 p1_6 K w) : callS Try.prog 32 #[(.pointer p0), (.agg #[(.int .i64 p1_0), (.int .i64 p1_1), (.int .i64 p1_2), (.string p1_3), (.slice p1_4.a p1_4.len p1_4.cap), (.bool p1_5), (.slice p1_6.a p1_6.len p1_6.cap)])] [(.one (.int .i64))] K w :=
  calls_of_fn (args := [(.pointer p0), (.agg #[(.int .i64 p1_0), (.int .i64 p1_1), (.int .i64 p1_2), (.string p1_3), (.slice p1_4.a p1_4.len p1_4.cap), (.bool p1_5), (.slice p1_6.a p1_6.len p1_6.cap)])]) Try.f32 [] [] [] (.two .nil (.two .nil (.two .nil (.two .nil (.two (.two .nil (.one (.loop [(46, (.int .i64))] (.two .nil (.two .nil (.two (.one (.two .nil (.two .nil (.two .nil (.two (.draw [0, 1, 3, 7, 0, 31, 63, 0, 128, 0, 896, 0, 4095, 8191]) .nil))))) .nil)))))) (.join [] .nil .nil)))))) (by kernel_rfl) (by kernel_rfl)
    (Eq.mp (by kernel_rfl : f32 p0 p1_0 p1_1 p1_2 p1_3 p1_4 p1_5 p1_6 K w = evFn Try.prog Try.f32 [] [] [] (.two .nil (.two .nil (.two .nil (.two .nil (.two (.two .nil (.one (.loop [(46, (.int .i64))] (.two .nil (.two .nil (.two (.one (.two .nil (.two .nil (.two .nil (.two (.draw [0, 1, 3, 7, 0, 31, 63, 0, 128, 0, 896, 0, 4095, 8191]) .nil))))) .nil)))))) (.join [] .nil .nil)))))) [(.pointer p0), (.agg #[(.int .i64 p1_0), (.int .i64 p1_1), (.int .i64 p1_2), (.string p1_3), (.slice p1_4.a p1_4.len p1_4.cap), (.bool p1_5), (.slice p1_6.a p1_6.len p1_6.cap)])] [(.one (.int .i64))] K w) h)

/-- sallyport/sallyportlaw10.step -/
def f20 (p0 : Option Addr) (p1 : Option Addr) (p2_0 : Int) (p2_1 : Int) (p2_2 : Int) (p2_3 : ByteArray) (p2_4 : Sl) (p2_5 : Bool) (p2_6 : Sl) (K : Bool → World → Prop) (w : World) : Prop :=
  semS Try.prog (Instr.box 47 (.agg #[(.int .i64 p2_0), (.int .i64 p2_1), (.int .i64 p2_2), (.string p2_3), (.slice p2_4.a p2_4.len p2_4.cap), (.bool p2_5), (.slice p2_6.a p2_6.len p2_6.cap)])) (.one .adr) (fun x1 w =>
  semS Try.prog (Instr.loadAt 9 (.pointer (some (x1.add 3)))) (.one .str) (fun x2 w =>
  callS Try.prog 30 #[(.pointer p1), (.string x2)] [(.one (.int .i64))] (fun r3 w =>
  semS Try.prog (Instr.loadAt 3 (.pointer (some (x1.add 0)))) (.one (.int .i64)) (fun x4 w =>
  cond (x4 == 1)
    (semS Try.prog (Instr.loadAt 47 (.pointer (some x1))) (.agg [(.int .i64), (.int .i64), (.int .i64), .str, .slc, .bool, .slc]) (fun x5 x6 x7 x8 x9 x10 x11 w =>
    callS Try.prog 31 #[(.pointer p1), (.agg #[(.int .i64 x5), (.int .i64 x6), (.int .i64 x7), (.string x8), (.slice x9.a x9.len x9.cap), (.bool x10), (.slice x11.a x11.len x11.cap)])] [(.one .slc), (.one (.int .i64))] (fun r12 r13 w =>
    semS Try.prog (Instr.loadAt 9 (.pointer (some (x1.add 3)))) (.one .str) (fun x14 w =>
    semS Try.prog (Instr.loadAt 3 (.pointer (some (x1.add 1)))) (.one (.int .i64)) (fun x15 w =>
    semS Try.prog (Instr.loadAt 3 (.pointer (some (x1.add 2)))) (.one (.int .i64)) (fun x16 w =>
    callS Try.prog 11 #[(.pointer p0), (.string x14), (.int .i64 x15), (.int .i64 x16)] [(.one .slc), (.one (.int .i64))] (fun r17 r18 w =>
    joinS (σ := Bool) (fun b19 w =>
      loopS (σ := Int) (fun x21 w again22 =>
        cond (decide (x21 < (r17.len : Int)))
          (semS Try.prog (Instr.indexAt 22 (.slice r17.a r17.len r17.cap) (.int .i64 x21)) (.one .adr) (fun x23 w =>
          semS Try.prog (Instr.loadAt 5 (.pointer (some x23))) (.one (.int .u8)) (fun x24 w =>
          semS Try.prog (Instr.indexAt 22 (.slice r17.a r17.len r17.cap) (.int .i64 x21)) (.one .adr) (fun x25 w =>
          semU Try.prog (Instr.storeAt 5 (.pointer (some x25)) (.int .u8 (xorI .u8 x24 255))) (fun w =>
          again22 (IntKind.wrap .i64 (x21 + 1)) w) w) w) w) w)
          (K b19 w)) 0 w) fun J20 =>
    cond (r18 == r13)
      (semS Try.prog (convert 22 9 (.slice r17.a r17.len r17.cap)) (.one .str) (fun x26 w =>
        semS Try.prog (convert 22 9 (.slice r12.a r12.len r12.cap)) (.one .str) (fun x27 w =>
        J20 (x26.toList == x27.toList) w) w) w)
      (J20 false w)) w) w) w) w) w) w)
    (cond (x4 == 2)
      (semS Try.prog (Instr.loadAt 47 (.pointer (some x1))) (.agg [(.int .i64), (.int .i64), (.int .i64), .str, .slc, .bool, .slc]) (fun x28 x29 x30 x31 x32 x33 x34 w =>
      callS Try.prog 32 #[(.pointer p1), (.agg #[(.int .i64 x28), (.int .i64 x29), (.int .i64 x30), (.string x31), (.slice x32.a x32.len x32.cap), (.bool x33), (.slice x34.a x34.len x34.cap)])] [(.one (.int .i64))] (fun r35 w =>
      semS Try.prog (Instr.loadAt 9 (.pointer (some (x1.add 3)))) (.one .str) (fun x36 w =>
      semS Try.prog (Instr.loadAt 3 (.pointer (some (x1.add 1)))) (.one (.int .i64)) (fun x37 w =>
      semS Try.prog (Instr.loadAt 22 (.pointer (some (x1.add 4)))) (.one .slc) (fun x38 w =>
      callS Try.prog 10 #[(.pointer p0), (.string x36), (.int .i64 x37), (.slice x38.a x38.len x38.cap)] [(.one (.int .i64))] (fun r39 w =>
      K (r39 == r35) w) w) w) w) w) w) w)
      (cond (x4 == 3)
        (joinS (σ := Bool) (fun b40 w =>
          semS Try.prog (Instr.loadAt 22 (.pointer (some (x1.add 4)))) (.one .slc) (fun x42 w =>
          loopS (σ := Int) (fun x43 w again44 =>
            cond (decide (x43 < (x42.len : Int)))
              (semS Try.prog (Instr.indexAt 22 (.slice x42.a x42.len x42.cap) (.int .i64 x43)) (.one .adr) (fun x45 w =>
              semS Try.prog (Instr.loadAt 5 (.pointer (some x45))) (.one (.int .u8)) (fun x46 w =>
              cond b40
                (drawS w fun C w =>
                nilS p1 fun a47 =>
                semQ Try.prog C (Instr.loadAt 50 (.pointer (some (a47.add 1)))) (.one .slc) (fun x48 =>
                semQ Try.prog C (Instr.indexAt 50 (.slice x48.a x48.len x48.cap) (.int .i64 r3)) (.one .adr) (fun x49 =>
                semQ Try.prog C (Instr.loadAt 22 (.pointer (some x49))) (.one .slc) (fun x50 =>
                semQ Try.prog C (Instr.loadAt 3 (.pointer (some (x1.add 1)))) (.one (.int .i64)) (fun x51 =>
                semQ Try.prog C (Instr.indexAt 22 (.slice x50.a x50.len x50.cap) (.int .i64 (IntKind.wrap .i64 (x51 + x43)))) (.one .adr) (fun x52 =>
                semQ Try.prog C (Instr.loadAt 5 (.pointer (some x52))) (.one (.int .u8)) (fun x53 =>
                semQ Try.prog C (Instr.indexAt 22 (.slice x50.a x50.len x50.cap) (.int .i64 (IntKind.wrap .i64 (x51 + x43)))) (.one .adr) (fun x54 =>
                semU Try.prog (Instr.storeAt 5 (.pointer (some x54)) (.int .u8 (xorI .u8 x53 x46))) (fun w =>
                again44 (IntKind.wrap .i64 (x43 + 1)) w) w))))))))
                (again44 (IntKind.wrap .i64 (x43 + 1)) w)) w) w)
              (semS Try.prog (Instr.loadAt 9 (.pointer (some (x1.add 3)))) (.one .str) (fun x55 w =>
              semS Try.prog (Instr.loadAt 3 (.pointer (some (x1.add 1)))) (.one (.int .i64)) (fun x56 w =>
              semS Try.prog (Instr.loadAt 22 (.pointer (some (x1.add 4)))) (.one .slc) (fun x57 w =>
              callS Try.prog 16 #[(.pointer p0), (.string x55), (.int .i64 x56), (.slice x57.a x57.len x57.cap)] [(.one .bool)] (fun r58 w =>
              K (r58 == b40) w) w) w) w) w)) 0 w) w) fun J41 =>
        cond (decide (r3 ≥ 0))
          (semS Try.prog (Instr.loadAt 3 (.pointer (some (x1.add 1)))) (.one (.int .i64)) (fun x59 w =>
            semS Try.prog (Instr.loadAt 22 (.pointer (some (x1.add 4)))) (.one .slc) (fun x60 w =>
            callS Try.prog 33 #[(.pointer p1), (.int .i64 r3), (.int .i64 x59), (.int .i64 (x60.len : Int))] [(.one .bool)] (fun r61 w =>
            J41 r61 w) w) w) w)
          (J41 false w))
        (cond (x4 == 4)
          (joinS (σ := Bool) (fun x62 w =>
            joinS (σ := Unit) (fun _ w =>
              semS Try.prog (Instr.loadAt 9 (.pointer (some (x1.add 3)))) (.one .str) (fun x65 w =>
              semS Try.prog (Instr.loadAt 3 (.pointer (some (x1.add 1)))) (.one (.int .i64)) (fun x66 w =>
              semS Try.prog (Instr.loadAt 4 (.pointer (some (x1.add 5)))) (.one .bool) (fun x67 w =>
              callS Try.prog 14 #[(.pointer p0), (.string x65), (.int .i64 x66), (.bool x67)] [(.one .bool)] (fun r68 w =>
              K (r68 == x62) w) w) w) w) w) fun J64 =>
            cond x62
              (drawS w fun C w =>
              nilS p1 fun a69 =>
              semQ Try.prog C (Instr.loadAt 51 (.pointer (some (a69.add 2)))) (.one .slc) (fun x70 =>
              semQ Try.prog C (Instr.indexAt 51 (.slice x70.a x70.len x70.cap) (.int .i64 r3)) (.one .adr) (fun x71 =>
              semQ Try.prog C (Instr.loadAt 23 (.pointer (some x71))) (.one .slc) (fun x72 =>
              semQ Try.prog C (Instr.loadAt 3 (.pointer (some (x1.add 1)))) (.one (.int .i64)) (fun x73 =>
              semQ Try.prog C (Instr.loadAt 4 (.pointer (some (x1.add 5)))) (.one .bool) (fun x74 =>
              semQ Try.prog C (Instr.indexAt 23 (.slice x72.a x72.len x72.cap) (.int .i64 x73)) (.one .adr) (fun x75 =>
              semU Try.prog (Instr.storeAt 4 (.pointer (some x75)) (.bool x74)) (fun w =>
              J64 () w) w)))))))
              (J64 () w)) fun J63 =>
          drawS w fun C w =>
          cond (decide (r3 ≥ 0))
            (semQ Try.prog C (Instr.loadAt 3 (.pointer (some (x1.add 1)))) (.one (.int .i64)) (fun x76 =>
            cond (decide (x76 ≥ 0))
              (semQ Try.prog C (Instr.loadAt 3 (.pointer (some (x1.add 1)))) (.one (.int .i64)) (fun x77 =>
              nilS p1 fun a78 =>
              semQ Try.prog C (Instr.loadAt 51 (.pointer (some (a78.add 2)))) (.one .slc) (fun x79 =>
              semQ Try.prog C (Instr.indexAt 51 (.slice x79.a x79.len x79.cap) (.int .i64 r3)) (.one .adr) (fun x80 =>
              semQ Try.prog C (Instr.loadAt 23 (.pointer (some x80))) (.one .slc) (fun x81 =>
              J63 (decide (x77 < (x81.len : Int))) w)))))
              (J63 false w)))
            (J63 false w))
          (cond (x4 == 5)
            (semS Try.prog (Instr.buildSlice 23 0 #[]) (.one .slc) (fun x83 w =>
            semS Try.prog (Instr.loadAt 23 (.pointer (some (x1.add 6)))) (.one .slc) (fun x84 w =>
            semS Try.prog (Builtin.append_ #[23, 23] 23 #[(.slice x83.a x83.len x83.cap), (.slice x84.a x84.len x84.cap)]) (.one .slc) (fun r85 w =>
            semS Try.prog (Instr.loadAt 3 (.pointer (some (x1.add 2)))) (.one (.int .i64)) (fun x86 w =>
            callS Try.prog 12 #[(.pointer p0), (.int .i64 x86), (.slice r85.a r85.len r85.cap)] [] (fun w =>
            loopS (σ := Int) (fun x87 w again88 =>
              cond (decide (x87 < (r85.len : Int)))
                (semS Try.prog (Instr.indexAt 23 (.slice r85.a r85.len r85.cap) (.int .i64 x87)) (.one .adr) (fun x89 w =>
                semS Try.prog (Instr.loadAt 4 (.pointer (some x89))) (.one .bool) (fun x90 w =>
                semS Try.prog (Instr.indexAt 23 (.slice r85.a r85.len r85.cap) (.int .i64 x87)) (.one .adr) (fun x91 w =>
                semU Try.prog (Instr.storeAt 4 (.pointer (some x91)) (.bool (!x90))) (fun w =>
                again88 (IntKind.wrap .i64 (x87 + 1)) w) w) w) w) w)
                (drawS w fun C w =>
                semQ Try.prog C (Instr.loadAt 3 (.pointer (some (x1.add 2)))) (.one (.int .i64)) (fun x92 =>
                semQ Try.prog C (Instr.loadAt 3 (.pointer (some (x1.add 2)))) (.one (.int .i64)) (fun x93 =>
                semQ Try.prog C (Instr.loadAt 23 (.pointer (some (x1.add 6)))) (.one .slc) (fun x94 =>
                nilS p1 fun a95 =>
                semU Try.prog (Instr.storeAt 4 (.pointer (some (a95.add 4))) (.bool (decide (x92 ≥ 0)))) (fun w =>
                moreS C w (fun C =>
                nilS p1 fun a96 =>
                semU Try.prog (Instr.storeAt 3 (.pointer (some (a96.add 3))) (.int .i64 x93)) (fun w =>
                moreS C w (fun C =>
                nilS p1 fun a97 =>
                semU Try.prog (Instr.storeAt 23 (.pointer (some (a97.add 5))) (.slice x94.a x94.len x94.cap)) (fun w =>
                K true w) w)) w)) w))))) 0 w) w) w) w) w) w)
            (cond (x4 == 6)
              (callS Try.prog 13 #[(.pointer p0)] [] (fun w =>
              nilS p1 fun a98 =>
              semU Try.prog (Instr.storeAt 4 (.pointer (some (a98.add 4))) (.bool false)) (fun w =>
              nilS p1 fun a99 =>
              semU Try.prog (Instr.storeAt 4 (.pointer (some (a99.add 6))) (.bool false)) (fun w =>
              K true w) w) w) w)
              (K true w))))))) w) w) w) w
theorem f20_ok {p0 : Option Addr} {p1 : Option Addr} {p2_0 : Int} {p2_1 : Int} {p2_2 : Int} {p2_3 : ByteArray} {p2_4 : Sl} {p2_5 : Bool} {p2_6 : Sl} {K : Bool → World → Prop} {w : World} (h : f20 p0 p1 p2_0 p2_1 p2_2 p2_3 p2_4 p2_5 p2_6 K w) : callS Try.prog 20 #[(.pointer p0), (.pointer p1), (.agg #[(.int .i64 p2_0), (.int .i64 p2_1), (.int .i64 p2_2), (.string p2_3), (.slice p2_4.a p2_4.len p2_4.cap), (.bool p2_5), (.slice p2_6.a p2_6.len p2_6.cap)])] [(.one .bool)] K w :=
  calls_of_fn (args := [(.pointer p0), (.pointer p1), (.agg #[(.int .i64 p2_0), (.int .i64 p2_1), (.int .i64 p2_2), (.string p2_3), (.slice p2_4.a p2_4.len p2_4.cap), (.bool p2_5), (.slice p2_6.a p2_6.len p2_6.cap)])]) Try.f20 [] [] [] (.two .nil (.two .nil (.two (.two .nil (.one (.two .nil (.two (.two .nil (.two .nil (.two .nil (.two (.two .nil (.one (.loop [(58, (.int .i64))] .nil))) .nil)))) (.two .nil (.two .nil (.two .nil (.two (.two .nil (.two (.two .nil (.one (.loop [(101, (.int .i64))] (.two .nil (.two .nil (.two (.one (.two .nil (.two .nil (.two (.draw [0, 1, 3, 7, 0, 31, 63, 0, 128, 0, 896, 2047, 4095, 0, 16383, 32767, 65535]) .nil)))) .nil)))))) .nil)) (.two .nil (.two (.join [(18, .bool)] (.draw [0, 1, 3, 7, 15, 31, 63, 127, 255, 511, 255, 1279, 3327, 7423, 255, 31999, 64767, 130303, 262143, 524287, 1048575]) (.join [] (.two .nil (.two (.draw [0, 1, 3, 7, 0, 31, 63, 0, 128, 0, 512, 2047, 4095]) .nil)) .nil)) (.two .nil (.two (.two .nil (.two .nil (.two (.two .nil (.one (.loop [(192, (.int .i64))] .nil))) (.draw [0, 0, 0, 0, 8, 24, 0, 64, 0, 256, 57, 1081, 3129, 7419, 15611, 31995, 65535, 131071, 262143])))) .nil)))))))))))) .nil))) (by kernel_rfl) (by kernel_rfl)
    (Eq.mp (by kernel_rfl : f20 p0 p1 p2_0 p2_1 p2_2 p2_3 p2_4 p2_5 p2_6 K w = evFn Try.prog Try.f20 [] [] [] (.two .nil (.two .nil (.two (.two .nil (.one (.two .nil (.two (.two .nil (.two .nil (.two .nil (.two (.two .nil (.one (.loop [(58, (.int .i64))] .nil))) .nil)))) (.two .nil (.two .nil (.two .nil (.two (.two .nil (.two (.two .nil (.one (.loop [(101, (.int .i64))] (.two .nil (.two .nil (.two (.one (.two .nil (.two .nil (.two (.draw [0, 1, 3, 7, 0, 31, 63, 0, 128, 0, 896, 2047, 4095, 0, 16383, 32767, 65535]) .nil)))) .nil)))))) .nil)) (.two .nil (.two (.join [(18, .bool)] (.draw [0, 1, 3, 7, 15, 31, 63, 127, 255, 511, 255, 1279, 3327, 7423, 255, 31999, 64767, 130303, 262143, 524287, 1048575]) (.join [] (.two .nil (.two (.draw [0, 1, 3, 7, 0, 31, 63, 0, 128, 0, 512, 2047, 4095]) .nil)) .nil)) (.two .nil (.two (.two .nil (.two .nil (.two (.two .nil (.one (.loop [(192, (.int .i64))] .nil))) (.draw [0, 0, 0, 0, 8, 24, 0, 64, 0, 256, 57, 1081, 3129, 7419, 15611, 31995, 65535, 131071, 262143])))) .nil)))))))))))) .nil))) [(.pointer p0), (.pointer p1), (.agg #[(.int .i64 p2_0), (.int .i64 p2_1), (.int .i64 p2_2), (.string p2_3), (.slice p2_4.a p2_4.len p2_4.cap), (.bool p2_5), (.slice p2_6.a p2_6.len p2_6.cap)])] [(.one .bool)] K w) h)

/-- (*sallyport/drive.Drive).Size -/
def f21 (p0 : Option Addr) (p1 : ByteArray) (K : Int → Int → World → Prop) (w : World) : Prop :=
  nilS p0 fun a1 =>
  semS Try.prog (Instr.loadAt 61 (.pointer (some (a1.add 1)))) (.one .mp) (fun x2 w =>
  semS Try.prog (Instr.lookup 61 (.map x2) (.string p1) false) (.one .ptr) (fun x3 w =>
  semS Try.prog (binS .neq 65 (.tmp 13) (.const (Go.Value.pointer none)) (.pointer x3) (.pointer none)) (.one .bool) (fun x4 w =>
  cond x4
    (nilS x3 fun a5 =>
    semS Try.prog (Instr.loadAt 22 (.pointer (some (a5.add 0)))) (.one .slc) (fun x6 w =>
    K (x6.len : Int) 0 w) w)
    (K 0 40 w)) w) w) w
theorem f21_ok {p0 : Option Addr} {p1 : ByteArray} {K : Int → Int → World → Prop} {w : World} (h : f21 p0 p1 K w) : callS Try.prog 21 #[(.pointer p0), (.string p1)] [(.one (.int .i64)), (.one (.int .i64))] K w :=
  calls_of_fn (args := [(.pointer p0), (.string p1)]) Try.f21 [] [] [] .nil (by kernel_rfl) (by kernel_rfl)
    (Eq.mp (by kernel_rfl : f21 p0 p1 K w = evFn Try.prog Try.f21 [] [] [] .nil [(.pointer p0), (.string p1)] [(.one (.int .i64)), (.one (.int .i64))] K w) h)

/-- sallyport/sallyportlaw10.DrivePlays -/
def f7 (p0 : Sl) (p1 : Sl) (K : Bool → World → Prop) (w : World) : Prop :=
  callS Try.prog 8 #[] [(.one .bool)] (fun r1 w =>
  cond (!r1)
    (K false w)
    (cond ((decide ((p0.len : Int) > 30)) || (decide ((p1.len : Int) > 80)))
      (K true w)
      (callS Try.prog 9 #[(.slice p0.a p0.len p0.cap)] [(.one .ptr), (.one (.int .i64))] (fun r2 r3 w =>
      semS Try.prog (Instr.box 53 (.agg #[(.slice none 0 0), (.slice none 0 0), (.slice none 0 0), (.int .i64 0), (.bool false), (.slice none 0 0), (.bool false), (.int .i64 0), (.int .i64 0)])) (.one .adr) (fun x4 w =>
      loopS (σ := Int) (fun x5 w again6 =>
        cond (decide (x5 < (p0.len : Int)))
          (semS Try.prog (Instr.indexAt 31 (.slice p0.a p0.len p0.cap) (.int .i64 x5)) (.one .adr) (fun x7 w =>
          semS Try.prog (Instr.loadAt 30 (.pointer (some x7))) (.agg [.str, (.int .i64)]) (fun x8 x9 w =>
          semS Try.prog (Instr.alloc 30 true (.tuple #[])) (.one .adr) (fun x10 w =>
          semU Try.prog (Instr.storeAt 30 (.pointer (some x10)) (.agg #[(.string x8), (.int .i64 x9)])) (fun w =>
          semS Try.prog (Instr.loadAt 9 (.pointer (some (x10.add 0)))) (.one .str) (fun x11 w =>
          joinS (σ := Bool) (fun b12 w =>
            cond b12
              (K true w)
              (again6 (IntKind.wrap .i64 (x5 + 1)) w)) fun J13 =>
          cond (decide ((x11.size : Int) > 100))
            (J13 true w)
            (semS Try.prog (Instr.loadAt 3 (.pointer (some (x10.add 1)))) (.one (.int .i64)) (fun x14 w =>
              joinS (σ := Bool) (fun b15 w =>
                J13 b15 w) fun J16 =>
              cond (decide (x14 > 1000))
                (semS Try.prog (Instr.loadAt 3 (.pointer (some (x10.add 1)))) (.one (.int .i64)) (fun x17 w =>
                  J16 (decide (x17 ≤ 1048576)) w) w)
                (J16 false w)) w)) w) w) w) w) w)
          (callS Try.prog 18 #[(.pointer (some x4)), (.slice p0.a p0.len p0.cap)] [(.one (.int .i64))] (fun r18 w =>
          cond (r18 != 0)
            (joinS (σ := Bool) (fun b19 w =>
              K b19 w) fun J20 =>
            cond (r3 == r18)
              (semS Try.prog (binS .eql 25 (.tmp 71) (.const (Go.Value.pointer none)) (.pointer r2) (.pointer none)) (.one .bool) (fun x21 w =>
                J20 x21 w) w)
              (J20 false w))
            (joinS (σ := Bool) (fun b22 w =>
              joinS (σ := Bool) (fun b24 w =>
                cond b24
                  (K false w)
                  (loopS (σ := Int) (fun x26 w again27 =>
                    cond (decide (x26 < (p1.len : Int)))
                      (semS Try.prog (Instr.indexAt 45 (.slice p1.a p1.len p1.cap) (.int .i64 x26)) (.one .adr) (fun x28 w =>
                      semS Try.prog (Instr.loadAt 47 (.pointer (some x28))) (.agg [(.int .i64), (.int .i64), (.int .i64), .str, .slc, .bool, .slc]) (fun x29 x30 x31 x32 x33 x34 x35 w =>
                      semS Try.prog (Instr.alloc 47 true (.tuple #[])) (.one .adr) (fun x36 w =>
                      semU Try.prog (Instr.storeAt 47 (.pointer (some x36)) (.agg #[(.int .i64 x29), (.int .i64 x30), (.int .i64 x31), (.string x32), (.slice x33.a x33.len x33.cap), (.bool x34), (.slice x35.a x35.len x35.cap)])) (fun w =>
                      semS Try.prog (Instr.loadAt 22 (.pointer (some (x36.add 4)))) (.one .slc) (fun x37 w =>
                      joinS (σ := Bool) (fun b38 w =>
                        joinS (σ := Bool) (fun b40 w =>
                          cond b40
                            (K true w)
                            (semS Try.prog (Instr.loadAt 47 (.pointer (some x36))) (.agg [(.int .i64), (.int .i64), (.int .i64), .str, .slc, .bool, .slc]) (fun x42 x43 x44 x45 x46 x47 x48 w =>
                            callS Try.prog 20 #[(.pointer r2), (.pointer (some x4)), (.agg #[(.int .i64 x42), (.int .i64 x43), (.int .i64 x44), (.string x45), (.slice x46.a x46.len x46.cap), (.bool x47), (.slice x48.a x48.len x48.cap)])] [(.one .bool)] (fun r49 w =>
                            cond (!r49)
                              (K false w)
                              (callS Try.prog 15 #[(.pointer r2)] [(.one (.int .i64)), (.one (.int .i64))] (fun r50 r51 w =>
                              drawS w fun C w =>
                              semQ Try.prog C (Instr.loadAt 3 (.pointer (some (x4.add 7)))) (.one (.int .i64)) (fun x52 =>
                              cond (r50 != x52)
                                (K false w)
                                (semQ Try.prog C (Instr.loadAt 3 (.pointer (some (x4.add 8)))) (.one (.int .i64)) (fun x53 =>
                                cond (r51 != x53)
                                  (K false w)
                                  (semQ Try.prog C (Instr.loadAt 4 (.pointer (some (x4.add 6)))) (.one .bool) (fun x54 =>
                                  callS Try.prog 17 #[(.pointer r2)] [(.one .bool)] (fun r55 w =>
                                  moreS C w (fun C =>
                                  cond (!(r55 == x54))
    (K false w)
    (again27 (IntKind.wrap .i64 (x26 + 1)) w))) w)))))) w)) w) w)) fun J41 =>
                        cond b38
                          (J41 true w)
                          (semS Try.prog (Instr.loadAt 9 (.pointer (some (x36.add 3)))) (.one .str) (fun x57 w =>
                            J41 (decide ((x57.size : Int) > 100)) w) w)) fun J39 =>
                      cond (decide ((x37.len : Int) > 500))
                        (J39 true w)
                        (semS Try.prog (Instr.loadAt 23 (.pointer (some (x36.add 6)))) (.one .slc) (fun x58 w =>
                          J39 (decide ((x58.len : Int) > 30)) w) w)) w) w) w) w) w)
                      (callS Try.prog 13 #[(.pointer r2)] [] (fun w =>
                      loopS (σ := Int) (fun x59 w again60 =>
                        cond (decide (x59 < (p0.len : Int)))
                          (semS Try.prog (Instr.indexAt 31 (.slice p0.a p0.len p0.cap) (.int .i64 x59)) (.one .adr) (fun x61 w =>
                          semS Try.prog (Instr.loadAt 30 (.pointer (some x61))) (.agg [.str, (.int .i64)]) (fun x62 x63 w =>
                          semS Try.prog (Instr.alloc 30 true (.tuple #[])) (.one .adr) (fun x64 w =>
                          semU Try.prog (Instr.storeAt 30 (.pointer (some x64)) (.agg #[(.string x62), (.int .i64 x63)])) (fun w =>
                          semS Try.prog (Instr.loadAt 51 (.pointer (some (x4.add 2)))) (.one .slc) (fun x65 w =>
                          semS Try.prog (Instr.indexAt 51 (.slice x65.a x65.len x65.cap) (.int .i64 x59)) (.one .adr) (fun x66 w =>
                          semS Try.prog (Instr.loadAt 23 (.pointer (some x66))) (.one .slc) (fun x67 w =>
                          loopS (σ := Int) (fun x68 w again69 =>
                            cond (decide (x68 < (x67.len : Int)))
                              (semS Try.prog (Instr.loadAt 9 (.pointer (some (x64.add 0)))) (.one .str) (fun x70 w =>
                              callS Try.prog 14 #[(.pointer r2), (.string x70), (.int .i64 x68), (.bool false)] [(.one .bool)] (fun r71 w =>
                              again69 (IntKind.wrap .i64 (x68 + 1)) w) w) w)
                              (semS Try.prog (Instr.loadAt 9 (.pointer (some (x64.add 0)))) (.one .str) (fun x72 w =>
                              semS Try.prog (Instr.loadAt 3 (.pointer (some (x64.add 1)))) (.one (.int .i64)) (fun x73 w =>
                              callS Try.prog 11 #[(.pointer r2), (.string x72), (.int .i64 0), (.int .i64 x73)] [(.one .slc), (.one (.int .i64))] (fun r74 r75 w =>
                              semS Try.prog (Instr.loadAt 9 (.pointer (some (x64.add 0)))) (.one .str) (fun x76 w =>
                              callS Try.prog 21 #[(.pointer r2), (.string x76)] [(.one (.int .i64)), (.one (.int .i64))] (fun r77 r78 w =>
                              drawS w fun C w =>
                              cond (r75 != 0)
                                (K false w)
                                (semQ Try.prog C (convert 22 9 (.slice r74.a r74.len r74.cap)) (.one .str) (fun x79 =>
                                semQ Try.prog C (Instr.loadAt 50 (.pointer (some (x4.add 1)))) (.one .slc) (fun x80 =>
                                semQ Try.prog C (Instr.indexAt 50 (.slice x80.a x80.len x80.cap) (.int .i64 x59)) (.one .adr) (fun x81 =>
                                semQ Try.prog C (Instr.loadAt 22 (.pointer (some x81))) (.one .slc) (fun x82 =>
                                semQ Try.prog C (convert 22 9 (.slice x82.a x82.len x82.cap)) (.one .str) (fun x83 =>
                                cond (!(x79.toList == x83.toList))
                                  (K false w)
                                  (cond (r78 != 0)
                                    (K false w)
                                    (semQ Try.prog C (Instr.loadAt 3 (.pointer (some (x64.add 1)))) (.one (.int .i64)) (fun x84 =>
                                    cond (r77 != x84)
    (K false w)
    (again60 (IntKind.wrap .i64 (x59 + 1)) w))))))))))) w) w) w) w) w)) 0 w) w) w) w) w) w) w) w)
                          (callS Try.prog 21 #[(.pointer r2), (.string (ByteArray.mk #[110, 111, 32, 115, 117, 99, 104, 32, 111, 110, 101]))] [(.one (.int .i64)), (.one (.int .i64))] (fun r86 r87 w =>
                          K (r87 == 40) w) w)) 0 w) w)) 0 w)) fun J25 =>
              cond b22
                (J25 true w)
                (callS Try.prog 19 #[(.pointer r2)] [(.one .slc)] (fun r88 w =>
                  J25 ((r88.len : Int) != (p0.len : Int)) w) w)) fun J23 =>
            cond (r3 != 0)
              (J23 true w)
              (semS Try.prog (binS .eql 25 (.tmp 77) (.const (Go.Value.pointer none)) (.pointer r2) (.pointer none)) (.one .bool) (fun x89 w =>
                J23 x89 w) w))) w)) 0 w) w) w))) w
theorem f7_ok {p0 : Sl} {p1 : Sl} {K : Bool → World → Prop} {w : World} (h : f7 p0 p1 K w) : callS Try.prog 7 #[(.slice p0.a p0.len p0.cap), (.slice p1.a p1.len p1.cap)] [(.one .bool)] K w :=
  calls_of_fn (args := [(.slice p0.a p0.len p0.cap), (.slice p1.a p1.len p1.cap)]) Try.f7 [] [] [] (.two .nil (.two .nil (.two .nil (.two .nil (.two .nil (.two (.two .nil (.one (.loop [(43, (.int .i64))] .nil))) (.two .nil (.two .nil (.two (.two .nil (.one (.loop [(90, (.int .i64))] (.two .nil (.two .nil (.two (.one (.two .nil (.two .nil (.two .nil (.two .nil (.two (.draw [0, 0, 2, 6, 14, 31, 63, 127, 127, 383, 895, 1919, 4095, 8191, 16383, 32767, 65535, 32767, 163839, 425983, 950271, 2097151, 4194303]) .nil)))))) .nil)))))) (.two .nil (.two (.two .nil (.one (.loop [(148, (.int .i64))] (.two .nil (.two .nil (.two (.one (.two .nil (.two (.two .nil (.one (.loop [(161, (.int .i64))] .nil))) (.two .nil (.two .nil (.two (.draw [0, 1, 3, 7, 15, 7, 39, 103, 231, 7, 999, 2023, 4071, 8191, 16383, 32767, 65535, 131071, 262143, 524287, 1048575, 1048575, 3145727, 8388607, 16777215]) .nil)))))) .nil)))))) .nil))))))))))) (by kernel_rfl) (by kernel_rfl)
    (Eq.mp (by kernel_rfl : f7 p0 p1 K w = evFn Try.prog Try.f7 [] [] [] (.two .nil (.two .nil (.two .nil (.two .nil (.two .nil (.two (.two .nil (.one (.loop [(43, (.int .i64))] .nil))) (.two .nil (.two .nil (.two (.two .nil (.one (.loop [(90, (.int .i64))] (.two .nil (.two .nil (.two (.one (.two .nil (.two .nil (.two .nil (.two .nil (.two (.draw [0, 0, 2, 6, 14, 31, 63, 127, 127, 383, 895, 1919, 4095, 8191, 16383, 32767, 65535, 32767, 163839, 425983, 950271, 2097151, 4194303]) .nil)))))) .nil)))))) (.two .nil (.two (.two .nil (.one (.loop [(148, (.int .i64))] (.two .nil (.two .nil (.two (.one (.two .nil (.two (.two .nil (.one (.loop [(161, (.int .i64))] .nil))) (.two .nil (.two .nil (.two (.draw [0, 1, 3, 7, 15, 7, 39, 103, 231, 7, 999, 2023, 4071, 8191, 16383, 32767, 65535, 131071, 262143, 524287, 1048575, 1048575, 3145727, 8388607, 16777215]) .nil)))))) .nil)))))) .nil))))))))))) [(.slice p0.a p0.len p0.cap), (.slice p1.a p1.len p1.cap)] [(.one .bool)] K w) h)

end Go.Proofs.Ytjphpadgbhegaaa
