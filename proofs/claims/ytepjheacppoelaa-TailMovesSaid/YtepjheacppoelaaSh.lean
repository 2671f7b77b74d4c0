/- The functions of the program, each as a plain statement, with the proof that it suffices for a call: printed by sh.py out of the loaded code. -/
import Derived.Test.YtepjheacppoelaaEng5
import Derived.Test.YtepjheacppoelaaProg
set_option maxRecDepth 100000
set_option linter.unusedVariables false
namespace Go.Proofs.Ytepjheacppoelaa
open Go Go.Eng

/-- slices.Clone[[]sallyport/drive.Part,sallyport/drive.Part] -/
def f36 (p0 : Sl) (K : Sl → World → Prop) (w : World) : Prop :=
  semS Try.prog (binS .eql 48 (.tmp 3) (.const (Go.Value.slice none 0 0)) (.slice p0.a p0.len p0.cap) (.slice none 0 0)) (.one .bool) (fun x1 w =>
  cond x1
    (K (⟨none, 0, 0⟩) w)
    (semS Try.prog (Instr.buildSlice 48 0 #[]) (.one .slc) (fun x2 w =>
    semS Try.prog (Builtin.append_ #[48, 48] 48 #[(.slice x2.a x2.len x2.cap), (.slice p0.a p0.len p0.cap)]) (.one .slc) (fun r3 w =>
    K r3 w) w) w)) w
theorem f36_ok {p0 : Sl} {K : Sl → World → Prop} {w : World} (h : f36 p0 K w) : callS Try.prog 36 #[(.slice p0.a p0.len p0.cap)] [(.one .slc)] K w :=
  calls_of_fn (args := [(.slice p0.a p0.len p0.cap)]) Try.f36 [] [] [] .nil (by kernel_rfl) (by kernel_rfl)
    (Eq.mp (by kernel_rfl : f36 p0 K w = evFn Try.prog Try.f36 [] [] [] .nil [(.slice p0.a p0.len p0.cap)] [(.one .slc)] K w) h)

/-- strings.indexFunc -/
def f44 (p0 : ByteArray) (p1 : Value) (p2 : Bool) (K : Int → World → Prop) (w : World) : Prop :=
  semS Try.prog (Instr.range 9 (.string p0)) (.one .adr) (fun x1 w =>
  loopS (σ := Unit) (fun _ w again2 =>
    semS Try.prog (Instr.next (.pointer (some x1)) true 0) .nxt ⟨fun w =>
    K (-1) w, fun i3 c4 w =>
    callY Try.prog (callSem p1 #[(.int .i32 c4)]) [(.one .bool)] (fun r5 w =>
    cond (r5 == p2)
      (K i3 w)
      (again2 () w)) w⟩ w) () w) w
theorem f44_ok {p0 : ByteArray} {p1 : Value} {p2 : Bool} {K : Int → World → Prop} {w : World} (h : f44 p0 p1 p2 K w) : callS Try.prog 44 #[(.string p0), p1, (.bool p2)] [(.one (.int .i64))] K w :=
  calls_of_fn (args := [(.string p0), p1, (.bool p2)]) Try.f44 [1, 15] [] [] (.two .nil (.two (.two .nil (.one (.loop [] .nil))) .nil)) (by kernel_rfl) (by kernel_rfl)
    (Eq.mp (by kernel_rfl : f44 p0 p1 p2 K w = evFn Try.prog Try.f44 [1, 15] [] [] (.two .nil (.two (.two .nil (.one (.loop [] .nil))) .nil)) [(.string p0), p1, (.bool p2)] [(.one (.int .i64))] K w) h)

/-- strings.IndexFunc -/
def f43 (p0 : ByteArray) (p1 : Value) (K : Int → World → Prop) (w : World) : Prop :=
  callS Try.prog 44 #[(.string p0), p1, (.bool true)] [(.one (.int .i64))] (fun r1 w =>
  K r1 w) w
theorem f43_ok {p0 : ByteArray} {p1 : Value} {K : Int → World → Prop} {w : World} (h : f43 p0 p1 K w) : callS Try.prog 43 #[(.string p0), p1] [(.one (.int .i64))] K w :=
  calls_of_fn (args := [(.string p0), p1]) Try.f43 [1, 6] [] [] .nil (by kernel_rfl) (by kernel_rfl)
    (Eq.mp (by kernel_rfl : f43 p0 p1 K w = evFn Try.prog Try.f43 [1, 6] [] [] .nil [(.string p0), p1] [(.one (.int .i64))] K w) h)

/-- strings.ContainsFunc -/
def f41 (p0 : ByteArray) (p1 : Value) (K : Bool → World → Prop) (w : World) : Prop :=
  callS Try.prog 43 #[(.string p0), p1] [(.one (.int .i64))] (fun r1 w =>
  K (decide (r1 ≥ 0)) w) w
theorem f41_ok {p0 : ByteArray} {p1 : Value} {K : Bool → World → Prop} {w : World} (h : f41 p0 p1 K w) : callS Try.prog 41 #[(.string p0), p1] [(.one .bool)] K w :=
  calls_of_fn (args := [(.string p0), p1]) Try.f41 [1, 6] [] [] .nil (by kernel_rfl) (by kernel_rfl)
    (Eq.mp (by kernel_rfl : f41 p0 p1 K w = evFn Try.prog Try.f41 [1, 6] [] [] .nil [(.string p0), p1] [(.one .bool)] K w) h)

/-- sallyport/drive.named$1 -/
def f42 (p0 : Int) (K : Bool → World → Prop) (w : World) : Prop :=
  K (!((((decide (p0 ≥ 97)) && (decide (p0 ≤ 122))) || ((decide (p0 ≥ 48)) && (decide (p0 ≤ 57)))) || (p0 == 95))) w
theorem f42_ok {p0 : Int} {K : Bool → World → Prop} {w : World} (h : f42 p0 K w) : callS Try.prog 42 #[(.int .i32 p0)] [(.one .bool)] K w :=
  calls_of_fn (args := [(.int .i32 p0)]) Try.f42 [] [] [] .nil (by kernel_rfl) (by kernel_rfl)
    (Eq.mp (by kernel_rfl : f42 p0 K w = evFn Try.prog Try.f42 [] [] [] .nil [(.int .i32 p0)] [(.one .bool)] K w) h)

/-- sallyport/drive.named -/
def f37 (p0 : ByteArray) (K : Bool → World → Prop) (w : World) : Prop :=
  joinS (σ := Bool) (fun b1 w =>
    K b1 w) fun J2 =>
  cond ((!(p0.toList == (ByteArray.mk #[]).toList)) && (decide ((p0.size : Int) ≤ 24)))
    (callS Try.prog 41 #[(.string p0), (.func (.func 42) #[] #[])] [(.one .bool)] (fun r3 w =>
      J2 (!r3) w) w)
    (J2 false w)
theorem f37_ok {p0 : ByteArray} {K : Bool → World → Prop} {w : World} (h : f37 p0 K w) : callS Try.prog 37 #[(.string p0)] [(.one .bool)] K w :=
  calls_of_fn (args := [(.string p0)]) Try.f37 [] [] [] .nil (by kernel_rfl) (by kernel_rfl)
    (Eq.mp (by kernel_rfl : f37 p0 K w = evFn Try.prog Try.f37 [] [] [] .nil [(.string p0)] [(.one .bool)] K w) h)

def f19_t1 (z19 : Bool) (K : (Option Addr) → Int → World → Prop) (x9 : Addr) (x3 : Addr) (again5 : (Int × Int) → World → Prop) (s4 : Int × Int) (w : World) : Prop :=
  cond z19
    (K none 40 w)
    (semS Try.prog (Instr.loadAt 3 (.pointer (some (x9.add 1)))) (.one (.int .i64)) (fun x20 w =>
    drawS w fun C w =>
    semQ Try.prog C (Instr.loadAt 65 (.pointer (some (x3.add 1)))) (.one .mp) (fun x21 =>
    semQ Try.prog C (Instr.loadAt 9 (.pointer (some (x9.add 0)))) (.one .str) (fun x22 =>
    semS Try.prog (Instr.makeMap 68 none) (.one .mp) (fun x23 w =>
    moreS C w (fun C =>
    semS Try.prog (Instr.box 70 (.agg #[(.slice none 0 0), (.map x23)])) (.one .adr) (fun x24 w =>
    moreS C w (fun C =>
    semU Try.prog (Instr.mapUpdate 65 (.map x21) (.string x22) (.pointer (some x24))) (fun w =>
    again5 (IntKind.wrap .i64 (s4.1 + x20), IntKind.wrap .i64 (s4.2 + 1)) w) w)) w)) w))) w)

/-- sallyport/drive.New -/
def f19 (p0 : Sl) (K : (Option Addr) → Int → World → Prop) (w : World) : Prop :=
  cond (decide ((p0.len : Int) > 16))
    (K none 40 w)
    (callS Try.prog 36 #[(.slice p0.a p0.len p0.cap)] [(.one .slc)] (fun r1 w =>
    semS Try.prog (Instr.makeMap 65 none) (.one .mp) (fun x2 w =>
    semS Try.prog (Instr.box 67 (.agg #[(.slice r1.a r1.len r1.cap), (.map x2), (.int .i64 (-1)), (.slice none 0 0), (.bool false), (.int .i64 0), (.int .i64 0)])) (.one .adr) (fun x3 w =>
    loopS (σ := Int × Int) (fun s4 w again5 =>
      cond (decide (s4.2 < (p0.len : Int)))
        (semS Try.prog (Instr.indexAt 48 (.slice p0.a p0.len p0.cap) (.int .i64 s4.2)) (.one .adr) (fun x6 w =>
        semS Try.prog (Instr.loadAt 47 (.pointer (some x6))) (.agg [.str, (.int .i64)]) (fun x7 x8 w =>
        semS Try.prog (Instr.alloc 47 true (.tuple #[])) (.one .adr) (fun x9 w =>
        semU Try.prog (Instr.storeAt 47 (.pointer (some x9)) (.agg #[(.string x7), (.int .i64 x8)])) (fun w =>
        drawS w fun C w =>
        semQ Try.prog C (Instr.loadAt 9 (.pointer (some (x9.add 0)))) (.one .str) (fun x10 =>
        callS Try.prog 37 #[(.string x10)] [(.one .bool)] (fun r11 w =>
        moreS C w (fun C =>
        cond (!r11)
          (f19_t1 true K x9 x3 again5 s4 w)
          (semQ Try.prog C (Instr.loadAt 65 (.pointer (some (x3.add 1)))) (.one .mp) (fun x12 =>
          semQ Try.prog C (Instr.loadAt 9 (.pointer (some (x9.add 0)))) (.one .str) (fun x13 =>
          semQ Try.prog C (Instr.lookup 65 (.map x12) (.string x13) false) (.one .ptr) (fun x14 =>
          semQ Try.prog C (binS .neq 62 (.tmp 35) (.const (Go.Value.pointer none)) (.pointer x14) (.pointer none)) (.one .bool) (fun x15 =>
          cond x15
            (f19_t1 true K x9 x3 again5 s4 w)
            (semQ Try.prog C (Instr.loadAt 3 (.pointer (some (x9.add 1)))) (.one (.int .i64)) (fun x16 =>
            cond (decide (x16 < 64))
              (f19_t1 true K x9 x3 again5 s4 w)
              (semQ Try.prog C (Instr.loadAt 3 (.pointer (some (x9.add 1)))) (.one (.int .i64)) (fun x17 =>
              cond (decide (x17 > 1048576))
                (f19_t1 true K x9 x3 again5 s4 w)
                (semQ Try.prog C (Instr.loadAt 3 (.pointer (some (x9.add 1)))) (.one (.int .i64)) (fun x18 =>
                f19_t1 ((Int.tmod x18 64) != 0) K x9 x3 again5 s4 w))))))))))))) w)) w) w) w) w)
        (cond (decide (s4.1 > 1048576))
          (K none 11 w)
          (loopS (σ := Int) (fun x25 w again26 =>
            cond (decide (x25 < (p0.len : Int)))
              (semS Try.prog (Instr.indexAt 48 (.slice p0.a p0.len p0.cap) (.int .i64 x25)) (.one .adr) (fun x27 w =>
              semS Try.prog (Instr.loadAt 47 (.pointer (some x27))) (.agg [.str, (.int .i64)]) (fun x28 x29 w =>
              semS Try.prog (Instr.alloc 47 true (.tuple #[])) (.one .adr) (fun x30 w =>
              semU Try.prog (Instr.storeAt 47 (.pointer (some x30)) (.agg #[(.string x28), (.int .i64 x29)])) (fun w =>
              drawS w fun C w =>
              semQ Try.prog C (Instr.loadAt 65 (.pointer (some (x3.add 1)))) (.one .mp) (fun x31 =>
              semQ Try.prog C (Instr.loadAt 9 (.pointer (some (x30.add 0)))) (.one .str) (fun x32 =>
              semQ Try.prog C (Instr.lookup 65 (.map x31) (.string x32) false) (.one .ptr) (fun x33 =>
              semQ Try.prog C (Instr.loadAt 3 (.pointer (some (x30.add 1)))) (.one (.int .i64)) (fun x34 =>
              semS Try.prog (Instr.makeSlice 22 (.int .i64 x34) (.int .i64 x34)) (.one .slc) (fun x35 w =>
              moreS C w (fun C =>
              nilS x33 fun a36 =>
              semU Try.prog (Instr.storeAt 22 (.pointer (some (a36.add 0))) (.slice x35.a x35.len x35.cap)) (fun w =>
              again26 (IntKind.wrap .i64 (x25 + 1)) w) w)) w))))) w) w) w) w)
              (K (some x3) 0 w)) 0 w))) (0, 0) w) w) w) w)
theorem f19_ok {p0 : Sl} {K : (Option Addr) → Int → World → Prop} {w : World} (h : f19 p0 K w) : callS Try.prog 19 #[(.slice p0.a p0.len p0.cap)] [(.one .ptr), (.one (.int .i64))] K w :=
  calls_of_fn (args := [(.slice p0.a p0.len p0.cap)]) Try.f19 [] [] [] (.two .nil (.two .nil (.two .nil (.two .nil (.two (.two .nil (.one (.loop [(5, (.int .i64)), (20, (.int .i64))] (.two .nil (.two .nil (.two (.one (.two .nil (.two (.two (.draw [0, 1, 3, 7, 15, 31, 63, 127, 255, 31, 543, 2047, 4095, 8191, 16383, 32767, 65535, 131071, 262143, 524287, 1048575, 2097151, 4194303, 8388607, 16777215, 33554431, 67108863, 134217727, 268435455, 536870911]) .nil) (.two .nil (.draw [0, 1, 3, 7, 0, 16, 0, 64, 192, 511]))))) .nil)))))) (.two .nil (.two (.two .nil (.one (.loop [(72, (.int .i64))] (.two .nil (.two .nil (.two (.one (.two .nil (.draw [0, 1, 3, 7, 0, 16, 63, 0, 128, 384, 1023, 2047, 4095]))) .nil)))))) .nil))))))) (by kernel_rfl) (by kernel_rfl)
    (Eq.mp (by kernel_rfl : f19 p0 K w = evFn Try.prog Try.f19 [] [] [] (.two .nil (.two .nil (.two .nil (.two .nil (.two (.two .nil (.one (.loop [(5, (.int .i64)), (20, (.int .i64))] (.two .nil (.two .nil (.two (.one (.two .nil (.two (.two (.draw [0, 1, 3, 7, 15, 31, 63, 127, 255, 31, 543, 2047, 4095, 8191, 16383, 32767, 65535, 131071, 262143, 524287, 1048575, 2097151, 4194303, 8388607, 16777215, 33554431, 67108863, 134217727, 268435455, 536870911]) .nil) (.two .nil (.draw [0, 1, 3, 7, 0, 16, 0, 64, 192, 511]))))) .nil)))))) (.two .nil (.two (.two .nil (.one (.loop [(72, (.int .i64))] (.two .nil (.two .nil (.two (.one (.two .nil (.draw [0, 1, 3, 7, 0, 16, 63, 0, 128, 384, 1023, 2047, 4095]))) .nil)))))) .nil))))))) [(.slice p0.a p0.len p0.cap)] [(.one .ptr), (.one (.int .i64))] K w) h)

/-- sallyport/sallyportlaw14.made -/
def f14 (p0 : Int) (K : (Option Addr) → World → Prop) (w : World) : Prop :=
  semS Try.prog (Instr.buildSlice 48 1 #[(0, (.agg #[(.string (ByteArray.mk #[112])), (.int .i64 p0)]))]) (.one .slc) (fun x1 w =>
  callS Try.prog 19 #[(.slice x1.a x1.len x1.cap)] [(.one .ptr), (.one (.int .i64))] (fun r2 r3 w =>
  cond (r3 != 0)
    (K none w)
    (K r2 w)) w) w
theorem f14_ok {p0 : Int} {K : (Option Addr) → World → Prop} {w : World} (h : f14 p0 K w) : callS Try.prog 14 #[(.int .i64 p0)] [(.one .ptr)] K w :=
  calls_of_fn (args := [(.int .i64 p0)]) Try.f14 [] [] [] .nil (by kernel_rfl) (by kernel_rfl)
    (Eq.mp (by kernel_rfl : f14 p0 K w = evFn Try.prog Try.f14 [] [] [] .nil [(.int .i64 p0)] [(.one .ptr)] K w) h)

/-- sallyport/span.Within -/
def f34 (p0 : Int) (p1 : Int) (p2 : Int) (K : Bool → World → Prop) (w : World) : Prop :=
  K (((((decide (p0 ≥ 0)) && (decide (p1 ≥ 0))) && (decide (p2 ≥ 0))) && (decide (p0 ≤ p2))) && (decide (p1 ≤ (IntKind.wrap .i64 (p2 - p0))))) w
theorem f34_ok {p0 : Int} {p1 : Int} {p2 : Int} {K : Bool → World → Prop} {w : World} (h : f34 p0 p1 p2 K w) : callS Try.prog 34 #[(.int .i64 p0), (.int .i64 p1), (.int .i64 p2)] [(.one .bool)] K w :=
  calls_of_fn (args := [(.int .i64 p0), (.int .i64 p1), (.int .i64 p2)]) Try.f34 [] [] [] .nil (by kernel_rfl) (by kernel_rfl)
    (Eq.mp (by kernel_rfl : f34 p0 p1 p2 K w = evFn Try.prog Try.f34 [] [] [] .nil [(.int .i64 p0), (.int .i64 p1), (.int .i64 p2)] [(.one .bool)] K w) h)

/-- (*sallyport/drive.Drive).find -/
def f29 (p0 : Option Addr) (p1 : ByteArray) (p2 : Int) (p3 : Int) (K : (Option Addr) → Int → World → Prop) (w : World) : Prop :=
  nilS p0 fun a1 =>
  semS Try.prog (Instr.loadAt 65 (.pointer (some (a1.add 1)))) (.one .mp) (fun x2 w =>
  semS Try.prog (Instr.lookup 65 (.map x2) (.string p1) false) (.one .ptr) (fun x3 w =>
  nilS p0 fun a4 =>
  semS Try.prog (Instr.loadAt 4 (.pointer (some (a4.add 4)))) (.one .bool) (fun x5 w =>
  cond x5
    (K none 42 w)
    (semS Try.prog (binS .eql 62 (.tmp 23) (.const (Go.Value.pointer none)) (.pointer x3) (.pointer none)) (.one .bool) (fun x6 w =>
    cond x6
      (K none 40 w)
      (nilS x3 fun a7 =>
      semS Try.prog (Instr.loadAt 22 (.pointer (some (a7.add 0)))) (.one .slc) (fun x8 w =>
      callS Try.prog 34 #[(.int .i64 p2), (.int .i64 p3), (.int .i64 (x8.len : Int))] [(.one .bool)] (fun r9 w =>
      cond (!r9)
        (K none 10 w)
        (K x3 0 w)) w) w)) w)) w) w) w
theorem f29_ok {p0 : Option Addr} {p1 : ByteArray} {p2 : Int} {p3 : Int} {K : (Option Addr) → Int → World → Prop} {w : World} (h : f29 p0 p1 p2 p3 K w) : callS Try.prog 29 #[(.pointer p0), (.string p1), (.int .i64 p2), (.int .i64 p3)] [(.one .ptr), (.one (.int .i64))] K w :=
  calls_of_fn (args := [(.pointer p0), (.string p1), (.int .i64 p2), (.int .i64 p3)]) Try.f29 [] [] [] .nil (by kernel_rfl) (by kernel_rfl)
    (Eq.mp (by kernel_rfl : f29 p0 p1 p2 p3 K w = evFn Try.prog Try.f29 [] [] [] .nil [(.pointer p0), (.string p1), (.int .i64 p2), (.int .i64 p3)] [(.one .ptr), (.one (.int .i64))] K w) h)

/-- sallyport/drive.sectors -/
def f30 (p0 : Int) (p1 : Int) (K : Int → Int → World → Prop) (w : World) : Prop :=
  cond (p1 == 0)
    (K (IntKind.wrap .i64 (Int.tdiv p0 64)) 0 w)
    (K (IntKind.wrap .i64 (Int.tdiv p0 64)) (IntKind.wrap .i64 ((IntKind.wrap .i64 ((IntKind.wrap .i64 (Int.tdiv (IntKind.wrap .i64 ((IntKind.wrap .i64 (p0 + p1)) - 1)) 64)) - (IntKind.wrap .i64 (Int.tdiv p0 64)))) + 1)) w)
theorem f30_ok {p0 : Int} {p1 : Int} {K : Int → Int → World → Prop} {w : World} (h : f30 p0 p1 K w) : callS Try.prog 30 #[(.int .i64 p0), (.int .i64 p1)] [(.one (.int .i64)), (.one (.int .i64))] K w :=
  calls_of_fn (args := [(.int .i64 p0), (.int .i64 p1)]) Try.f30 [] [] [] .nil (by kernel_rfl) (by kernel_rfl)
    (Eq.mp (by kernel_rfl : f30 p0 p1 K w = evFn Try.prog Try.f30 [] [] [] .nil [(.int .i64 p0), (.int .i64 p1)] [(.one (.int .i64)), (.one (.int .i64))] K w) h)

/-- slices.Clone[[]byte,byte] -/
def f31 (p0 : Sl) (K : Sl → World → Prop) (w : World) : Prop :=
  semS Try.prog (binS .eql 22 (.tmp 3) (.const (Go.Value.slice none 0 0)) (.slice p0.a p0.len p0.cap) (.slice none 0 0)) (.one .bool) (fun x1 w =>
  cond x1
    (K (⟨none, 0, 0⟩) w)
    (semS Try.prog (Instr.buildSlice 22 0 #[]) (.one .slc) (fun x2 w =>
    semS Try.prog (Builtin.append_ #[22, 22] 22 #[(.slice x2.a x2.len x2.cap), (.slice p0.a p0.len p0.cap)]) (.one .slc) (fun r3 w =>
    K r3 w) w) w)) w
theorem f31_ok {p0 : Sl} {K : Sl → World → Prop} {w : World} (h : f31 p0 K w) : callS Try.prog 31 #[(.slice p0.a p0.len p0.cap)] [(.one .slc)] K w :=
  calls_of_fn (args := [(.slice p0.a p0.len p0.cap)]) Try.f31 [] [] [] .nil (by kernel_rfl) (by kernel_rfl)
    (Eq.mp (by kernel_rfl : f31 p0 K w = evFn Try.prog Try.f31 [] [] [] .nil [(.slice p0.a p0.len p0.cap)] [(.one .slc)] K w) h)

/-- (*sallyport/drive.Drive).Read -/
def f16 (p0 : Option Addr) (p1 : ByteArray) (p2 : Int) (p3 : Int) (K : Sl → Int → World → Prop) (w : World) : Prop :=
  callS Try.prog 29 #[(.pointer p0), (.string p1), (.int .i64 p2), (.int .i64 p3)] [(.one .ptr), (.one (.int .i64))] (fun r1 r2 w =>
  cond (r2 != 0)
    (K (⟨none, 0, 0⟩) r2 w)
    (callS Try.prog 30 #[(.int .i64 p2), (.int .i64 p3)] [(.one (.int .i64)), (.one (.int .i64))] (fun r3 r4 w =>
    loopS (σ := Int) (fun x5 w again6 =>
      cond (decide (x5 < r4))
        (nilS r1 fun a7 =>
        semS Try.prog (Instr.loadAt 68 (.pointer (some (a7.add 1)))) (.one .mp) (fun x8 w =>
        semS Try.prog (Instr.lookup 68 (.map x8) (.int .i64 (IntKind.wrap .i64 (r3 + x5))) false) (.one .bool) (fun x9 w =>
        cond x9
          (K (⟨none, 0, 0⟩) 41 w)
          (again6 (IntKind.wrap .i64 (x5 + 1)) w)) w) w)
        (nilS p0 fun a10 =>
        semS Try.prog (Instr.loadAt 3 (.pointer (some (a10.add 5)))) (.one (.int .i64)) (fun x11 w =>
        nilS p0 fun a12 =>
        semU Try.prog (Instr.storeAt 3 (.pointer (some (a12.add 5))) (.int .i64 (if 1152921504606846976 < (IntKind.wrap .i64 (x11 + 1)) then 1152921504606846976 else IntKind.wrap .i64 (x11 + 1)))) (fun w =>
        nilS p0 fun a13 =>
        semS Try.prog (Instr.loadAt 3 (.pointer (some (a13.add 6)))) (.one (.int .i64)) (fun x14 w =>
        nilS p0 fun a15 =>
        semU Try.prog (Instr.storeAt 3 (.pointer (some (a15.add 6))) (.int .i64 (if 1152921504606846976 < (IntKind.wrap .i64 (x14 + p3)) then 1152921504606846976 else IntKind.wrap .i64 (x14 + p3)))) (fun w =>
        nilS r1 fun a16 =>
        semS Try.prog (Instr.loadAt 22 (.pointer (some (a16.add 0)))) (.one .slc) (fun x17 w =>
        semS Try.prog (Instr.sliceAt 22 (.slice x17.a x17.len x17.cap) (some (.int .i64 p2)) (some (.int .i64 (IntKind.wrap .i64 (p2 + p3)))) none) (.one .slc) (fun x18 w =>
        callS Try.prog 31 #[(.slice x18.a x18.len x18.cap)] [(.one .slc)] (fun r19 w =>
        K r19 0 w) w) w) w) w) w) w) w)) 0 w) w)) w
theorem f16_ok {p0 : Option Addr} {p1 : ByteArray} {p2 : Int} {p3 : Int} {K : Sl → Int → World → Prop} {w : World} (h : f16 p0 p1 p2 p3 K w) : callS Try.prog 16 #[(.pointer p0), (.string p1), (.int .i64 p2), (.int .i64 p3)] [(.one .slc), (.one (.int .i64))] K w :=
  calls_of_fn (args := [(.pointer p0), (.string p1), (.int .i64 p2), (.int .i64 p3)]) Try.f16 [] [] [] (.two .nil (.two .nil (.two .nil (.two .nil (.two (.two .nil (.one (.loop [(33, (.int .i64))] .nil))) .nil))))) (by kernel_rfl) (by kernel_rfl)
    (Eq.mp (by kernel_rfl : f16 p0 p1 p2 p3 K w = evFn Try.prog Try.f16 [] [] [] (.two .nil (.two .nil (.two .nil (.two .nil (.two (.two .nil (.one (.loop [(33, (.int .i64))] .nil))) .nil))))) [(.pointer p0), (.string p1), (.int .i64 p2), (.int .i64 p3)] [(.one .slc), (.one (.int .i64))] K w) h)

/-- (*sallyport/drive.Drive).Write -/
def f15 (p0 : Option Addr) (p1 : ByteArray) (p2 : Int) (p3 : Sl) (K : Int → World → Prop) (w : World) : Prop :=
  callS Try.prog 29 #[(.pointer p0), (.string p1), (.int .i64 p2), (.int .i64 (p3.len : Int))] [(.one .ptr), (.one (.int .i64))] (fun r1 r2 w =>
  cond (r2 != 0)
    (K r2 w)
    (nilS p0 fun a3 =>
    semS Try.prog (Instr.loadAt 3 (.pointer (some (a3.add 2)))) (.one (.int .i64)) (fun x4 w =>
    cond (x4 != 0)
      (nilS p0 fun a5 =>
      semS Try.prog (Instr.loadAt 3 (.pointer (some (a5.add 2)))) (.one (.int .i64)) (fun x6 w =>
      nilS p0 fun a7 =>
      semU Try.prog (Instr.storeAt 3 (.pointer (some (a7.add 2))) (.int .i64 (if (-1) > (IntKind.wrap .i64 (x6 - 1)) then -1 else IntKind.wrap .i64 (x6 - 1)))) (fun w =>
      nilS r1 fun a8 =>
      semS Try.prog (Instr.loadAt 22 (.pointer (some (a8.add 0)))) (.one .slc) (fun x9 w =>
      semS Try.prog (Instr.sliceAt 22 (.slice x9.a x9.len x9.cap) (some (.int .i64 p2)) none none) (.one .slc) (fun x10 w =>
      semS Try.prog (Builtin.copy_ #[22, 22] 3 #[(.slice x10.a x10.len x10.cap), (.slice p3.a p3.len p3.cap)]) (.one (.int .i64)) (fun r11 w =>
      K 0 w) w) w) w) w) w)
      (callS Try.prog 30 #[(.int .i64 p2), (.int .i64 (p3.len : Int))] [(.one (.int .i64)), (.one (.int .i64))] (fun r12 r13 w =>
      nilS p0 fun a14 =>
      semS Try.prog (Instr.loadAt 50 (.pointer (some (a14.add 3)))) (.one .slc) (fun x15 w =>
      loopS (σ := Int) (fun x16 w again17 =>
        cond (decide (x16 < (if (x15.len : Int) < r13 then (x15.len : Int) else r13)))
          (nilS p0 fun a18 =>
          semS Try.prog (Instr.loadAt 50 (.pointer (some (a18.add 3)))) (.one .slc) (fun x19 w =>
          semS Try.prog (Instr.indexAt 50 (.slice x19.a x19.len x19.cap) (.int .i64 x16)) (.one .adr) (fun x20 w =>
          semS Try.prog (Instr.loadAt 4 (.pointer (some x20))) (.one .bool) (fun x21 w =>
          cond x21
            (drawS w fun C w =>
            nilS r1 fun a22 =>
            semQ Try.prog C (Instr.loadAt 22 (.pointer (some (a22.add 0)))) (.one .slc) (fun x23 =>
            semQ Try.prog C (Instr.sliceAt 22 (.slice x23.a x23.len x23.cap) (some (.int .i64 (if (IntKind.wrap .i64 ((IntKind.wrap .i64 (r12 + x16)) * 64)) > p2 then IntKind.wrap .i64 ((IntKind.wrap .i64 (r12 + x16)) * 64) else p2))) (some (.int .i64 (if (IntKind.wrap .i64 ((IntKind.wrap .i64 ((IntKind.wrap .i64 (r12 + x16)) + 1)) * 64)) < (IntKind.wrap .i64 (p2 + (p3.len : Int))) then IntKind.wrap .i64 ((IntKind.wrap .i64 ((IntKind.wrap .i64 (r12 + x16)) + 1)) * 64) else IntKind.wrap .i64 (p2 + (p3.len : Int))))) none) (.one .slc) (fun x24 =>
            semQ Try.prog C (Instr.sliceAt 22 (.slice p3.a p3.len p3.cap) (some (.int .i64 (IntKind.wrap .i64 ((if (IntKind.wrap .i64 ((IntKind.wrap .i64 (r12 + x16)) * 64)) > p2 then IntKind.wrap .i64 ((IntKind.wrap .i64 (r12 + x16)) * 64) else p2) - p2)))) none none) (.one .slc) (fun x25 =>
            semS Try.prog (Builtin.copy_ #[22, 22] 3 #[(.slice x24.a x24.len x24.cap), (.slice x25.a x25.len x25.cap)]) (.one (.int .i64)) (fun r26 w =>
            again17 (IntKind.wrap .i64 (x16 + 1)) w) w))))
            (again17 (IntKind.wrap .i64 (x16 + 1)) w)) w) w) w)
          (nilS p0 fun a27 =>
          semU Try.prog (Instr.storeAt 4 (.pointer (some (a27.add 4))) (.bool true)) (fun w =>
          K 42 w) w)) 0 w) w) w)) w)) w
theorem f15_ok {p0 : Option Addr} {p1 : ByteArray} {p2 : Int} {p3 : Sl} {K : Int → World → Prop} {w : World} (h : f15 p0 p1 p2 p3 K w) : callS Try.prog 15 #[(.pointer p0), (.string p1), (.int .i64 p2), (.slice p3.a p3.len p3.cap)] [(.one (.int .i64))] K w :=
  calls_of_fn (args := [(.pointer p0), (.string p1), (.int .i64 p2), (.slice p3.a p3.len p3.cap)]) Try.f15 [] [] [] (.two .nil (.two .nil (.two .nil (.two .nil (.two .nil (.two (.two .nil (.one (.loop [(64, (.int .i64))] (.two .nil (.two .nil (.two (.one (.two .nil (.two .nil (.two (.two .nil (.draw [0, 1, 3, 7, 0, 0, 63, 0, 0, 0, 768, 1920, 4095])) .nil)))) .nil)))))) .nil)))))) (by kernel_rfl) (by kernel_rfl)
    (Eq.mp (by kernel_rfl : f15 p0 p1 p2 p3 K w = evFn Try.prog Try.f15 [] [] [] (.two .nil (.two .nil (.two .nil (.two .nil (.two .nil (.two (.two .nil (.one (.loop [(64, (.int .i64))] (.two .nil (.two .nil (.two (.one (.two .nil (.two .nil (.two (.two .nil (.draw [0, 1, 3, 7, 0, 0, 63, 0, 0, 0, 768, 1920, 4095])) .nil)))) .nil)))))) .nil)))))) [(.pointer p0), (.string p1), (.int .i64 p2), (.slice p3.a p3.len p3.cap)] [(.one (.int .i64))] K w) h)

/-- sallyport/span.Put -/
def f39 (p0 : Sl) (p1 : Int) (p2 : Int) (K : Sl → Int → World → Prop) (w : World) : Prop :=
  cond ((decide (p1 < 1)) || (decide (p1 > 8)))
    (K (⟨none, 0, 0⟩) 12 w)
    (joinS (σ := Bool) (fun b1 w =>
      cond b1
        (K (⟨none, 0, 0⟩) 11 w)
        (callS Try.prog 31 #[(.slice p0.a p0.len p0.cap)] [(.one .slc)] (fun r3 w =>
        loopS (σ := Sl × Int) (fun s4 w again5 =>
          cond (decide (s4.2 ≥ 0))
            (semS Try.prog (binS .shr 3 (.tmp 40) (.tmp 42) (.int .i64 p2) (.int .i64 (IntKind.wrap .i64 (8 * s4.2)))) (.one (.int .i64)) (fun x6 w =>
            semS Try.prog (Instr.buildSlice 22 1 #[(0, (.int .u8 (IntKind.wrap .u8 x6)))]) (.one .slc) (fun x7 w =>
            semS Try.prog (Builtin.append_ #[22, 22] 22 #[(.slice s4.1.a s4.1.len s4.1.cap), (.slice x7.a x7.len x7.cap)]) (.one .slc) (fun r8 w =>
            again5 (r8, IntKind.wrap .i64 (s4.2 - 1)) w) w) w) w)
            (K s4.1 0 w)) (r3, IntKind.wrap .i64 (p1 - 1)) w) w)) fun J2 =>
    cond (decide (p2 < 0))
      (J2 true w)
      (joinS (σ := Bool) (fun b9 w =>
          J2 b9 w) fun J10 =>
        cond (decide (p1 < 8))
          (semS Try.prog (binS .shr 3 (.tmp 24) (.tmp 26) (.int .i64 p2) (.int .i64 (IntKind.wrap .i64 (8 * p1)))) (.one (.int .i64)) (fun x11 w =>
            J10 (x11 != 0) w) w)
          (J10 false w)))
theorem f39_ok {p0 : Sl} {p1 : Int} {p2 : Int} {K : Sl → Int → World → Prop} {w : World} (h : f39 p0 p1 p2 K w) : callS Try.prog 39 #[(.slice p0.a p0.len p0.cap), (.int .i64 p1), (.int .i64 p2)] [(.one .slc), (.one (.int .i64))] K w :=
  calls_of_fn (args := [(.slice p0.a p0.len p0.cap), (.int .i64 p1), (.int .i64 p2)]) Try.f39 [] [] [] (.two .nil (.two .nil (.two .nil (.two (.two .nil (.one (.loop [(8, .slc), (9, (.int .i64))] .nil))) .nil)))) (by kernel_rfl) (by kernel_rfl)
    (Eq.mp (by kernel_rfl : f39 p0 p1 p2 K w = evFn Try.prog Try.f39 [] [] [] (.two .nil (.two .nil (.two .nil (.two (.two .nil (.one (.loop [(8, .slc), (9, (.int .i64))] .nil))) .nil)))) [(.slice p0.a p0.len p0.cap), (.int .i64 p1), (.int .i64 p2)] [(.one .slc), (.one (.int .i64))] K w) h)

/-- sallyport/span.Align -/
def f33 (p0 : Int) (p1 : Int) (K : Int → Int → World → Prop) (w : World) : Prop :=
  cond (((decide (p0 < 0)) || (decide (p1 < 1))) || (decide (p1 > 65536)))
    (K 0 12 w)
    (cond (decide (p0 > 4611686018427387904))
      (K 0 11 w)
      (semS Try.prog (binS .quo 3 (.tmp 24) (.tmp 25) (.int .i64 (IntKind.wrap .i64 ((IntKind.wrap .i64 (p0 + p1)) - 1))) (.int .i64 p1)) (.one (.int .i64)) (fun x1 w =>
      cond (decide ((IntKind.wrap .i64 (x1 * p1)) ≤ 4611686018427387904))
        (K (IntKind.wrap .i64 (x1 * p1)) 0 w)
        (K 0 11 w)) w))
theorem f33_ok {p0 : Int} {p1 : Int} {K : Int → Int → World → Prop} {w : World} (h : f33 p0 p1 K w) : callS Try.prog 33 #[(.int .i64 p0), (.int .i64 p1)] [(.one (.int .i64)), (.one (.int .i64))] K w :=
  calls_of_fn (args := [(.int .i64 p0), (.int .i64 p1)]) Try.f33 [] [] [] .nil (by kernel_rfl) (by kernel_rfl)
    (Eq.mp (by kernel_rfl : f33 p0 p1 K w = evFn Try.prog Try.f33 [] [] [] .nil [(.int .i64 p0), (.int .i64 p1)] [(.one (.int .i64)), (.one (.int .i64))] K w) h)

/-- sallyport/span.Pad -/
def f40 (p0 : Sl) (p1 : Int) (K : Sl → Int → World → Prop) (w : World) : Prop :=
  callS Try.prog 33 #[(.int .i64 (p0.len : Int)), (.int .i64 p1)] [(.one (.int .i64)), (.one (.int .i64))] (fun r1 r2 w =>
  cond (r2 != 0)
    (K (⟨none, 0, 0⟩) r2 w)
    (callS Try.prog 31 #[(.slice p0.a p0.len p0.cap)] [(.one .slc)] (fun r3 w =>
    semS Try.prog (Builtin.append_ #[22, 3] 22 #[(.slice r3.a r3.len r3.cap), (.int .i64 (IntKind.wrap .i64 (r1 - (p0.len : Int))))]) (.one .slc) (fun r4 w =>
    K r4 0 w) w) w)) w
theorem f40_ok {p0 : Sl} {p1 : Int} {K : Sl → Int → World → Prop} {w : World} (h : f40 p0 p1 K w) : callS Try.prog 40 #[(.slice p0.a p0.len p0.cap), (.int .i64 p1)] [(.one .slc), (.one (.int .i64))] K w :=
  calls_of_fn (args := [(.slice p0.a p0.len p0.cap), (.int .i64 p1)]) Try.f40 [] [] [] .nil (by kernel_rfl) (by kernel_rfl)
    (Eq.mp (by kernel_rfl : f40 p0 p1 K w = evFn Try.prog Try.f40 [] [] [] .nil [(.slice p0.a p0.len p0.cap), (.int .i64 p1)] [(.one .slc), (.one (.int .i64))] K w) h)

/-- (sallyport/tail.Tail).bytes -/
def f27 (p0_0 : Int) (p0_1 : Int) (p0_2 : Int) (K : Sl → World → Prop) (w : World) : Prop :=
  semS Try.prog (Instr.box 25 (.agg #[(.int .i64 p0_0), (.int .i64 p0_1), (.int .i64 p0_2)])) (.one .adr) (fun x1 w =>
  semS Try.prog (Instr.buildSlice 22 4 #[(0, (.int .u8 65)), (1, (.int .u8 86)), (2, (.int .u8 66)), (3, (.int .u8 102))]) (.one .slc) (fun x2 w =>
  semS Try.prog (convert 22 22 (.slice x2.a x2.len x2.cap)) (.one .slc) (fun x3 w =>
  semS Try.prog (Instr.loadAt 3 (.pointer (some (x1.add 0)))) (.one (.int .i64)) (fun x4 w =>
  semS Try.prog (Instr.loadAt 3 (.pointer (some (x1.add 1)))) (.one (.int .i64)) (fun x5 w =>
  semS Try.prog (Instr.loadAt 3 (.pointer (some (x1.add 2)))) (.one (.int .i64)) (fun x6 w =>
  semS Try.prog (Instr.buildSlice 83 4 #[(0, (.agg #[(.int .i64 4), (.int .i64 1)])), (1, (.agg #[(.int .i64 8), (.int .i64 x4)])), (2, (.agg #[(.int .i64 8), (.int .i64 x5)])), (3, (.agg #[(.int .i64 8), (.int .i64 x6)]))]) (.one .slc) (fun x7 w =>
  loopS (σ := Sl × Int) (fun s8 w again9 =>
    cond (decide (s8.2 < (x7.len : Int)))
      (semS Try.prog (Instr.indexAt 83 (.slice x7.a x7.len x7.cap) (.int .i64 s8.2)) (.one .adr) (fun x10 w =>
      semS Try.prog (Instr.loadAt 82 (.pointer (some x10))) (.agg [(.int .i64), (.int .i64)]) (fun x11 x12 w =>
      semS Try.prog (Instr.alloc 82 true (.tuple #[])) (.one .adr) (fun x13 w =>
      semU Try.prog (Instr.storeAt 82 (.pointer (some x13)) (.agg #[(.int .i64 x11), (.int .i64 x12)])) (fun w =>
      semS Try.prog (Instr.indexAt 82 (.pointer (some x13)) (.int .i64 0)) (.one .adr) (fun x14 w =>
      semS Try.prog (Instr.loadAt 3 (.pointer (some x14))) (.one (.int .i64)) (fun x15 w =>
      semS Try.prog (Instr.indexAt 82 (.pointer (some x13)) (.int .i64 1)) (.one .adr) (fun x16 w =>
      semS Try.prog (Instr.loadAt 3 (.pointer (some x16))) (.one (.int .i64)) (fun x17 w =>
      callS Try.prog 39 #[(.slice s8.1.a s8.1.len s8.1.cap), (.int .i64 x15), (.int .i64 x17)] [(.one .slc), (.one (.int .i64))] (fun r18 r19 w =>
      again9 (r18, IntKind.wrap .i64 (s8.2 + 1)) w) w) w) w) w) w) w) w) w) w)
      (callS Try.prog 40 #[(.slice s8.1.a s8.1.len s8.1.cap), (.int .i64 64)] [(.one .slc), (.one (.int .i64))] (fun r20 r21 w =>
      K r20 w) w)) (x3, 0) w) w) w) w) w) w) w) w
theorem f27_ok {p0_0 : Int} {p0_1 : Int} {p0_2 : Int} {K : Sl → World → Prop} {w : World} (h : f27 p0_0 p0_1 p0_2 K w) : callS Try.prog 27 #[(.agg #[(.int .i64 p0_0), (.int .i64 p0_1), (.int .i64 p0_2)])] [(.one .slc)] K w :=
  calls_of_fn (args := [(.agg #[(.int .i64 p0_0), (.int .i64 p0_1), (.int .i64 p0_2)])]) Try.f27 [] [] [] (.two .nil (.two .nil (.two (.two .nil (.one (.loop [(3, .slc), (20, (.int .i64))] .nil))) .nil))) (by kernel_rfl) (by kernel_rfl)
    (Eq.mp (by kernel_rfl : f27 p0_0 p0_1 p0_2 K w = evFn Try.prog Try.f27 [] [] [] (.two .nil (.two .nil (.two (.two .nil (.one (.loop [(3, .slc), (20, (.int .i64))] .nil))) .nil))) [(.agg #[(.int .i64 p0_0), (.int .i64 p0_1), (.int .i64 p0_2)])] [(.one .slc)] K w) h)

/-- (*sallyport/drive.Drive).Size -/
def f32 (p0 : Option Addr) (p1 : ByteArray) (K : Int → Int → World → Prop) (w : World) : Prop :=
  nilS p0 fun a1 =>
  semS Try.prog (Instr.loadAt 65 (.pointer (some (a1.add 1)))) (.one .mp) (fun x2 w =>
  semS Try.prog (Instr.lookup 65 (.map x2) (.string p1) false) (.one .ptr) (fun x3 w =>
  semS Try.prog (binS .neq 62 (.tmp 13) (.const (Go.Value.pointer none)) (.pointer x3) (.pointer none)) (.one .bool) (fun x4 w =>
  cond x4
    (nilS x3 fun a5 =>
    semS Try.prog (Instr.loadAt 22 (.pointer (some (a5.add 0)))) (.one .slc) (fun x6 w =>
    K (x6.len : Int) 0 w) w)
    (K 0 40 w)) w) w) w
theorem f32_ok {p0 : Option Addr} {p1 : ByteArray} {K : Int → Int → World → Prop} {w : World} (h : f32 p0 p1 K w) : callS Try.prog 32 #[(.pointer p0), (.string p1)] [(.one (.int .i64)), (.one (.int .i64))] K w :=
  calls_of_fn (args := [(.pointer p0), (.string p1)]) Try.f32 [] [] [] .nil (by kernel_rfl) (by kernel_rfl)
    (Eq.mp (by kernel_rfl : f32 p0 p1 K w = evFn Try.prog Try.f32 [] [] [] .nil [(.pointer p0), (.string p1)] [(.one (.int .i64)), (.one (.int .i64))] K w) h)

/-- sallyport/tail.Store -/
def f17 (p0 : Option Addr) (p1 : ByteArray) (p2 : Int) (p3 : Sl) (K : Int → World → Prop) (w : World) : Prop :=
  callS Try.prog 32 #[(.pointer p0), (.string p1)] [(.one (.int .i64)), (.one (.int .i64))] (fun r1 r2 w =>
  cond (r2 != 0)
    (K r2 w)
    (cond (((decide (p2 < 0)) || (decide ((p3.len : Int) < 1))) || (decide ((p3.len : Int) > 65536)))
      (K 12 w)
      (callS Try.prog 33 #[(.int .i64 p2), (.int .i64 64)] [(.one (.int .i64)), (.one (.int .i64))] (fun r3 r4 w =>
      joinS (σ := Bool) (fun b5 w =>
        cond b5
          (K 43 w)
          (callS Try.prog 15 #[(.pointer p0), (.string p1), (.int .i64 r3), (.slice p3.a p3.len p3.cap)] [(.one (.int .i64))] (fun r7 w =>
          cond (r7 != 0)
            (K r7 w)
            (callS Try.prog 27 #[(.agg #[(.int .i64 p2), (.int .i64 r3), (.int .i64 (p3.len : Int))])] [(.one .slc)] (fun r8 w =>
            callS Try.prog 15 #[(.pointer p0), (.string p1), (.int .i64 (IntKind.wrap .i64 (r1 - 64))), (.slice r8.a r8.len r8.cap)] [(.one (.int .i64))] (fun r9 w =>
            K r9 w) w) w)) w)) fun J6 =>
      cond (r4 != 0)
        (J6 true w)
        (callS Try.prog 34 #[(.int .i64 r3), (.int .i64 (p3.len : Int)), (.int .i64 (IntKind.wrap .i64 (r1 - 64)))] [(.one .bool)] (fun r10 w =>
          J6 (!r10) w) w)) w))) w
theorem f17_ok {p0 : Option Addr} {p1 : ByteArray} {p2 : Int} {p3 : Sl} {K : Int → World → Prop} {w : World} (h : f17 p0 p1 p2 p3 K w) : callS Try.prog 17 #[(.pointer p0), (.string p1), (.int .i64 p2), (.slice p3.a p3.len p3.cap)] [(.one (.int .i64))] K w :=
  calls_of_fn (args := [(.pointer p0), (.string p1), (.int .i64 p2), (.slice p3.a p3.len p3.cap)]) Try.f17 [] [] [] .nil (by kernel_rfl) (by kernel_rfl)
    (Eq.mp (by kernel_rfl : f17 p0 p1 p2 p3 K w = evFn Try.prog Try.f17 [] [] [] .nil [(.pointer p0), (.string p1), (.int .i64 p2), (.slice p3.a p3.len p3.cap)] [(.one (.int .i64))] K w) h)

/-- (sallyport/tail.Tail).Right -/
def f23 (p0_0 : Int) (p0_1 : Int) (p0_2 : Int) (K : Bool → World → Prop) (w : World) : Prop :=
  semS Try.prog (Instr.box 25 (.agg #[(.int .i64 p0_0), (.int .i64 p0_1), (.int .i64 p0_2)])) (.one .adr) (fun x1 w =>
  semS Try.prog (Instr.loadAt 3 (.pointer (some (x1.add 0)))) (.one (.int .i64)) (fun x2 w =>
  joinS (σ := Bool) (fun b3 w =>
    joinS (σ := Bool) (fun b5 w =>
      joinS (σ := Bool) (fun b7 w =>
        joinS (σ := Bool) (fun b9 w =>
          joinS (σ := Bool) (fun b11 w =>
            joinS (σ := Bool) (fun b13 w =>
              K b13 w) fun J14 =>
            cond b11
              (semS Try.prog (Instr.loadAt 3 (.pointer (some (x1.add 2)))) (.one (.int .i64)) (fun x15 w =>
                J14 (decide (x15 ≤ 65536)) w) w)
              (J14 false w)) fun J12 =>
          cond b9
            (semS Try.prog (Instr.loadAt 3 (.pointer (some (x1.add 2)))) (.one (.int .i64)) (fun x16 w =>
              J12 (decide (x16 ≥ 1)) w) w)
            (J12 false w)) fun J10 =>
        cond b7
          (semS Try.prog (Instr.loadAt 3 (.pointer (some (x1.add 1)))) (.one (.int .i64)) (fun x17 w =>
            J10 (decide (x17 ≤ 1099511627776)) w) w)
          (J10 false w)) fun J8 =>
      cond b5
        (semS Try.prog (Instr.loadAt 3 (.pointer (some (x1.add 1)))) (.one (.int .i64)) (fun x18 w =>
          semS Try.prog (Instr.loadAt 3 (.pointer (some (x1.add 0)))) (.one (.int .i64)) (fun x19 w =>
          J8 (decide (x18 ≥ x19)) w) w) w)
        (J8 false w)) fun J6 =>
    cond b3
      (semS Try.prog (Instr.loadAt 3 (.pointer (some (x1.add 1)))) (.one (.int .i64)) (fun x20 w =>
        J6 ((Int.tmod x20 64) == 0) w) w)
      (J6 false w)) fun J4 =>
  cond (decide (x2 ≥ 0))
    (semS Try.prog (Instr.loadAt 3 (.pointer (some (x1.add 0)))) (.one (.int .i64)) (fun x21 w =>
      J4 (decide (x21 ≤ 1099511627776)) w) w)
    (J4 false w)) w) w
theorem f23_ok {p0_0 : Int} {p0_1 : Int} {p0_2 : Int} {K : Bool → World → Prop} {w : World} (h : f23 p0_0 p0_1 p0_2 K w) : callS Try.prog 23 #[(.agg #[(.int .i64 p0_0), (.int .i64 p0_1), (.int .i64 p0_2)])] [(.one .bool)] K w :=
  calls_of_fn (args := [(.agg #[(.int .i64 p0_0), (.int .i64 p0_1), (.int .i64 p0_2)])]) Try.f23 [] [] [] .nil (by kernel_rfl) (by kernel_rfl)
    (Eq.mp (by kernel_rfl : f23 p0_0 p0_1 p0_2 K w = evFn Try.prog Try.f23 [] [] [] .nil [(.agg #[(.int .i64 p0_0), (.int .i64 p0_1), (.int .i64 p0_2)])] [(.one .bool)] K w) h)

/-- sallyport/span.Get -/
def f25 (p0 : Sl) (p1 : Int) (p2 : Int) (K : Int → Int → World → Prop) (w : World) : Prop :=
  cond ((decide (p2 < 1)) || (decide (p2 > 8)))
    (K 0 12 w)
    (callS Try.prog 34 #[(.int .i64 p1), (.int .i64 p2), (.int .i64 (p0.len : Int))] [(.one .bool)] (fun r1 w =>
    cond (!r1)
      (K 0 10 w)
      (semS Try.prog (Instr.sliceAt 22 (.slice p0.a p0.len p0.cap) (some (.int .i64 p1)) (some (.int .i64 (IntKind.wrap .i64 (p1 + p2)))) none) (.one .slc) (fun x2 w =>
      loopS (σ := Int × Int) (fun s3 w again4 =>
        cond (decide (s3.2 < (x2.len : Int)))
          (semS Try.prog (Instr.indexAt 22 (.slice x2.a x2.len x2.cap) (.int .i64 s3.2)) (.one .adr) (fun x5 w =>
          semS Try.prog (Instr.loadAt 5 (.pointer (some x5))) (.one (.int .u8)) (fun x6 w =>
          again4 (orI .u64 (shlI .u64 s3.1 8) (IntKind.wrap .u64 x6), IntKind.wrap .i64 (s3.2 + 1)) w) w) w)
          (cond ((shrI .u64 s3.1 63) == 1)
            (K 0 11 w)
            (K (IntKind.wrap .i64 s3.1) 0 w))) (0, 0) w) w)) w)
theorem f25_ok {p0 : Sl} {p1 : Int} {p2 : Int} {K : Int → Int → World → Prop} {w : World} (h : f25 p0 p1 p2 K w) : callS Try.prog 25 #[(.slice p0.a p0.len p0.cap), (.int .i64 p1), (.int .i64 p2)] [(.one (.int .i64)), (.one (.int .i64))] K w :=
  calls_of_fn (args := [(.slice p0.a p0.len p0.cap), (.int .i64 p1), (.int .i64 p2)]) Try.f25 [] [] [] (.two .nil (.two .nil (.two .nil (.two (.two .nil (.one (.loop [(8, (.int .u64)), (32, (.int .i64))] .nil))) .nil)))) (by kernel_rfl) (by kernel_rfl)
    (Eq.mp (by kernel_rfl : f25 p0 p1 p2 K w = evFn Try.prog Try.f25 [] [] [] (.two .nil (.two .nil (.two .nil (.two (.two .nil (.one (.loop [(8, (.int .u64)), (32, (.int .i64))] .nil))) .nil)))) [(.slice p0.a p0.len p0.cap), (.int .i64 p1), (.int .i64 p2)] [(.one (.int .i64)), (.one (.int .i64))] K w) h)

/-- bytes.Equal -/
def f26 (p0 : Sl) (p1 : Sl) (K : Bool → World → Prop) (w : World) : Prop :=
  semS Try.prog (convert 22 9 (.slice p0.a p0.len p0.cap)) (.one .str) (fun x1 w =>
  semS Try.prog (convert 22 9 (.slice p1.a p1.len p1.cap)) (.one .str) (fun x2 w =>
  K (x1.toList == x2.toList) w) w) w
theorem f26_ok {p0 : Sl} {p1 : Sl} {K : Bool → World → Prop} {w : World} (h : f26 p0 p1 K w) : callS Try.prog 26 #[(.slice p0.a p0.len p0.cap), (.slice p1.a p1.len p1.cap)] [(.one .bool)] K w :=
  calls_of_fn (args := [(.slice p0.a p0.len p0.cap), (.slice p1.a p1.len p1.cap)]) Try.f26 [] [] [] .nil (by kernel_rfl) (by kernel_rfl)
    (Eq.mp (by kernel_rfl : f26 p0 p1 K w = evFn Try.prog Try.f26 [] [] [] .nil [(.slice p0.a p0.len p0.cap), (.slice p1.a p1.len p1.cap)] [(.one .bool)] K w) h)

/-- sallyport/tail.Parse -/
def f10 (p0 : Sl) (K : Int → Int → Int → Int → World → Prop) (w : World) : Prop :=
  semS Try.prog (Instr.alloc 25 true (.tuple #[])) (.one .adr) (fun x1 w =>
  cond ((p0.len : Int) != 64)
    (semU Try.prog (Instr.storeAt 25 (.pointer (some x1)) (.agg #[(.int .i64 0), (.int .i64 0), (.int .i64 0)])) (fun w =>
    ∃ v2, (loadVar 25 x1).run Try.prog w = .ok v2 w ∧ decR [(.agg [(.int .i64), (.int .i64), (.int .i64)]), (.one (.int .i64))] (.tuple #[v2, (.int .i64 10)]) K fun r => r w) w)
    (semS Try.prog (Instr.sliceAt 22 (.slice p0.a p0.len p0.cap) none (some (.int .i64 4)) none) (.one .slc) (fun x3 w =>
    semS Try.prog (convert 22 9 (.slice x3.a x3.len x3.cap)) (.one .str) (fun x4 w =>
    cond (!(x4.toList == (ByteArray.mk #[65, 86, 66, 102]).toList))
      (semU Try.prog (Instr.storeAt 25 (.pointer (some x1)) (.agg #[(.int .i64 0), (.int .i64 0), (.int .i64 0)])) (fun w =>
      ∃ v5, (loadVar 25 x1).run Try.prog w = .ok v5 w ∧ decR [(.agg [(.int .i64), (.int .i64), (.int .i64)]), (.one (.int .i64))] (.tuple #[v5, (.int .i64 30)]) K fun r => r w) w)
      (callS Try.prog 25 #[(.slice p0.a p0.len p0.cap), (.int .i64 4), (.int .i64 4)] [(.one (.int .i64)), (.one (.int .i64))] (fun r6 r7 w =>
      cond (r6 != 1)
        (semU Try.prog (Instr.storeAt 25 (.pointer (some x1)) (.agg #[(.int .i64 0), (.int .i64 0), (.int .i64 0)])) (fun w =>
        ∃ v8, (loadVar 25 x1).run Try.prog w = .ok v8 w ∧ decR [(.agg [(.int .i64), (.int .i64), (.int .i64)]), (.one (.int .i64))] (.tuple #[v8, (.int .i64 31)]) K fun r => r w) w)
        (semS Try.prog (Instr.alloc 58 true (.tuple #[])) (.one .adr) (fun x9 w =>
        loopS (σ := Int) (fun x10 w again11 =>
          cond (decide (x10 < 3))
            (callS Try.prog 25 #[(.slice p0.a p0.len p0.cap), (.int .i64 (IntKind.wrap .i64 (8 + (IntKind.wrap .i64 (8 * x10))))), (.int .i64 8)] [(.one (.int .i64)), (.one (.int .i64))] (fun r12 r13 w =>
            cond (r13 != 0)
              (semU Try.prog (Instr.storeAt 25 (.pointer (some x1)) (.agg #[(.int .i64 0), (.int .i64 0), (.int .i64 0)])) (fun w =>
              ∃ v14, (loadVar 25 x1).run Try.prog w = .ok v14 w ∧ decR [(.agg [(.int .i64), (.int .i64), (.int .i64)]), (.one (.int .i64))] (.tuple #[v14, (.int .i64 12)]) K fun r => r w) w)
              (semS Try.prog (Instr.indexAt 58 (.pointer (some x9)) (.int .i64 x10)) (.one .adr) (fun x15 w =>
              semU Try.prog (Instr.storeAt 3 (.pointer (some x15)) (.int .i64 r12)) (fun w =>
              again11 (IntKind.wrap .i64 (x10 + 1)) w) w) w)) w)
            (semS Try.prog (Instr.indexAt 58 (.pointer (some x9)) (.int .i64 0)) (.one .adr) (fun x16 w =>
            semS Try.prog (Instr.loadAt 3 (.pointer (some x16))) (.one (.int .i64)) (fun x17 w =>
            semS Try.prog (Instr.indexAt 58 (.pointer (some x9)) (.int .i64 1)) (.one .adr) (fun x18 w =>
            semS Try.prog (Instr.loadAt 3 (.pointer (some x18))) (.one (.int .i64)) (fun x19 w =>
            semS Try.prog (Instr.indexAt 58 (.pointer (some x9)) (.int .i64 2)) (.one .adr) (fun x20 w =>
            semS Try.prog (Instr.loadAt 3 (.pointer (some x20))) (.one (.int .i64)) (fun x21 w =>
            semS Try.prog (Instr.alloc 25 true (.tuple #[])) (.one .adr) (fun x22 w =>
            semU Try.prog (Instr.storeAt 25 (.pointer (some x22)) (.agg #[(.int .i64 x17), (.int .i64 x19), (.int .i64 x21)])) (fun w =>
            semS Try.prog (Instr.loadAt 25 (.pointer (some x22))) (.agg [(.int .i64), (.int .i64), (.int .i64)]) (fun x23 x24 x25 w =>
            callS Try.prog 23 #[(.agg #[(.int .i64 x23), (.int .i64 x24), (.int .i64 x25)])] [(.one .bool)] (fun r26 w =>
            joinS (σ := Bool) (fun b27 w =>
              cond b27
                (semU Try.prog (Instr.storeAt 25 (.pointer (some x1)) (.agg #[(.int .i64 0), (.int .i64 0), (.int .i64 0)])) (fun w =>
                ∃ v29, (loadVar 25 x1).run Try.prog w = .ok v29 w ∧ decR [(.agg [(.int .i64), (.int .i64), (.int .i64)]), (.one (.int .i64))] (.tuple #[v29, (.int .i64 12)]) K fun r => r w) w)
                (semS Try.prog (Instr.loadAt 25 (.pointer (some x22))) (.agg [(.int .i64), (.int .i64), (.int .i64)]) (fun x30 x31 x32 w =>
                semU Try.prog (Instr.storeAt 25 (.pointer (some x1)) (.agg #[(.int .i64 x30), (.int .i64 x31), (.int .i64 x32)])) (fun w =>
                ∃ v33, (loadVar 25 x1).run Try.prog w = .ok v33 w ∧ decR [(.agg [(.int .i64), (.int .i64), (.int .i64)]), (.one (.int .i64))] (.tuple #[v33, (.int .i64 0)]) K fun r => r w) w) w)) fun J28 =>
            cond (!r26)
              (J28 true w)
              (semS Try.prog (Instr.loadAt 25 (.pointer (some x22))) (.agg [(.int .i64), (.int .i64), (.int .i64)]) (fun x34 x35 x36 w =>
                callS Try.prog 27 #[(.agg #[(.int .i64 x34), (.int .i64 x35), (.int .i64 x36)])] [(.one .slc)] (fun r37 w =>
                callS Try.prog 26 #[(.slice r37.a r37.len r37.cap), (.slice p0.a p0.len p0.cap)] [(.one .bool)] (fun r38 w =>
                J28 (!r38) w) w) w) w)) w) w) w) w) w) w) w) w) w) w)) 0 w) w)) w)) w) w)) w
theorem f10_ok {p0 : Sl} {K : Int → Int → Int → Int → World → Prop} {w : World} (h : f10 p0 K w) : callS Try.prog 10 #[(.slice p0.a p0.len p0.cap)] [(.agg [(.int .i64), (.int .i64), (.int .i64)]), (.one (.int .i64))] K w :=
  calls_of_fn (args := [(.slice p0.a p0.len p0.cap)]) Try.f10 [] [] [] (.two .nil (.two .nil (.two .nil (.two .nil (.two (.two .nil (.one (.loop [(30, (.int .i64))] .nil))) .nil))))) (by kernel_rfl) (by kernel_rfl)
    (Eq.mp (by kernel_rfl : f10 p0 K w = evFn Try.prog Try.f10 [] [] [] (.two .nil (.two .nil (.two .nil (.two .nil (.two (.two .nil (.one (.loop [(30, (.int .i64))] .nil))) .nil))))) [(.slice p0.a p0.len p0.cap)] [(.agg [(.int .i64), (.int .i64), (.int .i64)]), (.one (.int .i64))] K w) h)

/-- (*sallyport/drive.Drive).Down -/
def f35 (p0 : Option Addr) (K : Bool → World → Prop) (w : World) : Prop :=
  nilS p0 fun a1 =>
  semS Try.prog (Instr.loadAt 4 (.pointer (some (a1.add 4)))) (.one .bool) (fun x2 w =>
  K x2 w) w
theorem f35_ok {p0 : Option Addr} {K : Bool → World → Prop} {w : World} (h : f35 p0 K w) : callS Try.prog 35 #[(.pointer p0)] [(.one .bool)] K w :=
  calls_of_fn (args := [(.pointer p0)]) Try.f35 [] [] [] .nil (by kernel_rfl) (by kernel_rfl)
    (Eq.mp (by kernel_rfl : f35 p0 K w = evFn Try.prog Try.f35 [] [] [] .nil [(.pointer p0)] [(.one .bool)] K w) h)

/-- sallyport/tail.Load -/
def f18 (p0 : Option Addr) (p1 : ByteArray) (K : Sl → Int → Int → Int → Int → World → Prop) (w : World) : Prop :=
  semS Try.prog (Instr.alloc 25 true (.tuple #[])) (.one .adr) (fun x1 w =>
  callS Try.prog 32 #[(.pointer p0), (.string p1)] [(.one (.int .i64)), (.one (.int .i64))] (fun r2 r3 w =>
  joinS (σ := Bool) (fun b4 w =>
    cond b4
      (semU Try.prog (Instr.storeAt 25 (.pointer (some x1)) (.agg #[(.int .i64 0), (.int .i64 0), (.int .i64 0)])) (fun w =>
      ∃ v6, (loadVar 25 x1).run Try.prog w = .ok v6 w ∧ decR [(.one .slc), (.agg [(.int .i64), (.int .i64), (.int .i64)]), (.one (.int .i64))] (.tuple #[(.slice none 0 0), v6, (.int .i64 r3)]) K fun r => r w) w)
      (callS Try.prog 16 #[(.pointer p0), (.string p1), (.int .i64 (IntKind.wrap .i64 (r2 - 64))), (.int .i64 64)] [(.one .slc), (.one (.int .i64))] (fun r7 r8 w =>
      cond (r8 != 0)
        (semU Try.prog (Instr.storeAt 25 (.pointer (some x1)) (.agg #[(.int .i64 0), (.int .i64 0), (.int .i64 0)])) (fun w =>
        ∃ v9, (loadVar 25 x1).run Try.prog w = .ok v9 w ∧ decR [(.one .slc), (.agg [(.int .i64), (.int .i64), (.int .i64)]), (.one (.int .i64))] (.tuple #[(.slice none 0 0), v9, (.int .i64 r8)]) K fun r => r w) w)
        (callS Try.prog 10 #[(.slice r7.a r7.len r7.cap)] [(.agg [(.int .i64), (.int .i64), (.int .i64)]), (.one (.int .i64))] (fun r10 r11 r12 r13 w =>
        semU Try.prog (Instr.storeAt 25 (.pointer (some x1)) (.agg #[(.int .i64 r10), (.int .i64 r11), (.int .i64 r12)])) (fun w =>
        cond (r13 != 0)
          (semU Try.prog (Instr.storeAt 25 (.pointer (some x1)) (.agg #[(.int .i64 0), (.int .i64 0), (.int .i64 0)])) (fun w =>
          ∃ v14, (loadVar 25 x1).run Try.prog w = .ok v14 w ∧ decR [(.one .slc), (.agg [(.int .i64), (.int .i64), (.int .i64)]), (.one (.int .i64))] (.tuple #[(.slice none 0 0), v14, (.int .i64 r13)]) K fun r => r w) w)
          (semS Try.prog (Instr.loadAt 3 (.pointer (some (x1.add 1)))) (.one (.int .i64)) (fun x15 w =>
          semS Try.prog (Instr.loadAt 3 (.pointer (some (x1.add 2)))) (.one (.int .i64)) (fun x16 w =>
          callS Try.prog 34 #[(.int .i64 x15), (.int .i64 x16), (.int .i64 (IntKind.wrap .i64 (r2 - 64)))] [(.one .bool)] (fun r17 w =>
          cond (!r17)
            (semU Try.prog (Instr.storeAt 25 (.pointer (some x1)) (.agg #[(.int .i64 0), (.int .i64 0), (.int .i64 0)])) (fun w =>
            ∃ v18, (loadVar 25 x1).run Try.prog w = .ok v18 w ∧ decR [(.one .slc), (.agg [(.int .i64), (.int .i64), (.int .i64)]), (.one (.int .i64))] (.tuple #[(.slice none 0 0), v18, (.int .i64 13)]) K fun r => r w) w)
            (semS Try.prog (Instr.loadAt 3 (.pointer (some (x1.add 1)))) (.one (.int .i64)) (fun x19 w =>
            semS Try.prog (Instr.loadAt 3 (.pointer (some (x1.add 2)))) (.one (.int .i64)) (fun x20 w =>
            callS Try.prog 16 #[(.pointer p0), (.string p1), (.int .i64 x19), (.int .i64 x20)] [(.one .slc), (.one (.int .i64))] (fun r21 r22 w =>
            cond (r22 != 0)
              (semU Try.prog (Instr.storeAt 25 (.pointer (some x1)) (.agg #[(.int .i64 0), (.int .i64 0), (.int .i64 0)])) (fun w =>
              ∃ v23, (loadVar 25 x1).run Try.prog w = .ok v23 w ∧ decR [(.one .slc), (.agg [(.int .i64), (.int .i64), (.int .i64)]), (.one (.int .i64))] (.tuple #[(.slice none 0 0), v23, (.int .i64 r22)]) K fun r => r w) w)
              (drawS w fun C w =>
              semQ Try.prog C (Instr.loadAt 25 (.pointer (some x1))) (.agg [(.int .i64), (.int .i64), (.int .i64)]) (fun x24 x25 x26 =>
              semU Try.prog (Instr.storeAt 25 (.pointer (some x1)) (.agg #[(.int .i64 x24), (.int .i64 x25), (.int .i64 x26)])) (fun w =>
              ∃ v27, (loadVar 25 x1).run Try.prog w = .ok v27 w ∧ decR [(.one .slc), (.agg [(.int .i64), (.int .i64), (.int .i64)]), (.one (.int .i64))] (.tuple #[(.slice r21.a r21.len r21.cap), v27, (.int .i64 0)]) K fun r => r w) w))) w) w) w)) w) w) w)) w) w)) w)) fun J5 =>
  cond (r3 != 0)
    (callS Try.prog 35 #[(.pointer p0)] [(.one .bool)] (fun r28 w =>
      J5 (!r28) w) w)
    (J5 false w)) w) w
theorem f18_ok {p0 : Option Addr} {p1 : ByteArray} {K : Sl → Int → Int → Int → Int → World → Prop} {w : World} (h : f18 p0 p1 K w) : callS Try.prog 18 #[(.pointer p0), (.string p1)] [(.one .slc), (.agg [(.int .i64), (.int .i64), (.int .i64)]), (.one (.int .i64))] K w :=
  calls_of_fn (args := [(.pointer p0), (.string p1)]) Try.f18 [] [] [] (.two .nil (.two .nil (.two .nil (.two .nil (.two .nil (.two .nil (.two .nil (.two .nil (.two (.draw [0, 0, 1, 7, 15]) .nil))))))))) (by kernel_rfl) (by kernel_rfl)
    (Eq.mp (by kernel_rfl : f18 p0 p1 K w = evFn Try.prog Try.f18 [] [] [] (.two .nil (.two .nil (.two .nil (.two .nil (.two .nil (.two .nil (.two .nil (.two .nil (.two (.draw [0, 0, 1, 7, 15]) .nil))))))))) [(.pointer p0), (.string p1)] [(.one .slc), (.agg [(.int .i64), (.int .i64), (.int .i64)]), (.one (.int .i64))] K w) h)

/-- sallyport/sallyportlaw14.anchor -/
def f9  (K : Bool → World → Prop) (w : World) : Prop :=
  callS Try.prog 14 #[(.int .i64 512)] [(.one .ptr)] (fun r1 w =>
  semS Try.prog (binS .eql 33 (.tmp 8) (.const (Go.Value.pointer none)) (.pointer r1) (.pointer none)) (.one .bool) (fun x2 w =>
  joinS (σ := Bool) (fun b3 w =>
    cond b3
      (K false w)
      (callS Try.prog 18 #[(.pointer r1), (.string (ByteArray.mk #[112]))] [(.one .slc), (.agg [(.int .i64), (.int .i64), (.int .i64)]), (.one (.int .i64))] (fun r5 r6 r7 r8 r9 w =>
      semS Try.prog (Instr.alloc 25 true (.tuple #[])) (.one .adr) (fun x10 w =>
      semU Try.prog (Instr.storeAt 25 (.pointer (some x10)) (.agg #[(.int .i64 r6), (.int .i64 r7), (.int .i64 r8)])) (fun w =>
      callS Try.prog 16 #[(.pointer r1), (.string (ByteArray.mk #[112])), (.int .i64 448), (.int .i64 4)] [(.one .slc), (.one (.int .i64))] (fun r11 r12 w =>
      joinS (σ := Bool) (fun b13 w =>
        joinS (σ := Bool) (fun b15 w =>
          K b15 w) fun J16 =>
        cond (b13 && (r12 == 0))
          (semS Try.prog (convert 22 9 (.slice r11.a r11.len r11.cap)) (.one .str) (fun x17 w =>
            J16 (x17.toList == (ByteArray.mk #[65, 86, 66, 102]).toList) w) w)
          (J16 false w)) fun J14 =>
      cond ((r9 == 0) && ((r5.len : Int) == 100))
        (semS Try.prog (Instr.loadAt 25 (.pointer (some x10))) (.agg [(.int .i64), (.int .i64), (.int .i64)]) (fun x18 x19 x20 w =>
          semS Try.prog (binS .eql 25 (.tmp 35) (.tmp 36) (.agg #[(.int .i64 x18), (.int .i64 x19), (.int .i64 x20)]) (.agg #[(.int .i64 10), (.int .i64 64), (.int .i64 100)])) (.one .bool) (fun x21 w =>
          J14 x21 w) w) w)
        (J14 false w)) w) w) w) w)) fun J4 =>
  cond x2
    (J4 true w)
    (semS Try.prog (Instr.makeSlice 22 (.int .i64 100) (.int .i64 100)) (.one .slc) (fun x22 w =>
      callS Try.prog 17 #[(.pointer r1), (.string (ByteArray.mk #[112])), (.int .i64 10), (.slice x22.a x22.len x22.cap)] [(.one (.int .i64))] (fun r23 w =>
      J4 (r23 != 0) w) w) w)) w) w
theorem f9_ok  {K : Bool → World → Prop} {w : World} (h : f9  K w) : callS Try.prog 9 #[] [(.one .bool)] K w :=
  calls_of_fn (args := []) Try.f9 [] [] [] .nil (by kernel_rfl) (by kernel_rfl)
    (Eq.mp (by kernel_rfl : f9  K w = evFn Try.prog Try.f9 [] [] [] .nil [] [(.one .bool)] K w) h)

/-- sallyport/sallyportref12.Get -/
def f11 (p0 : Sl) (p1 : Int) (p2 : Int) (K : Int → World → Prop) (w : World) : Prop :=
  loopS (σ := Int × Int) (fun s1 w again2 =>
    cond (decide (s1.2 < (IntKind.wrap .i64 (p1 + p2))))
      (cond (decide (s1.1 > 18014398509481984))
        (K (-1) w)
        (semS Try.prog (Instr.indexAt 22 (.slice p0.a p0.len p0.cap) (.int .i64 s1.2)) (.one .adr) (fun x3 w =>
        semS Try.prog (Instr.loadAt 5 (.pointer (some x3))) (.one (.int .u8)) (fun x4 w =>
        again2 (IntKind.wrap .i64 ((IntKind.wrap .i64 (s1.1 * 256)) + (IntKind.wrap .i64 x4)), IntKind.wrap .i64 (s1.2 + 1)) w) w) w))
      (K s1.1 w)) (0, p1) w
theorem f11_ok {p0 : Sl} {p1 : Int} {p2 : Int} {K : Int → World → Prop} {w : World} (h : f11 p0 p1 p2 K w) : callS Try.prog 11 #[(.slice p0.a p0.len p0.cap), (.int .i64 p1), (.int .i64 p2)] [(.one (.int .i64))] K w :=
  calls_of_fn (args := [(.slice p0.a p0.len p0.cap), (.int .i64 p1), (.int .i64 p2)]) Try.f11 [] [] [] (.two .nil (.two .nil (.two (.two .nil (.one (.loop [(7, (.int .i64)), (8, (.int .i64))] .nil))) .nil))) (by kernel_rfl) (by kernel_rfl)
    (Eq.mp (by kernel_rfl : f11 p0 p1 p2 K w = evFn Try.prog Try.f11 [] [] [] (.two .nil (.two .nil (.two (.two .nil (.one (.loop [(7, (.int .i64)), (8, (.int .i64))] .nil))) .nil))) [(.slice p0.a p0.len p0.cap), (.int .i64 p1), (.int .i64 p2)] [(.one (.int .i64))] K w) h)

/-- sallyport/sallyportlaw14.right -/
def f12 (p0_0 : Int) (p0_1 : Int) (p0_2 : Int) (K : Bool → World → Prop) (w : World) : Prop :=
  semS Try.prog (Instr.box 25 (.agg #[(.int .i64 p0_0), (.int .i64 p0_1), (.int .i64 p0_2)])) (.one .adr) (fun x1 w =>
  semS Try.prog (Instr.loadAt 3 (.pointer (some (x1.add 0)))) (.one (.int .i64)) (fun x2 w =>
  joinS (σ := Bool) (fun b3 w =>
    joinS (σ := Bool) (fun b5 w =>
      joinS (σ := Bool) (fun b7 w =>
        joinS (σ := Bool) (fun b9 w =>
          joinS (σ := Bool) (fun b11 w =>
            K b11 w) fun J12 =>
          cond b9
            (semS Try.prog (Instr.loadAt 3 (.pointer (some (x1.add 2)))) (.one (.int .i64)) (fun x13 w =>
              J12 (decide (x13 ≤ 65536)) w) w)
            (J12 false w)) fun J10 =>
        cond b7
          (semS Try.prog (Instr.loadAt 3 (.pointer (some (x1.add 2)))) (.one (.int .i64)) (fun x14 w =>
            J10 (decide (x14 ≥ 1)) w) w)
          (J10 false w)) fun J8 =>
      cond b5
        (semS Try.prog (Instr.loadAt 3 (.pointer (some (x1.add 1)))) (.one (.int .i64)) (fun x15 w =>
          J8 ((Int.tmod x15 64) == 0) w) w)
        (J8 false w)) fun J6 =>
    cond b3
      (semS Try.prog (Instr.loadAt 3 (.pointer (some (x1.add 1)))) (.one (.int .i64)) (fun x16 w =>
        J6 (decide (x16 ≤ 1099511627776)) w) w)
      (J6 false w)) fun J4 =>
  cond (decide (x2 ≥ 0))
    (semS Try.prog (Instr.loadAt 3 (.pointer (some (x1.add 1)))) (.one (.int .i64)) (fun x17 w =>
      semS Try.prog (Instr.loadAt 3 (.pointer (some (x1.add 0)))) (.one (.int .i64)) (fun x18 w =>
      J4 (decide (x17 ≥ x18)) w) w) w)
    (J4 false w)) w) w
theorem f12_ok {p0_0 : Int} {p0_1 : Int} {p0_2 : Int} {K : Bool → World → Prop} {w : World} (h : f12 p0_0 p0_1 p0_2 K w) : callS Try.prog 12 #[(.agg #[(.int .i64 p0_0), (.int .i64 p0_1), (.int .i64 p0_2)])] [(.one .bool)] K w :=
  calls_of_fn (args := [(.agg #[(.int .i64 p0_0), (.int .i64 p0_1), (.int .i64 p0_2)])]) Try.f12 [] [] [] .nil (by kernel_rfl) (by kernel_rfl)
    (Eq.mp (by kernel_rfl : f12 p0_0 p0_1 p0_2 K w = evFn Try.prog Try.f12 [] [] [] .nil [(.agg #[(.int .i64 p0_0), (.int .i64 p0_1), (.int .i64 p0_2)])] [(.one .bool)] K w) h)

/-- sallyport/sallyportref12.Number -/
def f28 (p0 : Int) (p1 : Int) (K : Sl → World → Prop) (w : World) : Prop :=
  semS Try.prog (Instr.makeSlice 22 (.int .i64 p1) (.int .i64 p1)) (.one .slc) (fun x1 w =>
  loopS (σ := Int × Int) (fun s2 w again3 =>
    cond (decide (s2.2 ≥ 0))
      (semS Try.prog (Instr.indexAt 22 (.slice x1.a x1.len x1.cap) (.int .i64 s2.2)) (.one .adr) (fun x4 w =>
      semU Try.prog (Instr.storeAt 5 (.pointer (some x4)) (.int .u8 (IntKind.wrap .u8 (Int.tmod s2.1 256)))) (fun w =>
      again3 (IntKind.wrap .i64 (Int.tdiv s2.1 256), IntKind.wrap .i64 (s2.2 - 1)) w) w) w)
      (K x1 w)) (p0, IntKind.wrap .i64 (p1 - 1)) w) w
theorem f28_ok {p0 : Int} {p1 : Int} {K : Sl → World → Prop} {w : World} (h : f28 p0 p1 K w) : callS Try.prog 28 #[(.int .i64 p0), (.int .i64 p1)] [(.one .slc)] K w :=
  calls_of_fn (args := [(.int .i64 p0), (.int .i64 p1)]) Try.f28 [] [] [] (.two .nil (.two .nil (.two (.two .nil (.one (.loop [(0, (.int .i64)), (6, (.int .i64))] .nil))) .nil))) (by kernel_rfl) (by kernel_rfl)
    (Eq.mp (by kernel_rfl : f28 p0 p1 K w = evFn Try.prog Try.f28 [] [] [] (.two .nil (.two .nil (.two (.two .nil (.one (.loop [(0, (.int .i64)), (6, (.int .i64))] .nil))) .nil))) [(.int .i64 p0), (.int .i64 p1)] [(.one .slc)] K w) h)

/-- sallyport/sallyportlaw14.bytes -/
def f13 (p0_0 : Int) (p0_1 : Int) (p0_2 : Int) (K : Sl → World → Prop) (w : World) : Prop :=
  semS Try.prog (Instr.box 25 (.agg #[(.int .i64 p0_0), (.int .i64 p0_1), (.int .i64 p0_2)])) (.one .adr) (fun x1 w =>
  semS Try.prog (Instr.buildSlice 22 8 #[(0, (.int .u8 65)), (1, (.int .u8 86)), (2, (.int .u8 66)), (3, (.int .u8 102)), (4, (.int .u8 0)), (5, (.int .u8 0)), (6, (.int .u8 0)), (7, (.int .u8 1))]) (.one .slc) (fun x2 w =>
  semS Try.prog (convert 22 22 (.slice x2.a x2.len x2.cap)) (.one .slc) (fun x3 w =>
  semS Try.prog (Instr.loadAt 3 (.pointer (some (x1.add 0)))) (.one (.int .i64)) (fun x4 w =>
  semS Try.prog (Instr.loadAt 3 (.pointer (some (x1.add 1)))) (.one (.int .i64)) (fun x5 w =>
  semS Try.prog (Instr.loadAt 3 (.pointer (some (x1.add 2)))) (.one (.int .i64)) (fun x6 w =>
  loopS (σ := Sl × Int) (fun s7 w again8 =>
    cond (decide (s7.2 < 3))
      (semS Try.prog (Instr.index 58 (.agg #[(.int .i64 x4), (.int .i64 x5), (.int .i64 x6)]) (.int .i64 s7.2)) (.one (.int .i64)) (fun x9 w =>
      callS Try.prog 28 #[(.int .i64 x9), (.int .i64 8)] [(.one .slc)] (fun r10 w =>
      semS Try.prog (Builtin.append_ #[22, 22] 22 #[(.slice s7.1.a s7.1.len s7.1.cap), (.slice r10.a r10.len r10.cap)]) (.one .slc) (fun r11 w =>
      again8 (r11, IntKind.wrap .i64 (s7.2 + 1)) w) w) w) w)
      (semS Try.prog (Builtin.append_ #[22, 3] 22 #[(.slice s7.1.a s7.1.len s7.1.cap), (.int .i64 32)]) (.one .slc) (fun r12 w =>
      K r12 w) w)) (x3, 0) w) w) w) w) w) w) w
theorem f13_ok {p0_0 : Int} {p0_1 : Int} {p0_2 : Int} {K : Sl → World → Prop} {w : World} (h : f13 p0_0 p0_1 p0_2 K w) : callS Try.prog 13 #[(.agg #[(.int .i64 p0_0), (.int .i64 p0_1), (.int .i64 p0_2)])] [(.one .slc)] K w :=
  calls_of_fn (args := [(.agg #[(.int .i64 p0_0), (.int .i64 p0_1), (.int .i64 p0_2)])]) Try.f13 [] [] [] (.two .nil (.two .nil (.two (.two .nil (.one (.loop [(3, .slc), (15, (.int .i64))] .nil))) .nil))) (by kernel_rfl) (by kernel_rfl)
    (Eq.mp (by kernel_rfl : f13 p0_0 p0_1 p0_2 K w = evFn Try.prog Try.f13 [] [] [] (.two .nil (.two .nil (.two (.two .nil (.one (.loop [(3, .slc), (15, (.int .i64))] .nil))) .nil))) [(.agg #[(.int .i64 p0_0), (.int .i64 p0_1), (.int .i64 p0_2)])] [(.one .slc)] K w) h)

/-- sallyport/sallyportlaw14.TailParses -/
def f3 (p0 : Sl) (K : Bool → World → Prop) (w : World) : Prop :=
  callS Try.prog 9 #[] [(.one .bool)] (fun r1 w =>
  cond (!r1)
    (K false w)
    (cond (decide ((p0.len : Int) > 300))
      (K true w)
      (callS Try.prog 10 #[(.slice p0.a p0.len p0.cap)] [(.agg [(.int .i64), (.int .i64), (.int .i64)]), (.one (.int .i64))] (fun r2 r3 r4 r5 w =>
      semS Try.prog (Instr.alloc 25 true (.tuple #[])) (.one .adr) (fun x6 w =>
      semU Try.prog (Instr.storeAt 25 (.pointer (some x6)) (.agg #[(.int .i64 r2), (.int .i64 r3), (.int .i64 r4)])) (fun w =>
      joinS (σ := Int) (fun x7 w =>
        joinS (σ := Bool) (fun b9 w =>
          K b9 w) fun J10 =>
        cond (r5 == x7)
          (joinS (σ := Bool) (fun b11 w =>
              J10 b11 w) fun J12 =>
            cond (r5 == 0)
              (J12 true w)
              (semS Try.prog (Instr.loadAt 25 (.pointer (some x6))) (.agg [(.int .i64), (.int .i64), (.int .i64)]) (fun x13 x14 x15 w =>
                semS Try.prog (binS .eql 25 (.tmp 59) (.tmp 60) (.agg #[(.int .i64 x13), (.int .i64 x14), (.int .i64 x15)]) (.agg #[(.int .i64 0), (.int .i64 0), (.int .i64 0)])) (.one .bool) (fun x16 w =>
                J12 x16 w) w) w))
          (J10 false w)) fun J8 =>
      cond ((p0.len : Int) != 64)
        (J8 10 w)
        (semS Try.prog (Instr.sliceAt 22 (.slice p0.a p0.len p0.cap) none (some (.int .i64 4)) none) (.one .slc) (fun x17 w =>
        semS Try.prog (convert 22 9 (.slice x17.a x17.len x17.cap)) (.one .str) (fun x18 w =>
        cond (!(x18.toList == (ByteArray.mk #[65, 86, 66, 102]).toList))
          (J8 30 w)
          (semS Try.prog (Instr.sliceAt 22 (.slice p0.a p0.len p0.cap) (some (.int .i64 4)) (some (.int .i64 8)) none) (.one .slc) (fun x19 w =>
          semS Try.prog (convert 22 9 (.slice x19.a x19.len x19.cap)) (.one .str) (fun x20 w =>
          cond (!(x20.toList == (ByteArray.mk #[0, 0, 0, 1]).toList))
            (J8 31 w)
            (callS Try.prog 11 #[(.slice p0.a p0.len p0.cap), (.int .i64 8), (.int .i64 8)] [(.one (.int .i64))] (fun r21 w =>
            callS Try.prog 11 #[(.slice p0.a p0.len p0.cap), (.int .i64 16), (.int .i64 8)] [(.one (.int .i64))] (fun r22 w =>
            callS Try.prog 11 #[(.slice p0.a p0.len p0.cap), (.int .i64 24), (.int .i64 8)] [(.one (.int .i64))] (fun r23 w =>
            semS Try.prog (Instr.alloc 25 true (.tuple #[])) (.one .adr) (fun x24 w =>
            semU Try.prog (Instr.storeAt 25 (.pointer (some x24)) (.agg #[(.int .i64 r21), (.int .i64 r22), (.int .i64 r23)])) (fun w =>
            joinS (σ := Bool) (fun x25 w =>
              cond x25
                (J8 12 w)
                (semS Try.prog (Instr.loadAt 25 (.pointer (some x6))) (.agg [(.int .i64), (.int .i64), (.int .i64)]) (fun x27 x28 x29 w =>
                semS Try.prog (Instr.loadAt 25 (.pointer (some x24))) (.agg [(.int .i64), (.int .i64), (.int .i64)]) (fun x30 x31 x32 w =>
                semS Try.prog (binS .neq 25 (.tmp 35) (.tmp 36) (.agg #[(.int .i64 x27), (.int .i64 x28), (.int .i64 x29)]) (.agg #[(.int .i64 x30), (.int .i64 x31), (.int .i64 x32)])) (.one .bool) (fun x33 w =>
                cond x33
                  (K false w)
                  (J8 0 w)) w) w) w)) fun J26 =>
            drawS w fun C w =>
            semQ Try.prog C (Instr.loadAt 25 (.pointer (some x24))) (.agg [(.int .i64), (.int .i64), (.int .i64)]) (fun x34 x35 x36 =>
            callS Try.prog 12 #[(.agg #[(.int .i64 x34), (.int .i64 x35), (.int .i64 x36)])] [(.one .bool)] (fun r37 w =>
            moreS C w (fun C =>
            cond (!r37)
              (J26 true w)
              (semQ Try.prog C (Instr.loadAt 25 (.pointer (some x24))) (.agg [(.int .i64), (.int .i64), (.int .i64)]) (fun x38 x39 x40 =>
              semQ Try.prog C (convert 22 9 (.slice p0.a p0.len p0.cap)) (.one .str) (fun x41 =>
              callS Try.prog 13 #[(.agg #[(.int .i64 x38), (.int .i64 x39), (.int .i64 x40)])] [(.one .slc)] (fun r42 w =>
              moreS C w (fun C =>
              semQ Try.prog C (convert 22 9 (.slice r42.a r42.len r42.cap)) (.one .str) (fun x43 =>
              J26 (!(x43.toList == x41.toList)) w))) w))))) w)) w) w) w) w) w)) w) w)) w) w)) w) w) w))) w
theorem f3_ok {p0 : Sl} {K : Bool → World → Prop} {w : World} (h : f3 p0 K w) : callS Try.prog 3 #[(.slice p0.a p0.len p0.cap)] [(.one .bool)] K w :=
  calls_of_fn (args := [(.slice p0.a p0.len p0.cap)]) Try.f3 [] [] [] (.two .nil (.two .nil (.two .nil (.two .nil (.two .nil (.join [(5, (.int .i64))] (.one (.two .nil (.two .nil (.two .nil (.two .nil (.two .nil (.two .nil (.two .nil (.join [(34, .bool)] (.draw [0, 1, 3, 7, 15, 31, 63, 15, 143, 511, 1023]) .nil))))))))) .nil)))))) (by kernel_rfl) (by kernel_rfl)
    (Eq.mp (by kernel_rfl : f3 p0 K w = evFn Try.prog Try.f3 [] [] [] (.two .nil (.two .nil (.two .nil (.two .nil (.two .nil (.join [(5, (.int .i64))] (.one (.two .nil (.two .nil (.two .nil (.two .nil (.two .nil (.two .nil (.two .nil (.join [(34, .bool)] (.draw [0, 1, 3, 7, 15, 31, 63, 15, 143, 511, 1023]) .nil))))))))) .nil)))))) [(.slice p0.a p0.len p0.cap)] [(.one .bool)] K w) h)

/-- sallyport/sallyportlaw14.TailStores -/
def f4 (p0 : Int) (p1 : Sl) (p2 : Int) (p3 : Sl) (K : Bool → World → Prop) (w : World) : Prop :=
  callS Try.prog 9 #[] [(.one .bool)] (fun r1 w =>
  cond (!r1)
    (K false w)
    (cond (((decide (p0 > 2000)) || (decide ((p1.len : Int) > 2000))) || (decide ((p3.len : Int) > 3000)))
      (K true w)
      (callS Try.prog 14 #[(.int .i64 p0)] [(.one .ptr)] (fun r2 w =>
      semS Try.prog (binS .eql 33 (.tmp 34) (.const (Go.Value.pointer none)) (.pointer r2) (.pointer none)) (.one .bool) (fun x3 w =>
      cond x3
        (K true w)
        (semS Try.prog (Instr.sliceAt 22 (.slice p1.a p1.len p1.cap) none (some (.int .i64 (if p0 < (p1.len : Int) then p0 else (p1.len : Int)))) none) (.one .slc) (fun x4 w =>
        callS Try.prog 15 #[(.pointer r2), (.string (ByteArray.mk #[112])), (.int .i64 0), (.slice x4.a x4.len x4.cap)] [(.one (.int .i64))] (fun r5 w =>
        callS Try.prog 16 #[(.pointer r2), (.string (ByteArray.mk #[112])), (.int .i64 0), (.int .i64 p0)] [(.one .slc), (.one (.int .i64))] (fun r6 r7 w =>
        callS Try.prog 17 #[(.pointer r2), (.string (ByteArray.mk #[112])), (.int .i64 p2), (.slice p3.a p3.len p3.cap)] [(.one (.int .i64))] (fun r8 w =>
        callS Try.prog 16 #[(.pointer r2), (.string (ByteArray.mk #[112])), (.int .i64 0), (.int .i64 p0)] [(.one .slc), (.one (.int .i64))] (fun r9 r10 w =>
        cond ((r10 != 0) || ((r9.len : Int) != p0))
          (K false w)
          (cond ((decide (p2 < 0)) || (decide ((p3.len : Int) < 1)))
            (joinS (σ := Bool) (fun b11 w =>
              K b11 w) fun J12 =>
            cond (r8 == 12)
              (semS Try.prog (convert 22 9 (.slice r9.a r9.len r9.cap)) (.one .str) (fun x13 w =>
                semS Try.prog (convert 22 9 (.slice r6.a r6.len r6.cap)) (.one .str) (fun x14 w =>
                J12 (x13.toList == x14.toList) w) w) w)
              (J12 false w))
            (cond ((decide (p2 > 1048576)) || (decide ((IntKind.wrap .i64 ((IntKind.wrap .i64 ((IntKind.wrap .i64 (Int.tdiv (IntKind.wrap .i64 (p2 + 63)) 64)) * 64)) + (p3.len : Int))) > (IntKind.wrap .i64 (p0 - 64)))))
              (joinS (σ := Bool) (fun b15 w =>
                K b15 w) fun J16 =>
              cond (r8 == 43)
                (semS Try.prog (convert 22 9 (.slice r9.a r9.len r9.cap)) (.one .str) (fun x17 w =>
                  semS Try.prog (convert 22 9 (.slice r6.a r6.len r6.cap)) (.one .str) (fun x18 w =>
                  J16 (x17.toList == x18.toList) w) w) w)
                (J16 false w))
              (callS Try.prog 18 #[(.pointer r2), (.string (ByteArray.mk #[112]))] [(.one .slc), (.agg [(.int .i64), (.int .i64), (.int .i64)]), (.one (.int .i64))] (fun r19 r20 r21 r22 r23 w =>
              semS Try.prog (Instr.alloc 25 true (.tuple #[])) (.one .adr) (fun x24 w =>
              semU Try.prog (Instr.storeAt 25 (.pointer (some x24)) (.agg #[(.int .i64 r20), (.int .i64 r21), (.int .i64 r22)])) (fun w =>
              drawS w fun C w =>
              cond (r8 == 0)
                (cond (r23 == 0)
                  (semQ Try.prog C (convert 22 9 (.slice r19.a r19.len r19.cap)) (.one .str) (fun x25 =>
                  semQ Try.prog C (convert 22 9 (.slice p3.a p3.len p3.cap)) (.one .str) (fun x26 =>
                  cond (x25.toList == x26.toList)
                    (semQ Try.prog C (Instr.loadAt 3 (.pointer (some (x24.add 0)))) (.one (.int .i64)) (fun x27 =>
                    cond (x27 == p2)
                      (semQ Try.prog C (Instr.sliceAt 22 (.slice r9.a r9.len r9.cap) none (some (.int .i64 p2)) none) (.one .slc) (fun x28 =>
                      semQ Try.prog C (convert 22 9 (.slice x28.a x28.len x28.cap)) (.one .str) (fun x29 =>
                      semQ Try.prog C (Instr.sliceAt 22 (.slice r6.a r6.len r6.cap) none (some (.int .i64 p2)) none) (.one .slc) (fun x30 =>
                      semQ Try.prog C (convert 22 9 (.slice x30.a x30.len x30.cap)) (.one .str) (fun x31 =>
                      K (x29.toList == x31.toList) w)))))
                      (K false w)))
                    (K false w))))
                  (K false w))
                (K false w)) w) w) w)))) w) w) w) w) w)) w) w))) w
theorem f4_ok {p0 : Int} {p1 : Sl} {p2 : Int} {p3 : Sl} {K : Bool → World → Prop} {w : World} (h : f4 p0 p1 p2 p3 K w) : callS Try.prog 4 #[(.int .i64 p0), (.slice p1.a p1.len p1.cap), (.int .i64 p2), (.slice p3.a p3.len p3.cap)] [(.one .bool)] K w :=
  calls_of_fn (args := [(.int .i64 p0), (.slice p1.a p1.len p1.cap), (.int .i64 p2), (.slice p3.a p3.len p3.cap)]) Try.f4 [] [] [] (.two .nil (.two .nil (.two .nil (.two .nil (.two .nil (.two .nil (.two .nil (.two .nil (.two .nil (.two .nil (.two .nil (.two .nil (.two .nil (.two (.draw [0, 1, 3, 7, 15, 31, 63, 127, 255, 127, 639, 2047, 4095, 8191, 16383, 32767, 16383, 131071, 262143, 524287, 1048575, 1048575, 4194303, 8388607, 1048575, 1048575, 51380223, 118489087, 268435455, 536870911, 1073741823]) .nil)))))))))))))) (by kernel_rfl) (by kernel_rfl)
    (Eq.mp (by kernel_rfl : f4 p0 p1 p2 p3 K w = evFn Try.prog Try.f4 [] [] [] (.two .nil (.two .nil (.two .nil (.two .nil (.two .nil (.two .nil (.two .nil (.two .nil (.two .nil (.two .nil (.two .nil (.two .nil (.two .nil (.two (.draw [0, 1, 3, 7, 15, 31, 63, 127, 255, 127, 639, 2047, 4095, 8191, 16383, 32767, 16383, 131071, 262143, 524287, 1048575, 1048575, 4194303, 8388607, 1048575, 1048575, 51380223, 118489087, 268435455, 536870911, 1073741823]) .nil)))))))))))))) [(.int .i64 p0), (.slice p1.a p1.len p1.cap), (.int .i64 p2), (.slice p3.a p3.len p3.cap)] [(.one .bool)] K w) h)

/-- sallyport/sallyportlaw14.TailMoves -/
def f5 (p0 : Sl) (p1 : Sl) (K : Bool → World → Prop) (w : World) : Prop :=
  callS Try.prog 9 #[] [(.one .bool)] (fun r1 w =>
  cond (!r1)
    (K false w)
    (cond (decide ((p0.len : Int) > 20))
      (K true w)
      (semS Try.prog (Instr.buildSlice 48 2 #[(0, (.agg #[(.string (ByteArray.mk #[112])), (.int .i64 1024)])), (1, (.agg #[(.string (ByteArray.mk #[113])), (.int .i64 256)]))]) (.one .slc) (fun x2 w =>
      callS Try.prog 19 #[(.slice x2.a x2.len x2.cap)] [(.one .ptr), (.one (.int .i64))] (fun r3 r4 w =>
      joinS (σ := Bool) (fun b5 w =>
        joinS (σ := Bool) (fun b7 w =>
          cond b7
            (K false w)
            (loopS (σ := Sl × Int) (fun s9 w again10 =>
              cond (decide (s9.2 < (p0.len : Int)))
                (semS Try.prog (Instr.indexAt 42 (.slice p0.a p0.len p0.cap) (.int .i64 s9.2)) (.one .adr) (fun x11 w =>
                semS Try.prog (Instr.loadAt 22 (.pointer (some x11))) (.one .slc) (fun x12 w =>
                cond (decide ((x12.len : Int) > 2000))
                  (K true w)
                  (joinS (σ := Int) (fun x13 w =>
                    joinS (σ := Sl) (fun x15 w =>
                      callS Try.prog 18 #[(.pointer r3), (.string (ByteArray.mk #[112]))] [(.one .slc), (.agg [(.int .i64), (.int .i64), (.int .i64)]), (.one (.int .i64))] (fun r17 r18 r19 r20 r21 w =>
                      semS Try.prog (Instr.alloc 25 true (.tuple #[])) (.one .adr) (fun x22 w =>
                      semU Try.prog (Instr.storeAt 25 (.pointer (some x22)) (.agg #[(.int .i64 r18), (.int .i64 r19), (.int .i64 r20)])) (fun w =>
                      semS Try.prog (binS .eql 22 (.tmp 72) (.const (Go.Value.slice none 0 0)) (.slice x15.a x15.len x15.cap) (.slice none 0 0)) (.one .bool) (fun x23 w =>
                      joinS (σ := Bool) (fun b24 w =>
                        cond b24
                          (K false w)
                          (again10 (x15, IntKind.wrap .i64 (s9.2 + 1)) w)) fun J25 =>
                      cond (x23 && (r21 == 0))
                        (J25 true w)
                        (semS Try.prog (binS .neq 22 (.tmp 79) (.const (Go.Value.slice none 0 0)) (.slice x15.a x15.len x15.cap) (.slice none 0 0)) (.one .bool) (fun x26 w =>
                          joinS (σ := Bool) (fun b27 w =>
                            J25 b27 w) fun J28 =>
                          cond x26
                            (joinS (σ := Bool) (fun b29 w =>
                                J28 b29 w) fun J30 =>
                              cond (r21 != 0)
                                (J30 true w)
                                (semS Try.prog (convert 22 9 (.slice r17.a r17.len r17.cap)) (.one .str) (fun x31 w =>
                                  semS Try.prog (convert 22 9 (.slice x15.a x15.len x15.cap)) (.one .str) (fun x32 w =>
                                  J30 (!(x31.toList == x32.toList)) w) w) w))
                            (J28 false w)) w)) w) w) w) w) fun J16 =>
                    callS Try.prog 17 #[(.pointer r3), (.string (ByteArray.mk #[112])), (.int .i64 x13), (.slice x12.a x12.len x12.cap)] [(.one (.int .i64))] (fun r33 w =>
                    cond (r33 == 0)
                      (J16 x12 w)
                      (J16 s9.1 w)) w) fun J14 =>
                  cond (decide (s9.2 < (p1.len : Int)))
                    (semS Try.prog (Instr.indexAt 43 (.slice p1.a p1.len p1.cap) (.int .i64 s9.2)) (.one .adr) (fun x34 w =>
                    semS Try.prog (Instr.loadAt 3 (.pointer (some x34))) (.one (.int .i64)) (fun x35 w =>
                    J14 x35 w) w) w)
                    (J14 0 w))) w) w)
                (callS Try.prog 18 #[(.pointer r3), (.string (ByteArray.mk #[113]))] [(.one .slc), (.agg [(.int .i64), (.int .i64), (.int .i64)]), (.one (.int .i64))] (fun r36 r37 r38 r39 r40 w =>
                semS Try.prog (Instr.alloc 25 true (.tuple #[])) (.one .adr) (fun x41 w =>
                semU Try.prog (Instr.storeAt 25 (.pointer (some x41)) (.agg #[(.int .i64 r37), (.int .i64 r38), (.int .i64 r39)])) (fun w =>
                joinS (σ := Bool) (fun b42 w =>
                  joinS (σ := Bool) (fun b44 w =>
                    K b44 w) fun J45 =>
                  cond b42
                    (semS Try.prog (Instr.loadAt 25 (.pointer (some x41))) (.agg [(.int .i64), (.int .i64), (.int .i64)]) (fun x46 x47 x48 w =>
                      semS Try.prog (binS .eql 25 (.tmp 108) (.tmp 109) (.agg #[(.int .i64 x46), (.int .i64 x47), (.int .i64 x48)]) (.agg #[(.int .i64 5), (.int .i64 64), (.int .i64 5)])) (.one .bool) (fun x49 w =>
                      J45 x49 w) w) w)
                    (J45 false w)) fun J43 =>
                cond (r40 == 0)
                  (semS Try.prog (convert 22 9 (.slice r36.a r36.len r36.cap)) (.one .str) (fun x50 w =>
                    J43 (x50.toList == (ByteArray.mk #[111, 116, 104, 101, 114]).toList) w) w)
                  (J43 false w)) w) w) w)) (⟨none, 0, 0⟩, 0) w)) fun J8 =>
        cond b5
          (J8 true w)
          (semS Try.prog (Instr.buildSlice 22 5 #[(0, (.int .u8 111)), (1, (.int .u8 116)), (2, (.int .u8 104)), (3, (.int .u8 101)), (4, (.int .u8 114))]) (.one .slc) (fun x51 w =>
            semS Try.prog (convert 22 22 (.slice x51.a x51.len x51.cap)) (.one .slc) (fun x52 w =>
            callS Try.prog 17 #[(.pointer r3), (.string (ByteArray.mk #[113])), (.int .i64 5), (.slice x52.a x52.len x52.cap)] [(.one (.int .i64))] (fun r53 w =>
            J8 (r53 != 0) w) w) w) w)) fun J6 =>
      cond (r4 != 0)
        (J6 true w)
        (semS Try.prog (binS .eql 33 (.tmp 32) (.const (Go.Value.pointer none)) (.pointer r3) (.pointer none)) (.one .bool) (fun x54 w =>
          J6 x54 w) w)) w) w))) w
theorem f5_ok {p0 : Sl} {p1 : Sl} {K : Bool → World → Prop} {w : World} (h : f5 p0 p1 K w) : callS Try.prog 5 #[(.slice p0.a p0.len p0.cap), (.slice p1.a p1.len p1.cap)] [(.one .bool)] K w :=
  calls_of_fn (args := [(.slice p0.a p0.len p0.cap), (.slice p1.a p1.len p1.cap)]) Try.f5 [] [] [] (.two .nil (.two .nil (.two .nil (.two .nil (.two .nil (.two .nil (.two (.two .nil (.one (.loop [(7, .slc), (44, (.int .i64))] (.two .nil (.two .nil (.two (.one (.two .nil (.two .nil (.two .nil (.join [(10, (.int .i64))] .nil (.join [(7, .slc)] .nil .nil)))))) .nil)))))) .nil))))))) (by kernel_rfl) (by kernel_rfl)
    (Eq.mp (by kernel_rfl : f5 p0 p1 K w = evFn Try.prog Try.f5 [] [] [] (.two .nil (.two .nil (.two .nil (.two .nil (.two .nil (.two .nil (.two (.two .nil (.one (.loop [(7, .slc), (44, (.int .i64))] (.two .nil (.two .nil (.two (.one (.two .nil (.two .nil (.two .nil (.join [(10, (.int .i64))] .nil (.join [(7, .slc)] .nil .nil)))))) .nil)))))) .nil))))))) [(.slice p0.a p0.len p0.cap), (.slice p1.a p1.len p1.cap)] [(.one .bool)] K w) h)

/-- slices.Clone[[]bool,bool] -/
def f38 (p0 : Sl) (K : Sl → World → Prop) (w : World) : Prop :=
  semS Try.prog (binS .eql 50 (.tmp 3) (.const (Go.Value.slice none 0 0)) (.slice p0.a p0.len p0.cap) (.slice none 0 0)) (.one .bool) (fun x1 w =>
  cond x1
    (K (⟨none, 0, 0⟩) w)
    (semS Try.prog (Instr.buildSlice 50 0 #[]) (.one .slc) (fun x2 w =>
    semS Try.prog (Builtin.append_ #[50, 50] 50 #[(.slice x2.a x2.len x2.cap), (.slice p0.a p0.len p0.cap)]) (.one .slc) (fun r3 w =>
    K r3 w) w) w)) w
theorem f38_ok {p0 : Sl} {K : Sl → World → Prop} {w : World} (h : f38 p0 K w) : callS Try.prog 38 #[(.slice p0.a p0.len p0.cap)] [(.one .slc)] K w :=
  calls_of_fn (args := [(.slice p0.a p0.len p0.cap)]) Try.f38 [] [] [] .nil (by kernel_rfl) (by kernel_rfl)
    (Eq.mp (by kernel_rfl : f38 p0 K w = evFn Try.prog Try.f38 [] [] [] .nil [(.slice p0.a p0.len p0.cap)] [(.one .slc)] K w) h)

/-- (*sallyport/drive.Drive).Arm -/
def f20 (p0 : Option Addr) (p1 : Int) (p2 : Sl) (K : World → Prop) (w : World) : Prop :=
  callS Try.prog 38 #[(.slice p2.a p2.len p2.cap)] [(.one .slc)] (fun r1 w =>
  nilS p0 fun a2 =>
  semU Try.prog (Instr.storeAt 3 (.pointer (some (a2.add 2))) (.int .i64 (if (-1) > p1 then -1 else p1))) (fun w =>
  nilS p0 fun a3 =>
  semU Try.prog (Instr.storeAt 50 (.pointer (some (a3.add 3))) (.slice r1.a r1.len r1.cap)) (fun w =>
  K w) w) w) w
theorem f20_ok {p0 : Option Addr} {p1 : Int} {p2 : Sl} {K : World → Prop} {w : World} (h : f20 p0 p1 p2 K w) : callS Try.prog 20 #[(.pointer p0), (.int .i64 p1), (.slice p2.a p2.len p2.cap)] [] K w :=
  calls_of_fn (args := [(.pointer p0), (.int .i64 p1), (.slice p2.a p2.len p2.cap)]) Try.f20 [] [] [] .nil (by kernel_rfl) (by kernel_rfl)
    (Eq.mp (by kernel_rfl : f20 p0 p1 p2 K w = evFn Try.prog Try.f20 [] [] [] .nil [(.pointer p0), (.int .i64 p1), (.slice p2.a p2.len p2.cap)] [] K w) h)

/-- (*sallyport/drive.Drive).Boot -/
def f21 (p0 : Option Addr) (K : World → Prop) (w : World) : Prop :=
  nilS p0 fun a1 =>
  semU Try.prog (Instr.storeAt 3 (.pointer (some (a1.add 2))) (.int .i64 (-1))) (fun w =>
  nilS p0 fun a2 =>
  semU Try.prog (Instr.storeAt 4 (.pointer (some (a2.add 4))) (.bool false)) (fun w =>
  K w) w) w
theorem f21_ok {p0 : Option Addr} {K : World → Prop} {w : World} (h : f21 p0 K w) : callS Try.prog 21 #[(.pointer p0)] [] K w :=
  calls_of_fn (args := [(.pointer p0)]) Try.f21 [] [] [] .nil (by kernel_rfl) (by kernel_rfl)
    (Eq.mp (by kernel_rfl : f21 p0 K w = evFn Try.prog Try.f21 [] [] [] .nil [(.pointer p0)] [] K w) h)

/-- sallyport/sallyportlaw14.TailTorn -/
def f6 (p0 : Sl) (p1 : Sl) (p2 : Int) (p3 : Sl) (K : Bool → World → Prop) (w : World) : Prop :=
  callS Try.prog 9 #[] [(.one .bool)] (fun r1 w =>
  cond (!r1)
    (K false w)
    (cond (((((((decide ((p0.len : Int) < 1)) || (decide ((p0.len : Int) > 300))) || (decide ((p1.len : Int) < 1))) || (decide ((p1.len : Int) > 300))) || (decide (p2 < 0))) || (decide (p2 > 1))) || (decide ((p3.len : Int) > 20)))
      (K true w)
      (callS Try.prog 14 #[(.int .i64 1024)] [(.one .ptr)] (fun r2 w =>
      semS Try.prog (binS .eql 33 (.tmp 47) (.const (Go.Value.pointer none)) (.pointer r2) (.pointer none)) (.one .bool) (fun x3 w =>
      joinS (σ := Bool) (fun b4 w =>
        cond b4
          (K false w)
          (callS Try.prog 20 #[(.pointer r2), (.int .i64 p2), (.slice p3.a p3.len p3.cap)] [] (fun w =>
          callS Try.prog 17 #[(.pointer r2), (.string (ByteArray.mk #[112])), (.int .i64 400), (.slice p1.a p1.len p1.cap)] [(.one (.int .i64))] (fun r6 w =>
          cond (r6 != 42)
            (K false w)
            (callS Try.prog 21 #[(.pointer r2)] [] (fun w =>
            callS Try.prog 18 #[(.pointer r2), (.string (ByteArray.mk #[112]))] [(.one .slc), (.agg [(.int .i64), (.int .i64), (.int .i64)]), (.one (.int .i64))] (fun r7 r8 r9 r10 r11 w =>
            semS Try.prog (Instr.alloc 25 true (.tuple #[])) (.one .adr) (fun x12 w =>
            semU Try.prog (Instr.storeAt 25 (.pointer (some x12)) (.agg #[(.int .i64 r8), (.int .i64 r9), (.int .i64 r10)])) (fun w =>
            joinS (σ := Bool) (fun b13 w =>
              cond b13
                (joinS (σ := Bool) (fun b15 w =>
                  joinS (σ := Bool) (fun b17 w =>
                    K b17 w) fun J18 =>
                  cond b15
                    (semS Try.prog (Instr.loadAt 3 (.pointer (some (x12.add 0)))) (.one (.int .i64)) (fun x19 w =>
                      J18 (x19 == 400) w) w)
                    (J18 false w)) fun J16 =>
                cond (r11 == 0)
                  (semS Try.prog (convert 22 9 (.slice r7.a r7.len r7.cap)) (.one .str) (fun x20 w =>
                    semS Try.prog (convert 22 9 (.slice p1.a p1.len p1.cap)) (.one .str) (fun x21 w =>
                    J16 (x20.toList == x21.toList) w) w) w)
                  (J16 false w))
                (joinS (σ := Bool) (fun b22 w =>
                  joinS (σ := Bool) (fun b24 w =>
                    K b24 w) fun J25 =>
                  cond b22
                    (semS Try.prog (Instr.loadAt 3 (.pointer (some (x12.add 0)))) (.one (.int .i64)) (fun x26 w =>
                      J25 (x26 == 0) w) w)
                    (J25 false w)) fun J23 =>
                cond (r11 == 0)
                  (semS Try.prog (convert 22 9 (.slice r7.a r7.len r7.cap)) (.one .str) (fun x27 w =>
                    semS Try.prog (convert 22 9 (.slice p0.a p0.len p0.cap)) (.one .str) (fun x28 w =>
                    J23 (x27.toList == x28.toList) w) w) w)
                  (J23 false w))) fun J14 =>
            cond ((p2 == 1) && (decide ((p3.len : Int) > 0)))
              (semS Try.prog (Instr.indexAt 50 (.slice p3.a p3.len p3.cap) (.int .i64 0)) (.one .adr) (fun x29 w =>
                semS Try.prog (Instr.loadAt 4 (.pointer (some x29))) (.one .bool) (fun x30 w =>
                J14 x30 w) w) w)
              (J14 false w)) w) w) w) w)) w) w)) fun J5 =>
      cond x3
        (J5 true w)
        (callS Try.prog 17 #[(.pointer r2), (.string (ByteArray.mk #[112])), (.int .i64 0), (.slice p0.a p0.len p0.cap)] [(.one (.int .i64))] (fun r31 w =>
          J5 (r31 != 0) w) w)) w) w))) w
theorem f6_ok {p0 : Sl} {p1 : Sl} {p2 : Int} {p3 : Sl} {K : Bool → World → Prop} {w : World} (h : f6 p0 p1 p2 p3 K w) : callS Try.prog 6 #[(.slice p0.a p0.len p0.cap), (.slice p1.a p1.len p1.cap), (.int .i64 p2), (.slice p3.a p3.len p3.cap)] [(.one .bool)] K w :=
  calls_of_fn (args := [(.slice p0.a p0.len p0.cap), (.slice p1.a p1.len p1.cap), (.int .i64 p2), (.slice p3.a p3.len p3.cap)]) Try.f6 [] [] [] .nil (by kernel_rfl) (by kernel_rfl)
    (Eq.mp (by kernel_rfl : f6 p0 p1 p2 p3 K w = evFn Try.prog Try.f6 [] [] [] .nil [(.slice p0.a p0.len p0.cap), (.slice p1.a p1.len p1.cap), (.int .i64 p2), (.slice p3.a p3.len p3.cap)] [(.one .bool)] K w) h)

/-- sallyport/tail.Encode -/
def f22 (p0_0 : Int) (p0_1 : Int) (p0_2 : Int) (K : Sl → Int → World → Prop) (w : World) : Prop :=
  semS Try.prog (Instr.box 25 (.agg #[(.int .i64 p0_0), (.int .i64 p0_1), (.int .i64 p0_2)])) (.one .adr) (fun x1 w =>
  semS Try.prog (Instr.loadAt 25 (.pointer (some x1))) (.agg [(.int .i64), (.int .i64), (.int .i64)]) (fun x2 x3 x4 w =>
  callS Try.prog 23 #[(.agg #[(.int .i64 x2), (.int .i64 x3), (.int .i64 x4)])] [(.one .bool)] (fun r5 w =>
  cond (!r5)
    (K (⟨none, 0, 0⟩) 12 w)
    (semS Try.prog (Instr.loadAt 25 (.pointer (some x1))) (.agg [(.int .i64), (.int .i64), (.int .i64)]) (fun x6 x7 x8 w =>
    callS Try.prog 27 #[(.agg #[(.int .i64 x6), (.int .i64 x7), (.int .i64 x8)])] [(.one .slc)] (fun r9 w =>
    K r9 0 w) w) w)) w) w) w
theorem f22_ok {p0_0 : Int} {p0_1 : Int} {p0_2 : Int} {K : Sl → Int → World → Prop} {w : World} (h : f22 p0_0 p0_1 p0_2 K w) : callS Try.prog 22 #[(.agg #[(.int .i64 p0_0), (.int .i64 p0_1), (.int .i64 p0_2)])] [(.one .slc), (.one (.int .i64))] K w :=
  calls_of_fn (args := [(.agg #[(.int .i64 p0_0), (.int .i64 p0_1), (.int .i64 p0_2)])]) Try.f22 [] [] [] .nil (by kernel_rfl) (by kernel_rfl)
    (Eq.mp (by kernel_rfl : f22 p0_0 p0_1 p0_2 K w = evFn Try.prog Try.f22 [] [] [] .nil [(.agg #[(.int .i64 p0_0), (.int .i64 p0_1), (.int .i64 p0_2)])] [(.one .slc), (.one (.int .i64))] K w) h)

/-- sallyport/sallyportlaw14.TailEncodes -/
def f7 (p0_0 : Int) (p0_1 : Int) (p0_2 : Int) (K : Bool → World → Prop) (w : World) : Prop :=
  semS Try.prog (Instr.box 25 (.agg #[(.int .i64 p0_0), (.int .i64 p0_1), (.int .i64 p0_2)])) (.one .adr) (fun x1 w =>
  callS Try.prog 9 #[] [(.one .bool)] (fun r2 w =>
  cond (!r2)
    (K false w)
    (semS Try.prog (Instr.loadAt 25 (.pointer (some x1))) (.agg [(.int .i64), (.int .i64), (.int .i64)]) (fun x3 x4 x5 w =>
    callS Try.prog 22 #[(.agg #[(.int .i64 x3), (.int .i64 x4), (.int .i64 x5)])] [(.one .slc), (.one (.int .i64))] (fun r6 r7 w =>
    drawS w fun C w =>
    semQ Try.prog C (Instr.loadAt 25 (.pointer (some x1))) (.agg [(.int .i64), (.int .i64), (.int .i64)]) (fun x8 x9 x10 =>
    semQ Try.prog C (Instr.loadAt 25 (.pointer (some x1))) (.agg [(.int .i64), (.int .i64), (.int .i64)]) (fun x11 x12 x13 =>
    callS Try.prog 23 #[(.agg #[(.int .i64 x8), (.int .i64 x9), (.int .i64 x10)])] [(.one .bool)] (fun r14 w =>
    moreS C w (fun C =>
    callS Try.prog 12 #[(.agg #[(.int .i64 x11), (.int .i64 x12), (.int .i64 x13)])] [(.one .bool)] (fun r15 w =>
    cond (!(r14 == r15))
      (K false w)
      (semS Try.prog (Instr.loadAt 25 (.pointer (some x1))) (.agg [(.int .i64), (.int .i64), (.int .i64)]) (fun x16 x17 x18 w =>
      callS Try.prog 12 #[(.agg #[(.int .i64 x16), (.int .i64 x17), (.int .i64 x18)])] [(.one .bool)] (fun r19 w =>
      cond (!r19)
        (K ((r7 == 12) && ((r6.len : Int) == 0)) w)
        (callS Try.prog 10 #[(.slice r6.a r6.len r6.cap)] [(.agg [(.int .i64), (.int .i64), (.int .i64)]), (.one (.int .i64))] (fun r20 r21 r22 r23 w =>
        semS Try.prog (Instr.alloc 25 true (.tuple #[])) (.one .adr) (fun x24 w =>
        semU Try.prog (Instr.storeAt 25 (.pointer (some x24)) (.agg #[(.int .i64 r20), (.int .i64 r21), (.int .i64 r22)])) (fun w =>
        drawS w fun C w =>
        cond (r7 == 0)
          (semQ Try.prog C (convert 22 9 (.slice r6.a r6.len r6.cap)) (.one .str) (fun x25 =>
          semQ Try.prog C (Instr.loadAt 25 (.pointer (some x1))) (.agg [(.int .i64), (.int .i64), (.int .i64)]) (fun x26 x27 x28 =>
          callS Try.prog 13 #[(.agg #[(.int .i64 x26), (.int .i64 x27), (.int .i64 x28)])] [(.one .slc)] (fun r29 w =>
          moreS C w (fun C =>
          semQ Try.prog C (convert 22 9 (.slice r29.a r29.len r29.cap)) (.one .str) (fun x30 =>
          cond (x25.toList == x30.toList)
            (cond (r23 == 0)
              (semQ Try.prog C (Instr.loadAt 25 (.pointer (some x24))) (.agg [(.int .i64), (.int .i64), (.int .i64)]) (fun x31 x32 x33 =>
              semQ Try.prog C (Instr.loadAt 25 (.pointer (some x1))) (.agg [(.int .i64), (.int .i64), (.int .i64)]) (fun x34 x35 x36 =>
              semQ Try.prog C (binS .eql 25 (.tmp 49) (.tmp 50) (.agg #[(.int .i64 x31), (.int .i64 x32), (.int .i64 x33)]) (.agg #[(.int .i64 x34), (.int .i64 x35), (.int .i64 x36)])) (.one .bool) (fun x37 =>
              K x37 w))))
              (K false w))
            (K false w)))) w)))
          (K false w)) w) w) w)) w) w)) w)) w))) w) w)) w) w
theorem f7_ok {p0_0 : Int} {p0_1 : Int} {p0_2 : Int} {K : Bool → World → Prop} {w : World} (h : f7 p0_0 p0_1 p0_2 K w) : callS Try.prog 7 #[(.agg #[(.int .i64 p0_0), (.int .i64 p0_1), (.int .i64 p0_2)])] [(.one .bool)] K w :=
  calls_of_fn (args := [(.agg #[(.int .i64 p0_0), (.int .i64 p0_1), (.int .i64 p0_2)])]) Try.f7 [] [] [] (.two .nil (.two .nil (.two .nil (.two (.two (.draw [0, 1, 0, 7, 15]) .nil) (.two .nil (.two .nil (.two (.draw [0, 1, 3, 7, 15, 7, 39, 103, 255, 511, 1023, 2047, 4095, 8191, 16383, 32767, 32767, 131071, 262143, 524287]) .nil))))))) (by kernel_rfl) (by kernel_rfl)
    (Eq.mp (by kernel_rfl : f7 p0_0 p0_1 p0_2 K w = evFn Try.prog Try.f7 [] [] [] (.two .nil (.two .nil (.two .nil (.two (.two (.draw [0, 1, 0, 7, 15]) .nil) (.two .nil (.two .nil (.two (.draw [0, 1, 3, 7, 15, 7, 39, 103, 255, 511, 1023, 2047, 4095, 8191, 16383, 32767, 32767, 131071, 262143, 524287]) .nil))))))) [(.agg #[(.int .i64 p0_0), (.int .i64 p0_1), (.int .i64 p0_2)])] [(.one .bool)] K w) h)

/-- (*sallyport/drive.Drive).Bad -/
def f24 (p0 : Option Addr) (p1 : ByteArray) (p2 : Int) (p3 : Bool) (K : Bool → World → Prop) (w : World) : Prop :=
  nilS p0 fun a1 =>
  semS Try.prog (Instr.loadAt 65 (.pointer (some (a1.add 1)))) (.one .mp) (fun x2 w =>
  semS Try.prog (Instr.lookup 65 (.map x2) (.string p1) false) (.one .ptr) (fun x3 w =>
  semS Try.prog (binS .eql 62 (.tmp 16) (.const (Go.Value.pointer none)) (.pointer x3) (.pointer none)) (.one .bool) (fun x4 w =>
  joinS (σ := Bool) (fun b5 w =>
    cond b5
      (K false w)
      (nilS x3 fun a7 =>
      semS Try.prog (Instr.loadAt 68 (.pointer (some (a7.add 1)))) (.one .mp) (fun x8 w =>
      semU Try.prog (Instr.mapUpdate 68 (.map x8) (.int .i64 p2) (.bool true)) (fun w =>
      cond (!p3)
        (nilS x3 fun a9 =>
        semS Try.prog (Instr.loadAt 68 (.pointer (some (a9.add 1)))) (.one .mp) (fun x10 w =>
        semS Try.prog (Builtin.delete_ #[68, 3] 0 #[(.map x10), (.int .i64 p2)]) (.tup []) (fun w =>
        K true w) w) w)
        (K true w)) w) w)) fun J6 =>
  cond (x4 || (decide (p2 < 0)))
    (J6 true w)
    (nilS x3 fun a11 =>
      semS Try.prog (Instr.loadAt 22 (.pointer (some (a11.add 0)))) (.one .slc) (fun x12 w =>
      J6 (decide (p2 ≥ (IntKind.wrap .i64 (Int.tdiv (x12.len : Int) 64)))) w) w)) w) w) w
theorem f24_ok {p0 : Option Addr} {p1 : ByteArray} {p2 : Int} {p3 : Bool} {K : Bool → World → Prop} {w : World} (h : f24 p0 p1 p2 p3 K w) : callS Try.prog 24 #[(.pointer p0), (.string p1), (.int .i64 p2), (.bool p3)] [(.one .bool)] K w :=
  calls_of_fn (args := [(.pointer p0), (.string p1), (.int .i64 p2), (.bool p3)]) Try.f24 [] [] [] .nil (by kernel_rfl) (by kernel_rfl)
    (Eq.mp (by kernel_rfl : f24 p0 p1 p2 p3 K w = evFn Try.prog Try.f24 [] [] [] .nil [(.pointer p0), (.string p1), (.int .i64 p2), (.bool p3)] [(.one .bool)] K w) h)

/-- sallyport/sallyportlaw14.TailLoads -/
def f8 (p0 : Int) (p1 : Sl) (p2 : Sl) (p3 : Int) (K : Bool → World → Prop) (w : World) : Prop :=
  callS Try.prog 9 #[] [(.one .bool)] (fun r1 w =>
  cond (!r1)
    (K false w)
    (cond (((decide (p0 > 2000)) || (decide ((p1.len : Int) > 2000))) || (decide ((p2.len : Int) > 64)))
      (K true w)
      (callS Try.prog 14 #[(.int .i64 p0)] [(.one .ptr)] (fun r2 w =>
      semS Try.prog (binS .eql 33 (.tmp 37) (.const (Go.Value.pointer none)) (.pointer r2) (.pointer none)) (.one .bool) (fun x3 w =>
      cond x3
        (K true w)
        (semS Try.prog (Instr.sliceAt 22 (.slice p1.a p1.len p1.cap) none (some (.int .i64 (if p0 < (p1.len : Int) then p0 else (p1.len : Int)))) none) (.one .slc) (fun x4 w =>
        callS Try.prog 15 #[(.pointer r2), (.string (ByteArray.mk #[112])), (.int .i64 0), (.slice x4.a x4.len x4.cap)] [(.one (.int .i64))] (fun r5 w =>
        callS Try.prog 15 #[(.pointer r2), (.string (ByteArray.mk #[112])), (.int .i64 (IntKind.wrap .i64 (p0 - 64))), (.slice p2.a p2.len p2.cap)] [(.one (.int .i64))] (fun r6 w =>
        callS Try.prog 16 #[(.pointer r2), (.string (ByteArray.mk #[112])), (.int .i64 0), (.int .i64 p0)] [(.one .slc), (.one (.int .i64))] (fun r7 r8 w =>
        callS Try.prog 24 #[(.pointer r2), (.string (ByteArray.mk #[112])), (.int .i64 p3), (.bool true)] [(.one .bool)] (fun r9 w =>
        callS Try.prog 18 #[(.pointer r2), (.string (ByteArray.mk #[112]))] [(.one .slc), (.agg [(.int .i64), (.int .i64), (.int .i64)]), (.one (.int .i64))] (fun r10 r11 r12 r13 r14 w =>
        semS Try.prog (Instr.alloc 25 true (.tuple #[])) (.one .adr) (fun x15 w =>
        semU Try.prog (Instr.storeAt 25 (.pointer (some x15)) (.agg #[(.int .i64 r11), (.int .i64 r12), (.int .i64 r13)])) (fun w =>
        semS Try.prog (Instr.sliceAt 22 (.slice r7.a r7.len r7.cap) (some (.int .i64 (IntKind.wrap .i64 (p0 - 64)))) none none) (.one .slc) (fun x16 w =>
        callS Try.prog 10 #[(.slice x16.a x16.len x16.cap)] [(.agg [(.int .i64), (.int .i64), (.int .i64)]), (.one (.int .i64))] (fun r17 r18 r19 r20 w =>
        semS Try.prog (Instr.alloc 25 true (.tuple #[])) (.one .adr) (fun x21 w =>
        semU Try.prog (Instr.storeAt 25 (.pointer (some x21)) (.agg #[(.int .i64 r17), (.int .i64 r18), (.int .i64 r19)])) (fun w =>
        joinS (σ := Int) (fun x22 w =>
          cond (r14 != x22)
            (K false w)
            (cond (x22 != 0)
              (joinS (σ := Bool) (fun b24 w =>
                K b24 w) fun J25 =>
              cond ((r10.len : Int) == 0)
                (semS Try.prog (Instr.loadAt 25 (.pointer (some x15))) (.agg [(.int .i64), (.int .i64), (.int .i64)]) (fun x26 x27 x28 w =>
                  semS Try.prog (binS .eql 25 (.tmp 127) (.tmp 128) (.agg #[(.int .i64 x26), (.int .i64 x27), (.int .i64 x28)]) (.agg #[(.int .i64 0), (.int .i64 0), (.int .i64 0)])) (.one .bool) (fun x29 w =>
                  J25 x29 w) w) w)
                (J25 false w))
              (callS Try.prog 18 #[(.pointer r2), (.string (ByteArray.mk #[113]))] [(.one .slc), (.agg [(.int .i64), (.int .i64), (.int .i64)]), (.one (.int .i64))] (fun r30 r31 r32 r33 r34 w =>
              semS Try.prog (Instr.alloc 25 true (.tuple #[])) (.one .adr) (fun x35 w =>
              semU Try.prog (Instr.storeAt 25 (.pointer (some x35)) (.agg #[(.int .i64 r31), (.int .i64 r32), (.int .i64 r33)])) (fun w =>
              drawS w fun C w =>
              semQ Try.prog C (Instr.loadAt 25 (.pointer (some x15))) (.agg [(.int .i64), (.int .i64), (.int .i64)]) (fun x36 x37 x38 =>
              semQ Try.prog C (Instr.loadAt 25 (.pointer (some x21))) (.agg [(.int .i64), (.int .i64), (.int .i64)]) (fun x39 x40 x41 =>
              semQ Try.prog C (binS .eql 25 (.tmp 137) (.tmp 138) (.agg #[(.int .i64 x36), (.int .i64 x37), (.int .i64 x38)]) (.agg #[(.int .i64 x39), (.int .i64 x40), (.int .i64 x41)])) (.one .bool) (fun x42 =>
              cond x42
                (semQ Try.prog C (convert 22 9 (.slice r10.a r10.len r10.cap)) (.one .str) (fun x43 =>
                semQ Try.prog C (Instr.loadAt 3 (.pointer (some (x21.add 1)))) (.one (.int .i64)) (fun x44 =>
                semQ Try.prog C (Instr.loadAt 3 (.pointer (some (x21.add 1)))) (.one (.int .i64)) (fun x45 =>
                semQ Try.prog C (Instr.loadAt 3 (.pointer (some (x21.add 2)))) (.one (.int .i64)) (fun x46 =>
                semQ Try.prog C (Instr.sliceAt 22 (.slice r7.a r7.len r7.cap) (some (.int .i64 x44)) (some (.int .i64 (IntKind.wrap .i64 (x45 + x46)))) none) (.one .slc) (fun x47 =>
                semQ Try.prog C (convert 22 9 (.slice x47.a x47.len x47.cap)) (.one .str) (fun x48 =>
                cond (x43.toList == x48.toList)
                  (K (r34 == 40) w)
                  (K false w))))))))
                (K false w))))) w) w) w))) fun J23 =>
        cond (p3 == (IntKind.wrap .i64 ((IntKind.wrap .i64 (Int.tdiv p0 64)) - 1)))
          (J23 41 w)
          (cond (r20 != 0)
            (J23 r20 w)
            (semS Try.prog (Instr.loadAt 3 (.pointer (some (x21.add 2)))) (.one (.int .i64)) (fun x50 w =>
            joinS (σ := Bool) (fun b51 w =>
              cond b51
                (J23 13 w)
                (semS Try.prog (Instr.loadAt 3 (.pointer (some (x21.add 1)))) (.one (.int .i64)) (fun x53 w =>
                joinS (σ := Bool) (fun b54 w =>
                  cond b54
                    (J23 41 w)
                    (J23 0 w)) fun J55 =>
                cond (decide (p3 ≥ (IntKind.wrap .i64 (Int.tdiv x53 64))))
                  (semS Try.prog (Instr.loadAt 3 (.pointer (some (x21.add 1)))) (.one (.int .i64)) (fun x56 w =>
                    semS Try.prog (Instr.loadAt 3 (.pointer (some (x21.add 2)))) (.one (.int .i64)) (fun x57 w =>
                    J55 (decide (p3 ≤ (IntKind.wrap .i64 (Int.tdiv (IntKind.wrap .i64 ((IntKind.wrap .i64 (x56 + x57)) - 1)) 64)))) w) w) w)
                  (J55 false w)) w)) fun J52 =>
            cond (decide (x50 > (IntKind.wrap .i64 (p0 - 64))))
              (J52 true w)
              (semS Try.prog (Instr.loadAt 3 (.pointer (some (x21.add 1)))) (.one (.int .i64)) (fun x58 w =>
                semS Try.prog (Instr.loadAt 3 (.pointer (some (x21.add 2)))) (.one (.int .i64)) (fun x59 w =>
                J52 (decide (x58 > (IntKind.wrap .i64 ((IntKind.wrap .i64 (p0 - 64)) - x59)))) w) w) w)) w))) w) w) w) w) w) w) w) w) w) w) w) w)) w) w))) w
theorem f8_ok {p0 : Int} {p1 : Sl} {p2 : Sl} {p3 : Int} {K : Bool → World → Prop} {w : World} (h : f8 p0 p1 p2 p3 K w) : callS Try.prog 8 #[(.int .i64 p0), (.slice p1.a p1.len p1.cap), (.slice p2.a p2.len p2.cap), (.int .i64 p3)] [(.one .bool)] K w :=
  calls_of_fn (args := [(.int .i64 p0), (.slice p1.a p1.len p1.cap), (.slice p2.a p2.len p2.cap), (.int .i64 p3)]) Try.f8 [] [] [] (.two .nil (.two .nil (.two .nil (.two .nil (.two .nil (.two .nil (.two .nil (.two .nil (.two .nil (.two .nil (.two .nil (.two .nil (.join [(17, (.int .i64))] .nil (.two .nil (.two .nil (.two .nil (.two (.draw [0, 0, 3, 7, 15, 31, 15, 15, 143, 15, 527, 15, 2063, 7695, 16335, 32719, 65535, 131071, 262143, 524287, 1048575, 2097151, 4194303]) .nil))))))))))))))))) (by kernel_rfl) (by kernel_rfl)
    (Eq.mp (by kernel_rfl : f8 p0 p1 p2 p3 K w = evFn Try.prog Try.f8 [] [] [] (.two .nil (.two .nil (.two .nil (.two .nil (.two .nil (.two .nil (.two .nil (.two .nil (.two .nil (.two .nil (.two .nil (.two .nil (.join [(17, (.int .i64))] .nil (.two .nil (.two .nil (.two .nil (.two (.draw [0, 0, 3, 7, 15, 31, 15, 15, 143, 15, 527, 15, 2063, 7695, 16335, 32719, 65535, 131071, 262143, 524287, 1048575, 2097151, 4194303]) .nil))))))))))))))))) [(.int .i64 p0), (.slice p1.a p1.len p1.cap), (.slice p2.a p2.len p2.cap), (.int .i64 p3)] [(.one .bool)] K w) h)

end Go.Proofs.Ytepjheacppoelaa
